/-
  Guarded operations in regions that draw their order. No program is named here.
-/
import Derived.Test.YtlafjmghfnlaoacNd
import Derived.Test.YtlafjmghfnlaoacFl
namespace Go.Proofs.Ytlafjmghfnlaoac
open Go Go.RowKit
section
variable {P : Program} {ops : Array Oper} {C : World → Prop} {S : FuncId → Array Value → Value → Prop} {Q : Act → Prop} {a : Act} {o : Oper} {rest : List Oper}
theorem yielded_of {g : Nat} {d : Tmp} {c : Bool} (hd : ((ops[g]?).bind (·.dst)) = some d) (hv : a.tmps[d]? = some (.bool c)) : yielded ops a.tmps g = some c := by
  unfold yielded
  rw [hd]
  simp only [Option.bind_some, hv]
theorem wpND_gfalse {g : Nat} {b : Bool} {d : Tmp} {c : Bool} (hg : o.guard = some (g, b)) (hd : ((ops[g]?).bind (·.dst)) = some d) (hv : a.tmps[d]? = some (.bool c)) (hne : c = !b) (h : wpND P ops C S Q rest (a.put o.dst undef)) : wpND P ops C S Q (o :: rest) a := by
  unfold wpND
  have hy := yielded_of hd hv
  have hw : Region.wanted o (yielded ops a.tmps) = false := by
    unfold Region.wanted
    rw [hg]
    simp only [hy, hne]
    cases b <;> rfl
  rw [hw]
  exact h
theorem wpND_gtrue {g : Nat} {b : Bool} {d : Tmp} (hg : o.guard = some (g, b)) (hd : ((ops[g]?).bind (·.dst)) = some d) (hv : a.tmps[d]? = some (.bool b)) (h : ∀ K : Act → Prop, Hid (∀ a, wpND P ops C S Q rest a → K a) → nd P C S o a K) : wpND P ops C S Q (o :: rest) a := by
  unfold wpND
  have hy := yielded_of hd hv
  have hw : Region.wanted o (yielded ops a.tmps) = true := by
    unfold Region.wanted
    rw [hg]
    simp only [hy]
    cases b <;> rfl
  rw [hw]
  exact h _ (hid (fun _ h => h))
theorem wpND_gnone (hg : o.guard = none) (h : ∀ K : Act → Prop, Hid (∀ a, wpND P ops C S Q rest a → K a) → nd P C S o a K) : wpND P ops C S Q (o :: rest) a := by
  unfold wpND
  have hw : Region.wanted o (yielded ops a.tmps) = true := by simp [Region.wanted, hg]
  rw [hw]
  exact h _ (hid (fun _ h => h))
end
end Go.Proofs.Ytlafjmghfnlaoac
