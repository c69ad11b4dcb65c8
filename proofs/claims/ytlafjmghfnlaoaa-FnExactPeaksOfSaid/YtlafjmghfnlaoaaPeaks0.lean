/-
  Peaks of a list of reals.
-/
import Derived.Test.YtlafjmghfnlaoaaPeak
import Derived.Test.YtlafjmghfnlaoaaTail
import Derived.Test.YtlafjmghfnlaoaaApp
namespace Go.Proofs.Ytlafjmghfnlaoaa
open Go.RowKit

def isPeak (rs : List Nat) (f : Nat) (k : Nat) : Bool := gtF (V (nth rs k)) (V (pkL rs k)) && (gtF (V (nth rs k)) (V (pkR rs k)) && geF (V (nth rs k)) (V f))
def peaks (rs : List Nat) (f : Nat) : Nat → List Int
  | 0 => []
  | k + 1 => if isPeak rs f k then peaks rs f k ++ [(k : Int)] else peaks rs f k
theorem peaks_true {rs : List Nat} {f k : Nat} (h : isPeak rs f k = true) : peaks rs f (k + 1) = peaks rs f k ++ [(k : Int)] := by simp [peaks, h]
theorem peaks_false {rs : List Nat} {f k : Nat} (h : isPeak rs f k = false) : peaks rs f (k + 1) = peaks rs f k := by simp [peaks, h]
theorem peaks_le (rs : List Nat) (f k : Nat) : (peaks rs f k).length ≤ k := by
  induction k with
  | zero => simp [peaks]
  | succ k ih =>
    cases h : isPeak rs f k with
    | true => rw [peaks_true h, List.length_append, List.length_singleton]; omega
    | false => rw [peaks_false h]; omega
def RetIS (w : World) (n : Nat) (zs : List Int) (q : Int) (e : Ending) (w' : World) : Prop :=
  ∃ v, e = .returned (.tuple #[v, .int .i64 q]) ∧ w'.ownsRow w.heap.size 2 1 v n (ints zs) ∧ zs.length = n ∧ Below w.heap.size w w'
def pkZs (rs : List Nat) (f : Nat) (q : Int) : List Int := if q = 0 then peaks rs f rs.length else []
theorem pkZs_zero (rs : List Nat) (f : Nat) : pkZs rs f 0 = peaks rs f rs.length := rfl
theorem pkZs_ne (rs : List Nat) (f : Nat) {q : Int} (h : ¬ q = 0) : pkZs rs f q = [] := if_neg h
theorem own_empty' (w : World) (t : TypeId) : (w.alloc (.cells #[] t)).ownsRow w.heap.size t 1 (.slice (some ⟨w.heap.size, 0, none⟩) 0 0) 0 [] := own_of_bk (Bk.new w t #[]) rfl (Nat.le_refl _) (by omega)
theorem i64infoP : (Try.prog.info? 2).map (fun i => (i.zero, i.size, i.bytes)) = some (some (.int .i64 0), 1, 8) := by kernel_rfl
theorem ringCode_ok {n : Nat} (h : ringCode n = 0) : ¬ 256 < n ∧ ¬ n < 3 := by
  unfold ringCode at h
  split at h
  · omega
  · split at h <;> omega

end Go.Proofs.Ytlafjmghfnlaoaa
