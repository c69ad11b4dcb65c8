/-
  Small laws for laws over slices that the call has made.
-/
import Derived.Test.YtlafjmghfnlaoaaReals
import Derived.Test.YtlafjmghfnlaoaaEnd
namespace Go.Proofs.Ytlafjmghfnlaoaa
open Go.RowKit

theorem own_grown {w w' : World} {row : Option Nat} {base n : Nat} {t : TypeId} {v : Value} {vs : List Value} (h : w.ownsRow base t 1 v n vs) (hg : w.grownBy w' row) (hr : ∀ k, row = some k → k < base) : w'.ownsRow base t 1 v n vs := by
  refine ⟨h.1, ?_⟩
  rcases h.2 with h0 | ⟨g, cap, cur, rfl, hbg, hh, r⟩
  · exact .inl h0
  · exact .inr ⟨g, cap, cur, rfl, hbg, (hg.block g (h.lt g rfl).2 (fun e => by have := hr g e.symm; omega)).trans hh, r⟩
theorem own_drewN {w : World} {base n : Nat} {t : TypeId} {v : Value} {vs : List Value} (h : w.ownsRow base t 1 v n vs) (d : Nat) : (w.drewN d).ownsRow base t 1 v n vs := h
theorem own_rd {w : World} {base n : Nat} {t : TypeId} {A : Option Addr} {c m : Nat} {vs : List Value} (h : w.ownsRow base t 1 (.slice A m c) n vs) : Rd w w.heap.size A vs := by
  obtain ⟨A', c', e, h1, _⟩ := own_slice h
  cases e
  exact h1
theorem RetFS.slice {w w' : World} {m : Nat} {G : Nat → F} {q : Int} {e : Ending} (h : RetFS w m G q e w') :
    ∃ A c xs, e = .returned (.tuple #[.slice A m c, .int .i64 q]) ∧ w'.ownsRow w.heap.size 23 1 (.slice A m c) m (fl xs) ∧ IsL xs m G ∧ Below w.heap.size w w' := by
  obtain ⟨v, xs, rfl, ho, hl, hb⟩ := h
  obtain ⟨A, c, rfl, _, _⟩ := own_slice ho
  exact ⟨A, c, xs, rfl, ho, hl, hb⟩
theorem eqL_ok (A B : Option Addr) (c d : Nat) (xs ys : List Nat) (m : Nat) (G : Nat → F) (w : World) (hx : IsL xs m G) (hy : IsL ys m G) (hm : m ≤ 1048576) (hr : Rd w w.heap.size A (fl xs)) (hs : Rd w w.heap.size B (fl ys)) :
    Calls Try.prog 19 #[.slice A m c, .slice B m d] w fun e w' => e = .returned (.bool true) ∧ ∃ n, w.drewN n = w' := by
  have h := eqFloat64S_ok A B c d xs ys w hr hs (by rw [hx.1]; exact hm) (by rw [hy.1]; exact hm)
  rw [hx.1, hy.1, hx.eqs hy] at h
  exact h
end Go.Proofs.Ytlafjmghfnlaoaa
