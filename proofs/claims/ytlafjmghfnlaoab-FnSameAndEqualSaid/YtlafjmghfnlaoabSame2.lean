/-
  Contracts: the same real numbers. 
-/
import Derived.Test.YtlafjmghfnlaoabSame
namespace Go.Proofs.Ytlafjmghfnlaoab
open Go.RowKit

theorem signbit_is (a : Nat) (s : Bool) (w : World) (h : signB a = s) : Calls Try.prog 194 #[.float .f64 a] w fun e w' => e = .returned (.bool s) ∧ w = w' := h ▸ signbit_ok a w
set_option maxRecDepth 20000 in
set_option maxHeartbeats 4000000 in
theorem sameReal_is (a b : Nat) (s t p q r : Bool) (w : World) (hs : ∀ w, Calls Try.prog 194 #[.float .f64 a] w fun e w' => e = .returned (.bool s) ∧ w = w') (ht : ∀ w, Calls Try.prog 194 #[.float .f64 b] w fun e w' => e = .returned (.bool t) ∧ w = w')
    (hp : (ford (V a) (V b) == some .eq) = p) (hq : (ford (V a) (V a) == some .eq) = q) (hr : (ford (V b) (V b) == some .eq) = r) :
    Calls Try.prog 107 #[.float .f64 a, .float .f64 b] w fun e w' => e = .returned (.bool ((p && (s == t)) || (!q && !r))) ∧ w = w' := by
  have HS := hid hs
  have HT := hid ht
  clear hs ht
  have hq' : (ford (V a) (V a) != some .eq) = !q := by rw [bne, hq]
  have hr' : (ford (V b) (V b) != some .eq) = !r := by rw [bne, hr]
  cases s <;> cases t <;> cases p <;> cases q <;> cases r
  all_goals
    go_enter Try.func107, Try.ntmps107
    go_wp2_with (go_at_call 194; first | (refine (HS.out _).mono ?_; rintro e w2 ⟨rfl, rfl⟩) | (refine (HT.out _).mono ?_; rintro e w2 ⟨rfl, rfl⟩))
    go_ret
    exact ⟨rfl, rfl⟩
end Go.Proofs.Ytlafjmghfnlaoab
