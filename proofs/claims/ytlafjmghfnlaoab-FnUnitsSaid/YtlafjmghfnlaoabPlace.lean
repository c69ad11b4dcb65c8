/-
  The place of a float64 in the order: its rung with its sign. No program is named here.
-/
import Derived.Test.YtlafjmghfnlaoabNum
namespace Go.Proofs.Ytlafjmghfnlaoab
open Go

def place (a : Nat) : Int := if negB a then -(rung a : Int) else (rung a : Int)
theorem zval_place_lt {a b : Nat} : zval a < zval b ↔ place a < place b := by
  unfold zval place
  have h1 := @rungU_lt_iff (rung a) (rung b)
  have h2 := @rungU_lt_iff (rung b) (rung a)
  have h3 : 0 < rung a → 0 < rungU (rung a) := rungU_pos
  have h4 : 0 < rung b → 0 < rungU (rung b) := rungU_pos
  have h5 : rung a = 0 → rungU (rung a) = 0 := fun h => by rw [h, rungU_zero]
  have h6 : rung b = 0 → rungU (rung b) = 0 := fun h => by rw [h, rungU_zero]
  cases negB a <;> cases negB b <;> simp only [Bool.false_eq_true, if_false, if_true] <;> omega
theorem zval_place_eq {a b : Nat} : zval a = zval b ↔ place a = place b := by
  have h1 := @zval_place_lt a b
  have h2 := @zval_place_lt b a
  omega
theorem place_num {a : Nat} (h : NumB a) : -9218868437227405312 ≤ place a ∧ place a ≤ 9218868437227405312 := by
  unfold NumB at h
  unfold place
  split <;> omega
theorem place_fin {a : Nat} (h : FinB a) : -9218868437227405312 < place a ∧ place a < 9218868437227405312 := by
  unfold FinB at h
  unfold place
  split <;> omega
theorem zval_zero_iff {a : Nat} : zval a = 0 ↔ place a = 0 := by
  have h1 := @rungU_pos (rung a)
  have h2 : rung a = 0 → rungU (rung a) = 0 := fun h => by rw [h, rungU_zero]
  unfold zval place
  split <;> omega
end Go.Proofs.Ytlafjmghfnlaoab
