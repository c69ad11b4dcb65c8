/-
  The next place in the order of float64s, and how many places lie between two of them. No program is named here.
-/
import Derived.Test.YtlafjmghfnlaoabPlace
import Derived.Test.YtlafjmghfnlaoabNum4
namespace Go.Proofs.Ytlafjmghfnlaoab
open Go

/-- the bits of the next greater number (of the greatest: itself) -/
def upB (a : Nat) : Nat := if a = 9218868437227405312 then a else if rung a = 0 then 1 else if negB a then a - 1 else a + 1
theorem wf_lt {a : Nat} (h : Wf a) : a < 18446744073709551616 := h
theorem upB_place {a : Nat} (ha : Wf a) (hn : NumB a) (hi : a ≠ 9218868437227405312) : place (upB a) = place a + 1 ∧ NumB (upB a) ∧ Wf (upB a) := by
  have hw := wf_lt ha
  unfold NumB rung at hn
  unfold upB
  rw [if_neg hi]
  have key : ∀ c : Nat, c < 18446744073709551616 → c % 9223372036854775808 ≤ 9218868437227405312 → (∀ q : Int, (if 9223372036854775808 ≤ c then -((c % 9223372036854775808 : Nat) : Int) else ((c % 9223372036854775808 : Nat) : Int)) = q → place c = q ∧ NumB c ∧ Wf c) := by
    intro c hc hr q hq
    refine ⟨?_, hr, hc⟩
    rw [← hq]
    unfold place negB rung
    by_cases h : 9223372036854775808 ≤ c <;> simp [h]
  have hpa : place a = (if 9223372036854775808 ≤ a then -((a % 9223372036854775808 : Nat) : Int) else ((a % 9223372036854775808 : Nat) : Int)) := by
    unfold place negB rung
    by_cases h : 9223372036854775808 ≤ a <;> simp [h]
  by_cases h0 : rung a = 0
  · rw [if_pos h0]
    unfold rung at h0
    refine key 1 (by omega) (by omega) _ ?_
    rw [hpa, if_neg (by omega)]
    split <;> omega
  · rw [if_neg h0]
    unfold rung at h0
    by_cases hs : 9223372036854775808 ≤ a
    · rw [if_pos (by unfold negB; exact decide_eq_true hs)]
      refine key (a - 1) (by omega) (by omega) _ ?_
      rw [hpa, if_pos hs, if_pos (by omega)]
      omega
    · rw [if_neg (by unfold negB; simpa using hs)]
      refine key (a + 1) (by omega) (by omega) _ ?_
      rw [hpa, if_neg hs, if_neg (by omega)]
      omega
theorem place_neg {b : Nat} (h : Wf b) : place (Op.negFloat .f64 b) = -place b := by
  obtain ⟨_, h2, h3⟩ := neg_parts h
  unfold place
  rw [h2, h3]
  cases negB b <;> simp
theorem num_neg {b : Nat} (h : Wf b) (hn : NumB b) : NumB (Op.negFloat .f64 b) := by
  obtain ⟨_, h2, _⟩ := neg_parts h
  unfold NumB
  rw [h2]
  exact hn
/-- places between two numbers, told as the program tells them: at most 10^18 -/
def cap (z : Int) : Int := if z < 1000000000000000000 then z else 1000000000000000000
def apartZ (p q : Int) (s t : Bool) : Int := if s = t then cap (if q ≤ p then p - q else q - p) else cap (p + q)
def unitsZ (x y : Int) : Int := cap (if y ≤ x then x - y else y - x)
def absZ (x : Int) : Int := if x < 0 then -x else x
theorem apart_units (x y : Int) : apartZ (absZ x) (absZ y) (decide (x < 0)) (decide (y < 0)) = unitsZ x y := by
  unfold apartZ unitsZ absZ cap
  by_cases hx : x < 0 <;> by_cases hy : y < 0 <;> simp only [hx, hy, decide_true, decide_false, if_true, if_false, Bool.true_eq_false, Bool.false_eq_true] <;> (repeat' split) <;> omega
theorem units_symm (x y : Int) : unitsZ x y = unitsZ y x := by
  unfold unitsZ cap
  (repeat' split) <;> omega
theorem units_nonneg (x y : Int) : 0 ≤ unitsZ x y := by
  unfold unitsZ cap
  (repeat' split) <;> omega
theorem units_zero {x y : Int} : unitsZ x y = 0 ↔ x = y := by
  unfold unitsZ cap
  (repeat' split) <;> omega
theorem units_one (x : Int) : unitsZ x (x + 1) = 1 := by
  unfold unitsZ cap
  (repeat' split) <;> omega
theorem rung_abs (a : Nat) : (rung a : Int) = absZ (place a) := by
  unfold place absZ
  (repeat' split) <;> omega
theorem absB_place (a : Nat) : ((absB a : Nat) : Int) = absZ (place a) := rung_abs a
theorem ford_place {a b : Nat} (ha : Wf a) (hb : Wf b) (na : NumB a) (nb : NumB b) : ford (V a) (V b) = some (compare (place a) (place b)) := by
  rw [ford_zval ha hb na nb]
  rcases Int.lt_trichotomy (place a) (place b) with h | h | h
  · rw [cmp_lt h, cmp_lt (zval_place_lt.2 h)]
  · rw [cmp_eq h, cmp_eq (zval_place_eq.2 h)]
  · rw [cmp_gt h, cmp_gt (zval_place_lt.2 h)]
end Go.Proofs.Ytlafjmghfnlaoab
