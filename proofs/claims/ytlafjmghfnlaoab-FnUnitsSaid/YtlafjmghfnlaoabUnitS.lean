/-
  The next place in the order of float32s (printed by single2.py off the float64's texts). No program is named here.
-/
import Derived.Test.YtlafjmghfnlaoabUnit
import Derived.Test.YtlafjmghfnlaoabNumS
namespace Go.Proofs.Ytlafjmghfnlaoab
open Go

theorem xor_topS {b : Nat} (h : b < 4294967296) : b ^^^ 2 ^ 31 = if decide (2147483648 ≤ b) = true then b - 2147483648 else b + 2147483648 := by
  have hd : (b ^^^ 2 ^ 31) / 2 ^ 31 = b / 2 ^ 31 ^^^ 2 ^ 31 / 2 ^ 31 := Nat.xor_div_two_pow
  have hm : (b ^^^ 2 ^ 31) % 2 ^ 31 = b % 2 ^ 31 ^^^ 2 ^ 31 % 2 ^ 31 := Nat.xor_mod_two_pow
  rw [Nat.mod_self, Nat.xor_zero] at hm
  rw [Nat.div_self (Nat.two_pow_pos 63)] at hd
  generalize b ^^^ 2 ^ 31 = r at *
  by_cases hc : 2147483648 ≤ b
  · rw [decide_eq_true hc, if_pos rfl]
    have h1 : b / 2 ^ 31 = 1 := by omega
    rw [h1, Nat.xor_self] at hd
    omega
  · rw [decide_eq_false hc, if_neg (by decide)]
    have h1 : b / 2 ^ 31 = 0 := by omega
    rw [h1, Nat.zero_xor] at hd
    omega
theorem neg_partsS {b : Nat} (h : Wf32 b) : Wf32 (Op.negFloat .f32 b) ∧ rungS (Op.negFloat .f32 b) = rungS b ∧ negBS (Op.negFloat .f32 b) = !negBS b := by
  have e : Op.negFloat .f32 b = if negBS b then b - 2147483648 else b + 2147483648 := by
    unfold Wf32 at h
    show b ^^^ 2 ^ 31 = _
    unfold negBS
    exact xor_topS h
  rw [e]
  unfold Wf32 rungS negBS at *
  by_cases hc : 2147483648 ≤ b
  · rw [decide_eq_true hc]
    simp only [if_true, Bool.not_true]
    exact ⟨by omega, by omega, decide_eq_false (by omega)⟩
  · rw [decide_eq_false hc]
    simp only [Bool.false_eq_true, if_false, Bool.not_false]
    exact ⟨by omega, by omega, decide_eq_true (by omega)⟩
/-- the bits of the next greater number (of the greatest: itself) -/
def upBS (a : Nat) : Nat := if a = 2139095040 then a else if rungS a = 0 then 1 else if negBS a then a - 1 else a + 1
theorem wf_ltS {a : Nat} (h : Wf32 a) : a < 4294967296 := h
theorem upB_placeS {a : Nat} (ha : Wf32 a) (hn : NumBS a) (hi : a ≠ 2139095040) : placeS (upBS a) = placeS a + 1 ∧ NumBS (upBS a) ∧ Wf32 (upBS a) := by
  have hw := wf_ltS ha
  unfold NumBS rungS at hn
  unfold upBS
  rw [if_neg hi]
  have key : ∀ c : Nat, c < 4294967296 → c % 2147483648 ≤ 2139095040 → (∀ q : Int, (if 2147483648 ≤ c then -((c % 2147483648 : Nat) : Int) else ((c % 2147483648 : Nat) : Int)) = q → placeS c = q ∧ NumBS c ∧ Wf32 c) := by
    intro c hc hr q hq
    refine ⟨?_, hr, hc⟩
    rw [← hq]
    unfold placeS negBS rungS
    by_cases h : 2147483648 ≤ c <;> simp [h]
  have hpa : placeS a = (if 2147483648 ≤ a then -((a % 2147483648 : Nat) : Int) else ((a % 2147483648 : Nat) : Int)) := by
    unfold placeS negBS rungS
    by_cases h : 2147483648 ≤ a <;> simp [h]
  by_cases h0 : rungS a = 0
  · rw [if_pos h0]
    unfold rungS at h0
    refine key 1 (by omega) (by omega) _ ?_
    rw [hpa, if_neg (by omega)]
    split <;> omega
  · rw [if_neg h0]
    unfold rungS at h0
    by_cases hs : 2147483648 ≤ a
    · rw [if_pos (by unfold negBS; exact decide_eq_true hs)]
      refine key (a - 1) (by omega) (by omega) _ ?_
      rw [hpa, if_pos hs, if_pos (by omega)]
      omega
    · rw [if_neg (by unfold negBS; simpa using hs)]
      refine key (a + 1) (by omega) (by omega) _ ?_
      rw [hpa, if_neg hs, if_neg (by omega)]
      omega
theorem place_negS {b : Nat} (h : Wf32 b) : placeS (Op.negFloat .f32 b) = -placeS b := by
  obtain ⟨_, h2, h3⟩ := neg_partsS h
  unfold placeS
  rw [h2, h3]
  cases negBS b <;> simp
theorem num_negS {b : Nat} (h : Wf32 b) (hn : NumBS b) : NumBS (Op.negFloat .f32 b) := by
  obtain ⟨_, h2, _⟩ := neg_partsS h
  unfold NumBS
  rw [h2]
  exact hn
theorem rung_absS (a : Nat) : (rungS a : Int) = absZ (placeS a) := by
  unfold placeS absZ
  (repeat' split) <;> omega
theorem ford_placeS {a b : Nat} (ha : Wf32 a) (hb : Wf32 b) (na : NumBS a) (nb : NumBS b) : fordk .f32 (V32 a) (V32 b) = some (compare (placeS a) (placeS b)) := by
  rw [ford_zvalS ha hb na nb]
  rcases Int.lt_trichotomy (placeS a) (placeS b) with h | h | h
  · rw [cmp_lt h, cmp_lt (zval_place_ltS.2 h)]
  · rw [cmp_eq h, cmp_eq (zval_place_eqS.2 h)]
  · rw [cmp_gt h, cmp_gt (zval_place_ltS.2 h)]
end Go.Proofs.Ytlafjmghfnlaoab
