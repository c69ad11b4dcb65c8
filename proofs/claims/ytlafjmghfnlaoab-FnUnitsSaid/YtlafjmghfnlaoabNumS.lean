/-
  What a float32 is as a whole number of least units (printed by single.py off the float64's texts). No program is named here.
-/
import Derived.Test.YtlafjmghfnlaoabPlace
import Derived.Test.YtlafjmghfnlaoabConv
namespace Go.Proofs.Ytlafjmghfnlaoab
open Go

theorem dSignS : Ieee.single.signWeight = 2147483648 := by decide
theorem dBinS : Ieee.single.binade = 8388608 := by decide
theorem dInfS : Ieee.single.infRung = 2139095040 := by decide
theorem dLeastS : Ieee.single.leastPlace = -149 := by decide
theorem dFracS : Ieee.single.fractionBits = 23 := by decide

/-- a rungS's magnitude, in least units -/
def rungUS (r : Nat) : Nat := if r < 2 ^ 23 then r else (2 ^ 23 + r % 2 ^ 23) * 2 ^ (r / 2 ^ 23 - 1)
theorem rungUS_big {r L f : Nat} (h : r = (L + 1) * 2 ^ 23 + f) (hf : f < 2 ^ 23) : rungUS r = (2 ^ 23 + f) * 2 ^ L := by
  have h1 : r / 2 ^ 23 = L + 1 := by omega
  have h2 : r % 2 ^ 23 = f := by omega
  unfold rungUS
  rw [if_neg (by omega), h1, h2]
  rfl
theorem rungUS_split (r : Nat) : r < 2 ^ 23 ∨ ∃ L f, r = (L + 1) * 2 ^ 23 + f ∧ f < 2 ^ 23 := by
  by_cases h : r < 2 ^ 23
  · exact .inl h
  · exact .inr ⟨r / 2 ^ 23 - 1, r % 2 ^ 23, by omega, by omega⟩
theorem rungUS_small {r : Nat} (h : r < 2 ^ 23) : rungUS r = r := by
  unfold rungUS
  rw [if_pos h]
theorem rungUS_succ (r : Nat) : rungUS r < rungUS (r + 1) := by
  rcases rungUS_split r with h | ⟨L, f, h, hf⟩
  · rw [rungUS_small h]
    by_cases h2 : r + 1 < 2 ^ 23
    · rw [rungUS_small h2]; omega
    · rw [rungUS_big (L := 0) (f := 0) (by omega) (by omega)]
      omega
  · rw [rungUS_big h hf]
    have hp : 0 < 2 ^ L := Nat.two_pow_pos _
    by_cases h2 : f + 1 < 2 ^ 23
    · rw [rungUS_big (L := L) (f := f + 1) (by omega) h2]
      exact Nat.mul_lt_mul_of_pos_right (by omega) hp
    · rw [rungUS_big (L := L + 1) (f := 0) (by omega) (by omega)]
      have h3 : (2 ^ 23 + f) * 2 ^ L < (2 ^ 23 + 0) * 2 * 2 ^ L := Nat.mul_lt_mul_of_pos_right (by omega) hp
      have h4 : (2 ^ 23 + 0) * 2 * 2 ^ L = (2 ^ 23 + 0) * 2 ^ (L + 1) := by rw [Nat.mul_assoc, Nat.pow_succ 2 L, Nat.mul_comm 2 (2 ^ L)]
      rw [← h4]
      exact h3
theorem rungUS_lt {r s : Nat} (h : r < s) : rungUS r < rungUS s := by
  induction s with
  | zero => omega
  | succ s ih =>
    by_cases e : r = s
    · subst e; exact rungUS_succ r
    · exact Nat.lt_trans (ih (by omega)) (rungUS_succ s)
theorem rungUS_inj {r s : Nat} (h : rungUS r = rungUS s) : r = s := by
  rcases Nat.lt_trichotomy r s with h1 | h1 | h1
  · have := rungUS_lt h1; omega
  · exact h1
  · have := rungUS_lt h1; omega
theorem rungUS_lt_iff {r s : Nat} : rungUS r < rungUS s ↔ r < s := by
  constructor
  · intro h
    rcases Nat.lt_trichotomy r s with h1 | h1 | h1
    · exact h1
    · subst h1; omega
    · have := rungUS_lt h1; omega
  · exact rungUS_lt
theorem rungUS_zero : rungUS 0 = 0 := rungUS_small (by omega)
theorem rungUS_pos {r : Nat} (h : 0 < r) : 0 < rungUS r := by
  have := rungUS_lt h
  rw [rungUS_zero] at this
  exact this

def rungS (a : Nat) : Nat := a % 2147483648
def negBS (a : Nat) : Bool := decide (2147483648 ≤ a)
/-- in least units; an infinity as its rungS says -/
def zvalS (a : Nat) : Int := if negBS a then -(rungUS (rungS a) : Int) else (rungUS (rungS a) : Int)
/-- a number or a zero: no infinity, no NaN -/
def FinBS (a : Nat) : Prop := rungS a < 2139095040
/-- no NaN -/
def NumBS (a : Nat) : Prop := rungS a ≤ 2139095040

theorem read_finS {a : Nat} (ha : Wf32 a) (h : FinBS a) : ∃ (m L : Nat), FloatKind.f32.decode a = .number (negBS a) m ((L : Int) - 149) ∧ m * 2 ^ L = rungUS (rungS a) ∧ m < 2 ^ 24 := by
  have hneg : (a / 2147483648 % 2 == 1) = negBS a := by
    unfold Wf32 at ha
    unfold negBS
    by_cases hc : 2147483648 ≤ a
    · rw [decide_eq_true hc, beq_iff_eq]; omega
    · rw [decide_eq_false hc, beq_eq_false_iff_ne]; omega
  unfold FinBS at h
  unfold FloatKind.decode FloatKind.format Ieee.Format.read
  simp only [dSignS, dBinS, dInfS, dLeastS]
  have hr : a % 2147483648 = rungS a := rfl
  rw [hr, hneg]
  by_cases h1 : rungS a < 8388608
  · rw [if_pos h1]
    exact ⟨rungS a, 0, rfl, by rw [rungUS_small (by omega)]; omega, by omega⟩
  · rw [if_neg h1, if_pos h]
    refine ⟨8388608 + rungS a % 8388608, rungS a / 8388608 - 1, ?_, ?_, ?_⟩
    · congr 1
    · rw [rungUS_big (L := rungS a / 8388608 - 1) (f := rungS a % 8388608) (by omega) (by omega)]
    · omega
theorem read_infS {a : Nat} (ha : Wf32 a) (h : rungS a = 2139095040) : FloatKind.f32.decode a = .infinity (negBS a) := by
  have hneg : (a / 2147483648 % 2 == 1) = negBS a := by
    unfold Wf32 at ha
    unfold negBS
    by_cases hc : 2147483648 ≤ a
    · rw [decide_eq_true hc, beq_iff_eq]; omega
    · rw [decide_eq_false hc, beq_eq_false_iff_ne]; omega
  unfold FloatKind.decode FloatKind.format Ieee.Format.read
  simp only [dSignS, dBinS, dInfS, dLeastS]
  have hr : a % 2147483648 = rungS a := rfl
  rw [hr, hneg, h]
  rw [if_neg (by omega), if_neg (by omega), if_pos rfl]
theorem num_of_nanS {a : Nat} (h : nanB .f32 a = false) : NumBS a := by
  unfold NumBS
  rcases Nat.lt_or_ge 2139095040 (rungS a) with hc | hc
  · have := read_nan32 a hc
    rw [h] at this
    cases this
  · exact hc
theorem nan_of_numS {a : Nat} (ha : Wf32 a) (h : NumBS a) : nanB .f32 a = false := by
  unfold NumBS at h
  unfold nanB
  by_cases hc : rungS a < 2139095040
  · obtain ⟨m, L, h1, _⟩ := read_finS ha hc
    rw [h1]; rfl
  · rw [read_infS ha (by omega)]; rfl
theorem V_numS {a : Nat} (ha : Wf32 a) (h : NumBS a) : V32 a = some a := V32_some (nan_of_numS ha h)

theorem zval_numS {a m L : Nat} (h2 : m * 2 ^ L = rungUS (rungS a)) : zvalS a = (if negBS a then -((m * 2 ^ L : Nat) : Int) else ((m * 2 ^ L : Nat) : Int)) := by
  unfold zvalS
  rw [h2]
theorem zval_absS (a : Nat) : (zvalS a).natAbs = rungUS (rungS a) := by
  unfold zvalS
  split <;> omega

/-- the order of two numbers is that of what they are in least units -/
theorem order_zvalS {a b : Nat} (ha : Wf32 a) (hb : Wf32 b) (na : NumBS a) (nb : NumBS b) : FloatKind.f32.format.order a b = some (compare (zvalS a) (zvalS b)) := by
  show (FloatKind.f32.decode a).order (FloatKind.f32.decode b) = _
  have hinf : ∀ c, NumBS c → rungUS (rungS c) ≤ rungUS 2139095040 := fun c hc => by
    unfold NumBS at hc
    rcases Nat.lt_or_eq_of_le hc with h | h
    · exact Nat.le_of_lt (rungUS_lt h)
    · rw [h]; exact Nat.le_refl _
  by_cases fa : FinBS a
  · obtain ⟨m, i, hda, hma, _⟩ := read_finS ha fa
    have la := rungUS_lt fa
    by_cases fb : FinBS b
    · obtain ⟨n, j, hdb, hmb, _⟩ := read_finS hb fb
      rw [hda, hdb]
      unfold Ieee.Datum.order
      dsimp only
      congr 1
      obtain ⟨c, hc⟩ : ∃ c : Nat, min ((i : Int) - 149) ((j : Int) - 149) = (c : Int) - 149 := ⟨min i j, by omega⟩
      have hci : c ≤ i := by omega
      have hcj : c ≤ j := by omega
      rw [hc, ← cmp_scale (k := ((2 ^ c : Nat) : Int)) (by have := Nat.two_pow_pos c; omega), signed_scale, signed_scale]
      have e1 : ((i : Int) - 149 - ((c : Int) - 149)).toNat + c = i := by omega
      have e2 : ((j : Int) - 149 - ((c : Int) - 149)).toNat + c = j := by omega
      rw [e1, e2, zval_numS hma, zval_numS hmb]
    · have hbi : rungS b = 2139095040 := by unfold NumBS at nb; unfold FinBS at fb; omega
      rw [hda, read_infS hb hbi]
      unfold Ieee.Datum.order zvalS
      rw [hbi]
      cases hn : negBS b
      · simp only [Bool.false_eq_true, if_false]
        rw [cmp_lt]
        split <;> omega
      · simp only [if_true]
        rw [cmp_gt]
        split <;> omega
  · have hai : rungS a = 2139095040 := by unfold NumBS at na; unfold FinBS at fa; omega
    by_cases fb : FinBS b
    · obtain ⟨n, j, hdb, hmb, _⟩ := read_finS hb fb
      have lb := rungUS_lt fb
      rw [read_infS ha hai, hdb]
      unfold Ieee.Datum.order zvalS
      rw [hai]
      cases hn : negBS a
      · simp only [Bool.false_eq_true, if_false]
        rw [cmp_gt]
        split <;> omega
      · simp only [if_true]
        rw [cmp_lt]
        split <;> omega
    · have hbi : rungS b = 2139095040 := by unfold NumBS at nb; unfold FinBS at fb; omega
      rw [read_infS ha hai, read_infS hb hbi]
      have hp : 0 < rungUS 2139095040 := rungUS_pos (by omega)
      unfold Ieee.Datum.order zvalS
      rw [hai, hbi]
      cases negBS a <;> cases negBS b <;> simp only [Bool.false_eq_true, if_false, if_true, Bool.toNat_true, Bool.toNat_false]
      · rw [cmp_eq rfl]; rfl
      · rw [cmp_gt (by omega)]; rfl
      · rw [cmp_lt (by omega)]; rfl
      · rw [cmp_eq rfl]; rfl
theorem ford_zvalS {a b : Nat} (ha : Wf32 a) (hb : Wf32 b) (na : NumBS a) (nb : NumBS b) : fordk .f32 (V32 a) (V32 b) = some (compare (zvalS a) (zvalS b)) := by
  rw [show fordk .f32 (V32 a) (V32 b) = FloatKind.f32.format.order a b from (fordk_V .f32 a b).symm]
  exact order_zvalS ha hb na nb
def placeS (a : Nat) : Int := if negBS a then -(rungS a : Int) else (rungS a : Int)
theorem zval_place_ltS {a b : Nat} : zvalS a < zvalS b ↔ placeS a < placeS b := by
  unfold zvalS placeS
  have h1 := @rungUS_lt_iff (rungS a) (rungS b)
  have h2 := @rungUS_lt_iff (rungS b) (rungS a)
  have h3 : 0 < rungS a → 0 < rungUS (rungS a) := rungUS_pos
  have h4 : 0 < rungS b → 0 < rungUS (rungS b) := rungUS_pos
  have h5 : rungS a = 0 → rungUS (rungS a) = 0 := fun h => by rw [h, rungUS_zero]
  have h6 : rungS b = 0 → rungUS (rungS b) = 0 := fun h => by rw [h, rungUS_zero]
  cases negBS a <;> cases negBS b <;> simp only [Bool.false_eq_true, if_false, if_true] <;> omega
theorem zval_place_eqS {a b : Nat} : zvalS a = zvalS b ↔ placeS a = placeS b := by
  have h1 := @zval_place_ltS a b
  have h2 := @zval_place_ltS b a
  omega
theorem place_numS {a : Nat} (h : NumBS a) : -2139095040 ≤ placeS a ∧ placeS a ≤ 2139095040 := by
  unfold NumBS at h
  unfold placeS
  split <;> omega
theorem place_finS {a : Nat} (h : FinBS a) : -2139095040 < placeS a ∧ placeS a < 2139095040 := by
  unfold FinBS at h
  unfold placeS
  split <;> omega
theorem zval_zero_iffS {a : Nat} : zvalS a = 0 ↔ placeS a = 0 := by
  have h1 := @rungUS_pos (rungS a)
  have h2 : rungS a = 0 → rungUS (rungS a) = 0 := fun h => by rw [h, rungUS_zero]
  unfold zvalS placeS
  split <;> omega
end Go.Proofs.Ytlafjmghfnlaoab
