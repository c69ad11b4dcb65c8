/-
  What a float64 is as a whole number of least units (2^-1074); order and exact operations said by these. No program is named here.
-/
import Derived.Test.YtlafjmghfnlaoabFl
namespace Go.Proofs.Ytlafjmghfnlaoab
open Go

theorem dSign : Ieee.double.signWeight = 9223372036854775808 := by decide
theorem dBin : Ieee.double.binade = 4503599627370496 := by decide
theorem dInf : Ieee.double.infRung = 9218868437227405312 := by decide
theorem dLeast : Ieee.double.leastPlace = -1074 := by decide
theorem dFrac : Ieee.double.fractionBits = 52 := by decide

/-- a rung's magnitude, in least units -/
def rungU (r : Nat) : Nat := if r < 2 ^ 52 then r else (2 ^ 52 + r % 2 ^ 52) * 2 ^ (r / 2 ^ 52 - 1)
theorem rungU_big {r L f : Nat} (h : r = (L + 1) * 2 ^ 52 + f) (hf : f < 2 ^ 52) : rungU r = (2 ^ 52 + f) * 2 ^ L := by
  have h1 : r / 2 ^ 52 = L + 1 := by omega
  have h2 : r % 2 ^ 52 = f := by omega
  unfold rungU
  rw [if_neg (by omega), h1, h2]
  rfl
theorem rungU_split (r : Nat) : r < 2 ^ 52 ∨ ∃ L f, r = (L + 1) * 2 ^ 52 + f ∧ f < 2 ^ 52 := by
  by_cases h : r < 2 ^ 52
  · exact .inl h
  · exact .inr ⟨r / 2 ^ 52 - 1, r % 2 ^ 52, by omega, by omega⟩
theorem rungU_small {r : Nat} (h : r < 2 ^ 52) : rungU r = r := by
  unfold rungU
  rw [if_pos h]
theorem rungU_succ (r : Nat) : rungU r < rungU (r + 1) := by
  rcases rungU_split r with h | ⟨L, f, h, hf⟩
  · rw [rungU_small h]
    by_cases h2 : r + 1 < 2 ^ 52
    · rw [rungU_small h2]; omega
    · rw [rungU_big (L := 0) (f := 0) (by omega) (by omega)]
      omega
  · rw [rungU_big h hf]
    have hp : 0 < 2 ^ L := Nat.two_pow_pos _
    by_cases h2 : f + 1 < 2 ^ 52
    · rw [rungU_big (L := L) (f := f + 1) (by omega) h2]
      exact Nat.mul_lt_mul_of_pos_right (by omega) hp
    · rw [rungU_big (L := L + 1) (f := 0) (by omega) (by omega)]
      have h3 : (2 ^ 52 + f) * 2 ^ L < (2 ^ 52 + 0) * 2 * 2 ^ L := Nat.mul_lt_mul_of_pos_right (by omega) hp
      have h4 : (2 ^ 52 + 0) * 2 * 2 ^ L = (2 ^ 52 + 0) * 2 ^ (L + 1) := by rw [Nat.mul_assoc, Nat.pow_succ 2 L, Nat.mul_comm 2 (2 ^ L)]
      rw [← h4]
      exact h3
theorem rungU_lt {r s : Nat} (h : r < s) : rungU r < rungU s := by
  induction s with
  | zero => omega
  | succ s ih =>
    by_cases e : r = s
    · subst e; exact rungU_succ r
    · exact Nat.lt_trans (ih (by omega)) (rungU_succ s)
theorem rungU_inj {r s : Nat} (h : rungU r = rungU s) : r = s := by
  rcases Nat.lt_trichotomy r s with h1 | h1 | h1
  · have := rungU_lt h1; omega
  · exact h1
  · have := rungU_lt h1; omega
theorem rungU_lt_iff {r s : Nat} : rungU r < rungU s ↔ r < s := by
  constructor
  · intro h
    rcases Nat.lt_trichotomy r s with h1 | h1 | h1
    · exact h1
    · subst h1; omega
    · have := rungU_lt h1; omega
  · exact rungU_lt
theorem rungU_zero : rungU 0 = 0 := rungU_small (by omega)
theorem rungU_pos {r : Nat} (h : 0 < r) : 0 < rungU r := by
  have := rungU_lt h
  rw [rungU_zero] at this
  exact this

def rung (a : Nat) : Nat := a % 9223372036854775808
def negB (a : Nat) : Bool := decide (9223372036854775808 ≤ a)
/-- in least units; an infinity as its rung says -/
def zval (a : Nat) : Int := if negB a then -(rungU (rung a) : Int) else (rungU (rung a) : Int)
/-- a number or a zero: no infinity, no NaN -/
def FinB (a : Nat) : Prop := rung a < 9218868437227405312
/-- no NaN -/
def NumB (a : Nat) : Prop := rung a ≤ 9218868437227405312

theorem read_fin {a : Nat} (ha : Wf a) (h : FinB a) : ∃ (m L : Nat), FloatKind.f64.decode a = .number (negB a) m ((L : Int) - 1074) ∧ m * 2 ^ L = rungU (rung a) ∧ m < 2 ^ 53 := by
  have hneg : (a / 9223372036854775808 % 2 == 1) = negB a := by
    unfold Wf at ha
    unfold negB
    by_cases hc : 9223372036854775808 ≤ a
    · rw [decide_eq_true hc, beq_iff_eq]; omega
    · rw [decide_eq_false hc, beq_eq_false_iff_ne]; omega
  unfold FinB at h
  unfold FloatKind.decode FloatKind.format Ieee.Format.read
  simp only [dSign, dBin, dInf, dLeast]
  have hr : a % 9223372036854775808 = rung a := rfl
  rw [hr, hneg]
  by_cases h1 : rung a < 4503599627370496
  · rw [if_pos h1]
    exact ⟨rung a, 0, rfl, by rw [rungU_small (by omega)]; omega, by omega⟩
  · rw [if_neg h1, if_pos h]
    refine ⟨4503599627370496 + rung a % 4503599627370496, rung a / 4503599627370496 - 1, ?_, ?_, ?_⟩
    · congr 1
    · rw [rungU_big (L := rung a / 4503599627370496 - 1) (f := rung a % 4503599627370496) (by omega) (by omega)]
    · omega
theorem read_inf {a : Nat} (ha : Wf a) (h : rung a = 9218868437227405312) : FloatKind.f64.decode a = .infinity (negB a) := by
  have hneg : (a / 9223372036854775808 % 2 == 1) = negB a := by
    unfold Wf at ha
    unfold negB
    by_cases hc : 9223372036854775808 ≤ a
    · rw [decide_eq_true hc, beq_iff_eq]; omega
    · rw [decide_eq_false hc, beq_eq_false_iff_ne]; omega
  unfold FloatKind.decode FloatKind.format Ieee.Format.read
  simp only [dSign, dBin, dInf, dLeast]
  have hr : a % 9223372036854775808 = rung a := rfl
  rw [hr, hneg, h]
  rw [if_neg (by omega), if_neg (by omega), if_pos rfl]
theorem num_of_nan {a : Nat} (h : nanB .f64 a = false) : NumB a := by
  unfold NumB
  rcases Nat.lt_or_ge 9218868437227405312 (rung a) with hc | hc
  · have := read_nan64 a hc
    rw [h] at this
    cases this
  · exact hc
theorem nan_of_num {a : Nat} (ha : Wf a) (h : NumB a) : nanB .f64 a = false := by
  unfold NumB at h
  unfold nanB
  by_cases hc : rung a < 9218868437227405312
  · obtain ⟨m, L, h1, _⟩ := read_fin ha hc
    rw [h1]; rfl
  · rw [read_inf ha (by omega)]; rfl
theorem V_num {a : Nat} (ha : Wf a) (h : NumB a) : V a = some a := V_some (nan_of_num ha h)

theorem cmp_lt {x y : Int} (h : x < y) : compare x y = .lt := by
  show compareOfLessAndEq x y = .lt
  unfold compareOfLessAndEq
  rw [if_pos h]
theorem cmp_eq {x y : Int} (h : x = y) : compare x y = .eq := by
  show compareOfLessAndEq x y = .eq
  unfold compareOfLessAndEq
  rw [if_neg (by omega), if_pos h]
theorem cmp_gt {x y : Int} (h : y < x) : compare x y = .gt := by
  show compareOfLessAndEq x y = .gt
  unfold compareOfLessAndEq
  rw [if_neg (by omega), if_neg (by omega)]
theorem cmp_scale {x y : Int} {k : Int} (hk : 0 < k) : compare (x * k) (y * k) = compare x y := by
  rcases Int.lt_trichotomy x y with h | h | h
  · rw [cmp_lt h, cmp_lt (Int.mul_lt_mul_of_pos_right h hk)]
  · subst h; rw [cmp_eq rfl, cmp_eq rfl]
  · rw [cmp_gt h, cmp_gt (Int.mul_lt_mul_of_pos_right h hk)]
theorem signed_scale (s : Bool) (m i k : Nat) : Ieee.signed s m i * ((2 ^ k : Nat) : Int) = (if s then -((m * 2 ^ (i + k) : Nat) : Int) else ((m * 2 ^ (i + k) : Nat) : Int)) := by
  unfold Ieee.signed
  rw [Nat.shiftLeft_eq, Nat.pow_add, ← Nat.mul_assoc]
  cases s
  · simp
  · simp [Int.neg_mul]
theorem zval_num {a m L : Nat} (h2 : m * 2 ^ L = rungU (rung a)) : zval a = (if negB a then -((m * 2 ^ L : Nat) : Int) else ((m * 2 ^ L : Nat) : Int)) := by
  unfold zval
  rw [h2]
theorem zval_abs (a : Nat) : (zval a).natAbs = rungU (rung a) := by
  unfold zval
  split <;> omega

/-- the order of two numbers is that of what they are in least units -/
theorem order_zval {a b : Nat} (ha : Wf a) (hb : Wf b) (na : NumB a) (nb : NumB b) : FloatKind.f64.format.order a b = some (compare (zval a) (zval b)) := by
  show (FloatKind.f64.decode a).order (FloatKind.f64.decode b) = _
  have hinf : ∀ c, NumB c → rungU (rung c) ≤ rungU 9218868437227405312 := fun c hc => by
    unfold NumB at hc
    rcases Nat.lt_or_eq_of_le hc with h | h
    · exact Nat.le_of_lt (rungU_lt h)
    · rw [h]; exact Nat.le_refl _
  by_cases fa : FinB a
  · obtain ⟨m, i, hda, hma, _⟩ := read_fin ha fa
    have la := rungU_lt fa
    by_cases fb : FinB b
    · obtain ⟨n, j, hdb, hmb, _⟩ := read_fin hb fb
      rw [hda, hdb]
      unfold Ieee.Datum.order
      dsimp only
      congr 1
      obtain ⟨c, hc⟩ : ∃ c : Nat, min ((i : Int) - 1074) ((j : Int) - 1074) = (c : Int) - 1074 := ⟨min i j, by omega⟩
      have hci : c ≤ i := by omega
      have hcj : c ≤ j := by omega
      rw [hc, ← cmp_scale (k := ((2 ^ c : Nat) : Int)) (by have := Nat.two_pow_pos c; omega), signed_scale, signed_scale]
      have e1 : ((i : Int) - 1074 - ((c : Int) - 1074)).toNat + c = i := by omega
      have e2 : ((j : Int) - 1074 - ((c : Int) - 1074)).toNat + c = j := by omega
      rw [e1, e2, zval_num hma, zval_num hmb]
    · have hbi : rung b = 9218868437227405312 := by unfold NumB at nb; unfold FinB at fb; omega
      rw [hda, read_inf hb hbi]
      unfold Ieee.Datum.order zval
      rw [hbi]
      cases hn : negB b
      · simp only [Bool.false_eq_true, if_false]
        rw [cmp_lt]
        split <;> omega
      · simp only [if_true]
        rw [cmp_gt]
        split <;> omega
  · have hai : rung a = 9218868437227405312 := by unfold NumB at na; unfold FinB at fa; omega
    by_cases fb : FinB b
    · obtain ⟨n, j, hdb, hmb, _⟩ := read_fin hb fb
      have lb := rungU_lt fb
      rw [read_inf ha hai, hdb]
      unfold Ieee.Datum.order zval
      rw [hai]
      cases hn : negB a
      · simp only [Bool.false_eq_true, if_false]
        rw [cmp_gt]
        split <;> omega
      · simp only [if_true]
        rw [cmp_lt]
        split <;> omega
    · have hbi : rung b = 9218868437227405312 := by unfold NumB at nb; unfold FinB at fb; omega
      rw [read_inf ha hai, read_inf hb hbi]
      have hp : 0 < rungU 9218868437227405312 := rungU_pos (by omega)
      unfold Ieee.Datum.order zval
      rw [hai, hbi]
      cases negB a <;> cases negB b <;> simp only [Bool.false_eq_true, if_false, if_true, Bool.toNat_true, Bool.toNat_false]
      · rw [cmp_eq rfl]; rfl
      · rw [cmp_gt (by omega)]; rfl
      · rw [cmp_lt (by omega)]; rfl
      · rw [cmp_eq rfl]; rfl
theorem ford_zval {a b : Nat} (ha : Wf a) (hb : Wf b) (na : NumB a) (nb : NumB b) : ford (V a) (V b) = some (compare (zval a) (zval b)) := by
  rw [← order_V]
  exact order_zval ha hb na nb
end Go.Proofs.Ytlafjmghfnlaoab
