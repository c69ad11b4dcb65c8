/-
  Floats that are n * 2 ^ e least units with a small n: sums, differences, products, whole numbers, quotients by powers of two, negation, order. No program is named here.
-/
import Derived.Test.YtlafjmghfnlaoabNum3
namespace Go.Proofs.Ytlafjmghfnlaoab
open Go

/-- a is n * 2 ^ e least units (1 is 2 ^ 1074 of them) -/
def At (e : Nat) (a : Nat) (n : Int) : Prop := Is a (n * ((2 ^ e : Nat) : Int))
theorem pow_fits (d e : Nat) (h : e = 6 + d) : 2 ^ 53 * 2 ^ d ≤ (2 ^ 52 + 0) * 2 ^ e := by
  subst h
  rw [Nat.pow_add 2 6 d, ← Nat.mul_assoc]
  exact Nat.mul_le_mul_right _ (by decide)
theorem rep_at {n : Int} {e : Nat} (hn : n.natAbs < 2 ^ 53) (he : e ≤ 2040) : Rep (n * ((2 ^ e : Nat) : Int)) := by
  refine ⟨n.natAbs, e, by rw [Int.natAbs_mul, Int.natAbs_natCast], hn, ?_⟩
  rw [rungU_big (r := 9218868437227405312) (L := 2046) (f := 0) (by omega) (by omega)]
  have h1 : n.natAbs * 2 ^ e < 2 ^ 53 * 2 ^ e := Nat.mul_lt_mul_of_pos_right hn (Nat.two_pow_pos e)
  refine Nat.lt_of_lt_of_le h1 (Nat.le_trans (Nat.mul_le_mul_left _ (Nat.pow_le_pow_right (by decide) he)) (pow_fits 2040 2046 rfl))
theorem At.wf {e a : Nat} {n : Int} (h : At e a n) : Wf a := h.1
theorem At.V {e a : Nat} {n : Int} (h : At e a n) : V a = some a := Is.V h
theorem At.add {e a b : Nat} {x y : Int} (ha : At e a x) (hb : At e b y) (hn : (x + y).natAbs < 2 ^ 53) (he : e ≤ 2040) : ∃ c, fop .add (Go.Proofs.Ytlafjmghfnlaoab.V a) (Go.Proofs.Ytlafjmghfnlaoab.V b) = some c ∧ At e c (x + y) := by
  have := fadd_exact ha hb (by rw [← Int.add_mul]; exact rep_at hn he)
  rw [← Int.add_mul] at this
  exact this
theorem At.sub {e a b : Nat} {x y : Int} (ha : At e a x) (hb : At e b y) (hn : (x - y).natAbs < 2 ^ 53) (he : e ≤ 2040) : ∃ c, fop .sub (Go.Proofs.Ytlafjmghfnlaoab.V a) (Go.Proofs.Ytlafjmghfnlaoab.V b) = some c ∧ At e c (x - y) := by
  have := fsub_exact ha hb (by rw [← Int.sub_mul]; exact rep_at hn he)
  rw [← Int.sub_mul] at this
  exact this
theorem At.mul {e f a b : Nat} {x y : Int} (ha : At e a x) (hb : At f b y) (hn : (x * y).natAbs < 2 ^ 53) (hef : 1074 ≤ e + f) (he : e + f ≤ 3000) : ∃ c, fop .mul (Go.Proofs.Ytlafjmghfnlaoab.V a) (Go.Proofs.Ytlafjmghfnlaoab.V b) = some c ∧ At (e + f - 1074) c (x * y) := by
  refine fmul_exact ha hb (rep_at hn (by omega)) ?_
  obtain ⟨g, hg⟩ : ∃ g, e + f = g + 1074 := ⟨e + f - 1074, by omega⟩
  have h0 : ∀ d : Nat, e + f = g + d → ((2 ^ e : Nat) : Int) * ((2 ^ f : Nat) : Int) = ((2 ^ g : Nat) : Int) * ((2 ^ d : Nat) : Int) := fun d h => by
    rw [← Int.natCast_mul, ← Int.natCast_mul, ← Nat.pow_add, ← Nat.pow_add, h]
  have h1 := h0 1074 hg
  rw [hg, Nat.add_sub_cancel]
  generalize ((2 ^ e : Nat) : Int) = E at *
  generalize ((2 ^ f : Nat) : Int) = Fd at *
  generalize ((2 ^ g : Nat) : Int) = G at *
  generalize ((2 ^ 1074 : Nat) : Int) = H at *
  have : x * E * (y * Fd) = x * y * (E * Fd) := by simp only [Int.mul_assoc, Int.mul_left_comm]
  rw [this, h1, ← Int.mul_assoc]
theorem pow_pos_int (d : Nat) : (0 : Int) < ((2 ^ d : Nat) : Int) := by have := Nat.two_pow_pos d; omega
theorem At.ofInt' (n : Int) (hn : n.natAbs < 2 ^ 53) (e : Nat) (he : e = 1074) : At e (floatOfInt .f64 n) n := by
  refine write_exact _ _ _ e _ (rep_at hn (by omega)) (by omega) (by omega) ?_ ?_
  · rw [Int.natAbs_mul, Int.natAbs_natCast, show ((0 : Int) + (e : Int)).toNat = e by omega, show e - 1074 = 0 by omega, Nat.pow_zero, Nat.mul_one]
  · right
    have hp := pow_pos_int e
    generalize ((2 ^ e : Nat) : Int) = H at *
    rw [decide_eq_decide]
    constructor
    · intro h; exact Int.mul_neg_of_neg_of_pos h hp
    · intro h
      rcases Int.lt_or_le n 0 with h1 | h1
      · exact h1
      · have := Int.mul_nonneg h1 (Int.le_of_lt hp); omega
theorem At.ofInt (n : Int) (hn : n.natAbs < 2 ^ 53) : At 1074 (floatOfInt .f64 n) n := At.ofInt' n hn 1074 rfl
theorem At.more {e a : Nat} {n : Int} (k : Nat) (h : At (e + k) a n) : At e a (n * ((2 ^ k : Nat) : Int)) := by
  unfold At at h ⊢
  rw [Int.mul_assoc, ← Int.natCast_mul, ← Nat.pow_add, Nat.add_comm k e]
  exact h
theorem At.ford {e a b : Nat} {x y : Int} (ha : At e a x) (hb : At e b y) : ford (Go.Proofs.Ytlafjmghfnlaoab.V a) (Go.Proofs.Ytlafjmghfnlaoab.V b) = some (compare x y) := by
  rw [Is.ford ha hb, cmp_scale (by have := Nat.two_pow_pos e; omega)]
theorem At.zero (e : Nat) : At e 0 0 := by
  refine ⟨Wf0, by unfold FinB rung; omega, ?_⟩
  rw [Int.zero_mul]
  rfl
/-- what 2 ^ g is -/
theorem pow2_parts {b : Nat} {g : Nat} (h : At g b 1) (hb : rung b % 4503599627370496 = 0) (hbig : 4503599627370496 ≤ rung b) : ∃ J : Nat, FloatKind.f64.decode b = .number false (2 ^ 52) ((J : Int) - 1074) ∧ J + 52 = g := by
  obtain ⟨m, L, h1, h2, h3⟩ := read_fin h.1 h.2
  have hv := zval_num h2
  rw [h.val, Int.one_mul] at hv
  have hneg : negB b = false := by
    cases hn : negB b
    · rfl
    · rw [hn] at hv
      simp only [if_true] at hv
      have := Nat.two_pow_pos g
      omega
  rw [hneg] at hv h1
  simp only [Bool.false_eq_true, if_false] at hv
  have hv' : 2 ^ g = m * 2 ^ L := by omega
  have hru := rungU_big (r := rung b) (L := rung b / 4503599627370496 - 1) (f := 0) (by omega) (by omega)
  rw [← h2, ← hv'] at hru
  have hg : g = 52 + (rung b / 4503599627370496 - 1) := by
    rw [Nat.add_zero, ← Nat.pow_add] at hru
    exact Nat.pow_right_inj (by omega) |>.1 hru
  refine ⟨rung b / 4503599627370496 - 1, ?_, by omega⟩
  unfold FloatKind.decode FloatKind.format Ieee.Format.read at h1 ⊢
  simp only [dSign, dBin, dInf, dLeast] at h1 ⊢
  have hr : b % 9223372036854775808 = rung b := rfl
  have hfin := h.fin
  unfold FinB at hfin
  rw [hr, if_neg (by omega), if_pos hfin] at h1 ⊢
  injection h1 with i1 i2 i3
  rw [i1, hb]
  congr 1
theorem At.quo {e g a b : Nat} {x : Int} (ha : At (e + g) a x) (hb : At (1074 + g) b 1) (hb1 : rung b % 4503599627370496 = 0) (hb2 : 4503599627370496 ≤ rung b) (hn : x.natAbs < 2 ^ 53) (he : e ≤ 2040) : ∃ c, fop .quo (Go.Proofs.Ytlafjmghfnlaoab.V a) (Go.Proofs.Ytlafjmghfnlaoab.V b) = some c ∧ At e c x := by
  obtain ⟨J, d2, hJ⟩ := pow2_parts hb hb1 hb2
  obtain ⟨m, I, d1, hx, hm⟩ := Is.parts ha
  obtain ⟨more, hmore, hm52⟩ : ∃ more, 52 + 2 + (2 ^ 52).log2 - m.log2 = more ∧ 54 ≤ more := by
    refine ⟨_, rfl, ?_⟩
    have h52 : (2 ^ 52 : Nat).log2 = 52 := Nat.log2_two_pow
    rw [h52]
    rcases Nat.eq_zero_or_pos m with h | h
    · subst h; simp
    · have := (Nat.log2_lt (by omega)).2 hm
      omega
  have hdiv : m <<< more / 2 ^ 52 = m * 2 ^ (more - 52) := by
    rw [Nat.shiftLeft_eq, show more = more - 52 + 52 by omega, Nat.pow_add, ← Nat.mul_assoc, Nat.add_sub_cancel]
    exact Nat.mul_div_cancel _ (Nat.two_pow_pos 52)
  have hmod : m <<< more % 2 ^ 52 = 0 := by
    rw [Nat.shiftLeft_eq, show more = more - 52 + 52 by omega, Nat.pow_add, ← Nat.mul_assoc]
    exact Nat.mul_mod_left _ _
  refine ⟨Ieee.double.write (.number (negB a ^^ false) (2 * (m * 2 ^ (more - 52)) + 0) ((I : Int) - 1074 - ((J : Int) - 1074) - more - 1)), ?_, ?_⟩
  · show fopk .f64 .quo (Vk .f64 a) (Vk .f64 b) = _
    rw [fopk_V]
    show ((FloatKind.f64.decode a).quotient (52 + 2) (FloatKind.f64.decode b)).map Ieee.double.write = _
    rw [d1, d2]
    unfold Ieee.Datum.quotient
    dsimp only
    rw [if_neg (by have := Nat.two_pow_pos 52; omega), hmore, hdiv, hmod]
    rfl
  · refine write_exact _ _ _ (J + more + 2000) _ (rep_at hn he) (by omega) (by omega) ?_ ?_
    · have e1 : ((I : Int) - 1074 - ((J : Int) - 1074) - more - 1 + ((J + more + 2000 : Nat) : Int)).toNat = I + 1999 := by omega
      have e2 : J + more + 2000 - 1074 = J + more + 926 := by omega
      rw [e1, e2, Int.natAbs_mul, Int.natAbs_natCast, Nat.add_zero]
      have h1 := congrArg Int.natAbs hx
      rw [Int.natAbs_mul, Int.natAbs_natCast] at h1
      have h2 : (if negB a then -((m * 2 ^ I : Nat) : Int) else ((m * 2 ^ I : Nat) : Int)).natAbs = m * 2 ^ I := by split <;> omega
      rw [h2] at h1
      have e3 : 2 * (m * 2 ^ (more - 52)) * 2 ^ (I + 1999) = (m * 2 ^ I) * 2 ^ (more - 52 + 2000) := by
        have h3 : ∀ d : Nat, 2 * (m * 2 ^ (more - 52)) * 2 ^ (I + d) = (m * 2 ^ I) * 2 ^ (more - 52 + (d + 1)) := fun d => by
          rw [Nat.pow_add 2 I, Nat.pow_add 2 (more - 52), Nat.pow_succ]
          simp only [Nat.mul_assoc, Nat.mul_left_comm, Nat.mul_comm]
        exact h3 1999
      rw [e3, ← h1, Nat.mul_assoc, Nat.mul_assoc, ← Nat.pow_add, ← Nat.pow_add]
      have e4 : e + g + (more - 52 + 2000) = e + (J + more + 926) := by omega
      rw [e4]
    · by_cases h0 : x = 0
      · left; rw [h0, Int.zero_mul]
      · right
        have hp : (0 : Int) < ((2 ^ e : Nat) : Int) := by have := Nat.two_pow_pos e; omega
        have hq : (0 : Int) < ((2 ^ (e + g) : Nat) : Int) := by have := Nat.two_pow_pos (e + g); omega
        generalize m * 2 ^ I = N at *
        generalize ((2 ^ e : Nat) : Int) = E at *
        generalize ((2 ^ (e + g) : Nat) : Int) = G at *
        have hsx : negB a = decide (x < 0) := by
          cases hs : negB a
          · rw [hs] at hx
            simp only [Bool.false_eq_true, if_false] at hx
            symm
            rw [decide_eq_false_iff_not]
            intro h
            have := Int.mul_neg_of_neg_of_pos h hq
            omega
          · rw [hs] at hx
            simp only [if_true] at hx
            symm
            rw [decide_eq_true_iff]
            rcases Int.lt_trichotomy x 0 with h | h | h
            · exact h
            · exact absurd h h0
            · have := Int.mul_pos h hq; omega
        rw [hsx, Bool.xor_false, decide_eq_decide]
        constructor
        · intro h; exact Int.mul_neg_of_neg_of_pos h hp
        · intro h
          rcases Int.lt_or_le x 0 with h1 | h1
          · exact h1
          · have := Int.mul_nonneg h1 (Int.le_of_lt hp); omega
theorem xor_top {b : Nat} (h : b < 18446744073709551616) : b ^^^ 2 ^ 63 = if decide (9223372036854775808 ≤ b) = true then b - 9223372036854775808 else b + 9223372036854775808 := by
  have hd : (b ^^^ 2 ^ 63) / 2 ^ 63 = b / 2 ^ 63 ^^^ 2 ^ 63 / 2 ^ 63 := Nat.xor_div_two_pow
  have hm : (b ^^^ 2 ^ 63) % 2 ^ 63 = b % 2 ^ 63 ^^^ 2 ^ 63 % 2 ^ 63 := Nat.xor_mod_two_pow
  rw [Nat.mod_self, Nat.xor_zero] at hm
  rw [Nat.div_self (Nat.two_pow_pos 63)] at hd
  generalize b ^^^ 2 ^ 63 = r at *
  by_cases hc : 9223372036854775808 ≤ b
  · rw [decide_eq_true hc, if_pos rfl]
    have h1 : b / 2 ^ 63 = 1 := by omega
    rw [h1, Nat.xor_self] at hd
    omega
  · rw [decide_eq_false hc, if_neg (by decide)]
    have h1 : b / 2 ^ 63 = 0 := by omega
    rw [h1, Nat.zero_xor] at hd
    omega
theorem neg_parts {b : Nat} (h : Wf b) : Wf (Op.negFloat .f64 b) ∧ rung (Op.negFloat .f64 b) = rung b ∧ negB (Op.negFloat .f64 b) = !negB b := by
  have e : Op.negFloat .f64 b = if negB b then b - 9223372036854775808 else b + 9223372036854775808 := by
    unfold Wf at h
    show b ^^^ 2 ^ 63 = _
    unfold negB
    exact xor_top h
  rw [e]
  unfold Wf rung negB at *
  by_cases hc : 9223372036854775808 ≤ b
  · rw [decide_eq_true hc]
    simp only [if_true, Bool.not_true]
    exact ⟨by omega, by omega, decide_eq_false (by omega)⟩
  · rw [decide_eq_false hc]
    simp only [Bool.false_eq_true, if_false, Bool.not_false]
    exact ⟨by omega, by omega, decide_eq_true (by omega)⟩
theorem zval_neg {b : Nat} (h : Wf b) : zval (Op.negFloat .f64 b) = -zval b := by
  obtain ⟨_, h2, h3⟩ := neg_parts h
  unfold zval
  rw [h2, h3]
  cases negB b <;> simp
theorem Is.neg {a : Nat} {z : Int} (h : Is a z) : Is (Op.negFloat .f64 a) (-z) := by
  obtain ⟨h1, h2, _⟩ := neg_parts h.wf
  refine ⟨h1, by unfold FinB; rw [h2]; exact h.fin, by rw [zval_neg h.wf, h.val]⟩
theorem At.neg {e a : Nat} {n : Int} (h : At e a n) : At e (Op.negFloat .f64 a) (-n) := by
  unfold At at h ⊢
  rw [Int.neg_mul]
  exact Is.neg h
end Go.Proofs.Ytlafjmghfnlaoab
