/-
  Sums, differences, products, whole numbers and quotients by powers of two that can be written: exact. No program is named here.
-/
import Derived.Test.YtlafjmghfnlaoabNum2
namespace Go.Proofs.Ytlafjmghfnlaoab
open Go

/-- it can be written: at most 53 digits, not too great -/
def Rep (z : Int) : Prop := ∃ k q : Nat, z.natAbs = k * 2 ^ q ∧ k < 2 ^ 53 ∧ k * 2 ^ q < rungU 9218868437227405312
/-- a number with what it is in least units -/
structure Is (a : Nat) (z : Int) : Prop where
  wf : Wf a
  fin : FinB a
  val : zval a = z
theorem Is.num {a : Nat} {z : Int} (h : Is a z) : NumB a := Nat.le_of_lt h.fin
theorem Is.V {a : Nat} {z : Int} (h : Is a z) : V a = some a := V_num h.wf h.num
theorem Is.ford {a b : Nat} {x y : Int} (ha : Is a x) (hb : Is b y) : ford (Go.Proofs.Ytlafjmghfnlaoab.V a) (Go.Proofs.Ytlafjmghfnlaoab.V b) = some (compare x y) := by
  rw [ford_zval ha.wf hb.wf ha.num hb.num, ha.val, hb.val]
theorem word_is {s : Bool} {r : Nat} (hr : r < 9218868437227405312) : Is (Ieee.double.word s r) (if s then -(rungU r : Int) else (rungU r : Int)) := by
  obtain ⟨h1, h2, h3⟩ := rung_word s (r := r) (by omega)
  refine ⟨h2, by unfold FinB; rw [h1]; exact hr, ?_⟩
  unfold zval
  rw [h1, h3]
theorem write_exact (s : Bool) (mag : Nat) (p : Int) (T : Nat) (z : Int) (hz : Rep z) (hT : 1074 ≤ T) (hpT : 0 ≤ p + T) (hv : mag * 2 ^ (p + T).toNat = z.natAbs * 2 ^ (T - 1074)) (hs : z = 0 ∨ s = decide (z < 0)) :
    Is (Ieee.double.write (.number s mag p)) z := by
  obtain ⟨k, q, h1, h2, h3⟩ := hz
  obtain ⟨r, e, h4, h5⟩ := nearest_exact s mag p T k q hT hpT h2 (by rw [hv, h1, Nat.pow_add, Nat.mul_assoc]) h3
  show Is (Ieee.double.nearest s mag p) z
  rw [e]
  have h6 := word_is (s := s) h5
  rw [h4, ← h1] at h6
  have : (if s then -((z.natAbs : Nat) : Int) else ((z.natAbs : Nat) : Int)) = z := by
    rcases hs with h | h
    · subst h; cases s <;> rfl
    · subst h
      by_cases hc : z < 0
      · rw [decide_eq_true hc]; simp only [if_true]; omega
      · rw [decide_eq_false hc]; simp only [Bool.false_eq_true, if_false]; omega
  rw [this] at h6
  exact h6
theorem sum_exact (s t : Bool) (m n I J : Nat) (x y : Int) (hx : x = if s then -((m * 2 ^ I : Nat) : Int) else ((m * 2 ^ I : Nat) : Int)) (hy : y = if t then -((n * 2 ^ J : Nat) : Int) else ((n * 2 ^ J : Nat) : Int)) (hz : Rep (x + y)) :
    ∃ d, (Ieee.Datum.number s m ((I : Int) - 1074)).sum (.number t n ((J : Int) - 1074)) = some d ∧ Is (Ieee.double.write d) (x + y) := by
  unfold Ieee.Datum.sum
  refine ⟨_, rfl, ?_⟩
  obtain ⟨c, hc⟩ : ∃ c : Nat, min ((I : Int) - 1074) ((J : Int) - 1074) = (c : Int) - 1074 := ⟨min I J, by omega⟩
  have hci : c ≤ I := by omega
  have hcj : c ≤ J := by omega
  rw [hc]
  have e1 : ((I : Int) - 1074 - ((c : Int) - 1074)).toNat + c = I := by omega
  have e2 : ((J : Int) - 1074 - ((c : Int) - 1074)).toNat + c = J := by omega
  have t1 := signed_scale s m ((I : Int) - 1074 - ((c : Int) - 1074)).toNat c
  have t2 := signed_scale t n ((J : Int) - 1074 - ((c : Int) - 1074)).toNat c
  rw [e1, ← hx] at t1
  rw [e2, ← hy] at t2
  generalize Ieee.signed s m ((I : Int) - 1074 - ((c : Int) - 1074)).toNat = X at *
  generalize Ieee.signed t n ((J : Int) - 1074 - ((c : Int) - 1074)).toNat = Y at *
  have hp : (0 : Int) < ((2 ^ c : Nat) : Int) := by have := Nat.two_pow_pos c; omega
  have htot : (X + Y) * ((2 ^ c : Nat) : Int) = x + y := by rw [Int.add_mul, t1, t2]
  refine write_exact _ _ _ 1074 (x + y) hz (by omega) (by omega) ?_ ?_
  · have e3 : ((c : Int) - 1074 + ((1074 : Nat) : Int)).toNat = c := by omega
    rw [e3, ← htot, Int.natAbs_mul, Int.natAbs_natCast]
    simp
  · by_cases h0 : X + Y = 0
    · left; rw [← htot, h0, Int.zero_mul]
    · right
      rw [if_neg h0, ← htot]
      rw [decide_eq_decide]
      constructor
      · intro h
        exact Int.mul_neg_of_neg_of_pos h hp
      · intro h
        rcases Int.lt_or_le (X + Y) 0 with h1 | h1
        · exact h1
        · have := Int.mul_nonneg h1 (Int.le_of_lt hp)
          omega
theorem Is.parts {a : Nat} {z : Int} (h : Is a z) : ∃ (m L : Nat), FloatKind.f64.decode a = .number (negB a) m ((L : Int) - 1074) ∧ z = (if negB a then -((m * 2 ^ L : Nat) : Int) else ((m * 2 ^ L : Nat) : Int)) ∧ m < 2 ^ 53 := by
  obtain ⟨m, L, h1, h2, h3⟩ := read_fin h.wf h.fin
  exact ⟨m, L, h1, by rw [← h.val]; exact zval_num h2, h3⟩
theorem fadd_exact {a b : Nat} {x y : Int} (ha : Is a x) (hb : Is b y) (hz : Rep (x + y)) : ∃ c, fop .add (V a) (V b) = some c ∧ Is c (x + y) := by
  obtain ⟨m, I, d1, hx, _⟩ := ha.parts
  obtain ⟨n, J, d2, hy, _⟩ := hb.parts
  obtain ⟨d, hd, hi⟩ := sum_exact _ _ m n I J x y hx hy hz
  refine ⟨Ieee.double.write d, ?_, hi⟩
  show fopk .f64 .add (Vk .f64 a) (Vk .f64 b) = _
  rw [fopk_V]
  show ((FloatKind.f64.decode a).sum (FloatKind.f64.decode b)).map Ieee.double.write = _
  rw [d1, d2, hd]
  rfl
theorem fsub_exact {a b : Nat} {x y : Int} (ha : Is a x) (hb : Is b y) (hz : Rep (x - y)) : ∃ c, fop .sub (V a) (V b) = some c ∧ Is c (x - y) := by
  obtain ⟨m, I, d1, hx, _⟩ := ha.parts
  obtain ⟨n, J, d2, hy, _⟩ := hb.parts
  have hy' : -y = if !negB b then -((n * 2 ^ J : Nat) : Int) else ((n * 2 ^ J : Nat) : Int) := by
    rw [hy]
    cases negB b <;> simp
  obtain ⟨d, hd, hi⟩ := sum_exact _ _ m n I J x (-y) hx hy' (by rw [← Int.sub_eq_add_neg]; exact hz)
  rw [← Int.sub_eq_add_neg] at hi
  refine ⟨Ieee.double.write d, ?_, hi⟩
  show fopk .f64 .sub (Vk .f64 a) (Vk .f64 b) = _
  rw [fopk_V]
  show ((FloatKind.f64.decode a).sum (FloatKind.f64.decode b).opposite).map Ieee.double.write = _
  rw [d1, d2]
  show ((Ieee.Datum.number _ m _).sum (.number (!negB b) n _)).map Ieee.double.write = _
  rw [hd]
  rfl
theorem sign_prod (s t : Bool) (x y : Nat) : (if s then -(x : Int) else (x : Int)) * (if t then -(y : Int) else (y : Int)) = if s ^^ t then -((x * y : Nat) : Int) else ((x * y : Nat) : Int) := by
  cases s <;> cases t <;> simp [Int.neg_mul, Int.mul_neg]
theorem fmul_exact {a b : Nat} {x y z : Int} (ha : Is a x) (hb : Is b y) (hz : Rep z) (hv : x * y = z * ((2 ^ 1074 : Nat) : Int)) : ∃ c, fop .mul (V a) (V b) = some c ∧ Is c z := by
  obtain ⟨m, I, d1, hx, _⟩ := ha.parts
  obtain ⟨n, J, d2, hy, _⟩ := hb.parts
  refine ⟨Ieee.double.write (.number (negB a ^^ negB b) (m * n) ((I : Int) - 1074 + ((J : Int) - 1074))), ?_, ?_⟩
  · show fopk .f64 .mul (Vk .f64 a) (Vk .f64 b) = _
    rw [fopk_V]
    show ((FloatKind.f64.decode a).product (FloatKind.f64.decode b)).map Ieee.double.write = _
    rw [d1, d2]
    rfl
  · have hxy : x * y = if negB a ^^ negB b then -(((m * 2 ^ I) * (n * 2 ^ J) : Nat) : Int) else (((m * 2 ^ I) * (n * 2 ^ J) : Nat) : Int) := by rw [hx, hy, sign_prod]
    have hP : 0 < 2 ^ 1074 := Nat.two_pow_pos 1074
    generalize hT : 2 ^ 1074 = T at *
    refine write_exact _ _ _ 2148 z hz (by omega) (by omega) ?_ ?_
    · have e : ((I : Int) - 1074 + ((J : Int) - 1074) + ((2148 : Nat) : Int)).toNat = I + J := by omega
      rw [e, show 2148 - 1074 = 1074 from rfl, hT]
      have h1 := congrArg Int.natAbs hv
      rw [Int.natAbs_mul z, Int.natAbs_natCast, hxy] at h1
      have h2 : (if negB a ^^ negB b then -(((m * 2 ^ I) * (n * 2 ^ J) : Nat) : Int) else (((m * 2 ^ I) * (n * 2 ^ J) : Nat) : Int)).natAbs = (m * 2 ^ I) * (n * 2 ^ J) := by
        split <;> omega
      rw [h2] at h1
      rw [← h1, Nat.pow_add, Nat.mul_mul_mul_comm]
    · by_cases h0 : z = 0
      · exact .inl h0
      · right
        rw [hxy] at hv
        generalize (m * 2 ^ I) * (n * 2 ^ J) = N at *
        cases hs : negB a ^^ negB b
        · rw [hs] at hv
          simp only [Bool.false_eq_true, if_false] at hv
          symm
          rw [decide_eq_false_iff_not]
          intro hneg
          have := Int.mul_neg_of_neg_of_pos hneg (show (0 : Int) < (T : Int) by omega)
          omega
        · rw [hs] at hv
          simp only [if_true] at hv
          symm
          rw [decide_eq_true_iff]
          rcases Int.lt_trichotomy z 0 with h | h | h
          · exact h
          · exact absurd h h0
          · have := Int.mul_pos h (show (0 : Int) < (T : Int) by omega)
            omega
end Go.Proofs.Ytlafjmghfnlaoab
