/-
  Operations on float64s whose result can be written: they are exact. No program is named here.
-/
import Derived.Test.YtlafjmghfnlaoabNum
namespace Go.Proofs.Ytlafjmghfnlaoab
open Go

theorem two_pow_le_of {a b : Nat} (h : 2 ^ a ≤ 2 ^ b) : a ≤ b := (Nat.pow_le_pow_iff_right (by omega)).1 h
theorem cut_exact (s : Bool) {n d : Nat} (h : 2 ^ d ∣ n) (hd : d ≤ n.log2 + 2) : Ieee.Toward.even.cut s n d = n / 2 ^ d := by
  unfold Ieee.Toward.cut
  have h0 : n % 2 ^ d = 0 := Nat.mod_eq_zero_of_dvd h
  have hp : 0 < 2 ^ d := Nat.two_pow_pos _
  rw [Nat.min_eq_left hd, Nat.shiftLeft_eq, Nat.one_mul]
  dsimp only
  rw [h0]
  have e1 : decide (2 ^ d < 2 * 0) = false := decide_eq_false (by omega)
  have e2 : (2 ^ d == 2 * 0) = false := by rw [beq_eq_false_iff_ne]; omega
  rw [e1, e2]
  simp
theorem rung_word (s : Bool) {r : Nat} (h : r < 9223372036854775808) : rung (Ieee.double.word s r) = r ∧ Wf (Ieee.double.word s r) ∧ negB (Ieee.double.word s r) = s := by
  unfold Ieee.Format.word rung Wf negB
  rw [dSign]
  cases s
  · simp only [Bool.false_eq_true, if_false]
    exact ⟨by omega, by omega, decide_eq_false (by omega)⟩
  · simp only [if_true]
    exact ⟨by omega, by omega, decide_eq_true (by omega)⟩
theorem rungU_at {L k : Nat} (hk : k ≤ 2 ^ 53) (hL : L = 0 ∨ 2 ^ 52 ≤ k) : rungU (L * 2 ^ 52 + k) = k * 2 ^ L := by
  by_cases h1 : k < 2 ^ 52
  · rcases hL with h | h
    · subst h
      rw [Nat.zero_mul, Nat.zero_add, rungU_small h1]
      omega
    · omega
  · by_cases h2 : k < 2 ^ 53
    · rw [rungU_big (L := L) (f := k - 2 ^ 52) (by omega) (by omega)]
      have e : 2 ^ 52 + (k - 2 ^ 52) = k := by omega
      rw [e]
    · have hk' : k = (2 ^ 52 + 0) * 2 := by omega
      have h3 : rungU (L * 2 ^ 52 + k) = (2 ^ 52 + 0) * 2 ^ (L + 1) := rungU_big (by omega) (by omega)
      have h4 : (2 ^ 52 + 0) * 2 * 2 ^ L = (2 ^ 52 + 0) * 2 ^ (L + 1) := by rw [Nat.mul_assoc, Nat.pow_succ 2 L, Nat.mul_comm 2 (2 ^ L)]
      rw [h3, hk', h4]
/-- 'mag * 2 ^ place' that can be written: k * 2 ^ q least units -/
theorem nearest_exact (s : Bool) (mag : Nat) (p : Int) (T k q : Nat) (hT : 1074 ≤ T) (hpT : 0 ≤ p + T) (hk : k < 2 ^ 53) (hv : mag * 2 ^ (p + T).toNat = k * 2 ^ (q + (T - 1074))) (hfit : k * 2 ^ q < rungU 9218868437227405312) :
    ∃ r, Ieee.double.nearest s mag p = Ieee.double.word s r ∧ rungU r = k * 2 ^ q ∧ r < 9218868437227405312 := by
  unfold Ieee.Format.nearest
  by_cases hm : mag = 0
  · rw [if_pos hm]
    refine ⟨0, rfl, ?_, by omega⟩
    subst hm
    rw [Nat.zero_mul] at hv
    have : 0 < 2 ^ (q + (T - 1074)) := Nat.two_pow_pos _
    have hk0 : k = 0 := by
      rcases Nat.eq_zero_or_pos k with h | h
      · exact h
      · have := Nat.mul_pos h this; omega
    subst hk0
    rw [rungU_zero, Nat.zero_mul]
  rw [if_neg hm]
  simp only [dBin, dInf, dLeast, dFrac]
  have hl1 : 2 ^ mag.log2 ≤ mag := Nat.log2_self_le hm
  have hl2 : mag < 2 ^ (mag.log2 + 1) := Nat.lt_log2_self
  generalize hel : mag.log2 = l at *
  obtain ⟨L, hL⟩ : ∃ L : Nat, max (p + (l : Int) - ((52 : Nat) : Int)) (-1074) = (L : Int) - 1074 := ⟨(max (p + (l : Int) - 52) (-1074) + 1074).toNat, by omega⟩
  rw [hL]
  have hLt : ((L : Int) - 1074 - -1074).toNat = L := by omega
  rw [hLt]
  -- kept, and what it stands for
  have key : ∃ kept, Ieee.Toward.even.cut s (mag <<< (p - ((L : Int) - 1074)).toNat) ((L : Int) - 1074 - p).toNat = kept ∧ kept < 2 ^ 53 ∧ (L = 0 ∨ 2 ^ 52 ≤ kept) ∧ kept * 2 ^ L = k * 2 ^ q := by
    by_cases hc : (L : Int) - 1074 ≤ p
    · -- nothing is dropped
      obtain ⟨u, hu⟩ : ∃ u : Nat, p = (L : Int) - 1074 + u := ⟨(p - ((L : Int) - 1074)).toNat, by omega⟩
      have e1 : (p - ((L : Int) - 1074)).toNat = u := by omega
      have e2 : ((L : Int) - 1074 - p).toNat = 0 := by omega
      rw [e1, e2, cut_exact s (by simp) (by omega), Nat.pow_zero, Nat.div_one, Nat.shiftLeft_eq]
      have e3 : (p + (T : Int)).toNat = u + L + (T - 1074) := by omega
      rw [e3, Nat.pow_add 2 (u + L), Nat.pow_add 2 q, ← Nat.mul_assoc, ← Nat.mul_assoc, Nat.pow_add 2 u, ← Nat.mul_assoc] at hv
      have hv' := Nat.eq_of_mul_eq_mul_right (Nat.two_pow_pos (T - 1074)) hv
      have hlu : l + u ≤ 52 := by omega
      have hlt : mag * 2 ^ u < 2 ^ 53 := by
        have h1 : mag * 2 ^ u < 2 ^ (l + 1) * 2 ^ u := Nat.mul_lt_mul_of_pos_right hl2 (Nat.two_pow_pos _)
        rw [← Nat.pow_add] at h1
        have h2 : 2 ^ (l + 1 + u) ≤ 2 ^ 53 := Nat.pow_le_pow_right (by omega) (by omega)
        omega
      refine ⟨mag * 2 ^ u, rfl, hlt, ?_, hv'⟩
      by_cases hL0 : L = 0
      · exact .inl hL0
      · right
        have hlu2 : l + u = 52 := by omega
        have h1 : 2 ^ l * 2 ^ u ≤ mag * 2 ^ u := Nat.mul_le_mul_right _ hl1
        rw [← Nat.pow_add, hlu2] at h1
        exact h1
    · -- d digits are dropped, all of them 0
      obtain ⟨d, hd⟩ : ∃ d : Nat, (L : Int) - 1074 = p + d ∧ 0 < d := ⟨((L : Int) - 1074 - p).toNat, by omega⟩
      have e1 : (p - ((L : Int) - 1074)).toNat = 0 := by omega
      have e2 : ((L : Int) - 1074 - p).toNat = d := by omega
      rw [e1, e2, Nat.shiftLeft_zero]
      obtain ⟨t, ht⟩ : ∃ t : Nat, p + (T : Int) = t := ⟨(p + (T : Int)).toNat, by omega⟩
      have e3 : (p + (T : Int)).toNat = t := by omega
      rw [e3] at hv
      have e4 : L + (T - 1074) = t + d := by omega
      have hLq : L ≤ q := by
        rcases Nat.lt_or_ge q L with hlt | hge
        · exfalso
          have hL0 : L ≠ 0 := by omega
          have hl : (L : Int) - 1074 = p + (l : Int) - 52 := by omega
          have h1 : k * 2 ^ (q + (T - 1074)) < 2 ^ 53 * 2 ^ (q + (T - 1074)) := Nat.mul_lt_mul_of_pos_right hk (Nat.two_pow_pos _)
          rw [← Nat.pow_add] at h1
          have h2 : 2 ^ l * 2 ^ t ≤ mag * 2 ^ t := Nat.mul_le_mul_right _ hl1
          rw [← Nat.pow_add] at h2
          have h3 : 2 ^ (53 + (q + (T - 1074))) ≤ 2 ^ (l + t) := Nat.pow_le_pow_right (by omega) (by omega)
          omega
        · exact hge
      have hdvd : mag = (k * 2 ^ (q - L)) * 2 ^ d := by
        refine Nat.eq_of_mul_eq_mul_right (Nat.two_pow_pos t) ?_
        have e5 : q + (T - 1074) = q - L + (d + t) := by omega
        rw [hv, e5, Nat.pow_add 2 (q - L), Nat.pow_add 2 d, ← Nat.mul_assoc, ← Nat.mul_assoc]
      have hdl : d ≤ l := by
        have h1 : 1 * 2 ^ d ≤ (k * 2 ^ (q - L)) * 2 ^ d := by
          refine Nat.mul_le_mul_right _ ?_
          rcases Nat.eq_zero_or_pos (k * 2 ^ (q - L)) with h | h
          · rw [h] at hdvd; omega
          · exact h
        rw [← hdvd] at h1
        have h2 : 2 ^ d < 2 ^ (l + 1) := by omega
        have h3 := (Nat.pow_lt_pow_iff_right (by omega)).1 h2
        omega
      have hdiv : mag / 2 ^ d = k * 2 ^ (q - L) := by
        conv => lhs; rw [hdvd]
        exact Nat.mul_div_cancel _ (Nat.two_pow_pos d)
      rw [cut_exact s ⟨k * 2 ^ (q - L), by rw [Nat.mul_comm]; exact hdvd⟩ (by omega), hdiv]
      refine ⟨_, rfl, ?_, ?_, ?_⟩
      · refine Nat.lt_of_mul_lt_mul_right (a := 2 ^ d) ?_
        rw [← hdvd, ← Nat.pow_add]
        have : 2 ^ (l + 1) ≤ 2 ^ (53 + d) := Nat.pow_le_pow_right (by omega) (by omega)
        omega
      · by_cases hL0 : L = 0
        · exact .inl hL0
        · right
          refine Nat.le_of_mul_le_mul_right (c := 2 ^ d) ?_ (Nat.two_pow_pos d)
          rw [← hdvd, ← Nat.pow_add]
          have e6 : 52 + d = l := by omega
          rw [e6]
          exact hl1
      · rw [Nat.mul_assoc, ← Nat.pow_add, Nat.sub_add_cancel hLq]
  obtain ⟨kept, e, h1, h2, h3⟩ := key
  rw [e]
  have hR : rungU (L * 2 ^ 52 + kept) = k * 2 ^ q := by rw [rungU_at (by omega) h2, h3]
  have hlt : L * 2 ^ 52 + kept < 9218868437227405312 := by
    rw [← hR] at hfit
    exact rungU_lt_iff.1 hfit
  refine ⟨L * 2 ^ 52 + kept, ?_, hR, hlt⟩
  rw [Nat.min_eq_left (by omega)]
end Go.Proofs.Ytlafjmghfnlaoab
