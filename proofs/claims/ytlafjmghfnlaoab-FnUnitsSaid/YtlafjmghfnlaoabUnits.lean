/-
  Contracts: the next greater float64; how many places lie between two float64s.
-/
import Derived.Test.YtlafjmghfnlaoabUnit
import Derived.Test.YtlafjmghfnlaoabSrc3
namespace Go.Proofs.Ytlafjmghfnlaoab
open Go.RowKit

set_option maxRecDepth 20000 in
set_option maxHeartbeats 400000 in
theorem abs_ok (a : Nat) (w : World) (ha : Wf a) :
    Calls Try.prog 115 #[.float .f64 a] w fun e w' => e = .returned (.float .f64 (absB a)) ∧ w = w' := by
  have h1 := bits_run
  have h2 := frombits_run
  go_enter Try.func115, Try.ntmps115
  go_wp2
  go_ret
  refine ⟨?_, rfl⟩
  show Ending.returned (.float .f64 (bits .andNot .u64 (a : Int) 9223372036854775808).toNat) = _
  rw [abs_bits a ha]
  rfl
set_option maxRecDepth 20000 in
set_option maxHeartbeats 400000 in
theorem rank_ok (a : Nat) (w : World) (ha : Wf a) :
    Calls Try.prog 113 #[.float .f64 a] w fun e w' => e = .returned (.int .i64 ((absB a : Nat) : Int)) ∧ w = w' := by
  have h1 := bits_run
  have hb : absB a < 9223372036854775808 := by unfold absB; omega
  go_enter Try.func113, Try.ntmps113
  go_wp2_with fail
  refine (abs_ok a w ha).mono ?_
  rintro e w2 ⟨rfl, rfl⟩
  go_wp2
  go_ret
  exact ⟨rfl, rfl⟩
set_option maxRecDepth 20000 in
set_option maxHeartbeats 400000 in
theorem infUp_ok (w : World) : Calls Try.prog 118 #[.int .i64 1] w fun e w' => e = .returned (.float .f64 9218868437227405312) ∧ w = w' := by
  have h2 := frombits_run
  go_enter Try.func118, Try.ntmps118
  go_wp2
  go_ret
  exact ⟨rfl, rfl⟩
theorem wfI : Wf 9218868437227405312 := by unfold Wf; decide
theorem numI : NumB 9218868437227405312 := by unfold NumB rung; decide
theorem placeI : place 9218868437227405312 = 9218868437227405312 := by unfold place negB rung; decide
theorem wf0 : Wf 0 := by unfold Wf; decide
theorem num0 : NumB 0 := by unfold NumB rung; decide
theorem place0 : place 0 = 0 := by unfold place negB rung; decide
theorem ford_self {a : Nat} (ha : Wf a) (na : NumB a) : ford (V a) (V a) = some .eq := by rw [ford_place ha ha na na, cmp_eq rfl]
theorem ford_lt {a b : Nat} (ha : Wf a) (hb : Wf b) (na : NumB a) (nb : NumB b) (h : place a < place b) : ford (V a) (V b) = some .lt := by rw [ford_place ha hb na nb, cmp_lt h]
theorem ford_eq {a b : Nat} (ha : Wf a) (hb : Wf b) (na : NumB a) (nb : NumB b) (h : place a = place b) : ford (V a) (V b) = some .eq := by rw [ford_place ha hb na nb, cmp_eq h]
theorem ford_gt {a b : Nat} (ha : Wf a) (hb : Wf b) (na : NumB a) (nb : NumB b) (h : place b < place a) : ford (V a) (V b) = some .gt := by rw [ford_place ha hb na nb, cmp_gt h]
set_option maxRecDepth 20000 in
set_option maxHeartbeats 400000 in
theorem isNaN_ok (a : Nat) (w : World) (hs : ford (V a) (V a) = some .eq) : Calls Try.prog 198 #[.float .f64 a] w fun e w' => e = .returned (.bool false) ∧ w = w' := by
  go_enter Try.func198, Try.ntmps198
  go_wp2
  go_ret
  exact ⟨rfl, rfl⟩
set_option maxRecDepth 20000 in
set_option maxHeartbeats 400000 in
theorem copysign1_ok (w : World) : Calls Try.prog 196 #[.float .f64 1, .float .f64 9218868437227405312] w fun e w' => e = .returned (.float .f64 1) ∧ w = w' := by
  have h1 := bits_run
  have h2 := frombits_run
  go_enter Try.func196, Try.ntmps196
  go_wp2
  go_ret
  refine ⟨?_, rfl⟩
  show Ending.returned (.float .f64 (bits .or .u64 (bits .andNot .u64 1 9223372036854775808) (bits .and .u64 9218868437227405312 9223372036854775808)).toNat) = _
  rw [show (bits .or .u64 (bits .andNot .u64 1 9223372036854775808) (bits .and .u64 9218868437227405312 9223372036854775808)).toNat = 1 from by decide +kernel]
set_option maxRecDepth 20000 in
set_option maxHeartbeats 400000 in
theorem nextTop_ok (w : World) : Calls Try.prog 117 #[.float .f64 9218868437227405312, .float .f64 9218868437227405312] w fun e w' => e = .returned (.float .f64 9218868437227405312) ∧ w = w' := by
  have hs := ford_self wfI numI
  go_enter Try.func117, Try.ntmps117
  go_wp2_with (first | (go_at_call 198; refine (isNaN_ok _ _ hs).mono ?_; rintro e w2 ⟨rfl, rfl⟩))
  go_ret
  exact ⟨rfl, rfl⟩
set_option maxRecDepth 20000 in
set_option maxHeartbeats 400000 in
theorem nextZero_ok (a : Nat) (w : World) (ha : Wf a) (na : NumB a) (hp : place a = 0) : Calls Try.prog 117 #[.float .f64 a, .float .f64 9218868437227405312] w fun e w' => e = .returned (.float .f64 1) ∧ w = w' := by
  have hs := ford_self wfI numI
  have ht := ford_self ha na
  have hu := ford_lt ha wfI na numI (by rw [hp, placeI]; decide)
  have hz := ford_eq ha wf0 na num0 (by rw [hp, place0])
  have h1 := bits_run
  have h2 := frombits_run
  clear hp
  go_enter Try.func117, Try.ntmps117
  go_wp2_with (first | (go_at_call 198; refine (isNaN_ok _ _ (by assumption)).mono ?_; rintro e w2 ⟨rfl, rfl⟩) | (go_at_call 196; refine (copysign1_ok _).mono ?_; rintro e w2 ⟨rfl, rfl⟩))
  go_ret
  exact ⟨rfl, rfl⟩
set_option maxRecDepth 20000 in
set_option maxHeartbeats 400000 in
theorem nextPos_ok (a : Nat) (w : World) (ha : Wf a) (na : NumB a) (hp : 0 < place a) (ht : place a < 9218868437227405312) : Calls Try.prog 117 #[.float .f64 a, .float .f64 9218868437227405312] w fun e w' => e = .returned (.float .f64 (a + 1)) ∧ w = w' := by
  have hs := ford_self wfI numI
  have hq := ford_self ha na
  have hu := ford_lt ha wfI na numI (by rw [placeI]; exact ht)
  have hu2 := ford_gt wfI ha numI na (by rw [placeI]; exact ht)
  have hz := ford_gt ha wf0 na num0 (by rw [place0]; exact hp)
  have hw : (a : Int) + 1 < 18446744073709551616 := by
    unfold place negB at hp
    split at hp
    · omega
    · rename_i h
      simp at h
      omega
  have h1 := bits_run
  have h2 := frombits_run
  clear hp ht na ha
  go_enter Try.func117, Try.ntmps117
  go_wp2_with (first | (go_at_call 198; refine (isNaN_ok _ _ (by assumption)).mono ?_; rintro e w2 ⟨rfl, rfl⟩) | (go_at_call 196; refine (copysign1_ok _).mono ?_; rintro e w2 ⟨rfl, rfl⟩))
  go_ret
  exact ⟨rfl, rfl⟩
set_option maxRecDepth 20000 in
set_option maxHeartbeats 400000 in
theorem nextNeg_ok (a : Nat) (w : World) (ha : Wf a) (na : NumB a) (hp : place a < 0) : Calls Try.prog 117 #[.float .f64 a, .float .f64 9218868437227405312] w fun e w' => e = .returned (.float .f64 (a - 1)) ∧ w = w' := by
  have hs := ford_self wfI numI
  have hq := ford_self ha na
  have hu := ford_lt ha wfI na numI (by rw [placeI]; omega)
  have hu2 := ford_gt wfI ha numI na (by rw [placeI]; omega)
  have hz := ford_lt ha wf0 na num0 (by rw [place0]; exact hp)
  have hw : (1 : Int) ≤ (a : Int) ∧ (a : Int) < 18446744073709551616 := by
    unfold Wf at ha
    unfold place at hp
    split at hp
    · rename_i h
      unfold negB at h
      simp at h
      omega
    · omega
  obtain ⟨hw1, hw2⟩ := hw
  have h1 := bits_run
  have h2 := frombits_run
  clear hp na ha
  go_enter Try.func117, Try.ntmps117
  go_wp2_with (first | (go_at_call 198; refine (isNaN_ok _ _ (by assumption)).mono ?_; rintro e w2 ⟨rfl, rfl⟩) | (go_at_call 196; refine (copysign1_ok _).mono ?_; rintro e w2 ⟨rfl, rfl⟩))
  go_ret
  exact ⟨rfl, rfl⟩
set_option maxRecDepth 20000 in
set_option maxHeartbeats 400000 in
theorem apart_ok (p q : Int) (s t : Bool) (w : World) (hp0 : 0 ≤ p) (hp : p ≤ 9218868437227405312) (hq0 : 0 ≤ q) (hq : q ≤ 9218868437227405312) :
    Calls Try.prog 116 #[.int .i64 p, .int .i64 q, .bool s, .bool t] w fun e w' => e = .returned (.int .i64 (apartZ p q s t)) ∧ w = w' := by
  cases s <;> cases t
  all_goals
    go_enter Try.func116, Try.ntmps116
    go_wp2
    all_goals go_ret
    all_goals refine ⟨ret_int ?_, rfl⟩
    all_goals unfold apartZ cap
    all_goals simp only [if_true, if_false, Bool.true_eq_false, Bool.false_eq_true]
    all_goals (repeat' split) <;> omega
theorem nextAfter_ok (a : Nat) (w : World) (ha : Wf a) (na : NumB a) : Calls Try.prog 117 #[.float .f64 a, .float .f64 9218868437227405312] w fun e w' => e = .returned (.float .f64 (upB a)) ∧ w = w' := by
  by_cases hI : a = 9218868437227405312
  · subst hI
    exact nextTop_ok w
  · have hr : (rung a : Int) = absZ (place a) := rung_abs a
    have hlt : place a < 9218868437227405312 := by
      have := (place_num na).2
      have hw := wf_lt ha
      have : place a ≠ 9218868437227405312 := by
        intro h
        unfold place negB at h
        split at h
        · omega
        · rename_i h2
          simp at h2
          unfold rung at h
          omega
      omega
    unfold upB
    rw [if_neg hI]
    by_cases h0 : rung a = 0
    · rw [if_pos h0]
      refine nextZero_ok a w ha na ?_
      rw [h0] at hr
      unfold absZ at hr
      split at hr <;> omega
    · rw [if_neg h0]
      have hp : place a ≠ 0 := by
        intro h
        rw [h] at hr
        unfold absZ at hr
        simp at hr
        omega
      by_cases hs : negB a = true
      · rw [if_pos hs]
        refine nextNeg_ok a w ha na ?_
        unfold place at hp ⊢
        rw [if_pos hs] at hp ⊢
        omega
      · rw [if_neg hs]
        refine nextPos_ok a w ha na ?_ hlt
        unfold place at hp ⊢
        rw [if_neg hs] at hp ⊢
        omega
set_option maxRecDepth 20000 in
set_option maxHeartbeats 400000 in
theorem nextUp_ok (a : Nat) (w : World) (ha : Wf a) (na : NumB a) : Calls Try.prog 35 #[.float .f64 a] w fun e w' => e = .returned (.float .f64 (upB a)) ∧ w = w' := by
  go_enter Try.func35, Try.ntmps35
  go_wp2_with fail
  refine (infUp_ok _).mono ?_
  rintro e w2 ⟨rfl, rfl⟩
  go_wp2_with fail
  refine (nextAfter_ok a w ha na).mono ?_
  rintro e w2 ⟨rfl, rfl⟩
  go_wp2
  go_ret
  exact ⟨rfl, rfl⟩
theorem lss0 {a : Nat} (ha : Wf a) (na : NumB a) : (ford (V a) (V 0) == some .lt) = decide (place a < 0) := by
  rw [ford_place ha wf0 na num0, place0]
  rcases Int.lt_trichotomy (place a) 0 with h | h | h
  · rw [cmp_lt h, decide_eq_true h]; rfl
  · rw [cmp_eq h, decide_eq_false (by omega)]; rfl
  · rw [cmp_gt h, decide_eq_false (by omega)]; rfl
set_option maxRecDepth 20000 in
set_option maxHeartbeats 400000 in
theorem unitsApart_ok (a b : Nat) (w : World) (ha : Wf a) (na : NumB a) (hb : Wf b) (nb : NumB b) :
    Calls Try.prog 34 #[.float .f64 a, .float .f64 b] w fun e w' => e = .returned (.tuple #[.int .i64 (unitsZ (place a) (place b)), .int .i64 0]) ∧ w = w' := by
  have hsa := ford_self ha na
  have hsb := ford_self hb nb
  have hla := lss0 ha na
  have hlb := lss0 hb nb
  have e1 := absB_place a
  have e2 := absB_place b
  have b1 : absB a ≤ 9218868437227405312 := na
  have b2 : absB b ≤ 9218868437227405312 := nb
  have hap := apart_ok (absB a : Nat) (absB b : Nat) (decide (place a < 0)) (decide (place b < 0)) w (by omega) (by omega) (by omega) (by omega)
  rw [← apart_units, ← e1, ← e2]
  have HAP := hid hap
  clear hap e1 e2
  go_enter Try.func34, Try.ntmps34
  go_wp2_with (first | (go_at_call 113; refine (rank_ok _ _ (by assumption)).mono ?_; rintro e w2 ⟨rfl, rfl⟩) | (go_at_call 116; (try rw [hla]); (try rw [hlb]); refine HAP.out.mono ?_; rintro e w2 ⟨rfl, rfl⟩))
  go_ret2
  exact ⟨rfl, rfl⟩
set_option maxRecDepth 20000 in
set_option maxHeartbeats 400000 in
theorem unitsNaN_ok (a b : Nat) (w : World) (h : V a = none ∨ V b = none) :
    Calls Try.prog 34 #[.float .f64 a, .float .f64 b] w fun e w' => e = .returned (.tuple #[.int .i64 0, .int .i64 2]) ∧ w = w' := by
  by_cases h1 : V a = none
  · have hq : ford (V a) (V a) = none := by rw [h1]; rfl
    go_enter Try.func34, Try.ntmps34
    go_wp2
    go_ret2
    exact ⟨rfl, rfl⟩
  · have h2 : V b = none := h.resolve_left h1
    have hq : ford (V b) (V b) = none := by rw [h2]; rfl
    go_enter Try.func34, Try.ntmps34
    go_wp2
    all_goals go_ret2
    all_goals exact ⟨rfl, rfl⟩
end Go.Proofs.Ytlafjmghfnlaoab
