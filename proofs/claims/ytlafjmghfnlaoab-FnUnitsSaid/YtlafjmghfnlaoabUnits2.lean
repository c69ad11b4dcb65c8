/-
  Contracts: the next greater float32; how many places lie between two float32s.
-/
import Derived.Test.YtlafjmghfnlaoabUnitS
import Derived.Test.YtlafjmghfnlaoabUnits
namespace Go.Proofs.Ytlafjmghfnlaoab
open Go.RowKit

theorem bits32_run (b : Nat) (w : World) : Sem.run Try.prog (callFunc 121 #[.float .f32 b]) w = .ok (.value (.int .u32 (b : Int))) w := by
  rw [run_callFunc_extern (e := Extern.MathFloatBits.float32bits) Try.func121 (by kernel_rfl) (by kernel_rfl) (by kernel_rfl) (by kernel_rfl) #[.float .f32 b] w]
  rfl
theorem frombits32_run (n : Int) (w : World) : Sem.run Try.prog (callFunc 199 #[.int .u32 n]) w = .ok (.value (.float .f32 n.toNat)) w := by
  rw [run_callFunc_extern (e := Extern.MathFloatBits.float32frombits) Try.func199 (by kernel_rfl) (by kernel_rfl) (by kernel_rfl) (by kernel_rfl) #[.int .u32 n] w]
  rfl
theorem narrowI (w : World) : wres .f64 9218868437227405312 .f32 w = 2139095040 := by
  unfold wres
  rw [if_neg (by decide), show FloatKind.f64.decode 9218868437227405312 = .infinity false from by decide +kernel]
  show FloatKind.f32.encode (.infinity false) = _
  decide +kernel
theorem wideI (w : World) : wres .f32 2139095040 .f64 w = 9218868437227405312 := by
  unfold wres
  rw [if_neg (by decide), show FloatKind.f32.decode 2139095040 = .infinity false from by decide +kernel]
  show FloatKind.f64.encode (.infinity false) = _
  decide +kernel
theorem wide1 (w : World) : wres .f32 1 .f64 w = 3936146074321813504 := by
  unfold wres
  rw [if_neg (by decide), show FloatKind.f32.decode 1 = .number false 1 (-149) from by decide +kernel]
  dsimp only
  rw [if_neg (by decide +kernel)]
  decide +kernel
theorem narrow1 (w : World) : wres .f64 3936146074321813504 .f32 w = 1 := by
  unfold wres
  rw [if_neg (by decide), show FloatKind.f64.decode 3936146074321813504 = .number false 4503599627370496 (-201) from by decide +kernel]
  dsimp only
  rw [if_neg (by decide +kernel)]
  decide +kernel
theorem wide_self {a : Nat} (ha : Wf32 a) (na : NumBS a) (w : World) : ford (V (wres .f32 a .f64 w)) (V (wres .f32 a .f64 w)) = some .eq := by
  have hw : Wf (wres .f32 a .f64 w) := Wf_wide w ha
  refine ford_self hw (num_of_nan ?_)
  have h1 := V_wide a w ha
  rw [V_numS ha na] at h1
  cases hn : nanB .f64 (wres .f32 a .f64 w) with
  | false => rfl
  | true =>
    rw [V_none hn] at h1
    simp [wideF] at h1
theorem wfIS : Wf32 2139095040 := by unfold Wf32; decide
theorem numIS : NumBS 2139095040 := by unfold NumBS rungS; decide
theorem placeIS : placeS 2139095040 = 2139095040 := by unfold placeS negBS rungS; decide
theorem wf0S : Wf32 0 := by unfold Wf32; decide
theorem num0S : NumBS 0 := by unfold NumBS rungS; decide
theorem place0S : placeS 0 = 0 := by unfold placeS negBS rungS; decide
theorem order_placeS {a b : Nat} (ha : Wf32 a) (hb : Wf32 b) (na : NumBS a) (nb : NumBS b) : FloatKind.f32.format.order a b = some (compare (placeS a) (placeS b)) := by
  rw [order_zvalS ha hb na nb]
  rcases Int.lt_trichotomy (placeS a) (placeS b) with h | h | h
  · rw [cmp_lt h, cmp_lt (zval_place_ltS.2 h)]
  · rw [cmp_eq h, cmp_eq (zval_place_eqS.2 h)]
  · rw [cmp_gt h, cmp_gt (zval_place_ltS.2 h)]
theorem order_self {a : Nat} (ha : Wf32 a) (na : NumBS a) : FloatKind.f32.format.order a a = some .eq := by rw [order_placeS ha ha na na, cmp_eq rfl]
theorem order_lt {a b : Nat} (ha : Wf32 a) (hb : Wf32 b) (na : NumBS a) (nb : NumBS b) (h : placeS a < placeS b) : FloatKind.f32.format.order a b = some .lt := by rw [order_placeS ha hb na nb, cmp_lt h]
theorem order_eq {a b : Nat} (ha : Wf32 a) (hb : Wf32 b) (na : NumBS a) (nb : NumBS b) (h : placeS a = placeS b) : FloatKind.f32.format.order a b = some .eq := by rw [order_placeS ha hb na nb, cmp_eq h]
theorem order_gt {a b : Nat} (ha : Wf32 a) (hb : Wf32 b) (na : NumBS a) (nb : NumBS b) (h : placeS b < placeS a) : FloatKind.f32.format.order a b = some .gt := by rw [order_placeS ha hb na nb, cmp_gt h]
set_option maxRecDepth 20000 in
set_option maxHeartbeats 400000 in
theorem copysignS_ok (w : World) : Calls Try.prog 196 #[.float .f64 3936146074321813504, .float .f64 9218868437227405312] w fun e w' => e = .returned (.float .f64 3936146074321813504) ∧ w = w' := by
  have h1 := bits_run
  have h2 := frombits_run
  go_enter Try.func196, Try.ntmps196
  go_wp2
  go_ret
  refine ⟨?_, rfl⟩
  show Ending.returned (.float .f64 (bits .or .u64 (bits .andNot .u64 3936146074321813504 9223372036854775808) (bits .and .u64 9218868437227405312 9223372036854775808)).toNat) = _
  rw [show (bits .or .u64 (bits .andNot .u64 3936146074321813504 9223372036854775808) (bits .and .u64 9218868437227405312 9223372036854775808)).toNat = 3936146074321813504 from by decide +kernel]
set_option maxRecDepth 20000 in
set_option maxHeartbeats 400000 in
theorem nextPosS_ok (a : Nat) (w : World) (ha : Wf32 a) (na : NumBS a) (hp : 0 < placeS a) (ht : placeS a < 2139095040) : Calls Try.prog 119 #[.float .f32 a, .float .f32 2139095040] w fun e w' => e = .returned (.float .f32 (a + 1)) ∧ ∃ m, w.drewN m = w' := by
  have hs := ford_self wfI numI
  have hws := fun w => wide_self ha na w
  have hwi := wideI
  have hq := order_self ha na
  have hu := order_lt ha wfIS na numIS (by rw [placeIS]; exact ht)
  have hu2 := order_gt wfIS ha numIS na (by rw [placeIS]; exact ht)
  have hz := order_gt ha wf0S na num0S (by rw [place0S]; exact hp)
  have hw : (a : Int) + 1 < 4294967296 := by
    unfold placeS negBS at hp
    split at hp
    · omega
    · rename_i h
      simp at h
      omega
  have h1 := bits32_run
  have h2 := frombits32_run
  clear hp ht na ha
  go_enter Try.func119, Try.ntmps119
  go_wp2_with (first | (go_at_call 198; refine (isNaN_ok _ _ (by first | exact hws _ | assumption)).mono ?_; rintro e w2 ⟨rfl, rfl⟩) | (go_at_call 196; refine (copysignS_ok _).mono ?_; rintro e w2 ⟨rfl, rfl⟩))
  go_ret
  exact ⟨rfl, _, rfl⟩
set_option maxRecDepth 20000 in
set_option maxHeartbeats 400000 in
theorem nextNegS_ok (a : Nat) (w : World) (ha : Wf32 a) (na : NumBS a) (hp : placeS a < 0) : Calls Try.prog 119 #[.float .f32 a, .float .f32 2139095040] w fun e w' => e = .returned (.float .f32 (a - 1)) ∧ ∃ m, w.drewN m = w' := by
  have hs := ford_self wfI numI
  have hwi := wideI
  have hws := fun w => wide_self ha na w
  have hq := order_self ha na
  have hu := order_lt ha wfIS na numIS (by rw [placeIS]; omega)
  have hu2 := order_gt wfIS ha numIS na (by rw [placeIS]; omega)
  have hz := order_lt ha wf0S na num0S (by rw [place0S]; exact hp)
  have hw : (1 : Int) ≤ (a : Int) ∧ (a : Int) < 4294967296 := by
    unfold Wf32 at ha
    unfold placeS at hp
    split at hp
    · rename_i h
      unfold negBS at h
      simp at h
      omega
    · omega
  obtain ⟨hw1, hw2⟩ := hw
  have h1 := bits32_run
  have h2 := frombits32_run
  clear hp na ha
  go_enter Try.func119, Try.ntmps119
  go_wp2_with (first | (go_at_call 198; refine (isNaN_ok _ _ (by first | exact hws _ | assumption)).mono ?_; rintro e w2 ⟨rfl, rfl⟩) | (go_at_call 196; refine (copysignS_ok _).mono ?_; rintro e w2 ⟨rfl, rfl⟩))
  go_ret
  exact ⟨rfl, _, rfl⟩
set_option maxRecDepth 20000 in
set_option maxHeartbeats 400000 in
theorem nextZeroS_ok (a : Nat) (w : World) (ha : Wf32 a) (na : NumBS a) (hp : placeS a = 0) : Calls Try.prog 119 #[.float .f32 a, .float .f32 2139095040] w fun e w' => e = .returned (.float .f32 1) ∧ ∃ m, w.drewN m = w' := by
  have hs := ford_self wfI numI
  have hwi := wideI
  have hws := fun w => wide_self ha na w
  have hq := order_self ha na
  have hu := order_lt ha wfIS na numIS (by rw [hp, placeIS]; decide)
  have hz := order_eq ha wf0S na num0S (by rw [hp, place0S])
  have hw1 := wide1
  have hn1 := narrow1
  have h1 := bits32_run
  have h2 := frombits32_run
  clear hp na ha
  go_enter Try.func119, Try.ntmps119
  go_wp2_with (first | (go_at_call 198; refine (isNaN_ok _ _ (by first | exact hws _ | assumption)).mono ?_; rintro e w2 ⟨rfl, rfl⟩) | (go_at_call 196; refine (copysignS_ok _).mono ?_; rintro e w2 ⟨rfl, rfl⟩))
  go_ret
  exact ⟨rfl, _, rfl⟩
set_option maxRecDepth 20000 in
set_option maxHeartbeats 400000 in
theorem nextTopS_ok (w : World) : Calls Try.prog 119 #[.float .f32 2139095040, .float .f32 2139095040] w fun e w' => e = .returned (.float .f32 2139095040) ∧ ∃ m, w.drewN m = w' := by
  have hs := ford_self wfI numI
  have hwi := wideI
  have hws := fun w => wide_self wfIS numIS w
  have hq := order_self wfIS numIS
  go_enter Try.func119, Try.ntmps119
  go_wp2_with (first | (go_at_call 198; refine (isNaN_ok _ _ (by first | exact hws _ | assumption)).mono ?_; rintro e w2 ⟨rfl, rfl⟩) | (go_at_call 196; refine (copysignS_ok _).mono ?_; rintro e w2 ⟨rfl, rfl⟩))
  go_ret
  exact ⟨rfl, _, rfl⟩
theorem nextAfterS_ok (a : Nat) (w : World) (ha : Wf32 a) (na : NumBS a) : Calls Try.prog 119 #[.float .f32 a, .float .f32 2139095040] w fun e w' => e = .returned (.float .f32 (upBS a)) ∧ ∃ m, w.drewN m = w' := by
  by_cases hI : a = 2139095040
  · subst hI
    exact nextTopS_ok w
  · have hr : (rungS a : Int) = absZ (placeS a) := rung_absS a
    have hlt : placeS a < 2139095040 := by
      have := (place_numS na).2
      have hw := wf_ltS ha
      have : placeS a ≠ 2139095040 := by
        intro h
        unfold placeS negBS at h
        split at h
        · omega
        · rename_i h2
          simp at h2
          unfold rungS at h
          omega
      omega
    unfold upBS
    rw [if_neg hI]
    by_cases h0 : rungS a = 0
    · rw [if_pos h0]
      refine nextZeroS_ok a w ha na ?_
      rw [h0] at hr
      unfold absZ at hr
      split at hr <;> omega
    · rw [if_neg h0]
      have hp : placeS a ≠ 0 := by
        intro h
        rw [h] at hr
        unfold absZ at hr
        simp at hr
        omega
      by_cases hs : negBS a = true
      · rw [if_pos hs]
        refine nextNegS_ok a w ha na ?_
        unfold placeS at hp ⊢
        rw [if_pos hs] at hp ⊢
        omega
      · rw [if_neg hs]
        refine nextPosS_ok a w ha na ?_ hlt
        unfold placeS at hp ⊢
        rw [if_neg hs] at hp ⊢
        omega
set_option maxRecDepth 20000 in
set_option maxHeartbeats 400000 in
theorem nextUpS_ok (a : Nat) (w : World) (ha : Wf32 a) (na : NumBS a) : Calls Try.prog 36 #[.float .f32 a] w fun e w' => e = .returned (.float .f32 (upBS a)) ∧ ∃ m, w.drewN m = w' := by
  have hni := narrowI
  go_enter Try.func36, Try.ntmps36
  go_wp2_with fail
  refine (infUp_ok _).mono ?_
  rintro e w2 ⟨rfl, rfl⟩
  go_wp2_with fail
  refine (nextAfterS_ok a _ ha na).mono ?_
  rintro e w2 ⟨rfl, m, rfl⟩
  go_wp2
  go_ret
  exact ⟨rfl, _, rfl⟩
theorem abs_bitsS (a : Nat) (ha : Wf32 a) : bits .andNot .u32 (a : Int) 2147483648 = ((rungS a : Nat) : Int) := by
  have h := u32_andNot_nat a 2147483648 ha (by omega)
  have e : a &&& (4294967295 - 2147483648) = rungS a := by
    unfold rungS
    rw [show 4294967295 - 2147483648 = 2 ^ 31 - 1 from rfl, Nat.and_two_pow_sub_one_eq_mod]
  rw [e] at h
  exact h
set_option maxRecDepth 20000 in
set_option maxHeartbeats 400000 in
theorem rankS_ok (a : Nat) (w : World) (ha : Wf32 a) :
    Calls Try.prog 120 #[.float .f32 a] w fun e w' => e = .returned (.int .i64 ((rungS a : Nat) : Int)) ∧ w = w' := by
  have h1 := bits32_run
  have hb : rungS a < 2147483648 := by unfold rungS; omega
  have hab := abs_bitsS a ha
  go_enter Try.func120, Try.ntmps120
  go_wp2
  go_ret
  exact ⟨rfl, rfl⟩
theorem lss0S {a : Nat} (ha : Wf32 a) (na : NumBS a) : (FloatKind.f32.format.order a 0 == some .lt) = decide (placeS a < 0) := by
  rw [order_placeS ha wf0S na num0S, place0S]
  rcases Int.lt_trichotomy (placeS a) 0 with h | h | h
  · rw [cmp_lt h, decide_eq_true h]; rfl
  · rw [cmp_eq h, decide_eq_false (by omega)]; rfl
  · rw [cmp_gt h, decide_eq_false (by omega)]; rfl
set_option maxRecDepth 20000 in
set_option maxHeartbeats 400000 in
theorem narrowApart_ok (a b : Nat) (w : World) (ha : Wf32 a) (na : NumBS a) (hb : Wf32 b) (nb : NumBS b) :
    Calls Try.prog 37 #[.float .f32 a, .float .f32 b] w fun e w' => e = .returned (.tuple #[.int .i64 (unitsZ (placeS a) (placeS b)), .int .i64 0]) ∧ w = w' := by
  have hsa := order_self ha na
  have hsb := order_self hb nb
  have hla := lss0S ha na
  have hlb := lss0S hb nb
  have e1 := rung_absS a
  have e2 := rung_absS b
  have b1 : rungS a ≤ 2139095040 := na
  have b2 : rungS b ≤ 2139095040 := nb
  have hap := apart_ok (rungS a : Nat) (rungS b : Nat) (decide (placeS a < 0)) (decide (placeS b < 0)) w (by omega) (by omega) (by omega) (by omega)
  rw [← apart_units, ← e1, ← e2]
  have HAP := hid hap
  clear hap e1 e2
  go_enter Try.func37, Try.ntmps37
  go_wp2_with (first | (go_at_call 120; refine (rankS_ok _ _ (by assumption)).mono ?_; rintro e w2 ⟨rfl, rfl⟩) | (go_at_call 116; (try rw [hla]); (try rw [hlb]); refine HAP.out.mono ?_; rintro e w2 ⟨rfl, rfl⟩))
  go_ret2
  exact ⟨rfl, rfl⟩
set_option maxRecDepth 20000 in
set_option maxHeartbeats 400000 in
theorem a2float_ok (A : Option Addr) (c : Nat) (zs : List Int) (w : World) (hr : Rd w w.heap.size A (bs zs)) (hz : Bytes zs) (hn : zs.length ≤ 1048576) :
    Calls Try.prog 33 #[.slice A zs.length c] w fun e w' => ∃ r, e = .returned (.float .f64 r) ∧ Wf r ∧ Below w.heap.size w w' := by
  go_enter Try.func33, Try.ntmps33
  go_wp2_with fail
  refine (from_ok A c zs w hr hz hn).mono ?_
  rintro e w2 ⟨g, rfl, hs2, hg, hb2⟩
  go_wp2_with fail
  refine (float_ok g 0 w2 hs2 (by omega)).mono ?_
  rintro e w3 ⟨r, rfl, hrw, hs3, hg3⟩
  have hb3 : Below w.heap.size w w3 := hb2.grown hg3 hb2.size (fun k hk => by cases hk; exact hg)
  go_wp2
  go_ret
  exact ⟨r, rfl, hrw, hb3⟩
end Go.Proofs.Ytlafjmghfnlaoab
