/-
  What is finite; the next greater float32 of what is no number.
-/
import Derived.Test.YtlafjmghfnlaoabUnits2
namespace Go.Proofs.Ytlafjmghfnlaoab
open Go.RowKit

theorem inf_bits {a : Nat} (ha : Wf a) (na : NumB a) (h : ¬ FinB a) : a = 9218868437227405312 ∨ a = 18442240474082181120 := by
  have := wf_lt ha
  unfold NumB rung at na
  unfold FinB rung at h
  omega
theorem fin_of_sub {a : Nat} (ha : Wf a) (na : NumB a) (h : (ford (fop .sub (V a) (V a)) (V 0) == some .eq) = true) : FinB a := by
  by_cases hf : FinB a
  · exact hf
  · exfalso
    rcases inf_bits ha na hf with rfl | rfl
    · exact absurd h (by decide +kernel)
    · exact absurd h (by decide +kernel)
theorem inf_bitsS {a : Nat} (ha : Wf32 a) (na : NumBS a) (h : ¬ FinBS a) : a = 2139095040 ∨ a = 4286578688 := by
  unfold Wf32 at ha
  unfold NumBS rungS at na
  unfold FinBS rungS at h
  omega
theorem fin_of_subS {c : Nat} (hc : Wf32 c) (w : World) (h : (FloatKind.f32.format.order (fres .sub .f32 c c w) 0 == some .eq) = true) : NumBS c ∧ FinBS c := by
  have e : FloatKind.f32.format.order (fres .sub .f32 c c w) 0 = fordk .f32 (fopk .f32 .sub (V32 c) (V32 c)) (V32 0) := by
    rw [← V32_fres .sub c c w]
    exact fordk_V .f32 _ _
  rw [e] at h
  cases hn : nanB .f32 c with
  | true =>
    rw [V32_none hn] at h
    exact absurd h (by decide +kernel)
  | false =>
    have na := num_of_nanS hn
    refine ⟨na, ?_⟩
    by_cases hf : FinBS c
    · exact hf
    · exfalso
      rcases inf_bitsS hc na hf with rfl | rfl
      · exact absurd h (by decide +kernel)
      · exact absurd h (by decide +kernel)
set_option maxRecDepth 20000 in
set_option maxHeartbeats 400000 in
theorem isNaNt_ok (a : Nat) (w : World) (hs : ford (V a) (V a) = none) : Calls Try.prog 198 #[.float .f64 a] w fun e w' => e = .returned (.bool true) ∧ w = w' := by
  go_enter Try.func198, Try.ntmps198
  go_wp2
  go_ret
  exact ⟨rfl, rfl⟩
set_option maxRecDepth 20000 in
set_option maxHeartbeats 400000 in
theorem nextNaNS_ok (a : Nat) (w : World) (ha : Wf32 a) (hn : nanB .f32 a = true) : Calls Try.prog 119 #[.float .f32 a, .float .f32 2139095040] w fun e w' => ∃ r, e = .returned (.float .f32 r) ∧ Wf32 r ∧ ∃ m, w.drewN m = w' := by
  have hws : ∀ w, ford (V (wres .f32 a .f64 w)) (V (wres .f32 a .f64 w)) = none := fun w => by rw [V_wide a w ha, V32_none hn]; rfl
  go_enter Try.func119, Try.ntmps119
  go_wp2_with (first | (go_at_call 198; refine (isNaNt_ok _ _ (hws _)).mono ?_; rintro e w2 ⟨rfl, rfl⟩) | (go_at_call 195; refine (nan_ok _).mono ?_; rintro e w2 ⟨r, rfl, hr, rfl⟩))
  go_ret
  exact ⟨_, rfl, Wf_narrow _ hr, _, rfl⟩
set_option maxRecDepth 20000 in
set_option maxHeartbeats 400000 in
theorem nextUpAny_ok (a : Nat) (w : World) (ha : Wf32 a) : Calls Try.prog 36 #[.float .f32 a] w fun e w' => ∃ r, e = .returned (.float .f32 r) ∧ (NumBS a → r = upBS a) ∧ ∃ m, w.drewN m = w' := by
  cases hn : nanB .f32 a with
  | false => exact (nextUpS_ok a w ha (num_of_nanS hn)).mono (by rintro e w2 ⟨rfl, m, rfl⟩; exact ⟨_, rfl, fun _ => rfl, m, rfl⟩)
  | true =>
    have hni := narrowI
    have hno : ¬ NumBS a := fun na => by rw [nan_of_numS ha na] at hn; cases hn
    go_enter Try.func36, Try.ntmps36
    go_wp2_with fail
    refine (infUp_ok _).mono ?_
    rintro e w2 ⟨rfl, rfl⟩
    go_wp2_with fail
    refine (nextNaNS_ok a _ ha hn).mono ?_
    rintro e w2 ⟨r, rfl, _, m, rfl⟩
    go_wp2
    go_ret
    exact ⟨_, rfl, fun na => absurd na hno, _, rfl⟩
end Go.Proofs.Ytlafjmghfnlaoab
