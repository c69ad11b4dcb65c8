/-
  For every float64: FnExactWrapPhase returns true. No condition.
-/
import Derived.Test.YtlafjmghfnlaoaaWrap
import Derived.Test.YtlafjmghfnlaoaaEnd
namespace Go.Proofs.Ytlafjmghfnlaoaa.lawWrapPhase
open Go.Proofs.Ytlafjmghfnlaoaa Go.ChangeShapes Go.WideShapes Go.ChangeAt Go.RowKit

set_option maxRecDepth 20000 in
set_option maxHeartbeats 400000 in
theorem walk (x : Nat) (W : World) (hw : Wf x) :
    Calls Try.prog 5 #[.float .f64 x] W fun e w' => e = .returned (.bool true) ∧ Below W.heap.size W w' := by
  go_enter Try.func5, Try.ntmps5
  go_wp2_with fail
  refine (specWrap_ok x W hw).mono ?_
  rintro e w2 ⟨r2, n2, rfl, hr2, hw2, rfl⟩
  have HR2 := hid hr2
  clear hr2
  go_wp2_with fail
  refine (implWrap_ok x _ hw).mono ?_
  rintro e w3 ⟨r3, n3, rfl, hr3, hw3, rfl⟩
  have HR3 := hid hr3
  clear hr3
  go_wp2_with fail
  refine (sameFloat_ok r3 r2 _).mono ?_
  rintro e w5 ⟨rfl, n5, rfl⟩
  rw [sameF_of_eq (HR3.out.trans HR2.out.symm)]
  go_wp2
  go_ret
  exact ⟨rfl, (Below.refl _ _).drewN _⟩
theorem own : ownKnob Try.prog.godebug = none := by kernel_rfl
theorem laidOut : laidOutB Try.prog = true := by kernel_rfl
theorem params_ok : ∀ t ∈ Try.f5.params.toList, Try.prog.readableRec t = true ∧ t < Try.prog.types.size := by
  have h : (Try.f5.params.toList.all fun t => Try.prog.readableRec t && decide (t < Try.prog.types.size)) = true := by kernel_rfl
  intro t ht
  have := List.all_eq_true.1 h t ht
  simpa using this
set_option maxRecDepth 100000 in
theorem lifted (os : Os) (started : os.Started) (H : Type) (enc : TypeId × Value → H) :
    ReturnsInHanded {} Try.checked os 5 .any (Rows.fnExactWrapPhaseSpec.pre6 enc Try.prog Try.f5 Rows.fnExactWrapPhaseRow.domain false) (Rows.fnExactWrapPhaseSpec.post enc Try.prog Try.f5 false true false false) := by
  refine returnsInHanded_of_change (C := Try.checked) own started (by kernel_rfl) Try.func5
    (ChangeSpec.witness6 (enc := enc) (C := Try.checked) false ⟨#[], #[.float .f64 0], []⟩ 8 (by kernel_rfl) (by kernel_rfl) (by kernel_rfl) (by kernel_rfl)) ?_
  intro W base args ds gs before hval0 hW _ _
  have hval : ∀ (j : Nat) t v, Try.f5.params[j]? = some t → args[j]? = some v → Value.okWide Try.prog W .any base t v := hval0
  have hW' := hW
  obtain ⟨p, q, hA0, hV, rfl, hfz, hnd⟩ := hW
  have hA : DataW.TrodAll enc Try.prog W 0 (fun _ => true) true Try.f5.params.toList args.toList ds p := hA0
  rw [Try.params5] at hA hval
  obtain ⟨v0, vs0, d0, ds0, p0, q0, hargs, rfl, rfl, h0, r0⟩ := trodAll_cons hA
  obtain ⟨rfl, rfl, rfl⟩ := trodAll_nil r0
  obtain rfl : args = #[v0] := by cases args; simp_all
  obtain ⟨x0, rfl, _, _, hx0⟩ := open_float Try.underlying23 (hval 0 23 v0 rfl rfl) h0
  have hw0 : Wf x0 := by simpa [Lit.wf, Wf] using hx0
  refine (walk x0 W hw0).mono fun e W' ⟨he, hb⟩ => ?_
  exact ⟨_, he, law_post laidOut params_ok rfl Try.underlying4 rfl rfl hW' hb⟩

theorem proved : Rows.FnExactWrapPhaseSaid :=
  OpenClaim.holds_of_wide 5 Try.f5 rfl rfl rfl rfl rfl rfl rfl ⟨rfl, rfl, rfl, rfl, rfl⟩ rfl rfl rfl rfl rfl (by kernel_rfl) Try.func5 (by kernel_rfl)
    (of_decide_eq_true (by kernel_rfl)) (by unfold Func.isWrapper; rw [if_neg (of_decide_eq_false (by kernel_rfl))]; exact ⟨rfl, rfl⟩)
    (fun os started H enc _ => lifted os started H enc)
end Go.Proofs.Ytlafjmghfnlaoaa.lawWrapPhase
