/-
  For every slice of float64s: FnExactCentroidOf returns true, and the slice reads behind the call as it read before. No condition.
-/
import Derived.Test.YtlafjmghfnlaoaaCentroid
import Derived.Test.YtlafjmghfnlaoaaEnd
namespace Go.Proofs.Ytlafjmghfnlaoaa.lawCentroidOf
open Go.Proofs.Ytlafjmghfnlaoaa Go.ChangeShapes Go.WideShapes Go.ChangeAt Go.RowKit

theorem own : ownKnob Try.prog.godebug = none := by kernel_rfl
theorem laidOut : laidOutB Try.prog = true := by kernel_rfl
theorem params_ok : ∀ t ∈ Try.f3.params.toList, Try.prog.readableRec t = true ∧ t < Try.prog.types.size := by
  have h : (Try.f3.params.toList.all fun t => Try.prog.readableRec t && decide (t < Try.prog.types.size)) = true := by kernel_rfl
  intro t ht
  have := List.all_eq_true.1 h t ht
  simpa using this
theorem cells_f64 : Try.prog.cellsOf 23 = 1 := by kernel_rfl

set_option maxRecDepth 20000 in
set_option maxHeartbeats 400000 in
theorem walk_long (A : Option Addr) (c : Nat) (rs : List Nat) (W : World) (h : 1048576 < rs.length) :
    Calls Try.prog 3 #[.slice A rs.length c] W fun e w' => e = .returned (.bool true) ∧ Below W.heap.size W w' := by
  go_enter Try.func3, Try.ntmps3
  go_wp2
  go_ret
  exact ⟨rfl, Below.refl _ _⟩
set_option maxRecDepth 20000 in
set_option maxHeartbeats 400000 in
theorem walk_short (A : Option Addr) (c : Nat) (rs : List Nat) (W : World) (hr : Rd W W.heap.size A (fl rs)) (hw : Wfs rs) (h : ¬ 1048576 < rs.length) :
    Calls Try.prog 3 #[.slice A rs.length c] W fun e w' => e = .returned (.bool true) ∧ Below W.heap.size W w' := by
  have hn : rs.length ≤ 1048576 := by omega
  go_enter Try.func3, Try.ntmps3
  go_wp2_with fail
  refine (toFloat64S_ok A c rs W hr hn).mono ?_
  rintro e w1 ⟨g1, rfl, hk1, hg1, hb1⟩
  go_wp2_with fail
  refine (specCentroid_ok _ _ rs w1 hk1.rd hw hn).mono ?_
  rintro e w2 ⟨r2, rfl, hr2, hw2, hb2⟩
  have HR2 := hid hr2
  clear hr2
  go_wp2_with fail
  have hB2 : Below W.heap.size W w2 := hb1.trans (hb2.mono hb1.size)
  refine (toFloat64S_ok A c rs w2 ((hr.below hB2 (Nat.le_refl _)).more hB2.size) hn).mono ?_
  rintro e w3 ⟨g3, rfl, hk3, hg3, hb3⟩
  have hB3 : Below W.heap.size W w3 := hB2.trans (hb3.mono hB2.size)
  go_wp2_with fail
  refine (implCentroid_ok _ _ rs w3 hk3.rd hw hn).mono ?_
  rintro e w4 ⟨r4, rfl, hr4, hw4, hb4⟩
  have HR4 := hid hr4
  clear hr4
  have hB4 : Below W.heap.size W w4 := hB3.trans (hb4.mono hB3.size)
  go_wp2_with fail
  refine (sameFloat_ok r4 r2 w4).mono ?_
  rintro e w5 ⟨rfl, n5, rfl⟩
  rw [sameF_of_eq (HR4.out.trans HR2.out.symm)]
  have hk5 := (hk3.below hb4 hk3.lt).drewN n5
  have hB5 := hB4.drewN n5
  go_wp2_with fail
  refine (toFloat64S_ok A c rs (w4.drewN n5) ((hr.below hB5 (Nat.le_refl _)).more hB5.size) hn).mono ?_
  rintro e w6 ⟨g6, rfl, hk6, hg6, hb6⟩
  have hB6 : Below W.heap.size W w6 := hB5.trans (hb6.mono hB5.size)
  go_wp2_with fail
  refine (eqFloat64S_ok _ _ _ _ rs rs w6 (hk5.below hb6 hk5.lt).rd hk6.rd hn hn).mono ?_
  rintro e w7 ⟨rfl, n7, rfl⟩
  rw [eqsF_refl]
  go_wp2
  go_ret
  exact ⟨rfl, hB6.drewN _⟩
theorem walk (A : Option Addr) (c : Nat) (rs : List Nat) (W : World) (hr : Rd W W.heap.size A (fl rs)) (hw : Wfs rs) :
    Calls Try.prog 3 #[.slice A rs.length c] W fun e w' => e = .returned (.bool true) ∧ Below W.heap.size W w' := by
  by_cases h : 1048576 < rs.length
  · exact walk_long A c rs W h
  · exact walk_short A c rs W hr hw h

set_option maxRecDepth 100000 in
theorem lifted (os : Os) (started : os.Started) (H : Type) (enc : TypeId × Value → H) :
    ReturnsInHanded {} Try.checked os 3 .any (Rows.fnExactCentroidOfSpec.pre6 enc Try.prog Try.f3 Rows.fnExactCentroidOfRow.domain false) (Rows.fnExactCentroidOfSpec.post enc Try.prog Try.f3 false true false false) := by
  refine returnsInHanded_of_change (C := Try.checked) own started (by kernel_rfl) Try.func3
    (ChangeSpec.witness6 (enc := enc) (C := Try.checked) false ⟨#[], #[.slice none 0 0], []⟩ 8 (by kernel_rfl) (by kernel_rfl) (by kernel_rfl) (by kernel_rfl)) ?_
  intro W base args ds gs before hval0 hW _ _
  have hval : ∀ (j : Nat) t v, Try.f3.params[j]? = some t → args[j]? = some v → Value.okWide Try.prog W .any base t v := hval0
  have hW' := hW
  obtain ⟨p, q, hA0, hV, rfl, hfz, hnd⟩ := hW
  have hA : DataW.TrodAll enc Try.prog W 0 (fun _ => true) true Try.f3.params.toList args.toList ds p := hA0
  rw [Try.params3] at hA hval
  obtain ⟨v0, vs0, d0, ds0, p0, q0, hargs, rfl, rfl, h0, r0⟩ := trodAll_cons hA
  obtain ⟨rfl, rfl, rfl⟩ := trodAll_nil r0
  obtain rfl : args = #[v0] := by cases args; simp_all
  obtain ⟨A, c, rs, rfl, hr, hw, _⟩ := open_floats Try.underlying22 Try.underlying23 cells_f64 (hval 0 22 v0 rfl rfl) h0
  refine (walk A c rs W hr hw).mono fun e W' ⟨he, hb⟩ => ?_
  exact ⟨_, he, law_post laidOut params_ok rfl Try.underlying4 rfl rfl hW' hb⟩

theorem proved : Rows.FnExactCentroidOfSaid :=
  OpenClaim.holds_of_wide 3 Try.f3 rfl rfl rfl rfl rfl rfl rfl ⟨rfl, rfl, rfl, rfl, rfl⟩ rfl rfl rfl rfl rfl (by kernel_rfl) Try.func3 (by kernel_rfl)
    (of_decide_eq_true (by kernel_rfl)) (by unfold Func.isWrapper; rw [if_neg (of_decide_eq_false (by kernel_rfl))]; exact ⟨rfl, rfl⟩)
    (fun os started H enc _ => lifted os started H enc)
end Go.Proofs.Ytlafjmghfnlaoaa.lawCentroidOf
