/-
  For every slice of float64s and every int64: FnExactPeakBetween returns true, and the slice reads behind the call as it read before. No condition.
-/
import Derived.Test.YtlafjmghfnlaoaaPeak
import Derived.Test.YtlafjmghfnlaoaaEnd
namespace Go.Proofs.Ytlafjmghfnlaoaa.lawPeakBetween
open Go.Proofs.Ytlafjmghfnlaoaa Go.ChangeShapes Go.WideShapes Go.ChangeAt Go.RowKit

set_option maxRecDepth 20000 in
set_option maxHeartbeats 400000 in
theorem walk (A : Option Addr) (c : Nat) (rs : List Nat) (k : Int) (W : World) (hr : Rd W W.heap.size A (fl rs)) (hw : Wfs rs) (_ : I64 k) :
    Calls Try.prog 6 #[.slice A rs.length c, .int .i64 k] W fun e w' => e = .returned (.bool true) ∧ Below W.heap.size W w' := by
  by_cases h : 1048576 < rs.length
  · go_enter Try.func6, Try.ntmps6
    go_wp2
    go_ret
    exact ⟨rfl, Below.refl _ _⟩
  have hn : rs.length ≤ 1048576 := by omega
  go_enter Try.func6, Try.ntmps6
  go_wp2_with fail
  refine (toFloat64S_ok A c rs W hr hn).mono ?_
  rintro e w1 ⟨g1, rfl, hk1, hg1, hb1⟩
  go_wp2_with fail
  refine (specPeak_ok _ _ rs k w1 hk1.rd hw hn).mono ?_
  rintro e w2 ⟨r2, s2, rfl, hr2, hs2, hw2, hw2', hb2⟩
  have HR2 := hid hr2
  have HS2 := hid hs2
  clear hr2 hs2
  go_wp2_with fail
  have hB2 : Below W.heap.size W w2 := hb1.trans (hb2.mono hb1.size)
  refine (toFloat64S_ok A c rs w2 ((hr.below hB2 (Nat.le_refl _)).more hB2.size) hn).mono ?_
  rintro e w3 ⟨g3, rfl, hk3, hg3, hb3⟩
  have hB3 : Below W.heap.size W w3 := hB2.trans (hb3.mono hB2.size)
  go_wp2_with fail
  refine (implPeak_ok _ _ rs k w3 hk3.rd hw hn).mono ?_
  rintro e w4 ⟨r4, s4, rfl, hr4, hs4, hw4, hw4', hb4⟩
  have HR4 := hid hr4
  have HS4 := hid hs4
  clear hr4 hs4
  have hB4 : Below W.heap.size W w4 := hB3.trans (hb4.mono hB3.size)
  go_wp2_with fail
  refine (sameFloat_ok r4 r2 w4).mono ?_
  rintro e w5 ⟨rfl, n5, rfl⟩
  rw [sameF_of_eq (HR4.out.trans HR2.out.symm)]
  go_wp2_with fail
  refine (sameFloat_ok s4 s2 _).mono ?_
  rintro e w6 ⟨rfl, n6, rfl⟩
  rw [sameF_of_eq (HS4.out.trans HS2.out.symm)]
  go_wp2_with fail
  have hB6 := hB4.drewN (n5 + n6)
  have hk6 := (hk3.below hb4 hk3.lt).drewN (n5 + n6)
  refine (toFloat64S_ok A c rs _ ((hr.below hB6 (Nat.le_refl _)).more hB6.size) hn).mono ?_
  rintro e w7 ⟨g7, rfl, hk7, hg7, hb7⟩
  have hB7 : Below W.heap.size W w7 := hB6.trans (hb7.mono hB6.size)
  go_wp2_with fail
  refine (eqFloat64S_ok _ _ _ _ rs rs w7 (hk6.below hb7 hk6.lt).rd hk7.rd hn hn).mono ?_
  rintro e w8 ⟨rfl, n8, rfl⟩
  rw [eqsF_refl]
  go_wp2
  go_ret
  exact ⟨rfl, hB7.drewN _⟩
theorem own : ownKnob Try.prog.godebug = none := by kernel_rfl
theorem laidOut : laidOutB Try.prog = true := by kernel_rfl
theorem params_ok : ∀ t ∈ Try.f6.params.toList, Try.prog.readableRec t = true ∧ t < Try.prog.types.size := by
  have h : (Try.f6.params.toList.all fun t => Try.prog.readableRec t && decide (t < Try.prog.types.size)) = true := by kernel_rfl
  intro t ht
  have := List.all_eq_true.1 h t ht
  simpa using this
theorem cells_f64 : Try.prog.cellsOf 23 = 1 := by kernel_rfl
set_option maxRecDepth 100000 in
theorem lifted (os : Os) (started : os.Started) (H : Type) (enc : TypeId × Value → H) :
    ReturnsInHanded {} Try.checked os 6 .any (Rows.fnExactPeakBetweenSpec.pre6 enc Try.prog Try.f6 Rows.fnExactPeakBetweenRow.domain false) (Rows.fnExactPeakBetweenSpec.post enc Try.prog Try.f6 false true false false) := by
  refine returnsInHanded_of_change (C := Try.checked) own started (by kernel_rfl) Try.func6
    (ChangeSpec.witness6 (enc := enc) (C := Try.checked) false ⟨#[], #[.slice none 0 0, .int .i64 0], []⟩ 8 (by kernel_rfl) (by kernel_rfl) (by kernel_rfl) (by kernel_rfl)) ?_
  intro W base args ds gs before hval0 hW _ _
  have hval : ∀ (j : Nat) t v, Try.f6.params[j]? = some t → args[j]? = some v → Value.okWide Try.prog W .any base t v := hval0
  have hW' := hW
  obtain ⟨p, q, hA0, hV, rfl, hfz, hnd⟩ := hW
  have hA : DataW.TrodAll enc Try.prog W 0 (fun _ => true) true Try.f6.params.toList args.toList ds p := hA0
  rw [Try.params6] at hA hval
  obtain ⟨v0, vs0, d0, ds0, p0, q0, hargs, rfl, rfl, h0, r0⟩ := trodAll_cons hA
  obtain ⟨v1, vs1, d1, ds1, p1, q1, rfl, rfl, rfl, h1, r1⟩ := trodAll_cons r0
  obtain ⟨rfl, rfl, rfl⟩ := trodAll_nil r1
  obtain rfl : args = #[v0, v1] := by cases args; simp_all
  obtain ⟨A0, c0, rs0, rfl, hr0, hw0, _⟩ := open_floats Try.underlying22 Try.underlying23 cells_f64 (hval 0 22 v0 rfl rfl) h0
  obtain ⟨z1, rfl, _, _, hz1⟩ := open_int Try.underlying2 (hval 1 2 v1 rfl rfl) h1
  have hi1 : I64 z1 := I64_of hz1
  refine (walk A0 c0 rs0 z1 W hr0 hw0 hi1).mono fun e W' ⟨he, hb⟩ => ?_
  exact ⟨_, he, law_post laidOut params_ok rfl Try.underlying4 rfl rfl hW' hb⟩

theorem proved : Rows.FnExactPeakBetweenSaid :=
  OpenClaim.holds_of_wide 6 Try.f6 rfl rfl rfl rfl rfl rfl rfl ⟨rfl, rfl, rfl, rfl, rfl⟩ rfl rfl rfl rfl rfl (by kernel_rfl) Try.func6 (by kernel_rfl)
    (of_decide_eq_true (by kernel_rfl)) (by unfold Func.isWrapper; rw [if_neg (of_decide_eq_false (by kernel_rfl))]; exact ⟨rfl, rfl⟩)
    (fun os started H enc _ => lifted os started H enc)
end Go.Proofs.Ytlafjmghfnlaoaa.lawPeakBetween
