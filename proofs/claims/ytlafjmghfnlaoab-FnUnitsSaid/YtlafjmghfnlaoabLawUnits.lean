/-
  For every two slices of bytes: FnUnits returns true, and the slices read behind the call as they read before. No condition.
-/
import Derived.Test.YtlafjmghfnlaoabUnits3
import Derived.Test.YtlafjmghfnlaoabSame
namespace Go.Proofs.Ytlafjmghfnlaoab.lawUnits
open Go.Proofs.Ytlafjmghfnlaoab Go.ChangeShapes Go.WideShapes Go.ChangeAt Go.RowKit

theorem of_bne {x : Option Ordering} (h : (x != some .eq) = false) : (x == some .eq) = true := by
  unfold bne at h
  simpa using h
theorem place_fin_ne {a : Nat} (h : FinB a) : a ≠ 9218868437227405312 := by
  rintro rfl
  unfold FinB rung at h
  omega
theorem ne_of_place {a : Nat} (h : place a < 9218868437227405312) : a ≠ 9218868437227405312 := by
  rintro rfl
  rw [placeI] at h
  omega
theorem ne_of_placeS {a : Nat} (h : placeS a < 2139095040) : a ≠ 2139095040 := by
  rintro rfl
  rw [placeIS] at h
  omega
set_option maxRecDepth 20000 in
set_option maxHeartbeats 8000000 in
theorem walk (A : Option Addr) (c : Nat) (zs : List Int) (B : Option Addr) (d : Nat) (ys : List Int) (W : World) (hr : Rd W W.heap.size A (bs zs)) (hw : Bytes zs) (hs : Rd W W.heap.size B (bs ys)) (hv : Bytes ys) :
    Calls Try.prog 5 #[.slice A zs.length c, .slice B ys.length d] W fun e w' => e = .returned (.bool true) ∧ Below W.heap.size W w' := by
  by_cases hl : 3000 < zs.length ∨ 3000 < ys.length
  · have hlong : (decide (3000 < (zs.length : Int)) || decide (3000 < (ys.length : Int))) = true := by
      rcases hl with h | h
      · rw [decide_eq_true (show 3000 < (zs.length : Int) by omega)]; rfl
      · rw [decide_eq_true (show 3000 < (ys.length : Int) by omega), Bool.or_true]
    go_enter Try.func5, Try.ntmps5
    go_wp2_with fail
    refine (a2Long_ok _ _ _ _ _ _ _).mono ?_
    rintro e w2 ⟨rfl, rfl⟩
    rw [hlong]
    go_wp2
    go_ret
    exact ⟨rfl, Below.refl _ _⟩
  have hshort : (decide (3000 < (zs.length : Int)) || decide (3000 < (ys.length : Int))) = false := by
    rw [decide_eq_false (show ¬ 3000 < (zs.length : Int) by omega), decide_eq_false (show ¬ 3000 < (ys.length : Int) by omega)]; rfl
  have hng := fun b => run_neg (P := Try.prog) b
  have hngS : ∀ (b : Nat) (w : World), Sem.run Try.prog (Op.unary .neg (.float .f32 b)) w = .ok (.float .f32 (Op.negFloat .f32 b)) w := fun _ _ => rfl
  go_enter Try.func5, Try.ntmps5
  go_wp2_with fail
  refine (a2Long_ok _ _ _ _ _ _ _).mono ?_
  rintro e w2 ⟨rfl, rfl⟩
  rw [hshort]
  go_wp2_with fail
  refine (a2float_ok A c zs W hr hw (by omega)).mono ?_
  rintro e w2 ⟨a, rfl, ha, hb2⟩
  go_wp2_with fail
  refine (a2float_ok B d ys w2 ((hs.below hb2 (Nat.le_refl _)).more hb2.size) hv (by omega)).mono ?_
  rintro e w3 ⟨b, rfl, hb, hb3⟩
  have hB3 : Below W.heap.size W w3 := hb2.trans (hb3.mono hb2.size)
  clear hb2 hb3 hr hs hw hv hl hshort
  by_cases hnan : V a = none ∨ V b = none
  · have hba : V b = none ∨ V a = none := hnan.symm
    go_wp2_with fail
    refine (unitsNaN_ok a b _ hnan).mono ?_
    rintro e w4 ⟨rfl, rfl⟩
    go_wp2_with fail
    refine (unitsNaN_ok b a _ hba).mono ?_
    rintro e w4 ⟨rfl, rfl⟩
    by_cases h1 : V a = none
    · have hq : ford (V a) (V a) = none := by rw [h1]; rfl
      clear hnan hba h1
      go_wp2
      go_ret
      exact ⟨rfl, hB3⟩
    · have h2 : V b = none := hnan.resolve_left h1
      have hq : ford (V b) (V b) = none := by rw [h2]; rfl
      clear hnan hba h1 h2
      go_wp2
      all_goals go_ret
      all_goals exact ⟨rfl, hB3⟩
  have na : NumB a := num_of_nan (by
    cases h : nanB .f64 a with
    | false => rfl
    | true => exact absurd (.inl (V_none h)) hnan)
  have nb : NumB b := num_of_nan (by
    cases h : nanB .f64 b with
    | false => rfl
    | true => exact absurd (.inr (V_none h)) hnan)
  clear hnan
  have hqa := ford_self ha na
  have hqb := ford_self hb nb
  have hz : (unitsZ (place a) (place b) == 0) = (ford (V a) (V b) == some .eq) := by
    rw [ford_place ha hb na nb]
    by_cases h : place a = place b
    · rw [cmp_eq h, units_zero.2 h]; rfl
    · rw [beq_eq_false_iff_ne.2 (fun e => h (units_zero.1 e))]
      rcases Int.lt_or_gt_of_ne h with h | h
      · rw [cmp_lt h]; rfl
      · rw [cmp_gt h]; rfl
  have hpos := units_nonneg (place a) (place b)
  have hU1 := fun w => unitsApart_ok a b w ha na hb nb
  have hU2 := fun w => unitsApart_ok b a w hb nb ha na
  rw [units_symm (place b) (place a)] at hU2
  have HU1 := hid hU1
  have HU2 := hid hU2
  clear hU1 hU2
  generalize unitsZ (place a) (place b) = n at *
  have nega := wf_neg ha
  have nnega := num_neg ha na
  have pnega := place_neg ha
  have HN1 := hid (fun w => nextUp_ok a w ha na)
  have HN2 := hid (fun w => nextUp_ok (Op.negFloat .f64 a) w nega nnega)
  cases hsub : (ford (fop .sub (V a) (V a)) (V 0) == some .eq) with
  | false =>
    have hsub' : (ford (fop .sub (V a) (V a)) (V 0) != some .eq) = true := by unfold bne; rw [hsub]; rfl
    clear nega nnega pnega
    go_wp2_with fail
    refine (HU1.out _).mono ?_
    rintro e w4 ⟨rfl, rfl⟩
    go_wp2_with fail
    refine (HU2.out _).mono ?_
    rintro e w4 ⟨rfl, rfl⟩
    go_wp2_with fail
    refine (HN1.out _).mono ?_
    rintro e w4 ⟨rfl, rfl⟩
    go_wp2_with fail
    refine (HN2.out _).mono ?_
    rintro e w4 ⟨rfl, rfl⟩
    go_wp2
    go_ret
    exact ⟨rfl, hB3.drewN _⟩
  | true =>
    have hsub' : (ford (fop .sub (V a) (V a)) (V 0) != some .eq) = false := by unfold bne; rw [hsub]; rfl
    have hfin := fin_of_sub ha na hsub
    obtain ⟨pf1, pf2⟩ := place_fin hfin
    obtain ⟨pu, nu, wu⟩ := upB_place ha na (place_fin_ne hfin)
    obtain ⟨px, nx, wx⟩ := upB_place nega nnega (ne_of_place (by rw [pnega]; omega))
    have pd := place_neg wx
    have nd := num_neg wx nx
    have wd := wf_neg wx
    rw [px, pnega] at pd
    obtain ⟨pv, nv, wv⟩ := upB_place wd nd (ne_of_place (by rw [pd]; omega))
    have HN3 := hid (fun w => nextUp_ok _ w wd nd)
    have hK := fun w => unitsApart_ok a _ w ha na wu nu
    have hL := fun w => unitsApart_ok _ a w wd nd ha na
    rw [pu, units_one] at hK
    have hdn : unitsZ (-(-place a + 1)) (place a) = 1 := by
      have h1 := units_one (-(-place a + 1))
      rw [show -(-place a + 1) + 1 = place a by omega] at h1
      exact h1
    rw [pd, hdn] at hL
    have HK := hid hK
    have HL := hid hL
    have f1 := ford_gt wu ha nu na (by omega)
    have f2 := ford_lt wd ha nd na (by omega)
    have f3 := ford_eq wv ha nv na (by omega)
    clear hdn hK hL pf1 pf2 pu nu wu px nx wx pd nd wd pv nv wv nega nnega pnega hfin hsub
    generalize upB (Op.negFloat .f64 (upB (Op.negFloat .f64 a))) = v at *
    go_wp2_with fail
    refine (HU1.out _).mono ?_
    rintro e w4 ⟨rfl, rfl⟩
    go_wp2_with fail
    refine (HU2.out _).mono ?_
    rintro e w4 ⟨rfl, rfl⟩
    go_wp2_with fail
    refine (HN1.out _).mono ?_
    rintro e w4 ⟨rfl, rfl⟩
    go_wp2_with fail
    refine (HN2.out _).mono ?_
    rintro e w4 ⟨rfl, rfl⟩
    go_wp2_with fail
    refine (HK.out _).mono ?_
    rintro e w4 ⟨rfl, rfl⟩
    go_wp2_with fail
    refine (HL.out _).mono ?_
    rintro e w4 ⟨rfl, rfl⟩
    go_wp2_with fail
    refine (HN3.out _).mono ?_
    rintro e w4 ⟨rfl, rfl⟩
    go_wp2_with fail
    refine (nextUpAny_ok _ _ (Wf_narrow _ ha)).mono ?_
    rintro e w4 ⟨r, rfl, hr, m, rfl⟩
    clear HU1 HU2 HN1 HN2 HN3 HK HL
    have hcc := Wf_narrow (b := a)
    go_wp2_with fail
    · go_ret
      exact ⟨rfl, hB3.drewN _⟩
    · obtain ⟨nc, fc⟩ := fin_of_subS (hcc (w3.drewN (fdrew .sub .f64 a a)) ha) _ (of_bne (by assumption))
      have hrr := hr nc
      have wc := hcc (w3.drewN (fdrew .sub .f64 a a)) ha
      clear hr hcc
      subst hrr
      generalize wres .f64 a .f32 (w3.drewN (fdrew .sub .f64 a a)) = q at *
      obtain ⟨p1, p2⟩ := place_finS fc
      obtain ⟨pu, nu, wu⟩ := upB_placeS wc nc (ne_of_placeS p2)
      have wn := (neg_partsS wu).1
      have nn := num_negS wu nu
      have pn := place_negS wu
      obtain ⟨px, nx, wx⟩ := upB_placeS wn nn (ne_of_placeS (by rw [pn]; omega))
      have wd := (neg_partsS wx).1
      have nd := num_negS wx nx
      have pd := place_negS wx
      have hU := fun w => narrowApart_ok q _ w wc nc wu nu
      rw [pu, units_one] at hU
      have HU := hid hU
      have HN := hid (fun w => nextUpS_ok _ w wn nn)
      have g1 := order_gt wu wc nu nc (by omega)
      have g2 := order_eq wd wc nd nc (by omega)
      clear hU p1 p2 pu nu wu wn nn pn px nx wx wd nd pd nc wc fc
      refine (HU.out _).mono ?_
      rintro e w4 ⟨rfl, rfl⟩
      go_wp2_with fail
      refine (HN.out _).mono ?_
      rintro e w4 ⟨rfl, m2, rfl⟩
      go_wp2
      go_ret
      exact ⟨rfl, hB3.drewN _⟩
theorem own : ownKnob Try.prog.godebug = none := by kernel_rfl
theorem laidOut : laidOutB Try.prog = true := by kernel_rfl
theorem params_ok : ∀ t ∈ Try.f5.params.toList, Try.prog.readableRec t = true ∧ t < Try.prog.types.size := by
  have h : (Try.f5.params.toList.all fun t => Try.prog.readableRec t && decide (t < Try.prog.types.size)) = true := by kernel_rfl
  intro t ht
  have := List.all_eq_true.1 h t ht
  simpa using this
theorem cells_u8 : Try.prog.cellsOf 5 = 1 := by kernel_rfl
set_option maxRecDepth 100000 in
theorem lifted (os : Os) (started : os.Started) (H : Type) (enc : TypeId × Value → H) :
    ReturnsInHanded {} Try.checked os 5 .any (Rows.fnUnitsSpec.pre6 enc Try.prog Try.f5 Rows.fnUnitsRow.domain false) (Rows.fnUnitsSpec.post enc Try.prog Try.f5 false true false false) := by
  refine returnsInHanded_of_change (C := Try.checked) own started (by kernel_rfl) Try.func5
    (ChangeSpec.witness6 (enc := enc) (C := Try.checked) false ⟨#[], #[.slice none 0 0, .slice none 0 0], []⟩ 8 (by kernel_rfl) (by kernel_rfl) (by kernel_rfl) (by kernel_rfl)) ?_
  intro W base args ds gs before hval0 hW _ _
  have hval : ∀ (j : Nat) t v, Try.f5.params[j]? = some t → args[j]? = some v → Value.okWide Try.prog W .any base t v := hval0
  have hW' := hW
  obtain ⟨p, q, hA0, hV, rfl, hfz, hnd⟩ := hW
  have hA : DataW.TrodAll enc Try.prog W 0 (fun _ => true) true Try.f5.params.toList args.toList ds p := hA0
  rw [Try.params5] at hA hval
  obtain ⟨v0, vs0, d0, ds0, p0, q0, hargs, rfl, rfl, h0, r0⟩ := trodAll_cons hA
  obtain ⟨v1, vs1, d1, ds1, p1, q1, rfl, rfl, rfl, h1, r1⟩ := trodAll_cons r0
  obtain ⟨rfl, rfl, rfl⟩ := trodAll_nil r1
  obtain rfl : args = #[v0, v1] := by cases args; simp_all
  obtain ⟨A0, c0, zs0, rfl, hr0, hw0, _⟩ := open_bytes Try.underlying22 Try.underlying5 cells_u8 (hval 0 22 v0 rfl rfl) h0
  obtain ⟨A1, c1, zs1, rfl, hr1, hw1, _⟩ := open_bytes Try.underlying22 Try.underlying5 cells_u8 (hval 1 22 v1 rfl rfl) h1
  refine (walk A0 c0 zs0 A1 c1 zs1 W hr0 hw0 hr1 hw1).mono fun e W' ⟨he, hb⟩ => ?_
  exact ⟨_, he, law_post laidOut params_ok rfl Try.underlying4 rfl rfl hW' hb⟩

theorem proved : Rows.FnUnitsSaid :=
  OpenClaim.holds_of_wide 5 Try.f5 rfl rfl rfl rfl rfl rfl rfl ⟨rfl, rfl, rfl, rfl, rfl⟩ rfl rfl rfl rfl rfl (by kernel_rfl) Try.func5 (by kernel_rfl)
    (of_decide_eq_true (by kernel_rfl)) (by unfold Func.isWrapper; rw [if_neg (of_decide_eq_false (by kernel_rfl))]; exact ⟨rfl, rfl⟩)
    (fun os started H enc _ => lifted os started H enc)
end Go.Proofs.Ytlafjmghfnlaoab.lawUnits
