/-
  For every plan and every int64: FnExactNeededFor returns true, and the plan reads behind the call as it read before; the table of forms is as its initialiser lays it (the card's tie).
-/
import Derived.Test.YtlafjmghfnlaoacDoorNeedI
import Derived.Test.YtlafjmghfnlaoacDoorEndP
import Derived.Test.YtlafjmghfnlaoacDoorEndF
import Derived.Test.YtlafjmghfnlaoacDoorCards
import Derived.Test.YtlafjmghfnlaoacDoorNgc
namespace Go.Proofs.YtlafjmghfnlaoacDoor.lawNeededFor
open Go.Proofs.YtlafjmghfnlaoacDoor Go.ChangeShapes Go.WideShapes Go.RowKit

/-- a copy of a plan in memory of its own -/
def PlC (ds : List SD) (v : Value) (w : World) : Prop := ∃ g es, v = plV (some ⟨g, 0, none⟩) ds.length ds.length ∧ sts es = sts ds ∧ RdS w w.heap.size (some ⟨g, 0, none⟩) es
theorem PlC.gr {ds : List SD} {v : Value} {w w' : World} (h : PlC ds v w) (hg : Gr w w') : PlC ds v w' := by
  obtain ⟨g, es, e, hs, hk⟩ := h
  exact ⟨g, es, e, hs, (hk.below hg (Nat.le_refl _)).more (Below.size hg)⟩
set_option maxRecDepth 20000 in
set_option maxHeartbeats 400000 in
theorem walk_short (ds : List SD) (A : Option Addr) (c bt ot ct : Nat) (z : Int) (W : World) (hf : Forms W bt ot ct) (hr : RdS W W.heap.size A ds) (b k : Int)
    (hS : ∀ g es w, sts es = sts ds → RdS w w.heap.size (some ⟨g, 0, none⟩) es → Calls Tryd.prog 22 #[plV (some ⟨g, 0, none⟩) ds.length ds.length, .int .i64 z] w fun e w' => e = .returned (.tuple #[.int .i64 b, .int .i64 k]) ∧ Below w.heap.size w w')
    (hI : ∀ g es w, Forms w bt ot ct → sts es = sts ds → RdS w w.heap.size (some ⟨g, 0, none⟩) es → Calls Tryd.prog 23 #[plV (some ⟨g, 0, none⟩) ds.length ds.length, .int .i64 z] w fun e w' => e = .returned (.tuple #[.int .i64 b, .int .i64 k]) ∧ Below w.heap.size w w')
    (x : Int) (hx : lessS 1048576 ds = x) (hx0 : 0 ≤ x) (hsz : ∀ w, RdS w w.heap.size A ds → Calls Tryd.prog 13 #[plV A ds.length c, .int .i64 1048576] w fun e w' => e = .returned (.int .i64 x) ∧ Below w.heap.size w w') :
    Calls Tryd.prog 7 #[plV A ds.length c, .int .i64 z] W fun e w' => e = .returned (.bool true) ∧ Below W.heap.size W w' := by
  have hfit : Fits ds := fits_of (left := 1048576) (by omega) (by omega)
  have hO : Below W.heap.size W (W.alloc (.cells #[.slice A ds.length c] 33)) := below_box _ _
  have hSz : (W.alloc (.cells #[.slice A ds.length c] 33)).heap.size = W.heap.size + 1 := alloc_size _ _
  have hc0 := Bk.new W 33 #[.slice A ds.length c]
  have hx1 : decide (x < 0) = false := decide_eq_false (by omega)
  have HSZ := hid (hsz _ ((hr.below hO (Nat.le_refl _)).more hO.size))
  have HS := hid hS
  have HI := hid hI
  clear hsz hS hI hx
  unfold plV at HSZ HS HI ⊢
  go_enter Tryd.func7, Tryd.ntmps7
  go_wp2_with fail
  refine HSZ.out.mono ?_
  rintro e w2 ⟨rfl, hb2⟩
  have hB2 : Below W.heap.size W w2 := hO.trans (hb2.mono (by rw [hSz]; omega))
  have hk2 := hc0.below hb2 (by rw [hSz]; omega)
  have q0 := hk2.cell 0
  simp only [List.getElem?_cons_zero] at q0
  go_wp2_with fail
  refine (toPlan_ok A c ds w2 ((hr.below hB2 (Nat.le_refl _)).more hB2.size) hfit).mono ?_
  rintro e w3 ⟨g3, es3, rfl, hes3, hrs3, hb3⟩
  have hB3 := hB2.trans (hb3.mono hB2.size)
  have hk3 := hk2.below hb3 hk2.lt
  have r0 := hk3.cell 0
  simp only [List.getElem?_cons_zero] at r0
  go_wp2_with fail
  refine (HS.out g3 es3 w3 hes3 hrs3).mono ?_
  rintro e w4 ⟨rfl, hb4⟩
  have hB4 := hB3.trans (hb4.mono hB3.size)
  have hk4 := hk3.below hb4 hk3.lt
  have s0 := hk4.cell 0
  simp only [List.getElem?_cons_zero] at s0
  go_wp2_with fail
  refine (toPlan_ok A c ds w4 ((hr.below hB4 (Nat.le_refl _)).more hB4.size) hfit).mono ?_
  rintro e w5 ⟨g5, es5, rfl, hes5, hrs5, hb5⟩
  have hB5 := hB4.trans (hb5.mono hB4.size)
  have hk5 := hk4.below hb5 hk4.lt
  have t0 := hk5.cell 0
  simp only [List.getElem?_cons_zero] at t0
  unfold plV
  go_wp2_with fail
  have hx : Below w5.heap.size w5 (w5.alloc (.cells #[.slice (some ⟨g5, 0, none⟩) ds.length ds.length] 38)) := below_box _ _
  have hB6 := hB5.trans (hx.mono hB5.size)
  have hk6 := Bk.new w5 38 #[.slice (some ⟨g5, 0, none⟩) ds.length ds.length]
  have hrs6 := (hrs5.below hx (Nat.le_refl _)).more hx.size
  have hk6' := hk5.below hx hk5.lt
  generalize w5.alloc (.cells #[.slice (some ⟨g5, 0, none⟩) ds.length ds.length] 38) = w6 at *
  refine (HI.out g5 es5 w6 (hf.below hB6) hes5 hrs6).mono ?_
  rintro e w7 ⟨rfl, hb7⟩
  have hB7 := hB6.trans (hb7.mono hB6.size)
  have hk7 := hk6.below hb7 hk6.lt
  have hk7' := hk6'.below hb7 hk6'.lt
  have hrs7 := (hrs6.below hb7 (Nat.le_refl _)).more hb7.size
  have u0 := hk7.cell 0
  have v0 := hk7'.cell 0
  have hl1 := hk7.lt
  have hl2 := hk7'.lt
  simp only [List.getElem?_cons_zero] at u0 v0
  clear s0 t0 q0 r0
  have hf5 := fits_sts hfit hes5
  have T : ∀ wq, Gr w7 wq → Calls Tryd.prog 15 #[plV A ds.length c] wq fun e w8 => ∃ v, e = .returned v ∧ PlC ds v w8 ∧ Gr wq w8 := fun wq hq => by
    have hBq := hB7.trans (Below.mono hq hB7.size)
    refine (toPlan_ok A c ds wq ((hr.below hBq (Nat.le_refl _)).more hBq.size) hfit).mono ?_
    rintro e w8 ⟨g, es, rfl, he, hg, hb⟩
    exact ⟨_, rfl, ⟨g, es, rfl, he, hg⟩, hb⟩
  have Q : ∀ wq g es, Gr w7 wq → sts es = sts ds → RdS wq wq.heap.size (some ⟨g, 0, none⟩) es → Calls Tryd.prog 17 #[plV (some ⟨g5, 0, none⟩) ds.length ds.length, plV (some ⟨g, 0, none⟩) ds.length ds.length] wq fun e w8 => ∃ v, e = .returned v ∧ v = .bool true ∧ Gr wq w8 := fun wq g es hq he hg => by
    refine (eqPlan_ok (some ⟨g5, 0, none⟩) (some ⟨g, 0, none⟩) _ _ ds.length es5 es wq ((hrs7.below hq (Nat.le_refl _)).more (Below.size hq)) hg hf5 (fits_sts hfit he) (hes5.trans he.symm) (len_sts hes5) (len_sts he)).mono ?_
    rintro e w8 ⟨rfl, hb⟩
    exact ⟨_, rfl, rfl, hb⟩
  unfold plV at T Q
  have HT := hid T
  have HQ := hid Q
  clear T Q
  go_wp2_with fail
  refine wp_region_g' (fun f _ _ v w'' => (f = 15 → PlC ds v w'') ∧ (f = 17 → v = .bool true)) (by kernel_rfl) (by kernel_rfl) (by kernel_rfl) ?_
  repeat first
    | (refine g_factc 15 (PlC ds) rfl (by rintro d ⟨⟩ w <;> first | trivial | simp) rfl (fun K hK wq hwq holdq hfq => ?_); go_simp; refine ⟨HT.out wq hwq, fun v w2 hv hg2 => ⟨fun w3 hg3 => ?_, hK _ _ ?_⟩⟩; (exact hv.gr hg3); clear hK K)
    | (refine g_step (by rintro d ⟨⟩ w <;> first | trivial | simp) (fun K hK => ?_); go_simp; first | (refine hK _ ?_; clear hK K) | (refine g_in (fun wq hwq holdq hfq => ?_); go_simp; first | (refine hK _ ?_; clear hK K)))
  refine g_step (by rintro d ⟨⟩ w <;> first | trivial | simp) (fun K hK => ?_)
  go_simp
  refine g_in (fun wq hwq holdq hfq => ?_)
  go_simp
  obtain ⟨g8, es8, rfl, he8, hk8⟩ := hfq 41 (by decide) rfl
  refine ⟨HQ.out wq g8 es8 hwq he8 hk8, fun v w2 hv hg => ?_⟩
  subst hv
  refine hK _ ?_
  clear hK K
  repeat (refine g_step (by rintro d ⟨⟩ w <;> first | trivial | simp) (fun K hK => ?_); go_simp; first | (refine hK _ ?_; clear hK K) | (refine g_in (fun wq hwq holdq hfq => ?_); go_simp; first | (refine hK _ ?_; clear hK K)))
  refine g_nil (fun w9 hg9 => ?_)
  go_wp2
  go_ret
  exact ⟨rfl, hB7.trans (Below.mono hg9 hB7.size)⟩
set_option maxRecDepth 20000 in
set_option maxHeartbeats 400000 in
theorem walk_long (ds : List SD) (A : Option Addr) (c : Nat) (z : Int) (W : World) (hr : RdS W W.heap.size A ds) (x : Int) (hx0 : x < 0) (hsz : ∀ w, RdS w w.heap.size A ds → Calls Tryd.prog 13 #[plV A ds.length c, .int .i64 1048576] w fun e w' => e = .returned (.int .i64 x) ∧ Below w.heap.size w w') :
    Calls Tryd.prog 7 #[plV A ds.length c, .int .i64 z] W fun e w' => e = .returned (.bool true) ∧ Below W.heap.size W w' := by
  have hO : Below W.heap.size W (W.alloc (.cells #[.slice A ds.length c] 33)) := below_box _ _
  have hSz : (W.alloc (.cells #[.slice A ds.length c] 33)).heap.size = W.heap.size + 1 := alloc_size _ _
  have HSZ := hid (hsz _ ((hr.below hO (Nat.le_refl _)).more hO.size))
  clear hsz
  unfold plV at HSZ ⊢
  go_enter Tryd.func7, Tryd.ntmps7
  go_wp2_with fail
  refine HSZ.out.mono ?_
  rintro e w2 ⟨rfl, hb2⟩
  go_wp2
  go_ret
  exact ⟨rfl, hO.trans (hb2.mono (by rw [hSz]; omega))⟩

theorem walk (ds : List SD) (A : Option Addr) (c : Nat) (z : Int) (bt ot ct : Nat) (W : World) (hf : Forms W bt ot ct) (hr : RdS W W.heap.size A ds) (hm : ds.length ≤ maxLen) (hI : PlI ds) (_ : I64' z) :
    Calls Tryd.prog 7 #[plV A ds.length c, .int .i64 z] W fun e w' => e = .returned (.bool true) ∧ Below W.heap.size W w' := by
  by_cases hx : 0 ≤ lessS 1048576 ds
  · have hfit : Fits ds := fits_of (left := 1048576) (by omega) hx
    refine walk_short ds A c bt ot ct z W hf hr (needRes ds z).1 (needRes ds z).2 (fun g es w he hk => ?_) (fun g es w hF he hk => ?_) _ rfl hx (fun w hk => szPlan_is A c ds w hk hm)
    · have := specNeeded_ok (some ⟨g, 0, none⟩) ds.length es z w hk (fits_sts hfit he) (hI.sts he) _ _ (needRes_sts he z)
      rw [len_sts he] at this
      exact this
    · have := implNeeded_ok (some ⟨g, 0, none⟩) ds.length bt ot ct es z w hF hk (fits_sts hfit he) (hI.sts he) _ _ (needRes_sts he z)
      rw [len_sts he] at this
      exact this
  · exact walk_long ds A c z W hr _ (by omega) (fun w hk => szPlan_is A c ds w hk hm)
theorem own : ownKnob Tryd.prog.godebug = none := by kernel_rfl
theorem laidOut : laidOutB Tryd.prog = true := by kernel_rfl
theorem params_ok : ∀ t ∈ Tryd.f7.params.toList, Tryd.prog.readableRec t = true ∧ t < Tryd.prog.types.size := by
  have h : (Tryd.f7.params.toList.all fun t => Tryd.prog.readableRec t && decide (t < Tryd.prog.types.size)) = true := by kernel_rfl
  intro t ht
  have := List.all_eq_true.1 h t ht
  simpa using this
theorem forms_ok : Tryd.prog.readableRec 54 = true ∧ 54 < Tryd.prog.types.size := by
  have h : (Tryd.prog.readableRec 54 && decide (54 < Tryd.prog.types.size)) = true := by kernel_rfl
  simpa using h
theorem door_met (os : Os) (args : Array Value) : laidMetH Tryd.prog [("loop.example/g01155/impl.stepForms", Rows.laid_loop_example_g01155_impl_stepForms)] ((World.doorLaid Tryd.prog 400 os).forCall (fun _ _ => 0) ⟨#[], args, []⟩).memory :=
  laidMetH_of_parts3 (fuel := 8) (laidMet_of_run' 8 (by kernel_rfl) (by kernel_rfl)) (by kernel_rfl) (by kernel_rfl)
set_option maxRecDepth 100000 in
theorem lifted (os : Os) (started : os.Started) (H : Type) (enc : TypeId × Value → H) :
    ReturnsInHanded {} Tryd.checked os 7 .any (fun w args => (Rows.fnExactNeededForSpec.pre enc Tryd.prog Tryd.f7 [] false w args ∧ laidMetH Tryd.prog [("loop.example/g01155/impl.stepForms", Rows.laid_loop_example_g01155_impl_stepForms)] w) ∧ sizedMet enc Tryd.prog Tryd.f7 (OpenSpec.ofChange Rows.fnExactNeededForSpec) false w args)
      (Rows.fnExactNeededForSpec.post enc Tryd.prog Tryd.f7 false true false false) := by
  refine returnsInHanded_of_change_and (C := Tryd.checked) (X := fun w _ => laidMetH Tryd.prog [("loop.example/g01155/impl.stepForms", Rows.laid_loop_example_g01155_impl_stepForms)] w) (fun _ _ _ hh h => h.of_heap hh) own started (by kernel_rfl) Tryd.func7
    (ChangeSpec.witness_shaped (enc := enc) (C := Tryd.checked) (os := os) (X := fun w _ => laidMetH Tryd.prog [("loop.example/g01155/impl.stepForms", Rows.laid_loop_example_g01155_impl_stepForms)] w) false (World.doorLaid Tryd.prog 400 os) #[.agg #[.slice none 0 0], .int .i64 0] 8 rfl (World.shaped_of_RefB (by kernel_rfl) (by kernel_rfl)) (by kernel_rfl) (by kernel_rfl) (by kernel_rfl) (door_met os _)) ?_
  intro W base args ds gs before hval0 hW _ _ hL _
  have hval : ∀ (j : Nat) t v, Tryd.f7.params[j]? = some t → args[j]? = some v → Value.okWide Tryd.prog W .any base t v := hval0
  have hW' := hW
  obtain ⟨p, q, hA0, hV, rfl, hfz, hnd⟩ := hW
  have hA : DataW.TrodAll enc Tryd.prog W 0 (fun _ => true) true Tryd.f7.params.toList args.toList ds p := hA0
  rw [Tryd.params7] at hA hval
  obtain ⟨bt, ot, ct, hF⟩ := forms_of_laid hL
  obtain ⟨v0, vs0, d0, ds0, p0, q0, hargs, rfl, rfl, h0, r0⟩ := trodAll_cons hA
  obtain ⟨v1, vs1, d1, ds1, p1, q1, rfl, rfl, rfl, h1, r1⟩ := trodAll_cons r0
  obtain ⟨rfl, rfl, rfl⟩ := trodAll_nil r1
  obtain rfl : args = #[v0, v1] := by cases args; simp_all
  obtain ⟨ds0x, A0, c0, rfl, hr0, hm0, hI0⟩ := open_plan (hval 0 33 v0 rfl rfl) h0
  obtain ⟨z1, rfl, _, _, hz1⟩ := open_int Tryd.underlying2 (hval 1 2 v1 rfl rfl) h1
  have hi1 : I64' z1 := i64_of hz1
  refine (walk ds0x A0 c0 z1 bt ot ct W hF hr0 hm0 hI0 hi1).mono fun e W' ⟨he, hb⟩ => ?_
  exact ⟨_, he, law_post1 laidOut params_ok rfl Tryd.underlying4 rfl tForms gForms forms_ok (fun _ => rfl) hW' hb⟩

theorem row : Rows.FnExactNeededForSaid :=
  OpenClaim.holds_of_wide 7 Tryd.f7 rfl rfl rfl rfl rfl rfl rfl ⟨rfl, rfl, rfl, rfl, rfl⟩ rfl rfl rfl rfl rfl (by kernel_rfl) Tryd.func7 (by kernel_rfl)
    (of_decide_eq_true (by kernel_rfl)) (by unfold Func.isWrapper; rw [if_neg (of_decide_eq_false (by kernel_rfl))]; exact ⟨rfl, rfl⟩)
    (fun os started H enc _ => lifted os started H enc)
theorem proved : Rows.FnExactNeededForCardSaid :=
  Claim7.holds_tied_plain_at .later [] [.widerDeep] true Rows.fnExactNeededForCard.stood.harness false
    row (fun _ h => by cases h) (by kernel_rfl) (fun _ h => by cases h) fnExactNeededFor_row_tie rfl ⟨rfl, rfl⟩ (by kernel_rfl) rfl
    (fun f fn hf hfn => by
      obtain rfl : f = 7 := Option.some.inj ((show Tryd.prog.funcNamed "loop.example/g01155/laws.FnExactNeededFor" = some 7 by kernel_rfl).symm.trans hf) |>.symm
      obtain rfl : fn = Tryd.f7 := (Option.some.inj (Tryd.func7.symm.trans hfn)).symm
      exact ⟨by kernel_rfl, fun j t ht => by
        rw [Tryd.params7] at ht
        have hm : t ∈ [33, 2] := by simpa using Array.mem_of_getElem? ht
        have hall : ([33, 2].all fun u => !Tryd.prog.wantsStandIn u) = true := by kernel_rfl
        exact (show Tryd.prog.wantsStandIn t = false by simpa using List.all_eq_true.1 hall t hm)⟩)
    (by kernel_rfl)
end Go.Proofs.YtlafjmghfnlaoacDoor.lawNeededFor
