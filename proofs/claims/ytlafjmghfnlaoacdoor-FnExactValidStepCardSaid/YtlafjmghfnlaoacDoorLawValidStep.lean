/-
  For every step: FnExactValidStep returns true, and the step reads behind the call as it read before; the table of forms is as its initialiser lays it (the card's tie).
-/
import Derived.Test.YtlafjmghfnlaoacDoorValJ
import Derived.Test.YtlafjmghfnlaoacDoorEndF
import Derived.Test.YtlafjmghfnlaoacDoorCards
import Derived.Test.YtlafjmghfnlaoacDoorNgc
namespace Go.Proofs.YtlafjmghfnlaoacDoor.lawValidStep
open Go.Proofs.YtlafjmghfnlaoacDoor Go.ChangeShapes Go.WideShapes Go.RowKit

set_option maxRecDepth 20000 in
set_option maxHeartbeats 400000 in
theorem l07Valid_ok (s : St) (g c : Nat) (w : World) (hg : Bk w g 2 (is64 s.tp)) (hn : s.tp.length ≤ 1048576) (hI : I64' s.n) :
    Calls Tryd.prog 9 #[stV s (some ⟨g, 0, none⟩) c] w fun e w' => e = .returned (.bool (valid s)) ∧ Go.RowKit.Below w.heap.size w w' := by
  have hk := Bk.new w 27 #[.int .i64 s.kd, .int .i64 s.n, .int .i64 s.k, .slice (some ⟨g, 0, none⟩) s.tp.length c]
  have hrd : Rd _ _ (some ⟨g, 0, none⟩) (is64 s.tp) := (hg.below (below_box w (.cells #[.int .i64 s.kd, .int .i64 s.n, .int .i64 s.k, .slice (some ⟨g, 0, none⟩) s.tp.length c] 27)) hg.lt).rd
  unfold stV
  go_enter Tryd.func9, Tryd.ntmps9
  go_wp2_with fail
  refine (l07Step_ok ⟨s, some ⟨g, 0, none⟩, c⟩ w.heap.size 0 _ ⟨hk.cell 0, hk.cell 1, hk.cell 2, hk.cell 3⟩ (by rw [alloc_size]; omega) hrd hn hI).mono ?_
  rintro e w2 ⟨rfl, hb2⟩
  go_wp2
  go_ret
  exact ⟨rfl, (below_box w _).trans (hb2.mono (below_box w _).size)⟩
/-- a copy of a step in memory of its own -/
def StC (s : St) (v : Value) (w : World) : Prop := ∃ g, v = stV s (some ⟨g, 0, none⟩) s.tp.length ∧ Bk w g 2 (is64 s.tp)
theorem StC.gr {s : St} {v : Value} {w w' : World} (h : StC s v w) (hg : Gr w w') : StC s v w' := by
  obtain ⟨g, e, hk⟩ := h
  exact ⟨g, e, hk.below hg hk.lt⟩
theorem lessI_neg {n : Nat} (h : 1048576 < n) : lessI 1048576 n = -1 := if_pos (by omega)
theorem lessI_pos {n : Nat} (h : ¬ 1048576 < n) : lessI 1048576 n = 1048576 - n := if_neg (by omega)
set_option maxRecDepth 20000 in
set_option maxHeartbeats 400000 in
theorem walk (s : St) (A : Option Addr) (c bt ot ct : Nat) (W : World) (hf : Forms W bt ot ct) (hr : Rd W W.heap.size A (is64 s.tp)) (hm : s.tp.length ≤ maxLen) (hI : I64' s.n) :
    Calls Tryd.prog 3 #[stV s A c] W fun e w' => e = .returned (.bool true) ∧ Go.RowKit.Below W.heap.size W w' := by
  unfold stV
  have hO : Go.RowKit.Below W.heap.size W (W.alloc (.cells #[.int .i64 s.kd, .int .i64 s.n, .int .i64 s.k, .slice A s.tp.length c] 24)) := below_box _ _
  have hS : (W.alloc (.cells #[.int .i64 s.kd, .int .i64 s.n, .int .i64 s.k, .slice A s.tp.length c] 24)).heap.size = W.heap.size + 1 := alloc_size _ _
  have hc0 := Bk.new W 24 #[.int .i64 s.kd, .int .i64 s.n, .int .i64 s.k, .slice A s.tp.length c]
  by_cases h : 1048576 < s.tp.length
  · have hz := lessI_neg h
    go_enter Tryd.func3, Tryd.ntmps3
    go_wp2_with fail
    refine (szStep_ok s A c 1048576 _ hm ⟨by omega, by omega⟩).mono ?_
    rintro e w2 ⟨rfl, hb2⟩
    rw [hz]
    go_wp2
    go_ret
    exact ⟨rfl, hO.trans (hb2.mono (by rw [hS]; omega))⟩
  have hn : s.tp.length ≤ 1048576 := by omega
  have hz := lessI_pos h
  have hz' : decide ((1048576 : Int) - s.tp.length < 0) = false := decide_eq_false (by omega)
  go_enter Tryd.func3, Tryd.ntmps3
  go_wp2_with fail
  refine (szStep_ok s A c 1048576 _ hm ⟨by omega, by omega⟩).mono ?_
  rintro e w2 ⟨rfl, hb2⟩
  rw [hz]
  have hB2 : Go.RowKit.Below W.heap.size W w2 := hO.trans (hb2.mono (by rw [hS]; omega))
  have hk2 := hc0.below hb2 (by rw [hS]; omega)
  have q0 := hk2.cell 0
  have q1 := hk2.cell 1
  have q2 := hk2.cell 2
  have q3 := hk2.cell 3
  simp only [List.getElem?_cons_succ, List.getElem?_cons_zero] at q0 q1 q2 q3
  go_wp2_with fail
  refine (toStep_ok s A c w2 ((hr.below hB2 (Nat.le_refl _)).more hB2.size) hn).mono ?_
  rintro e w3 ⟨g3, rfl, hg3, hgl3, hb3⟩
  have hB3 := hB2.trans (hb3.mono hB2.size)
  go_wp2_with fail
  have hk3 := hk2.below hb3 hk2.lt
  have r0 := hk3.cell 0
  have r1 := hk3.cell 1
  have r2 := hk3.cell 2
  have r3 := hk3.cell 3
  simp only [List.getElem?_cons_succ, List.getElem?_cons_zero] at r0 r1 r2 r3
  go_wp2_with fail
  refine (l07Valid_ok s g3 s.tp.length w3 hg3 hn hI).mono ?_
  rintro e w4 ⟨rfl, hb4⟩
  have hB4 := hB3.trans (hb4.mono hB3.size)
  have hk4 := hk3.below hb4 hk3.lt
  have s0 := hk4.cell 0
  have s1 := hk4.cell 1
  have s2 := hk4.cell 2
  have s3 := hk4.cell 3
  simp only [List.getElem?_cons_succ, List.getElem?_cons_zero] at s0 s1 s2 s3
  go_wp2_with fail
  refine (toStep_ok s A c w4 ((hr.below hB4 (Nat.le_refl _)).more hB4.size) hn).mono ?_
  rintro e w5 ⟨g5, rfl, hg5, hgl5, hb5⟩
  have hB5 := hB4.trans (hb5.mono hB4.size)
  have hk5 := hk4.below hb5 hk4.lt
  have t0 := hk5.cell 0
  have t1 := hk5.cell 1
  have t2 := hk5.cell 2
  have t3 := hk5.cell 3
  simp only [List.getElem?_cons_succ, List.getElem?_cons_zero] at t0 t1 t2 t3
  unfold stV
  go_wp2_with fail
  have hx : Go.RowKit.Below w5.heap.size w5 (w5.alloc (.cells #[.int .i64 s.kd, .int .i64 s.n, .int .i64 s.k, .slice (some ⟨g5, 0, none⟩) s.tp.length s.tp.length] 27)) := below_box _ _
  have hB6 := hB5.trans (hx.mono hB5.size)
  have hk6 := Bk.new w5 27 #[.int .i64 s.kd, .int .i64 s.n, .int .i64 s.k, .slice (some ⟨g5, 0, none⟩) s.tp.length s.tp.length]
  have hrg5 := hg5.below hx hg5.lt
  have hk6' := hk5.below hx hk5.lt
  generalize w5.alloc (.cells #[.int .i64 s.kd, .int .i64 s.n, .int .i64 s.k, .slice (some ⟨g5, 0, none⟩) s.tp.length s.tp.length] 27) = w6 at *
  refine (validStep_ok s (some ⟨g5, 0, none⟩) s.tp.length bt ot ct w6 (hf.below hB6) hrg5.rd hn hI).mono ?_
  rintro e w7 ⟨rfl, hb7⟩
  have hB7 := hB6.trans (hb7.mono hB6.size)
  have hk7 := hk6.below hb7 hk6.lt
  have hk7' := hk6'.below hb7 hk6'.lt
  have hrg7 := hrg5.below hb7 hrg5.lt
  have u0 := hk7.cell 0
  have u1 := hk7.cell 1
  have u2 := hk7.cell 2
  have u3 := hk7.cell 3
  have v0 := hk7'.cell 0
  have v1 := hk7'.cell 1
  have v2 := hk7'.cell 2
  have v3 := hk7'.cell 3
  have hl1 := hk7.lt
  have hl2 := hk7'.lt
  simp only [List.getElem?_cons_succ, List.getElem?_cons_zero] at u0 u1 u2 u3 v0 v1 v2 v3
  clear s0 s1 s2 s3 t0 t1 t2 t3 q0 q1 q2 q3 r0 r1 r2 r3
  go_wp2_with fail
  have T : ∀ wq, Gr w7 wq → Calls Tryd.prog 10 #[stV s A c] wq fun e w8 => ∃ v, e = .returned v ∧ StC s v w8 ∧ Gr wq w8 := fun wq hq => by
    have hBq := hB7.trans (Below.mono hq hB7.size)
    refine (toStep_ok s A c wq ((hr.below hBq (Nat.le_refl _)).more hBq.size) hn).mono ?_
    rintro e w8 ⟨g, rfl, hg, _, hb⟩
    exact ⟨_, rfl, ⟨g, rfl, hg⟩, hb⟩
  have Q : ∀ wq g, Gr w7 wq → Bk wq g 2 (is64 s.tp) → Calls Tryd.prog 12 #[stV s (some ⟨g5, 0, none⟩) s.tp.length, stV s (some ⟨g, 0, none⟩) s.tp.length] wq fun e w8 => ∃ v, e = .returned v ∧ v = .bool true ∧ Gr wq w8 := fun wq g hq hg => by
    refine (eqStep_ok s s (some ⟨g5, 0, none⟩) (some ⟨g, 0, none⟩) _ _ wq (hrg7.below hq hrg7.lt).rd hg.rd hn hn).mono ?_
    rintro e w8 ⟨rfl, hb⟩
    exact ⟨_, rfl, by rw [sameSt_self], hb⟩
  unfold stV at T Q
  have HT := hid T
  have HQ := hid Q
  clear T Q
  refine wp_region_g' (fun f _ _ v w'' => (f = 10 → StC s v w'') ∧ (f = 12 → v = .bool true)) (by kernel_rfl) (by kernel_rfl) (by kernel_rfl) ?_
  repeat first
    | (refine g_factc 10 (StC s) rfl (by rintro d ⟨⟩ w <;> first | trivial | simp) rfl (fun K hK wq hwq holdq hfq => ?_); go_simp; refine ⟨HT.out wq hwq, fun v w2 hv hg2 => ⟨fun w3 hg3 => ?_, hK _ _ ?_⟩⟩; (exact hv.gr hg3); clear hK K)
    | (refine g_step (by rintro d ⟨⟩ w <;> first | trivial | simp) (fun K hK => ?_); go_simp; first | (refine hK _ ?_; clear hK K) | (refine g_in (fun wq hwq holdq hfq => ?_); go_simp; first | (refine hK _ ?_; clear hK K)))
  refine g_step (by rintro d ⟨⟩ w <;> first | trivial | simp) (fun K hK => ?_)
  go_simp
  refine g_in (fun wq hwq holdq hfq => ?_)
  go_simp
  obtain ⟨g8, rfl, hk8⟩ := hfq 24 (by decide) rfl
  refine ⟨HQ.out wq g8 hwq hk8, fun v w2 hv hg => ?_⟩
  subst hv
  refine hK _ ?_
  clear hK K
  repeat (refine g_step (by rintro d ⟨⟩ w <;> first | trivial | simp) (fun K hK => ?_); go_simp; first | (refine hK _ ?_; clear hK K) | (refine g_in (fun wq hwq holdq hfq => ?_); go_simp; first | (refine hK _ ?_; clear hK K)))
  refine g_nil (fun w9 hg9 => ?_)
  go_wp2
  go_ret
  exact ⟨rfl, hB7.trans (Below.mono hg9 hB7.size)⟩
theorem own : ownKnob Tryd.prog.godebug = none := by kernel_rfl
theorem laidOut : laidOutB Tryd.prog = true := by kernel_rfl
theorem params_ok : ∀ t ∈ Tryd.f3.params.toList, Tryd.prog.readableRec t = true ∧ t < Tryd.prog.types.size := by
  have h : (Tryd.f3.params.toList.all fun t => Tryd.prog.readableRec t && decide (t < Tryd.prog.types.size)) = true := by kernel_rfl
  intro t ht
  have := List.all_eq_true.1 h t ht
  simpa using this
theorem forms_ok : Tryd.prog.readableRec 54 = true ∧ 54 < Tryd.prog.types.size := by
  have h : (Tryd.prog.readableRec 54 && decide (54 < Tryd.prog.types.size)) = true := by kernel_rfl
  simpa using h
theorem door_met (os : Os) (args : Array Value) : laidMetH Tryd.prog [("loop.example/g01155/impl.stepForms", Rows.laid_loop_example_g01155_impl_stepForms)] ((World.doorLaid Tryd.prog 400 os).forCall (fun _ _ => 0) ⟨#[], args, []⟩).memory :=
  laidMetH_of_parts3 (fuel := 8) (laidMet_of_run' 8 (by kernel_rfl) (by kernel_rfl)) (by kernel_rfl) (by kernel_rfl)
set_option maxRecDepth 100000 in
theorem lifted (os : Os) (started : os.Started) (H : Type) (enc : TypeId × Value → H) :
    ReturnsInHanded {} Tryd.checked os 3 .any (fun w args => (Rows.fnExactValidStepSpec.pre enc Tryd.prog Tryd.f3 [] false w args ∧ laidMetH Tryd.prog [("loop.example/g01155/impl.stepForms", Rows.laid_loop_example_g01155_impl_stepForms)] w) ∧ sizedMet enc Tryd.prog Tryd.f3 (OpenSpec.ofChange Rows.fnExactValidStepSpec) false w args)
      (Rows.fnExactValidStepSpec.post enc Tryd.prog Tryd.f3 false true false false) := by
  refine returnsInHanded_of_change_and (C := Tryd.checked) (X := fun w _ => laidMetH Tryd.prog [("loop.example/g01155/impl.stepForms", Rows.laid_loop_example_g01155_impl_stepForms)] w) (fun _ _ _ hh h => h.of_heap hh) own started (by kernel_rfl) Tryd.func3
    (ChangeSpec.witness_shaped (enc := enc) (C := Tryd.checked) (os := os) (X := fun w _ => laidMetH Tryd.prog [("loop.example/g01155/impl.stepForms", Rows.laid_loop_example_g01155_impl_stepForms)] w) false (World.doorLaid Tryd.prog 400 os) #[.agg #[.int .i64 0, .int .i64 0, .int .i64 0, .slice none 0 0]] 8 rfl (World.shaped_of_RefB (by kernel_rfl) (by kernel_rfl)) (by kernel_rfl) (by kernel_rfl) (by kernel_rfl) (door_met os _)) ?_
  intro W base args ds gs before hval0 hW _ _ hL _
  have hval : ∀ (j : Nat) t v, Tryd.f3.params[j]? = some t → args[j]? = some v → Value.okWide Tryd.prog W .any base t v := hval0
  have hW' := hW
  obtain ⟨p, q, hA0, hV, rfl, hfz, hnd⟩ := hW
  have hA : DataW.TrodAll enc Tryd.prog W 0 (fun _ => true) true Tryd.f3.params.toList args.toList ds p := hA0
  rw [Tryd.params3] at hA hval
  obtain ⟨bt, ot, ct, hF⟩ := forms_of_laid hL
  obtain ⟨v0, vs0, d0, ds0, p0, q0, hargs, rfl, rfl, h0, r0⟩ := trodAll_cons hA
  obtain ⟨rfl, rfl, rfl⟩ := trodAll_nil r0
  obtain rfl : args = #[v0] := by cases args; simp_all
  obtain ⟨s0, A0, c0, rfl, hr0, hm0, hI0⟩ := open_step (hval 0 24 v0 rfl rfl) h0
  refine (walk s0 A0 c0 bt ot ct W hF hr0 hm0 hI0).mono fun e W' ⟨he, hb⟩ => ?_
  exact ⟨_, he, law_post1 laidOut params_ok rfl Tryd.underlying4 rfl tForms gForms forms_ok (fun _ => rfl) hW' hb⟩

theorem row : Rows.FnExactValidStepSaid :=
  OpenClaim.holds_of_wide 3 Tryd.f3 rfl rfl rfl rfl rfl rfl rfl ⟨rfl, rfl, rfl, rfl, rfl⟩ rfl rfl rfl rfl rfl (by kernel_rfl) Tryd.func3 (by kernel_rfl)
    (of_decide_eq_true (by kernel_rfl)) (by unfold Func.isWrapper; rw [if_neg (of_decide_eq_false (by kernel_rfl))]; exact ⟨rfl, rfl⟩)
    (fun os started H enc _ => lifted os started H enc)
theorem proved : Rows.FnExactValidStepCardSaid :=
  Claim7.holds_tied_plain_at .later [] [.widerDeep] true Rows.fnExactValidStepCard.stood.harness false
    row (fun _ h => by cases h) (by kernel_rfl) (fun _ h => by cases h) fnExactValidStep_row_tie rfl ⟨rfl, rfl⟩ (by kernel_rfl) rfl
    (fun f fn hf hfn => by
      obtain rfl : f = 3 := Option.some.inj ((show Tryd.prog.funcNamed "loop.example/g01155/laws.FnExactValidStep" = some 3 by kernel_rfl).symm.trans hf) |>.symm
      obtain rfl : fn = Tryd.f3 := (Option.some.inj (Tryd.func3.symm.trans hfn)).symm
      exact ⟨by kernel_rfl, fun j t ht => by
        rw [Tryd.params3] at ht
        have hm : t ∈ [24] := by simpa using Array.mem_of_getElem? ht
        have hall : ([24].all fun u => !Tryd.prog.wantsStandIn u) = true := by kernel_rfl
        exact (show Tryd.prog.wantsStandIn t = false by simpa using List.all_eq_true.1 hall t hm)⟩)
    (by kernel_rfl)
end Go.Proofs.YtlafjmghfnlaoacDoor.lawValidStep
