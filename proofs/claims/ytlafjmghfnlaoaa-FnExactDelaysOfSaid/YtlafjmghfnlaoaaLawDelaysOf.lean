/-
  For every slice of float64s: FnExactDelaysOf returns true, and the slice reads behind the call as it read before. No condition.
-/
import Derived.Test.YtlafjmghfnlaoaaDelays
namespace Go.Proofs.Ytlafjmghfnlaoaa.lawDelaysOf
open Go.Proofs.Ytlafjmghfnlaoaa Go.ChangeShapes Go.WideShapes Go.ChangeAt Go.RowKit

set_option maxRecDepth 20000 in
set_option maxHeartbeats 400000 in
theorem walk_long (A : Option Addr) (c : Nat) (rs : List Nat)  (W : World) (h : 1048576 < rs.length) :
    Calls Try.prog 11 #[.slice A rs.length c] W fun e w' => e = .returned (.bool true) ∧ Below W.heap.size W w' := by
  go_enter Try.func11, Try.ntmps11
  go_wp2
  go_ret
  exact ⟨rfl, Below.refl _ _⟩
set_option maxRecDepth 20000 in
set_option maxHeartbeats 400000 in
theorem walk_short (A : Option Addr) (c : Nat) (rs : List Nat)  (W : World) (hr : Rd W W.heap.size A (fl rs)) (h : ¬ 1048576 < rs.length) (m : Nat) (G : Nat → F) (q : Int) (hm : m ≤ 1048576)
    (hS : ∀ A c w, Rd w w.heap.size A (fl rs) → Calls Try.prog 39 #[.slice A rs.length c] w (RetFS w m G q))
    (hI : ∀ A c w, Rd w w.heap.size A (fl rs) → Calls Try.prog 40 #[.slice A rs.length c] w (RetFS w m G q)) :
    Calls Try.prog 11 #[.slice A rs.length c] W fun e w' => e = .returned (.bool true) ∧ Below W.heap.size W w' := by
  have hn : rs.length ≤ 1048576 := by omega
  have HS := hid hS
  have HI := hid hI
  clear hS hI
  have hqq : (q != q) = false := by simp
  have hk0 : decide (1 + (rs.length : Int) < 0) = false := decide_eq_false (by omega)
  have hk1 : decide (1 + (m : Int) < 0) = false := decide_eq_false (by omega)
  have hmm : ((1 + (m : Int)) != 1 + (m : Int)) = false := by simp
  go_enter Try.func11, Try.ntmps11
  go_wp2_with fail
  refine (toFloat64S_ok A c rs W hr hn).mono ?_
  rintro e w1 ⟨g1, rfl, hk1, hg1, hb1⟩
  go_wp2_with fail
  refine (HS.out _ _ w1 hk1.rd).mono ?_
  intro e w2 h2
  obtain ⟨A2, c2, ys, rfl, ho2, hl2, hb2⟩ := h2.slice
  have hB2 : Below W.heap.size W w2 := hb1.trans (hb2.mono hb1.size)
  have hrd2 := own_rd ho2
  go_wp2_with fail
  refine (toFloat64S_ok A c rs w2 ((hr.below hB2 (Nat.le_refl _)).more hB2.size) hn).mono ?_
  rintro e w3 ⟨g3, rfl, hk3, hg3, hb3⟩
  have hB3 : Below W.heap.size W w3 := hB2.trans (hb3.mono hB2.size)
  go_wp2_with fail
  refine (HI.out _ _ w3 hk3.rd).mono ?_
  intro e w4 h4
  obtain ⟨A4, c4, xs, rfl, ho4, hl4, hb4⟩ := h4.slice
  have hB4 : Below W.heap.size W w4 := hB3.trans (hb4.mono hB3.size)
  have hD4 : Below w2.heap.size w2 w4 := hb3.trans (hb4.mono hb3.size)
  go_wp2_with fail
  refine (eqL_ok _ _ _ _ xs ys _ _ w4 hl4 hl2 hm (own_rd ho4) ((hrd2.below hD4 (Nat.le_refl _)).more hD4.size)).mono ?_
  rintro e w5 ⟨rfl, n5, rfl⟩
  have hB5 := hB4.drewN n5
  have hD5 := hD4.drewN n5
  have hk5 := (hk3.below hb4 hk3.lt).drewN n5
  go_wp2_with fail
  refine (toFloat64S_ok A c rs (w4.drewN n5) ((hr.below hB5 (Nat.le_refl _)).more hB5.size) hn).mono ?_
  rintro e w6 ⟨g6, rfl, hk6, hg6, hb6⟩
  have hB6 : Below W.heap.size W w6 := hB5.trans (hb6.mono hB5.size)
  have hD6 : Below w2.heap.size w2 w6 := hD5.trans (hb6.mono hD5.size)
  have ho6 := own_below' (own_drewN ho4 n5) hb6
  have hk6' := hk5.below hb6 hk5.lt
  go_wp2_with fail
  refine (eqFloat64S_ok _ _ _ _ rs rs w6 hk6'.rd hk6.rd hn hn).mono ?_
  rintro e w7 ⟨rfl, n7, rfl⟩
  rw [eqsF_refl]
  have hlt3 : g3 < w3.heap.size := hk3.lt
  go_wp2_with fail
  refine (markf64_ok _ rs.length w2.heap.size (fl rs) 1 (w6.drewN n7) (own_of_bk (hk6'.drewN n7) (by rw [fl_length]) hg3 hn) hn (by omega)).mono ?_
  rintro e w8 ⟨rfl, ho8, hgr8⟩
  have hs6 : w3.heap.size ≤ w6.heap.size := by
    have h1 := hb4.size
    have h2 : w4.heap.size ≤ w6.heap.size := hb6.size
    omega
  have hB8 : Below W.heap.size W w8 := (hB6.drewN n7).grown hgr8 hB6.size (fun k hk => by cases hk; exact Nat.le_trans hB2.size hg3)
  have hD8 : Below w2.heap.size w2 w8 := (hD6.drewN n7).grown hgr8 hD6.size (fun k hk => by cases hk; exact hg3)
  have ho8 := own_grown (own_drewN ho6 n7) hgr8 (fun k hk => by cases hk; exact hlt3)
  go_wp2_with fail
  refine (eqL_ok _ _ _ _ xs ys _ _ w8 hl4 hl2 hm (own_rd ho8) ((hrd2.below hD8 (Nat.le_refl _)).more hD8.size)).mono ?_
  rintro e w9 ⟨rfl, n9, rfl⟩
  go_wp2_with fail
  refine (markf64_ok _ m w3.heap.size _ 1 (w8.drewN n9) (own_drewN ho8 n9) hm (by omega)).mono ?_
  rintro e w10 ⟨rfl, ho10, hgr10⟩
  have hB10 : Below W.heap.size W w10 := (hB8.drewN n9).grown hgr10 hB8.size (fun k hk => by have := (ho8.lt k hk).1; have := hB3.size; omega)
  have hD10 : Below w2.heap.size w2 w10 := (hD8.drewN n9).grown hgr10 hD8.size (fun k hk => by have := (ho8.lt k hk).1; have := hb3.size; omega)
  go_wp2_with fail
  refine (heldf64_ok _ m w3.heap.size 1 w10 ho10 hm (by omega)).mono ?_
  rintro e w11 ⟨rfl, rfl⟩
  go_wp2_with fail
  refine (toFloat64S_ok A c rs w10 ((hr.below hB10 (Nat.le_refl _)).more hB10.size) hn).mono ?_
  rintro e w12 ⟨g12, rfl, hk12, hg12, hb12⟩
  have hB12 : Below W.heap.size W w12 := hB10.trans (hb12.mono hB10.size)
  have hD12 : Below w2.heap.size w2 w12 := hD10.trans (hb12.mono hD10.size)
  have ho12 := own_below' ho10 hb12
  go_wp2_with fail
  refine (HI.out _ _ w12 hk12.rd).mono ?_
  intro e w13 h13
  obtain ⟨A13, c13, zs, rfl, ho13, hl13, hb13⟩ := h13.slice
  have hB13 : Below W.heap.size W w13 := hB12.trans (hb13.mono hB12.size)
  have hD13 : Below w2.heap.size w2 w13 := hD12.trans (hb13.mono hD12.size)
  have ho13' := own_below' ho12 hb13
  go_wp2_with fail
  refine (eqL_ok _ _ _ _ zs ys _ _ w13 hl13 hl2 hm (own_rd ho13) ((hrd2.below hD13 (Nat.le_refl _)).more hD13.size)).mono ?_
  rintro e w14 ⟨rfl, n14, rfl⟩
  go_wp2_with fail
  refine (heldf64_ok _ m w3.heap.size 1 (w13.drewN n14) (own_drewN ho13' n14) hm (by omega)).mono ?_
  rintro e w15 ⟨rfl, rfl⟩
  go_wp2
  go_ret
  exact ⟨rfl, hB13.drewN _⟩

theorem walk (A : Option Addr) (c : Nat) (rs : List Nat) (W : World) (hr : Rd W W.heap.size A (fl rs)) (hw : Wfs rs) :
    Calls Try.prog 11 #[.slice A rs.length c] W fun e w' => e = .returned (.bool true) ∧ Below W.heap.size W w' := by
  by_cases h : 1048576 < rs.length
  · exact walk_long A c rs W h
  · exact walk_short A c rs W hr h (lenIf (rs.length - 1) (unCode rs.length)) (gaps rs) (unCode rs.length) (Nat.le_trans (lenIf_le _ _) (by omega))
      (fun A c w hr => specDelays_ok A c rs w hr hw (by omega) _ rfl) (fun A c w hr => implDelays_ok A c rs w hr hw (by omega) _ rfl)

theorem own : ownKnob Try.prog.godebug = none := by kernel_rfl
theorem laidOut : laidOutB Try.prog = true := by kernel_rfl
theorem params_ok : ∀ t ∈ Try.f11.params.toList, Try.prog.readableRec t = true ∧ t < Try.prog.types.size := by
  have h : (Try.f11.params.toList.all fun t => Try.prog.readableRec t && decide (t < Try.prog.types.size)) = true := by kernel_rfl
  intro t ht
  have := List.all_eq_true.1 h t ht
  simpa using this
theorem cells_f64 : Try.prog.cellsOf 23 = 1 := by kernel_rfl
set_option maxRecDepth 100000 in
theorem lifted (os : Os) (started : os.Started) (H : Type) (enc : TypeId × Value → H) :
    ReturnsInHanded {} Try.checked os 11 .any (Rows.fnExactDelaysOfSpec.pre6 enc Try.prog Try.f11 Rows.fnExactDelaysOfRow.domain false) (Rows.fnExactDelaysOfSpec.post enc Try.prog Try.f11 false true false false) := by
  refine returnsInHanded_of_change (C := Try.checked) own started (by kernel_rfl) Try.func11
    (ChangeSpec.witness6 (enc := enc) (C := Try.checked) false ⟨#[], #[.slice none 0 0], []⟩ 8 (by kernel_rfl) (by kernel_rfl) (by kernel_rfl) (by kernel_rfl)) ?_
  intro W base args ds gs before hval0 hW _ _
  have hval : ∀ (j : Nat) t v, Try.f11.params[j]? = some t → args[j]? = some v → Value.okWide Try.prog W .any base t v := hval0
  have hW' := hW
  obtain ⟨p, q, hA0, hV, rfl, hfz, hnd⟩ := hW
  have hA : DataW.TrodAll enc Try.prog W 0 (fun _ => true) true Try.f11.params.toList args.toList ds p := hA0
  rw [Try.params11] at hA hval
  obtain ⟨v0, vs0, d0, ds0, p0, q0, hargs, rfl, rfl, h0, r0⟩ := trodAll_cons hA
  obtain ⟨rfl, rfl, rfl⟩ := trodAll_nil r0
  obtain rfl : args = #[v0] := by cases args; simp_all
  obtain ⟨A0, c0, rs0, rfl, hr0, hw0, _⟩ := open_floats Try.underlying22 Try.underlying23 cells_f64 (hval 0 22 v0 rfl rfl) h0
  refine (walk A0 c0 rs0 W hr0 hw0).mono fun e W' ⟨he, hb⟩ => ?_
  exact ⟨_, he, law_post laidOut params_ok rfl Try.underlying4 rfl rfl hW' hb⟩

theorem proved : Rows.FnExactDelaysOfSaid :=
  OpenClaim.holds_of_wide 11 Try.f11 rfl rfl rfl rfl rfl rfl rfl ⟨rfl, rfl, rfl, rfl, rfl⟩ rfl rfl rfl rfl rfl (by kernel_rfl) Try.func11 (by kernel_rfl)
    (of_decide_eq_true (by kernel_rfl)) (by unfold Func.isWrapper; rw [if_neg (of_decide_eq_false (by kernel_rfl))]; exact ⟨rfl, rfl⟩)
    (fun os started H enc _ => lifted os started H enc)
end Go.Proofs.Ytlafjmghfnlaoaa.lawDelaysOf
