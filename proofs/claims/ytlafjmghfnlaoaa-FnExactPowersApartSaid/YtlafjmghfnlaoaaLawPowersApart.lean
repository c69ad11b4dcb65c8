/-
  For all pairs of slices of float64s: FnExactPowersApart returns true, and the slices read behind the call as they read before. No condition.
-/
import Derived.Test.YtlafjmghfnlaoaaApart
import Derived.Test.YtlafjmghfnlaoaaEnd
namespace Go.Proofs.Ytlafjmghfnlaoaa.lawPowersApart
open Go.Proofs.Ytlafjmghfnlaoaa Go.ChangeShapes Go.WideShapes Go.ChangeAt Go.RowKit

set_option maxRecDepth 20000 in
set_option maxHeartbeats 400000 in
theorem walk_long (A B : Option Addr) (c d : Nat) (rs ss : List Nat) (W : World) (h : 1048576 < rs.length) :
    Calls Try.prog 4 #[.slice A rs.length c, .slice B ss.length d] W fun e w' => e = .returned (.bool true) ∧ Below W.heap.size W w' := by
  go_enter Try.func4, Try.ntmps4
  go_wp2
  go_ret
  exact ⟨rfl, Below.refl _ _⟩
set_option maxRecDepth 20000 in
set_option maxHeartbeats 400000 in
theorem walk_long2 (A B : Option Addr) (c d : Nat) (rs ss : List Nat) (W : World) (h0 : ¬ 1048576 < rs.length) (h : 1048576 < ss.length) :
    Calls Try.prog 4 #[.slice A rs.length c, .slice B ss.length d] W fun e w' => e = .returned (.bool true) ∧ Below W.heap.size W w' := by
  go_enter Try.func4, Try.ntmps4
  go_wp2
  go_ret
  exact ⟨rfl, Below.refl _ _⟩
set_option maxRecDepth 20000 in
set_option maxHeartbeats 400000 in
theorem walk_short (A B : Option Addr) (c d : Nat) (rs ss : List Nat) (W : World) (hr : Rd W W.heap.size A (fl rs)) (hs : Rd W W.heap.size B (fl ss)) (h1 : ¬ 1048576 < rs.length) (h2 : ¬ 1048576 < ss.length) :
    Calls Try.prog 4 #[.slice A rs.length c, .slice B ss.length d] W fun e w' => e = .returned (.bool true) ∧ Below W.heap.size W w' := by
  have hn : rs.length ≤ 1048576 := by omega
  have hm : ss.length ≤ 1048576 := by omega
  obtain ⟨q, hq⟩ : ∃ q, apCode rs ss = q := ⟨_, rfl⟩
  have hqq : (q != q) = false := by simp
  have HQ := hid hq
  clear hq
  go_enter Try.func4, Try.ntmps4
  go_wp2_with fail
  refine (toFloat64S_ok A c rs W hr hn).mono ?_
  rintro e w1 ⟨g1, rfl, hk1, hg1, hb1⟩
  go_wp2_with fail
  refine (toFloat64S_ok B d ss w1 ((hs.below hb1 (Nat.le_refl _)).more hb1.size) hm).mono ?_
  rintro e w2 ⟨g2, rfl, hk2, hg2, hb2⟩
  have hB2 : Below W.heap.size W w2 := hb1.trans (hb2.mono hb1.size)
  have hk1' := hk1.below hb2 hk1.lt
  go_wp2_with fail
  refine (specApart_ok _ _ _ _ rs ss w2 hk1'.rd hk2.rd hn hm q HQ.out).mono ?_
  rintro e w3 ⟨r3, rfl, hr3, hw3, hb3⟩
  have HR3 := hid hr3
  clear hr3
  have hB3 : Below W.heap.size W w3 := hB2.trans (hb3.mono hB2.size)
  go_wp2_with fail
  refine (toFloat64S_ok A c rs w3 ((hr.below hB3 (Nat.le_refl _)).more hB3.size) hn).mono ?_
  rintro e w4 ⟨g4, rfl, hk4, hg4, hb4⟩
  have hB4 : Below W.heap.size W w4 := hB3.trans (hb4.mono hB3.size)
  go_wp2_with fail
  refine (toFloat64S_ok B d ss w4 ((hs.below hB4 (Nat.le_refl _)).more hB4.size) hm).mono ?_
  rintro e w5 ⟨g5, rfl, hk5, hg5, hb5⟩
  have hB5 : Below W.heap.size W w5 := hB4.trans (hb5.mono hB4.size)
  have hk4' := hk4.below hb5 hk4.lt
  go_wp2_with fail
  refine (implApart_ok _ _ _ _ rs ss w5 hk4'.rd hk5.rd hn hm q HQ.out).mono ?_
  rintro e w6 ⟨r6, rfl, hr6, hw6, hb6⟩
  have HR6 := hid hr6
  clear hr6
  have hB6 : Below W.heap.size W w6 := hB5.trans (hb6.mono hB5.size)
  go_wp2_with fail
  refine (sameFloat_ok r6 r3 w6).mono ?_
  rintro e w7 ⟨rfl, n7, rfl⟩
  rw [sameF_of_eq (HR6.out.trans HR3.out.symm)]
  have hB7 := hB6.drewN n7
  have hk47 := (hk4'.below hb6 hk4'.lt).drewN n7
  have hk57 := (hk5.below hb6 hk5.lt).drewN n7
  go_wp2_with fail
  refine (toFloat64S_ok A c rs (w6.drewN n7) ((hr.below hB7 (Nat.le_refl _)).more hB7.size) hn).mono ?_
  rintro e w8 ⟨g8, rfl, hk8, hg8, hb8⟩
  have hB8 : Below W.heap.size W w8 := hB7.trans (hb8.mono hB7.size)
  have hk48 := hk47.below hb8 hk47.lt
  have hk58 := hk57.below hb8 hk57.lt
  go_wp2_with fail
  refine (eqFloat64S_ok _ _ _ _ rs rs w8 hk48.rd hk8.rd hn hn).mono ?_
  rintro e w9 ⟨rfl, n9, rfl⟩
  rw [eqsF_refl]
  have hB9 := hB8.drewN n9
  go_wp2_with fail
  refine (toFloat64S_ok B d ss (w8.drewN n9) ((hs.below hB9 (Nat.le_refl _)).more hB9.size) hm).mono ?_
  rintro e w10 ⟨g10, rfl, hk10, hg10, hb10⟩
  have hB10 : Below W.heap.size W w10 := hB9.trans (hb10.mono hB9.size)
  have hk59 := (hk58.drewN n9).below hb10 hk58.lt
  go_wp2_with fail
  refine (eqFloat64S_ok _ _ _ _ ss ss w10 hk59.rd hk10.rd hm hm).mono ?_
  rintro e w11 ⟨rfl, n11, rfl⟩
  rw [eqsF_refl]
  go_wp2
  go_ret
  exact ⟨rfl, hB10.drewN _⟩
theorem walk (A : Option Addr) (c : Nat) (rs : List Nat) (B : Option Addr) (d : Nat) (ss : List Nat) (W : World) (hr : Rd W W.heap.size A (fl rs)) (_ : Wfs rs) (hs : Rd W W.heap.size B (fl ss)) (_ : Wfs ss) :
    Calls Try.prog 4 #[.slice A rs.length c, .slice B ss.length d] W fun e w' => e = .returned (.bool true) ∧ Below W.heap.size W w' := by
  by_cases h : 1048576 < rs.length
  · exact walk_long A B c d rs ss W h
  · by_cases h2 : 1048576 < ss.length
    · exact walk_long2 A B c d rs ss W h h2
    · exact walk_short A B c d rs ss W hr hs h h2

theorem own : ownKnob Try.prog.godebug = none := by kernel_rfl
theorem laidOut : laidOutB Try.prog = true := by kernel_rfl
theorem params_ok : ∀ t ∈ Try.f4.params.toList, Try.prog.readableRec t = true ∧ t < Try.prog.types.size := by
  have h : (Try.f4.params.toList.all fun t => Try.prog.readableRec t && decide (t < Try.prog.types.size)) = true := by kernel_rfl
  intro t ht
  have := List.all_eq_true.1 h t ht
  simpa using this
theorem cells_f64 : Try.prog.cellsOf 23 = 1 := by kernel_rfl
set_option maxRecDepth 100000 in
theorem lifted (os : Os) (started : os.Started) (H : Type) (enc : TypeId × Value → H) :
    ReturnsInHanded {} Try.checked os 4 .any (Rows.fnExactPowersApartSpec.pre6 enc Try.prog Try.f4 Rows.fnExactPowersApartRow.domain false) (Rows.fnExactPowersApartSpec.post enc Try.prog Try.f4 false true false false) := by
  refine returnsInHanded_of_change (C := Try.checked) own started (by kernel_rfl) Try.func4
    (ChangeSpec.witness6 (enc := enc) (C := Try.checked) false ⟨#[], #[.slice none 0 0, .slice none 0 0], []⟩ 8 (by kernel_rfl) (by kernel_rfl) (by kernel_rfl) (by kernel_rfl)) ?_
  intro W base args ds gs before hval0 hW _ _
  have hval : ∀ (j : Nat) t v, Try.f4.params[j]? = some t → args[j]? = some v → Value.okWide Try.prog W .any base t v := hval0
  have hW' := hW
  obtain ⟨p, q, hA0, hV, rfl, hfz, hnd⟩ := hW
  have hA : DataW.TrodAll enc Try.prog W 0 (fun _ => true) true Try.f4.params.toList args.toList ds p := hA0
  rw [Try.params4] at hA hval
  obtain ⟨v0, vs0, d0, ds0, p0, q0, hargs, rfl, rfl, h0, r0⟩ := trodAll_cons hA
  obtain ⟨v1, vs1, d1, ds1, p1, q1, rfl, rfl, rfl, h1, r1⟩ := trodAll_cons r0
  obtain ⟨rfl, rfl, rfl⟩ := trodAll_nil r1
  obtain rfl : args = #[v0, v1] := by cases args; simp_all
  obtain ⟨A0, c0, rs0, rfl, hr0, hw0, _⟩ := open_floats Try.underlying22 Try.underlying23 cells_f64 (hval 0 22 v0 rfl rfl) h0
  obtain ⟨A1, c1, rs1, rfl, hr1, hw1, _⟩ := open_floats Try.underlying22 Try.underlying23 cells_f64 (hval 1 22 v1 rfl rfl) h1
  refine (walk A0 c0 rs0 A1 c1 rs1 W hr0 hw0 hr1 hw1).mono fun e W' ⟨he, hb⟩ => ?_
  exact ⟨_, he, law_post laidOut params_ok rfl Try.underlying4 rfl rfl hW' hb⟩

theorem proved : Rows.FnExactPowersApartSaid :=
  OpenClaim.holds_of_wide 4 Try.f4 rfl rfl rfl rfl rfl rfl rfl ⟨rfl, rfl, rfl, rfl, rfl⟩ rfl rfl rfl rfl rfl (by kernel_rfl) Try.func4 (by kernel_rfl)
    (of_decide_eq_true (by kernel_rfl)) (by unfold Func.isWrapper; rw [if_neg (of_decide_eq_false (by kernel_rfl))]; exact ⟨rfl, rfl⟩)
    (fun os started H enc _ => lifted os started H enc)
end Go.Proofs.Ytlafjmghfnlaoaa.lawPowersApart
