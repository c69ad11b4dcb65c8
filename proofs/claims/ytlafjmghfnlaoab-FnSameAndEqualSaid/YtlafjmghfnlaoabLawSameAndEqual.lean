/-
  For every two slices of bytes: FnSameAndEqual returns true, and the slices read behind the call as they read before. No condition.
-/
import Derived.Test.YtlafjmghfnlaoabSame3
namespace Go.Proofs.Ytlafjmghfnlaoab.lawSameAndEqual
open Go.Proofs.Ytlafjmghfnlaoab Go.ChangeShapes Go.WideShapes Go.ChangeAt Go.RowKit

theorem sam_self (x : F) (h : ∀ a, x = some a → nanB .f64 a = false) : samV x x = true := by
  cases x with
  | none => rfl
  | some a =>
    have := samV_self a
    rw [V_some (h a rfl)] at this
    exact this
theorem sam_wide (x : Nat) : samV (wideF (V32 x)) (wideF (V32 x)) = true := by
  refine sam_self _ fun a ha => ?_
  unfold V32 Vk at ha
  by_cases hn : nanB .f32 x = true
  · rw [if_pos hn] at ha; cases ha
  · rw [if_neg hn] at ha
    unfold wideF at ha
    rw [Option.map_some] at ha
    cases hd : FloatKind.f32.decode x with
    | nan s t => unfold nanB at hn; rw [hd] at hn; exact absurd rfl hn
    | infinity s => rw [hd] at ha; cases ha; exact write_not_nan _ _ rfl
    | number s m e => rw [hd] at ha; cases ha; exact write_not_nan _ _ rfl
set_option maxRecDepth 20000 in
set_option maxHeartbeats 8000000 in
theorem walk (A : Option Addr) (c : Nat) (zs : List Int) (B : Option Addr) (d : Nat) (ys : List Int) (W : World) (hr : Rd W W.heap.size A (bs zs)) (hw : Bytes zs) (hs : Rd W W.heap.size B (bs ys)) (hv : Bytes ys) :
    Calls Try.prog 3 #[.slice A zs.length c, .slice B ys.length d] W fun e w' => e = .returned (.bool true) ∧ Below W.heap.size W w' := by
  by_cases hl : 3000 < zs.length ∨ 3000 < ys.length
  · have hlong : (decide (3000 < (zs.length : Int)) || decide (3000 < (ys.length : Int))) = true := by
      rcases hl with h | h
      · rw [decide_eq_true (show 3000 < (zs.length : Int) by omega)]; rfl
      · rw [decide_eq_true (show 3000 < (ys.length : Int) by omega), Bool.or_true]
    go_enter Try.func3, Try.ntmps3
    go_wp2_with fail
    refine (a2Long_ok _ _ _ _ _ _ _).mono ?_
    rintro e w2 ⟨rfl, rfl⟩
    rw [hlong]
    go_wp2
    go_ret
    exact ⟨rfl, Below.refl _ _⟩
  have hshort : (decide (3000 < (zs.length : Int)) || decide (3000 < (ys.length : Int))) = false := by
    rw [decide_eq_false (show ¬ 3000 < (zs.length : Int) by omega), decide_eq_false (show ¬ 3000 < (ys.length : Int) by omega)]; rfl
  go_enter Try.func3, Try.ntmps3
  go_wp2_with fail
  refine (a2Long_ok _ _ _ _ _ _ _).mono ?_
  rintro e w2 ⟨rfl, rfl⟩
  rw [hshort]
  go_wp2_with fail
  refine (a2any_ok A c zs W hr hw (by omega)).mono ?_
  rintro e w2 ⟨x1, x2, rfl, hx1, hx2, hb2⟩
  go_wp2_with fail
  refine (a2any_ok B d ys w2 ((hs.below hb2 (Nat.le_refl _)).more hb2.size) hv (by omega)).mono ?_
  rintro e w3 ⟨y1, y2, rfl, hy1, hy2, hb3⟩
  have hB3 : Below W.heap.size W w3 := hb2.trans (hb3.mono hb2.size)
  go_wp2_with fail
  refine (a2At_ok B d ys 0 3 w3 ((hs.below hB3 (Nat.le_refl _)).more hB3.size) hv (by omega) (by omega)).mono ?_
  rintro e w4 ⟨z, rfl, hz0, hz1, rfl⟩
  have hE : ∀ x y : F, (ford x y == some .eq) = eqV x y := fun _ _ => rfl
  have hN : ∀ x y : F, (ford x y != some .eq) = !eqV x y := fun _ _ => rfl
  have hF : ∀ x : F, eqV (fop .sub x x) (V 0) = finV x := fun _ => rfl
  have hS : ∀ x y : Nat, (FloatKind.f32.format.order x y == some .eq) = eqS x y := fun _ _ => rfl
  have hxx : (samV (V x1) (V x1) && samV (V x2) (V x2)) = true := by rw [samV_self, samV_self]; rfl
  have hs1 := samV_symm (V y1) (V x1)
  have hs2 := samV_symm (V y2) (V x2)
  have hws := sam_wide
  have f4 := fun h1 h2 => samV_eq hx1 hy1 h1 h2
  have f4' := fun h1 h2 => samV_eq hx2 hy2 h1 h2
  have f6 := fun h1 h2 => samV_num (x := V x1) (y := V y1) h1 h2
  have f6' := fun h1 h2 => samV_num (x := V x2) (y := V y2) h1 h2
  by_cases hz : z = 0
  · subst hz
    go_wp2_with (first
      | (go_at_call 18; refine (sameNumber_ok _ _ _ _ _ (by assumption) (by assumption) (by assumption) (by assumption)).mono ?_; rintro e w5 ⟨rfl, rfl⟩; simp only [*])
      | (go_at_call 19; refine (isEqual_ok _ _ _ _ _).mono ?_; rintro e w5 ⟨rfl, rfl⟩)
      | (go_at_call 20; refine (a2Whole_ok _ _ _).mono ?_; rintro e w5 ⟨rfl, rfl⟩)
      | (go_at_call 21; refine (isFinite_ok _ _ _).mono ?_; rintro e w5 ⟨rfl, n5, rfl⟩; (try simp only [*]))
      | (go_at_call 22; refine (narrowOf_ok _ _ _ (by assumption) (by assumption)).mono ?_; rintro e w5 ⟨c5, d5, rfl, hc5, hd5, n5, rfl⟩)
      | (go_at_call 25; refine (wideOf_ok _ _ _ (by assumption) (by assumption)).mono ?_; rintro e w5 ⟨c5, d5, rfl, hvc5, hvd5, hc5, hd5, n5, rfl⟩)
      | (go_at_call 23; refine (sameNarrow_ok _ _ _ _ _ (by assumption) (by assumption) (by assumption) (by assumption)).mono ?_; rintro e w5 ⟨rfl, n5, rfl⟩; simp only [hws])
      | (go_at_call 24; refine (isEqualNarrow_ok _ _ _ _ _).mono ?_; rintro e w5 ⟨rfl, rfl⟩)
      | (go_at_call 26; refine (isFiniteNarrow_ok _ _ _ (by assumption) (by assumption)).mono ?_; rintro e w5 ⟨rfl, n5, rfl⟩))
    all_goals first
      | (go_ret; exact ⟨rfl, hB3.drewN _⟩)
      | (exfalso; clear hE hN hF hS hws hr hs; simp_all; done)
  · have hz' : (z == 0) = false := by rw [beq_eq_false_iff_ne]; exact hz
    go_wp2_with (first
      | (go_at_call 18; refine (sameNumber_ok _ _ _ _ _ (by assumption) (by assumption) (by assumption) (by assumption)).mono ?_; rintro e w5 ⟨rfl, rfl⟩; simp only [*])
      | (go_at_call 19; refine (isEqual_ok _ _ _ _ _).mono ?_; rintro e w5 ⟨rfl, rfl⟩)
      | (go_at_call 20; refine (a2Whole_ok _ _ _).mono ?_; rintro e w5 ⟨rfl, rfl⟩)
      | (go_at_call 21; refine (isFinite_ok _ _ _).mono ?_; rintro e w5 ⟨rfl, n5, rfl⟩; (try simp only [*]))
      | (go_at_call 22; refine (narrowOf_ok _ _ _ (by assumption) (by assumption)).mono ?_; rintro e w5 ⟨c5, d5, rfl, hc5, hd5, n5, rfl⟩)
      | (go_at_call 25; refine (wideOf_ok _ _ _ (by assumption) (by assumption)).mono ?_; rintro e w5 ⟨c5, d5, rfl, hvc5, hvd5, hc5, hd5, n5, rfl⟩)
      | (go_at_call 23; refine (sameNarrow_ok _ _ _ _ _ (by assumption) (by assumption) (by assumption) (by assumption)).mono ?_; rintro e w5 ⟨rfl, n5, rfl⟩; simp only [hws])
      | (go_at_call 24; refine (isEqualNarrow_ok _ _ _ _ _).mono ?_; rintro e w5 ⟨rfl, rfl⟩)
      | (go_at_call 26; refine (isFiniteNarrow_ok _ _ _ (by assumption) (by assumption)).mono ?_; rintro e w5 ⟨rfl, n5, rfl⟩))
    all_goals first
      | (go_ret; exact ⟨rfl, hB3.drewN _⟩)
      | (exfalso; clear hE hN hF hS hws hr hs; simp_all; done)
theorem own : ownKnob Try.prog.godebug = none := by kernel_rfl
theorem laidOut : laidOutB Try.prog = true := by kernel_rfl
theorem params_ok : ∀ t ∈ Try.f3.params.toList, Try.prog.readableRec t = true ∧ t < Try.prog.types.size := by
  have h : (Try.f3.params.toList.all fun t => Try.prog.readableRec t && decide (t < Try.prog.types.size)) = true := by kernel_rfl
  intro t ht
  have := List.all_eq_true.1 h t ht
  simpa using this
theorem cells_u8 : Try.prog.cellsOf 5 = 1 := by kernel_rfl
set_option maxRecDepth 100000 in
theorem lifted (os : Os) (started : os.Started) (H : Type) (enc : TypeId × Value → H) :
    ReturnsInHanded {} Try.checked os 3 .any (Rows.fnSameAndEqualSpec.pre6 enc Try.prog Try.f3 Rows.fnSameAndEqualRow.domain false) (Rows.fnSameAndEqualSpec.post enc Try.prog Try.f3 false true false false) := by
  refine returnsInHanded_of_change (C := Try.checked) own started (by kernel_rfl) Try.func3
    (ChangeSpec.witness6 (enc := enc) (C := Try.checked) false ⟨#[], #[.slice none 0 0, .slice none 0 0], []⟩ 8 (by kernel_rfl) (by kernel_rfl) (by kernel_rfl) (by kernel_rfl)) ?_
  intro W base args ds gs before hval0 hW _ _
  have hval : ∀ (j : Nat) t v, Try.f3.params[j]? = some t → args[j]? = some v → Value.okWide Try.prog W .any base t v := hval0
  have hW' := hW
  obtain ⟨p, q, hA0, hV, rfl, hfz, hnd⟩ := hW
  have hA : DataW.TrodAll enc Try.prog W 0 (fun _ => true) true Try.f3.params.toList args.toList ds p := hA0
  rw [Try.params3] at hA hval
  obtain ⟨v0, vs0, d0, ds0, p0, q0, hargs, rfl, rfl, h0, r0⟩ := trodAll_cons hA
  obtain ⟨v1, vs1, d1, ds1, p1, q1, rfl, rfl, rfl, h1, r1⟩ := trodAll_cons r0
  obtain ⟨rfl, rfl, rfl⟩ := trodAll_nil r1
  obtain rfl : args = #[v0, v1] := by cases args; simp_all
  obtain ⟨A0, c0, zs0, rfl, hr0, hw0, _⟩ := open_bytes Try.underlying22 Try.underlying5 cells_u8 (hval 0 22 v0 rfl rfl) h0
  obtain ⟨A1, c1, zs1, rfl, hr1, hw1, _⟩ := open_bytes Try.underlying22 Try.underlying5 cells_u8 (hval 1 22 v1 rfl rfl) h1
  refine (walk A0 c0 zs0 A1 c1 zs1 W hr0 hw0 hr1 hw1).mono fun e W' ⟨he, hb⟩ => ?_
  exact ⟨_, he, law_post laidOut params_ok rfl Try.underlying4 rfl rfl hW' hb⟩

theorem proved : Rows.FnSameAndEqualSaid :=
  OpenClaim.holds_of_wide 3 Try.f3 rfl rfl rfl rfl rfl rfl rfl ⟨rfl, rfl, rfl, rfl, rfl⟩ rfl rfl rfl rfl rfl (by kernel_rfl) Try.func3 (by kernel_rfl)
    (of_decide_eq_true (by kernel_rfl)) (by unfold Func.isWrapper; rw [if_neg (of_decide_eq_false (by kernel_rfl))]; exact ⟨rfl, rfl⟩)
    (fun os started H enc _ => lifted os started H enc)
end Go.Proofs.Ytlafjmghfnlaoab.lawSameAndEqual
