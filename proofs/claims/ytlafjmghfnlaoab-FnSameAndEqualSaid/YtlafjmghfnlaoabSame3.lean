/-
  Contracts: the same numbers at the level of values, conversions of complex numbers, finite ones.
-/
import Derived.Test.YtlafjmghfnlaoabSame2
import Derived.Test.YtlafjmghfnlaoabConv
import Derived.Test.YtlafjmghfnlaoabPlace
namespace Go.Proofs.Ytlafjmghfnlaoab
open Go.RowKit

def signS (a : Nat) : Bool := decide (9223372036854775808 ≤ a)
theorem signB_eq {a : Nat} (h : Wf a) : signB a = signS a := by
  unfold Wf at h
  unfold signB signS wrap64
  rw [decide_eq_decide]
  omega
theorem cmp_symm (x y : Int) : (compare x y == .eq) = (compare y x == .eq) := by
  rw [← Int.compare_swap x y]
  cases compare x y <;> rfl
theorem cmpN_symm (x y : Nat) : (compare x y == .eq) = (compare y x == .eq) := by
  rw [← Nat.compare_swap x y]
  cases compare x y <;> rfl
theorem ord_symm (d e : Ieee.Datum) : (d.order e == some .eq) = (e.order d == some .eq) := by
  cases d with
  | nan s t => cases e <;> rfl
  | infinity s =>
    cases e with
    | nan s t => rfl
    | infinity t => cases s <;> cases t <;> rfl
    | number t n j => cases s <;> rfl
  | number s m i =>
    cases e with
    | nan s t => rfl
    | infinity t => cases t <;> rfl
    | number t n j =>
      unfold Ieee.Datum.order
      dsimp only
      rw [Int.min_comm j i]
      exact cmp_symm _ _
/-- the same: both are NaNs, or they are equal and of one sign -/
def samV (x y : F) : Bool :=
  match x, y with
  | none, none => true
  | some a, some b => eqV (some a) (some b) && (signS a == signS b)
  | _, _ => false
theorem qord_self (d : Ieee.Datum) (h : d.isNaN = false) : d.order d = some .eq := by
  cases d with
  | number s m i => simp [Ieee.Datum.order]
  | infinity s => simp [Ieee.Datum.order]
  | nan s t => simp [Ieee.Datum.isNaN] at h
theorem qford_self {x : Nat} (h : V x ≠ none) : ford (V x) (V x) = some .eq := by
  unfold V Vk at h ⊢
  by_cases hn : nanB .f64 x = true
  · simp [hn] at h
  · simp only [hn]
    exact qord_self (FloatKind.f64.decode x) (by simpa [nanB] using hn)
theorem eqV_self (a : Nat) : eqV (V a) (V a) = (V a).isSome := by
  unfold eqV
  by_cases h : V a = none
  · rw [h]; rfl
  · rw [qford_self h]
    cases hv : V a with
    | none => exact absurd hv h
    | some b => rfl
theorem V_is {a b : Nat} (h : V a = some b) : a = b := by
  unfold V Vk at h
  split at h
  · cases h
  · cases h; rfl
theorem eqV_none_l (y : F) : eqV none y = false := rfl
theorem eqV_none_r (x : F) : eqV x none = false := by cases x <;> rfl
theorem sameR_eq {a b : Nat} (ha : Wf a) (hb : Wf b) : sameR a b = samV (V a) (V b) := by
  unfold sameR
  rw [eqV_self, eqV_self, signB_eq ha, signB_eq hb]
  cases h1 : V a with
  | none =>
    cases h2 : V b with
    | none => rfl
    | some y => simp [eqV_none_l, samV]
  | some x =>
    cases h2 : V b with
    | none => simp [eqV_none_r, samV]
    | some y =>
      have e1 := V_is h1
      have e2 := V_is h2
      subst e1; subst e2
      simp [samV]
theorem samV_self (a : Nat) : samV (V a) (V a) = true := by
  have h := eqV_self a
  cases hv : V a with
  | none => rfl
  | some b =>
    rw [hv] at h
    unfold samV
    dsimp only
    rw [h]
    simp
theorem eqV_symm (x y : F) : eqV x y = eqV y x := by
  cases x with
  | none => cases y <;> rfl
  | some a =>
    cases y with
    | none => rfl
    | some b =>
      unfold eqV ford fordk Ieee.Format.order
      show ((FloatKind.f64.format.read a).order (FloatKind.f64.format.read b) == some .eq) = ((FloatKind.f64.format.read b).order (FloatKind.f64.format.read a) == some .eq)
      generalize FloatKind.f64.format.read a = d
      generalize FloatKind.f64.format.read b = e
      exact ord_symm d e
theorem samV_symm (x y : F) : samV x y = samV y x := by
  cases x with
  | none => cases y <;> rfl
  | some a =>
    cases y with
    | none => rfl
    | some b =>
      unfold samV
      dsimp only
      rw [eqV_symm, Bool.beq_comm]
theorem sameReal_ok (a b : Nat) (w : World) (ha : Wf a) (hb : Wf b) :
    Calls Try.prog 107 #[.float .f64 a, .float .f64 b] w fun e w' => e = .returned (.bool (samV (V a) (V b))) ∧ w = w' := by
  rw [← sameR_eq ha hb]
  exact sameReal_is a b _ _ _ _ _ w (fun w => signbit_ok a w) (fun w => signbit_ok b w) rfl rfl rfl
set_option maxRecDepth 20000 in
set_option maxHeartbeats 400000 in
theorem sameNumber_ok (a b c d : Nat) (w : World) (ha : Wf a) (hb : Wf b) (hc : Wf c) (hd : Wf d) :
    Calls Try.prog 18 #[.complex .f64 a b, .complex .f64 c d] w fun e w' => e = .returned (.bool (samV (V a) (V c) && samV (V b) (V d))) ∧ w = w' := by
  go_enter Try.func18, Try.ntmps18
  go_wp2_with fail
  refine (sameReal_ok a c w ha hc).mono ?_
  rintro e w2 ⟨rfl, rfl⟩
  cases h : samV (V a) (V c) with
  | true =>
    go_wp2_with fail
    refine (sameReal_ok b d w hb hd).mono ?_
    rintro e w2 ⟨rfl, rfl⟩
    go_wp2
    go_ret
    exact ⟨ret_bool (by simp [h]), rfl⟩
  | false =>
    go_wp2
    go_ret
    exact ⟨ret_bool (by simp [h]), rfl⟩
set_option maxRecDepth 20000 in
set_option maxHeartbeats 400000 in
theorem sameNarrow_ok (a b c d : Nat) (w : World) (ha : Wf32 a) (hb : Wf32 b) (hc : Wf32 c) (hd : Wf32 d) :
    Calls Try.prog 23 #[.complex .f32 a b, .complex .f32 c d] w fun e w' => e = .returned (.bool (samV (wideF (V32 a)) (wideF (V32 c)) && samV (wideF (V32 b)) (wideF (V32 d)))) ∧ ∃ n, w.drewN n = w' := by
  go_enter Try.func23, Try.ntmps23
  go_wp2_with fail
  refine (sameNumber_ok _ _ _ _ _ (Wf_wide _ ha) (Wf_wide _ hb) (Wf_wide _ hc) (Wf_wide _ hd)).mono ?_
  rintro e w2 ⟨rfl, rfl⟩
  rw [V_wide _ _ ha, V_wide _ _ hb, V_wide _ _ hc, V_wide _ _ hd]
  go_wp2
  go_ret
  exact ⟨rfl, _, rfl⟩
set_option maxRecDepth 20000 in
set_option maxHeartbeats 400000 in
theorem wideOf_ok (a b : Nat) (w : World) (ha : Wf32 a) (hb : Wf32 b) :
    Calls Try.prog 25 #[.complex .f32 a b] w fun e w' => ∃ c d, e = .returned (.complex .f64 c d) ∧ V c = wideF (V32 a) ∧ V d = wideF (V32 b) ∧ Wf c ∧ Wf d ∧ ∃ n, w.drewN n = w' := by
  go_enter Try.func25, Try.ntmps25
  go_wp2
  go_ret
  exact ⟨_, _, rfl, V_wide _ _ ha, V_wide _ _ hb, Wf_wide _ ha, Wf_wide _ hb, _, rfl⟩
set_option maxRecDepth 20000 in
set_option maxHeartbeats 400000 in
theorem narrowOf_ok (a b : Nat) (w : World) (ha : Wf a) (hb : Wf b) :
    Calls Try.prog 22 #[.complex .f64 a b] w fun e w' => ∃ c d, e = .returned (.complex .f32 c d) ∧ Wf32 c ∧ Wf32 d ∧ ∃ n, w.drewN n = w' := by
  go_enter Try.func22, Try.ntmps22
  go_wp2
  go_ret
  exact ⟨_, _, rfl, Wf_narrow _ ha, Wf_narrow _ hb, _, rfl⟩
set_option maxRecDepth 20000 in
set_option maxHeartbeats 400000 in
theorem a2Whole_ok (a b : Nat) (w : World) : Calls Try.prog 20 #[.complex .f64 a b] w fun e w' => e = .returned (.bool (eqV (V a) (V a) && eqV (V b) (V b))) ∧ w = w' := by
  go_enter Try.func20, Try.ntmps20
  go_wp2
  all_goals go_ret
  all_goals refine ⟨ret_bool ?_, rfl⟩
  all_goals unfold eqV
  all_goals rfl
def finV (x : F) : Bool := eqV (fop .sub x x) (V 0)
set_option maxRecDepth 20000 in
set_option maxHeartbeats 400000 in
theorem isFinite_ok (a b : Nat) (w : World) : Calls Try.prog 21 #[.complex .f64 a b] w fun e w' => e = .returned (.bool (finV (V a) && finV (V b))) ∧ ∃ n, w.drewN n = w' := by
  go_enter Try.func21, Try.ntmps21
  go_wp2
  all_goals go_ret
  all_goals refine ⟨ret_bool ?_, _, rfl⟩
  all_goals simp [finV, eqV, *]
set_option maxRecDepth 20000 in
set_option maxHeartbeats 400000 in
theorem isFiniteNarrow_ok (a b : Nat) (w : World) (ha : Wf32 a) (hb : Wf32 b) : Calls Try.prog 26 #[.complex .f32 a b] w fun e w' => e = .returned (.bool (finV (wideF (V32 a)) && finV (wideF (V32 b)))) ∧ ∃ n, w.drewN n = w' := by
  go_enter Try.func26, Try.ntmps26
  go_wp2_with fail
  refine (isFinite_ok _ _ _).mono ?_
  rintro e w2 ⟨rfl, n, rfl⟩
  rw [V_wide _ _ ha, V_wide _ _ hb]
  go_wp2
  go_ret
  exact ⟨rfl, _, rfl⟩
def eqS (a b : Nat) : Bool := FloatKind.f32.format.order a b == some .eq
set_option maxRecDepth 20000 in
set_option maxHeartbeats 400000 in
theorem isEqualNarrow_ok (a b x y : Nat) (w : World) : Calls Try.prog 24 #[.complex .f32 a b, .complex .f32 x y] w fun e w' => e = .returned (.bool (eqS a x && eqS b y)) ∧ w = w' := by
  go_enter Try.func24, Try.ntmps24
  go_wp2
  all_goals go_ret
  all_goals refine ⟨ret_bool ?_, rfl⟩
  all_goals unfold eqS
  all_goals rfl
theorem samV_num {x y : F} (hx : eqV x x = true) (h : samV x y = true) : eqV x y = true := by
  cases x with
  | none => cases hx
  | some a =>
    cases y with
    | none => cases h
    | some b =>
      unfold samV at h
      simp only [Bool.and_eq_true] at h
      exact h.1
theorem zero_place {a : Nat} (ha : Wf a) (h0 : eqV (V a) (V 0) = false) (hn : NumB a) : place a ≠ 0 := by
  intro h
  have h1 : ford (V a) (V 0) = some .eq := by
    rw [ford_zval ha Wf0 hn (by unfold NumB rung; omega), cmp_eq]
    rw [zval_place_eq, h]
    rfl
  unfold eqV at h0
  rw [h1] at h0
  cases h0
theorem samV_eq {a b : Nat} (ha : Wf a) (hb : Wf b) (h : eqV (V a) (V b) = true) (h0 : eqV (V a) (V 0) = false) : samV (V a) (V b) = true := by
  have hna : nanB .f64 a = false := by
    cases hc : nanB .f64 a
    · rfl
    · rw [V_none hc] at h; cases h
  have hnb : nanB .f64 b = false := by
    cases hc : nanB .f64 b
    · rfl
    · rw [V_none hc, eqV_none_r] at h; cases h
  have na := num_of_nan hna
  have nb := num_of_nan hnb
  have hp := zero_place ha h0 na
  have he : place a = place b := by
    unfold eqV at h
    rw [ford_zval ha hb na nb] at h
    rw [← zval_place_eq]
    rcases Int.lt_trichotomy (zval a) (zval b) with h1 | h1 | h1
    · rw [cmp_lt h1] at h; cases h
    · exact h1
    · rw [cmp_gt h1] at h; cases h
  have hs : signS a = signS b := by
    unfold place at he hp
    unfold signS
    unfold negB at he hp
    by_cases c1 : 9223372036854775808 ≤ a
    · by_cases c2 : 9223372036854775808 ≤ b
      · rw [decide_eq_true c1, decide_eq_true c2]
      · rw [decide_eq_true c1, decide_eq_false c2] at he
        rw [decide_eq_true c1] at hp
        simp only [if_true, Bool.false_eq_true, if_false] at he hp
        omega
    · by_cases c2 : 9223372036854775808 ≤ b
      · rw [decide_eq_false c1, decide_eq_true c2] at he
        rw [decide_eq_false c1] at hp
        simp only [if_true, Bool.false_eq_true, if_false] at he hp
        omega
      · rw [decide_eq_false c1, decide_eq_false c2]
  rw [V_some hna, V_some hnb] at h ⊢
  unfold samV
  dsimp only
  rw [h, hs]
  simp
set_option maxRecDepth 20000 in
set_option maxHeartbeats 400000 in
theorem a2At_ok (A : Option Addr) (c : Nat) (zs : List Int) (k n : Int) (w : World) (hr : Rd w w.heap.size A (bs zs)) (hz : Bytes zs) (hk : 0 ≤ k) (hn : 0 < n) :
    Calls Try.prog 17 #[.slice A zs.length c, .int .i64 k, .int .i64 n] w fun e w' => ∃ z, e = .returned (.int .i64 z) ∧ 0 ≤ z ∧ z < n ∧ w = w' := by
  go_enter Try.func17, Try.ntmps17
  by_cases h : k < zs.length
  · obtain ⟨b, off, rfl, hb, hc⟩ := hr.open_ (by simp [bs]; omega)
    have hi : k.toNat < zs.length := by omega
    have hc' := hc _ _ (bs_get zs hi)
    have hz' := hz _ (List.getElem_mem hi)
    have ha := Int.emod_nonneg (nthB zs k.toNat) (show n ≠ 0 by omega)
    have hb := Int.emod_lt_of_pos (nthB zs k.toNat) (show (0 : Int) < n by omega)
    have hb0 : 0 ≤ nthB zs k.toNat := by simp [nthB, hi]; exact hz'.1
    have hb1 : nthB zs k.toNat ≤ 255 := by simp [nthB, hi]; exact hz'.2
    go_wp2
    all_goals go_ret
    all_goals exact ⟨_, rfl, ha, hb, rfl⟩
  · go_wp2
    go_ret
    exact ⟨_, rfl, by omega, by omega, rfl⟩
end Go.Proofs.Ytlafjmghfnlaoab
