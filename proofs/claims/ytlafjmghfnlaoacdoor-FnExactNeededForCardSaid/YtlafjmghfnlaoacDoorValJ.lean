/-
  Contracts: a valid step in the program.
-/
import Derived.Test.YtlafjmghfnlaoacDoorValI
namespace Go.Proofs.YtlafjmghfnlaoacDoor
open Go.RowKit

set_option maxRecDepth 20000 in
set_option maxHeartbeats 400000 in
theorem impl1_ok (n k : Int) (tp : List Int) (A : Option Addr) (c bt ot ct : Nat) (w : World) (hf : Forms w bt ot ct) (hr : Rd w w.heap.size A (is64 tp)) (hn : tp.length ≤ 1048576) (hI : I64' n) :
    Calls Tryd.prog 11 #[stV ⟨1, n, k, tp⟩ A c] w fun e w' => e = .returned (.bool (valid ⟨1, n, k, tp⟩)) ∧ Below w.heap.size w w' := by
  obtain ⟨f0, hpos, hlt, hat⟩ := hf
  obtain ⟨a0, a1, a2, a3⟩ := hat 1 (by omega)
  have e1 : fN ((1 : Nat) : Int) = true := by decide
  have e2 : fK ((1 : Nat) : Int) = true := by decide
  have e3 : fT ((1 : Nat) : Int) = false := by decide
  rw [e1] at a1
  rw [e2] at a2
  rw [e3] at a3
  simp only [wordsV, List.getElem?_cons_succ, List.getElem?_cons_zero] at a0
  clear hat e1 e2 e3
  have hv := valid1 n k tp
  have hz : inZ 1 1 13 = true := rfl
  have hnum := fun w' (hr : Rd w' w'.heap.size A (is64 tp)) => numbers1_ok n k tp A c w' hr hn hI
  rw [okN1] at hnum
  unfold stV at hnum ⊢
  dsimp only at hnum ⊢
  have HN := hid hnum
  clear hnum
  have HV := hid hv
  clear hv
  cases tp with
  | nil =>
    simp only [List.length_nil] at HN hn
    go_enter Tryd.func11, Tryd.ntmps11
    go_wp2_with (first
      | (go_at_call 27; refine (in_ok _ _ _ _).mono ?_; rintro e w2 ⟨rfl, rfl⟩)
      | (go_at_call 28; refine (HN.out _ ((hr.below (below_box2 w _ _) (Nat.le_refl _)).more (by rw [size2]; omega))).mono ?_; rintro e w2 ⟨rfl, hb2⟩))
    all_goals
      go_ret
      refine ⟨ret_bool ?_, by first | exact below_box2 w _ _ | exact (below_box2 w _ _).trans (Below.mono (by assumption) (by rw [size2]; omega))⟩
      rw [HV.out]
      first | (simp_all; done) | (simp; done)
  | cons x xs =>
    have hl : ((x :: xs).length : Int) ≠ 0 := by rw [List.length_cons]; omega
    have hl2 : (((x :: xs).length : Int) == 0) = false := by rw [beq_eq_false_iff_ne]; exact hl
    have hl3 : decide ((x :: xs).length = 0) = false := by simp
    rw [hl3] at HV
    generalize (x :: xs).length = L at *
    go_enter Tryd.func11, Tryd.ntmps11
    go_wp2_with (first
      | (go_at_call 27; refine (in_ok _ _ _ _).mono ?_; rintro e w2 ⟨rfl, rfl⟩)
      | (go_at_call 28; refine (HN.out _ ((hr.below (below_box2 w _ _) (Nat.le_refl _)).more (by rw [size2]; omega))).mono ?_; rintro e w2 ⟨rfl, hb2⟩))
    all_goals
      go_ret
      refine ⟨ret_bool ?_, by first | exact below_box2 w _ _ | exact (below_box2 w _ _).trans (Below.mono (by assumption) (by rw [size2]; omega))⟩
      rw [HV.out]
      first | (simp_all; done) | (simp; done)
set_option maxRecDepth 20000 in
set_option maxHeartbeats 400000 in
theorem impl2_ok (n k : Int) (tp : List Int) (A : Option Addr) (c bt ot ct : Nat) (w : World) (hf : Forms w bt ot ct) (hr : Rd w w.heap.size A (is64 tp)) (hn : tp.length ≤ 1048576) (hI : I64' n) :
    Calls Tryd.prog 11 #[stV ⟨2, n, k, tp⟩ A c] w fun e w' => e = .returned (.bool (valid ⟨2, n, k, tp⟩)) ∧ Below w.heap.size w w' := by
  obtain ⟨f0, hpos, hlt, hat⟩ := hf
  obtain ⟨a0, a1, a2, a3⟩ := hat 2 (by omega)
  have e1 : fN ((2 : Nat) : Int) = true := by decide
  have e2 : fK ((2 : Nat) : Int) = false := by decide
  have e3 : fT ((2 : Nat) : Int) = false := by decide
  rw [e1] at a1
  rw [e2] at a2
  rw [e3] at a3
  simp only [wordsV, List.getElem?_cons_succ, List.getElem?_cons_zero] at a0
  clear hat e1 e2 e3
  have hv := valid2 n k tp
  have hz : inZ 2 1 13 = true := rfl
  have hnum := fun w' (hr : Rd w' w'.heap.size A (is64 tp)) => numbers2_ok n k tp A c w' hr hn hI
  rw [okN2] at hnum
  unfold stV at hnum ⊢
  dsimp only at hnum ⊢
  have HN := hid hnum
  clear hnum
  have HV := hid hv
  clear hv
  by_cases hk : k = 0
  · subst hk
    cases tp with
    | nil =>
      simp only [List.length_nil] at HN hn
      go_enter Tryd.func11, Tryd.ntmps11
      go_wp2_with (first
        | (go_at_call 27; refine (in_ok _ _ _ _).mono ?_; rintro e w2 ⟨rfl, rfl⟩)
        | (go_at_call 28; refine (HN.out _ ((hr.below (below_box2 w _ _) (Nat.le_refl _)).more (by rw [size2]; omega))).mono ?_; rintro e w2 ⟨rfl, hb2⟩))
      all_goals
        go_ret
        refine ⟨ret_bool ?_, by first | exact below_box2 w _ _ | exact (below_box2 w _ _).trans (Below.mono (by assumption) (by rw [size2]; omega))⟩
        rw [HV.out]
        first | (simp_all; done) | (simp; done)
    | cons x xs =>
      have hl : ((x :: xs).length : Int) ≠ 0 := by rw [List.length_cons]; omega
      have hl2 : (((x :: xs).length : Int) == 0) = false := by rw [beq_eq_false_iff_ne]; exact hl
      have hl3 : decide ((x :: xs).length = 0) = false := by simp
      rw [hl3] at HV
      generalize (x :: xs).length = L at *
      go_enter Tryd.func11, Tryd.ntmps11
      go_wp2_with (first
        | (go_at_call 27; refine (in_ok _ _ _ _).mono ?_; rintro e w2 ⟨rfl, rfl⟩)
        | (go_at_call 28; refine (HN.out _ ((hr.below (below_box2 w _ _) (Nat.le_refl _)).more (by rw [size2]; omega))).mono ?_; rintro e w2 ⟨rfl, hb2⟩))
      all_goals
        go_ret
        refine ⟨ret_bool ?_, by first | exact below_box2 w _ _ | exact (below_box2 w _ _).trans (Below.mono (by assumption) (by rw [size2]; omega))⟩
        rw [HV.out]
        first | (simp_all; done) | (simp; done)
  · have hkb : (k == 0) = false := by rw [beq_eq_false_iff_ne]; exact hk
    cases tp with
    | nil =>
      simp only [List.length_nil] at HN hn
      go_enter Tryd.func11, Tryd.ntmps11
      go_wp2_with (first
        | (go_at_call 27; refine (in_ok _ _ _ _).mono ?_; rintro e w2 ⟨rfl, rfl⟩)
        | (go_at_call 28; refine (HN.out _ ((hr.below (below_box2 w _ _) (Nat.le_refl _)).more (by rw [size2]; omega))).mono ?_; rintro e w2 ⟨rfl, hb2⟩))
      all_goals
        go_ret
        refine ⟨ret_bool ?_, by first | exact below_box2 w _ _ | exact (below_box2 w _ _).trans (Below.mono (by assumption) (by rw [size2]; omega))⟩
        rw [HV.out]
        first | (simp_all; done) | (simp; done)
    | cons x xs =>
      have hl : ((x :: xs).length : Int) ≠ 0 := by rw [List.length_cons]; omega
      have hl2 : (((x :: xs).length : Int) == 0) = false := by rw [beq_eq_false_iff_ne]; exact hl
      have hl3 : decide ((x :: xs).length = 0) = false := by simp
      rw [hl3] at HV
      generalize (x :: xs).length = L at *
      go_enter Tryd.func11, Tryd.ntmps11
      go_wp2_with (first
        | (go_at_call 27; refine (in_ok _ _ _ _).mono ?_; rintro e w2 ⟨rfl, rfl⟩)
        | (go_at_call 28; refine (HN.out _ ((hr.below (below_box2 w _ _) (Nat.le_refl _)).more (by rw [size2]; omega))).mono ?_; rintro e w2 ⟨rfl, hb2⟩))
      all_goals
        go_ret
        refine ⟨ret_bool ?_, by first | exact below_box2 w _ _ | exact (below_box2 w _ _).trans (Below.mono (by assumption) (by rw [size2]; omega))⟩
        rw [HV.out]
        first | (simp_all; done) | (simp; done)
set_option maxRecDepth 20000 in
set_option maxHeartbeats 400000 in
theorem impl3_ok (n k : Int) (tp : List Int) (A : Option Addr) (c bt ot ct : Nat) (w : World) (hf : Forms w bt ot ct) (hr : Rd w w.heap.size A (is64 tp)) (hn : tp.length ≤ 1048576) (hI : I64' n) :
    Calls Tryd.prog 11 #[stV ⟨3, n, k, tp⟩ A c] w fun e w' => e = .returned (.bool (valid ⟨3, n, k, tp⟩)) ∧ Below w.heap.size w w' := by
  obtain ⟨f0, hpos, hlt, hat⟩ := hf
  obtain ⟨a0, a1, a2, a3⟩ := hat 3 (by omega)
  have e1 : fN ((3 : Nat) : Int) = false := by decide
  have e2 : fK ((3 : Nat) : Int) = false := by decide
  have e3 : fT ((3 : Nat) : Int) = true := by decide
  rw [e1] at a1
  rw [e2] at a2
  rw [e3] at a3
  simp only [wordsV, List.getElem?_cons_succ, List.getElem?_cons_zero] at a0
  clear hat e1 e2 e3
  have hv := valid3 n k tp
  have hz : inZ 3 1 13 = true := rfl
  have hnum := fun w' (hr : Rd w' w'.heap.size A (is64 tp)) => numbers3_ok n k tp A c w' hr hn hI
  rw [okN3] at hnum
  unfold stV at hnum ⊢
  dsimp only at hnum ⊢
  have HN := hid hnum
  clear hnum
  have HV := hid hv
  clear hv
  by_cases hn : n = 0
  · subst hn
    by_cases hk : k = 0
    · subst hk
      go_enter Tryd.func11, Tryd.ntmps11
      go_wp2_with (first
        | (go_at_call 27; refine (in_ok _ _ _ _).mono ?_; rintro e w2 ⟨rfl, rfl⟩)
        | (go_at_call 28; refine (HN.out _ ((hr.below (below_box2 w _ _) (Nat.le_refl _)).more (by rw [size2]; omega))).mono ?_; rintro e w2 ⟨rfl, hb2⟩))
      all_goals
        go_ret
        refine ⟨ret_bool ?_, by first | exact below_box2 w _ _ | exact (below_box2 w _ _).trans (Below.mono (by assumption) (by rw [size2]; omega))⟩
        rw [HV.out]
        first | (simp_all; done) | (simp; done)
    · have hkb : (k == 0) = false := by rw [beq_eq_false_iff_ne]; exact hk
      go_enter Tryd.func11, Tryd.ntmps11
      go_wp2_with (first
        | (go_at_call 27; refine (in_ok _ _ _ _).mono ?_; rintro e w2 ⟨rfl, rfl⟩)
        | (go_at_call 28; refine (HN.out _ ((hr.below (below_box2 w _ _) (Nat.le_refl _)).more (by rw [size2]; omega))).mono ?_; rintro e w2 ⟨rfl, hb2⟩))
      all_goals
        go_ret
        refine ⟨ret_bool ?_, by first | exact below_box2 w _ _ | exact (below_box2 w _ _).trans (Below.mono (by assumption) (by rw [size2]; omega))⟩
        rw [HV.out]
        first | (simp_all; done) | (simp; done)
  · have hnb : (n == 0) = false := by rw [beq_eq_false_iff_ne]; exact hn
    by_cases hk : k = 0
    · subst hk
      go_enter Tryd.func11, Tryd.ntmps11
      go_wp2_with (first
        | (go_at_call 27; refine (in_ok _ _ _ _).mono ?_; rintro e w2 ⟨rfl, rfl⟩)
        | (go_at_call 28; refine (HN.out _ ((hr.below (below_box2 w _ _) (Nat.le_refl _)).more (by rw [size2]; omega))).mono ?_; rintro e w2 ⟨rfl, hb2⟩))
      all_goals
        go_ret
        refine ⟨ret_bool ?_, by first | exact below_box2 w _ _ | exact (below_box2 w _ _).trans (Below.mono (by assumption) (by rw [size2]; omega))⟩
        rw [HV.out]
        first | (simp_all; done) | (simp; done)
    · have hkb : (k == 0) = false := by rw [beq_eq_false_iff_ne]; exact hk
      go_enter Tryd.func11, Tryd.ntmps11
      go_wp2_with (first
        | (go_at_call 27; refine (in_ok _ _ _ _).mono ?_; rintro e w2 ⟨rfl, rfl⟩)
        | (go_at_call 28; refine (HN.out _ ((hr.below (below_box2 w _ _) (Nat.le_refl _)).more (by rw [size2]; omega))).mono ?_; rintro e w2 ⟨rfl, hb2⟩))
      all_goals
        go_ret
        refine ⟨ret_bool ?_, by first | exact below_box2 w _ _ | exact (below_box2 w _ _).trans (Below.mono (by assumption) (by rw [size2]; omega))⟩
        rw [HV.out]
        first | (simp_all; done) | (simp; done)
set_option maxRecDepth 20000 in
set_option maxHeartbeats 400000 in
theorem impl4_ok (n k : Int) (tp : List Int) (A : Option Addr) (c bt ot ct : Nat) (w : World) (hf : Forms w bt ot ct) (hr : Rd w w.heap.size A (is64 tp)) (hn : tp.length ≤ 1048576) (hI : I64' n) :
    Calls Tryd.prog 11 #[stV ⟨4, n, k, tp⟩ A c] w fun e w' => e = .returned (.bool (valid ⟨4, n, k, tp⟩)) ∧ Below w.heap.size w w' := by
  obtain ⟨f0, hpos, hlt, hat⟩ := hf
  obtain ⟨a0, a1, a2, a3⟩ := hat 4 (by omega)
  have e1 : fN ((4 : Nat) : Int) = true := by decide
  have e2 : fK ((4 : Nat) : Int) = true := by decide
  have e3 : fT ((4 : Nat) : Int) = false := by decide
  rw [e1] at a1
  rw [e2] at a2
  rw [e3] at a3
  simp only [wordsV, List.getElem?_cons_succ, List.getElem?_cons_zero] at a0
  clear hat e1 e2 e3
  have hv := valid4 n k tp
  have hz : inZ 4 1 13 = true := rfl
  have hnum := fun w' (hr : Rd w' w'.heap.size A (is64 tp)) => numbers4_ok n k tp A c w' hr hn hI
  rw [okN4] at hnum
  unfold stV at hnum ⊢
  dsimp only at hnum ⊢
  have HN := hid hnum
  clear hnum
  have HV := hid hv
  clear hv
  cases tp with
  | nil =>
    simp only [List.length_nil] at HN hn
    go_enter Tryd.func11, Tryd.ntmps11
    go_wp2_with (first
      | (go_at_call 27; refine (in_ok _ _ _ _).mono ?_; rintro e w2 ⟨rfl, rfl⟩)
      | (go_at_call 28; refine (HN.out _ ((hr.below (below_box2 w _ _) (Nat.le_refl _)).more (by rw [size2]; omega))).mono ?_; rintro e w2 ⟨rfl, hb2⟩))
    all_goals
      go_ret
      refine ⟨ret_bool ?_, by first | exact below_box2 w _ _ | exact (below_box2 w _ _).trans (Below.mono (by assumption) (by rw [size2]; omega))⟩
      rw [HV.out]
      first | (simp_all; done) | (simp; done)
  | cons x xs =>
    have hl : ((x :: xs).length : Int) ≠ 0 := by rw [List.length_cons]; omega
    have hl2 : (((x :: xs).length : Int) == 0) = false := by rw [beq_eq_false_iff_ne]; exact hl
    have hl3 : decide ((x :: xs).length = 0) = false := by simp
    rw [hl3] at HV
    generalize (x :: xs).length = L at *
    go_enter Tryd.func11, Tryd.ntmps11
    go_wp2_with (first
      | (go_at_call 27; refine (in_ok _ _ _ _).mono ?_; rintro e w2 ⟨rfl, rfl⟩)
      | (go_at_call 28; refine (HN.out _ ((hr.below (below_box2 w _ _) (Nat.le_refl _)).more (by rw [size2]; omega))).mono ?_; rintro e w2 ⟨rfl, hb2⟩))
    all_goals
      go_ret
      refine ⟨ret_bool ?_, by first | exact below_box2 w _ _ | exact (below_box2 w _ _).trans (Below.mono (by assumption) (by rw [size2]; omega))⟩
      rw [HV.out]
      first | (simp_all; done) | (simp; done)
set_option maxRecDepth 20000 in
set_option maxHeartbeats 400000 in
theorem impl5_ok (n k : Int) (tp : List Int) (A : Option Addr) (c bt ot ct : Nat) (w : World) (hf : Forms w bt ot ct) (hr : Rd w w.heap.size A (is64 tp)) (hn : tp.length ≤ 1048576) (hI : I64' n) :
    Calls Tryd.prog 11 #[stV ⟨5, n, k, tp⟩ A c] w fun e w' => e = .returned (.bool (valid ⟨5, n, k, tp⟩)) ∧ Below w.heap.size w w' := by
  obtain ⟨f0, hpos, hlt, hat⟩ := hf
  obtain ⟨a0, a1, a2, a3⟩ := hat 5 (by omega)
  have e1 : fN ((5 : Nat) : Int) = true := by decide
  have e2 : fK ((5 : Nat) : Int) = false := by decide
  have e3 : fT ((5 : Nat) : Int) = false := by decide
  rw [e1] at a1
  rw [e2] at a2
  rw [e3] at a3
  simp only [wordsV, List.getElem?_cons_succ, List.getElem?_cons_zero] at a0
  clear hat e1 e2 e3
  have hv := valid5 n k tp
  have hz : inZ 5 1 13 = true := rfl
  have hnum := fun w' (hr : Rd w' w'.heap.size A (is64 tp)) => numbers5_ok n k tp A c w' hr hn hI
  rw [okN5] at hnum
  unfold stV at hnum ⊢
  dsimp only at hnum ⊢
  have HN := hid hnum
  clear hnum
  have HV := hid hv
  clear hv
  by_cases hk : k = 0
  · subst hk
    cases tp with
    | nil =>
      simp only [List.length_nil] at HN hn
      go_enter Tryd.func11, Tryd.ntmps11
      go_wp2_with (first
        | (go_at_call 27; refine (in_ok _ _ _ _).mono ?_; rintro e w2 ⟨rfl, rfl⟩)
        | (go_at_call 28; refine (HN.out _ ((hr.below (below_box2 w _ _) (Nat.le_refl _)).more (by rw [size2]; omega))).mono ?_; rintro e w2 ⟨rfl, hb2⟩))
      all_goals
        go_ret
        refine ⟨ret_bool ?_, by first | exact below_box2 w _ _ | exact (below_box2 w _ _).trans (Below.mono (by assumption) (by rw [size2]; omega))⟩
        rw [HV.out]
        first | (simp_all; done) | (simp; done)
    | cons x xs =>
      have hl : ((x :: xs).length : Int) ≠ 0 := by rw [List.length_cons]; omega
      have hl2 : (((x :: xs).length : Int) == 0) = false := by rw [beq_eq_false_iff_ne]; exact hl
      have hl3 : decide ((x :: xs).length = 0) = false := by simp
      rw [hl3] at HV
      generalize (x :: xs).length = L at *
      go_enter Tryd.func11, Tryd.ntmps11
      go_wp2_with (first
        | (go_at_call 27; refine (in_ok _ _ _ _).mono ?_; rintro e w2 ⟨rfl, rfl⟩)
        | (go_at_call 28; refine (HN.out _ ((hr.below (below_box2 w _ _) (Nat.le_refl _)).more (by rw [size2]; omega))).mono ?_; rintro e w2 ⟨rfl, hb2⟩))
      all_goals
        go_ret
        refine ⟨ret_bool ?_, by first | exact below_box2 w _ _ | exact (below_box2 w _ _).trans (Below.mono (by assumption) (by rw [size2]; omega))⟩
        rw [HV.out]
        first | (simp_all; done) | (simp; done)
  · have hkb : (k == 0) = false := by rw [beq_eq_false_iff_ne]; exact hk
    cases tp with
    | nil =>
      simp only [List.length_nil] at HN hn
      go_enter Tryd.func11, Tryd.ntmps11
      go_wp2_with (first
        | (go_at_call 27; refine (in_ok _ _ _ _).mono ?_; rintro e w2 ⟨rfl, rfl⟩)
        | (go_at_call 28; refine (HN.out _ ((hr.below (below_box2 w _ _) (Nat.le_refl _)).more (by rw [size2]; omega))).mono ?_; rintro e w2 ⟨rfl, hb2⟩))
      all_goals
        go_ret
        refine ⟨ret_bool ?_, by first | exact below_box2 w _ _ | exact (below_box2 w _ _).trans (Below.mono (by assumption) (by rw [size2]; omega))⟩
        rw [HV.out]
        first | (simp_all; done) | (simp; done)
    | cons x xs =>
      have hl : ((x :: xs).length : Int) ≠ 0 := by rw [List.length_cons]; omega
      have hl2 : (((x :: xs).length : Int) == 0) = false := by rw [beq_eq_false_iff_ne]; exact hl
      have hl3 : decide ((x :: xs).length = 0) = false := by simp
      rw [hl3] at HV
      generalize (x :: xs).length = L at *
      go_enter Tryd.func11, Tryd.ntmps11
      go_wp2_with (first
        | (go_at_call 27; refine (in_ok _ _ _ _).mono ?_; rintro e w2 ⟨rfl, rfl⟩)
        | (go_at_call 28; refine (HN.out _ ((hr.below (below_box2 w _ _) (Nat.le_refl _)).more (by rw [size2]; omega))).mono ?_; rintro e w2 ⟨rfl, hb2⟩))
      all_goals
        go_ret
        refine ⟨ret_bool ?_, by first | exact below_box2 w _ _ | exact (below_box2 w _ _).trans (Below.mono (by assumption) (by rw [size2]; omega))⟩
        rw [HV.out]
        first | (simp_all; done) | (simp; done)
set_option maxRecDepth 20000 in
set_option maxHeartbeats 400000 in
theorem impl6_ok (n k : Int) (tp : List Int) (A : Option Addr) (c bt ot ct : Nat) (w : World) (hf : Forms w bt ot ct) (hr : Rd w w.heap.size A (is64 tp)) (hn : tp.length ≤ 1048576) (hI : I64' n) :
    Calls Tryd.prog 11 #[stV ⟨6, n, k, tp⟩ A c] w fun e w' => e = .returned (.bool (valid ⟨6, n, k, tp⟩)) ∧ Below w.heap.size w w' := by
  obtain ⟨f0, hpos, hlt, hat⟩ := hf
  obtain ⟨a0, a1, a2, a3⟩ := hat 6 (by omega)
  have e1 : fN ((6 : Nat) : Int) = true := by decide
  have e2 : fK ((6 : Nat) : Int) = false := by decide
  have e3 : fT ((6 : Nat) : Int) = false := by decide
  rw [e1] at a1
  rw [e2] at a2
  rw [e3] at a3
  simp only [wordsV, List.getElem?_cons_succ, List.getElem?_cons_zero] at a0
  clear hat e1 e2 e3
  have hv := valid6 n k tp
  have hz : inZ 6 1 13 = true := rfl
  have hnum := fun w' (hr : Rd w' w'.heap.size A (is64 tp)) => numbers6_ok n k tp A c w' hr hn hI
  rw [okN6] at hnum
  unfold stV at hnum ⊢
  dsimp only at hnum ⊢
  have HN := hid hnum
  clear hnum
  have HV := hid hv
  clear hv
  by_cases hk : k = 0
  · subst hk
    cases tp with
    | nil =>
      simp only [List.length_nil] at HN hn
      go_enter Tryd.func11, Tryd.ntmps11
      go_wp2_with (first
        | (go_at_call 27; refine (in_ok _ _ _ _).mono ?_; rintro e w2 ⟨rfl, rfl⟩)
        | (go_at_call 28; refine (HN.out _ ((hr.below (below_box2 w _ _) (Nat.le_refl _)).more (by rw [size2]; omega))).mono ?_; rintro e w2 ⟨rfl, hb2⟩))
      all_goals
        go_ret
        refine ⟨ret_bool ?_, by first | exact below_box2 w _ _ | exact (below_box2 w _ _).trans (Below.mono (by assumption) (by rw [size2]; omega))⟩
        rw [HV.out]
        first | (simp_all; done) | (simp; done)
    | cons x xs =>
      have hl : ((x :: xs).length : Int) ≠ 0 := by rw [List.length_cons]; omega
      have hl2 : (((x :: xs).length : Int) == 0) = false := by rw [beq_eq_false_iff_ne]; exact hl
      have hl3 : decide ((x :: xs).length = 0) = false := by simp
      rw [hl3] at HV
      generalize (x :: xs).length = L at *
      go_enter Tryd.func11, Tryd.ntmps11
      go_wp2_with (first
        | (go_at_call 27; refine (in_ok _ _ _ _).mono ?_; rintro e w2 ⟨rfl, rfl⟩)
        | (go_at_call 28; refine (HN.out _ ((hr.below (below_box2 w _ _) (Nat.le_refl _)).more (by rw [size2]; omega))).mono ?_; rintro e w2 ⟨rfl, hb2⟩))
      all_goals
        go_ret
        refine ⟨ret_bool ?_, by first | exact below_box2 w _ _ | exact (below_box2 w _ _).trans (Below.mono (by assumption) (by rw [size2]; omega))⟩
        rw [HV.out]
        first | (simp_all; done) | (simp; done)
  · have hkb : (k == 0) = false := by rw [beq_eq_false_iff_ne]; exact hk
    cases tp with
    | nil =>
      simp only [List.length_nil] at HN hn
      go_enter Tryd.func11, Tryd.ntmps11
      go_wp2_with (first
        | (go_at_call 27; refine (in_ok _ _ _ _).mono ?_; rintro e w2 ⟨rfl, rfl⟩)
        | (go_at_call 28; refine (HN.out _ ((hr.below (below_box2 w _ _) (Nat.le_refl _)).more (by rw [size2]; omega))).mono ?_; rintro e w2 ⟨rfl, hb2⟩))
      all_goals
        go_ret
        refine ⟨ret_bool ?_, by first | exact below_box2 w _ _ | exact (below_box2 w _ _).trans (Below.mono (by assumption) (by rw [size2]; omega))⟩
        rw [HV.out]
        first | (simp_all; done) | (simp; done)
    | cons x xs =>
      have hl : ((x :: xs).length : Int) ≠ 0 := by rw [List.length_cons]; omega
      have hl2 : (((x :: xs).length : Int) == 0) = false := by rw [beq_eq_false_iff_ne]; exact hl
      have hl3 : decide ((x :: xs).length = 0) = false := by simp
      rw [hl3] at HV
      generalize (x :: xs).length = L at *
      go_enter Tryd.func11, Tryd.ntmps11
      go_wp2_with (first
        | (go_at_call 27; refine (in_ok _ _ _ _).mono ?_; rintro e w2 ⟨rfl, rfl⟩)
        | (go_at_call 28; refine (HN.out _ ((hr.below (below_box2 w _ _) (Nat.le_refl _)).more (by rw [size2]; omega))).mono ?_; rintro e w2 ⟨rfl, hb2⟩))
      all_goals
        go_ret
        refine ⟨ret_bool ?_, by first | exact below_box2 w _ _ | exact (below_box2 w _ _).trans (Below.mono (by assumption) (by rw [size2]; omega))⟩
        rw [HV.out]
        first | (simp_all; done) | (simp; done)
set_option maxRecDepth 20000 in
set_option maxHeartbeats 400000 in
theorem impl7_ok (n k : Int) (tp : List Int) (A : Option Addr) (c bt ot ct : Nat) (w : World) (hf : Forms w bt ot ct) (hr : Rd w w.heap.size A (is64 tp)) (hn : tp.length ≤ 1048576) (hI : I64' n) :
    Calls Tryd.prog 11 #[stV ⟨7, n, k, tp⟩ A c] w fun e w' => e = .returned (.bool (valid ⟨7, n, k, tp⟩)) ∧ Below w.heap.size w w' := by
  obtain ⟨f0, hpos, hlt, hat⟩ := hf
  obtain ⟨a0, a1, a2, a3⟩ := hat 7 (by omega)
  have e1 : fN ((7 : Nat) : Int) = true := by decide
  have e2 : fK ((7 : Nat) : Int) = false := by decide
  have e3 : fT ((7 : Nat) : Int) = false := by decide
  rw [e1] at a1
  rw [e2] at a2
  rw [e3] at a3
  simp only [wordsV, List.getElem?_cons_succ, List.getElem?_cons_zero] at a0
  clear hat e1 e2 e3
  have hv := valid7 n k tp
  have hz : inZ 7 1 13 = true := rfl
  have hnum := fun w' (hr : Rd w' w'.heap.size A (is64 tp)) => numbers7_ok n k tp A c w' hr hn hI
  rw [okN7] at hnum
  unfold stV at hnum ⊢
  dsimp only at hnum ⊢
  have HN := hid hnum
  clear hnum
  have HV := hid hv
  clear hv
  by_cases hk : k = 0
  · subst hk
    cases tp with
    | nil =>
      simp only [List.length_nil] at HN hn
      go_enter Tryd.func11, Tryd.ntmps11
      go_wp2_with (first
        | (go_at_call 27; refine (in_ok _ _ _ _).mono ?_; rintro e w2 ⟨rfl, rfl⟩)
        | (go_at_call 28; refine (HN.out _ ((hr.below (below_box2 w _ _) (Nat.le_refl _)).more (by rw [size2]; omega))).mono ?_; rintro e w2 ⟨rfl, hb2⟩))
      all_goals
        go_ret
        refine ⟨ret_bool ?_, by first | exact below_box2 w _ _ | exact (below_box2 w _ _).trans (Below.mono (by assumption) (by rw [size2]; omega))⟩
        rw [HV.out]
        first | (simp_all; done) | (simp; done)
    | cons x xs =>
      have hl : ((x :: xs).length : Int) ≠ 0 := by rw [List.length_cons]; omega
      have hl2 : (((x :: xs).length : Int) == 0) = false := by rw [beq_eq_false_iff_ne]; exact hl
      have hl3 : decide ((x :: xs).length = 0) = false := by simp
      rw [hl3] at HV
      generalize (x :: xs).length = L at *
      go_enter Tryd.func11, Tryd.ntmps11
      go_wp2_with (first
        | (go_at_call 27; refine (in_ok _ _ _ _).mono ?_; rintro e w2 ⟨rfl, rfl⟩)
        | (go_at_call 28; refine (HN.out _ ((hr.below (below_box2 w _ _) (Nat.le_refl _)).more (by rw [size2]; omega))).mono ?_; rintro e w2 ⟨rfl, hb2⟩))
      all_goals
        go_ret
        refine ⟨ret_bool ?_, by first | exact below_box2 w _ _ | exact (below_box2 w _ _).trans (Below.mono (by assumption) (by rw [size2]; omega))⟩
        rw [HV.out]
        first | (simp_all; done) | (simp; done)
  · have hkb : (k == 0) = false := by rw [beq_eq_false_iff_ne]; exact hk
    cases tp with
    | nil =>
      simp only [List.length_nil] at HN hn
      go_enter Tryd.func11, Tryd.ntmps11
      go_wp2_with (first
        | (go_at_call 27; refine (in_ok _ _ _ _).mono ?_; rintro e w2 ⟨rfl, rfl⟩)
        | (go_at_call 28; refine (HN.out _ ((hr.below (below_box2 w _ _) (Nat.le_refl _)).more (by rw [size2]; omega))).mono ?_; rintro e w2 ⟨rfl, hb2⟩))
      all_goals
        go_ret
        refine ⟨ret_bool ?_, by first | exact below_box2 w _ _ | exact (below_box2 w _ _).trans (Below.mono (by assumption) (by rw [size2]; omega))⟩
        rw [HV.out]
        first | (simp_all; done) | (simp; done)
    | cons x xs =>
      have hl : ((x :: xs).length : Int) ≠ 0 := by rw [List.length_cons]; omega
      have hl2 : (((x :: xs).length : Int) == 0) = false := by rw [beq_eq_false_iff_ne]; exact hl
      have hl3 : decide ((x :: xs).length = 0) = false := by simp
      rw [hl3] at HV
      generalize (x :: xs).length = L at *
      go_enter Tryd.func11, Tryd.ntmps11
      go_wp2_with (first
        | (go_at_call 27; refine (in_ok _ _ _ _).mono ?_; rintro e w2 ⟨rfl, rfl⟩)
        | (go_at_call 28; refine (HN.out _ ((hr.below (below_box2 w _ _) (Nat.le_refl _)).more (by rw [size2]; omega))).mono ?_; rintro e w2 ⟨rfl, hb2⟩))
      all_goals
        go_ret
        refine ⟨ret_bool ?_, by first | exact below_box2 w _ _ | exact (below_box2 w _ _).trans (Below.mono (by assumption) (by rw [size2]; omega))⟩
        rw [HV.out]
        first | (simp_all; done) | (simp; done)
set_option maxRecDepth 20000 in
set_option maxHeartbeats 400000 in
theorem impl8_ok (n k : Int) (tp : List Int) (A : Option Addr) (c bt ot ct : Nat) (w : World) (hf : Forms w bt ot ct) (hr : Rd w w.heap.size A (is64 tp)) (hn : tp.length ≤ 1048576) (hI : I64' n) :
    Calls Tryd.prog 11 #[stV ⟨8, n, k, tp⟩ A c] w fun e w' => e = .returned (.bool (valid ⟨8, n, k, tp⟩)) ∧ Below w.heap.size w w' := by
  obtain ⟨f0, hpos, hlt, hat⟩ := hf
  obtain ⟨a0, a1, a2, a3⟩ := hat 8 (by omega)
  have e1 : fN ((8 : Nat) : Int) = true := by decide
  have e2 : fK ((8 : Nat) : Int) = false := by decide
  have e3 : fT ((8 : Nat) : Int) = false := by decide
  rw [e1] at a1
  rw [e2] at a2
  rw [e3] at a3
  simp only [wordsV, List.getElem?_cons_succ, List.getElem?_cons_zero] at a0
  clear hat e1 e2 e3
  have hv := valid8 n k tp
  have hz : inZ 8 1 13 = true := rfl
  have hnum := fun w' (hr : Rd w' w'.heap.size A (is64 tp)) => numbers8_ok n k tp A c w' hr hn hI
  rw [okN8] at hnum
  unfold stV at hnum ⊢
  dsimp only at hnum ⊢
  have HN := hid hnum
  clear hnum
  have HV := hid hv
  clear hv
  by_cases hk : k = 0
  · subst hk
    cases tp with
    | nil =>
      simp only [List.length_nil] at HN hn
      go_enter Tryd.func11, Tryd.ntmps11
      go_wp2_with (first
        | (go_at_call 27; refine (in_ok _ _ _ _).mono ?_; rintro e w2 ⟨rfl, rfl⟩)
        | (go_at_call 28; refine (HN.out _ ((hr.below (below_box2 w _ _) (Nat.le_refl _)).more (by rw [size2]; omega))).mono ?_; rintro e w2 ⟨rfl, hb2⟩))
      all_goals
        go_ret
        refine ⟨ret_bool ?_, by first | exact below_box2 w _ _ | exact (below_box2 w _ _).trans (Below.mono (by assumption) (by rw [size2]; omega))⟩
        rw [HV.out]
        first | (simp_all; done) | (simp; done)
    | cons x xs =>
      have hl : ((x :: xs).length : Int) ≠ 0 := by rw [List.length_cons]; omega
      have hl2 : (((x :: xs).length : Int) == 0) = false := by rw [beq_eq_false_iff_ne]; exact hl
      have hl3 : decide ((x :: xs).length = 0) = false := by simp
      rw [hl3] at HV
      generalize (x :: xs).length = L at *
      go_enter Tryd.func11, Tryd.ntmps11
      go_wp2_with (first
        | (go_at_call 27; refine (in_ok _ _ _ _).mono ?_; rintro e w2 ⟨rfl, rfl⟩)
        | (go_at_call 28; refine (HN.out _ ((hr.below (below_box2 w _ _) (Nat.le_refl _)).more (by rw [size2]; omega))).mono ?_; rintro e w2 ⟨rfl, hb2⟩))
      all_goals
        go_ret
        refine ⟨ret_bool ?_, by first | exact below_box2 w _ _ | exact (below_box2 w _ _).trans (Below.mono (by assumption) (by rw [size2]; omega))⟩
        rw [HV.out]
        first | (simp_all; done) | (simp; done)
  · have hkb : (k == 0) = false := by rw [beq_eq_false_iff_ne]; exact hk
    cases tp with
    | nil =>
      simp only [List.length_nil] at HN hn
      go_enter Tryd.func11, Tryd.ntmps11
      go_wp2_with (first
        | (go_at_call 27; refine (in_ok _ _ _ _).mono ?_; rintro e w2 ⟨rfl, rfl⟩)
        | (go_at_call 28; refine (HN.out _ ((hr.below (below_box2 w _ _) (Nat.le_refl _)).more (by rw [size2]; omega))).mono ?_; rintro e w2 ⟨rfl, hb2⟩))
      all_goals
        go_ret
        refine ⟨ret_bool ?_, by first | exact below_box2 w _ _ | exact (below_box2 w _ _).trans (Below.mono (by assumption) (by rw [size2]; omega))⟩
        rw [HV.out]
        first | (simp_all; done) | (simp; done)
    | cons x xs =>
      have hl : ((x :: xs).length : Int) ≠ 0 := by rw [List.length_cons]; omega
      have hl2 : (((x :: xs).length : Int) == 0) = false := by rw [beq_eq_false_iff_ne]; exact hl
      have hl3 : decide ((x :: xs).length = 0) = false := by simp
      rw [hl3] at HV
      generalize (x :: xs).length = L at *
      go_enter Tryd.func11, Tryd.ntmps11
      go_wp2_with (first
        | (go_at_call 27; refine (in_ok _ _ _ _).mono ?_; rintro e w2 ⟨rfl, rfl⟩)
        | (go_at_call 28; refine (HN.out _ ((hr.below (below_box2 w _ _) (Nat.le_refl _)).more (by rw [size2]; omega))).mono ?_; rintro e w2 ⟨rfl, hb2⟩))
      all_goals
        go_ret
        refine ⟨ret_bool ?_, by first | exact below_box2 w _ _ | exact (below_box2 w _ _).trans (Below.mono (by assumption) (by rw [size2]; omega))⟩
        rw [HV.out]
        first | (simp_all; done) | (simp; done)
set_option maxRecDepth 20000 in
set_option maxHeartbeats 400000 in
theorem impl9_ok (n k : Int) (tp : List Int) (A : Option Addr) (c bt ot ct : Nat) (w : World) (hf : Forms w bt ot ct) (hr : Rd w w.heap.size A (is64 tp)) (hn : tp.length ≤ 1048576) (hI : I64' n) :
    Calls Tryd.prog 11 #[stV ⟨9, n, k, tp⟩ A c] w fun e w' => e = .returned (.bool (valid ⟨9, n, k, tp⟩)) ∧ Below w.heap.size w w' := by
  obtain ⟨f0, hpos, hlt, hat⟩ := hf
  obtain ⟨a0, a1, a2, a3⟩ := hat 9 (by omega)
  have e1 : fN ((9 : Nat) : Int) = true := by decide
  have e2 : fK ((9 : Nat) : Int) = false := by decide
  have e3 : fT ((9 : Nat) : Int) = false := by decide
  rw [e1] at a1
  rw [e2] at a2
  rw [e3] at a3
  simp only [wordsV, List.getElem?_cons_succ, List.getElem?_cons_zero] at a0
  clear hat e1 e2 e3
  have hv := valid9 n k tp
  have hz : inZ 9 1 13 = true := rfl
  have hnum := fun w' (hr : Rd w' w'.heap.size A (is64 tp)) => numbers9_ok n k tp A c w' hr hn hI
  rw [okN9] at hnum
  unfold stV at hnum ⊢
  dsimp only at hnum ⊢
  have HN := hid hnum
  clear hnum
  have HV := hid hv
  clear hv
  by_cases hk : k = 0
  · subst hk
    cases tp with
    | nil =>
      simp only [List.length_nil] at HN hn
      go_enter Tryd.func11, Tryd.ntmps11
      go_wp2_with (first
        | (go_at_call 27; refine (in_ok _ _ _ _).mono ?_; rintro e w2 ⟨rfl, rfl⟩)
        | (go_at_call 28; refine (HN.out _ ((hr.below (below_box2 w _ _) (Nat.le_refl _)).more (by rw [size2]; omega))).mono ?_; rintro e w2 ⟨rfl, hb2⟩))
      all_goals
        go_ret
        refine ⟨ret_bool ?_, by first | exact below_box2 w _ _ | exact (below_box2 w _ _).trans (Below.mono (by assumption) (by rw [size2]; omega))⟩
        rw [HV.out]
        first | (simp_all; done) | (simp; done)
    | cons x xs =>
      have hl : ((x :: xs).length : Int) ≠ 0 := by rw [List.length_cons]; omega
      have hl2 : (((x :: xs).length : Int) == 0) = false := by rw [beq_eq_false_iff_ne]; exact hl
      have hl3 : decide ((x :: xs).length = 0) = false := by simp
      rw [hl3] at HV
      generalize (x :: xs).length = L at *
      go_enter Tryd.func11, Tryd.ntmps11
      go_wp2_with (first
        | (go_at_call 27; refine (in_ok _ _ _ _).mono ?_; rintro e w2 ⟨rfl, rfl⟩)
        | (go_at_call 28; refine (HN.out _ ((hr.below (below_box2 w _ _) (Nat.le_refl _)).more (by rw [size2]; omega))).mono ?_; rintro e w2 ⟨rfl, hb2⟩))
      all_goals
        go_ret
        refine ⟨ret_bool ?_, by first | exact below_box2 w _ _ | exact (below_box2 w _ _).trans (Below.mono (by assumption) (by rw [size2]; omega))⟩
        rw [HV.out]
        first | (simp_all; done) | (simp; done)
  · have hkb : (k == 0) = false := by rw [beq_eq_false_iff_ne]; exact hk
    cases tp with
    | nil =>
      simp only [List.length_nil] at HN hn
      go_enter Tryd.func11, Tryd.ntmps11
      go_wp2_with (first
        | (go_at_call 27; refine (in_ok _ _ _ _).mono ?_; rintro e w2 ⟨rfl, rfl⟩)
        | (go_at_call 28; refine (HN.out _ ((hr.below (below_box2 w _ _) (Nat.le_refl _)).more (by rw [size2]; omega))).mono ?_; rintro e w2 ⟨rfl, hb2⟩))
      all_goals
        go_ret
        refine ⟨ret_bool ?_, by first | exact below_box2 w _ _ | exact (below_box2 w _ _).trans (Below.mono (by assumption) (by rw [size2]; omega))⟩
        rw [HV.out]
        first | (simp_all; done) | (simp; done)
    | cons x xs =>
      have hl : ((x :: xs).length : Int) ≠ 0 := by rw [List.length_cons]; omega
      have hl2 : (((x :: xs).length : Int) == 0) = false := by rw [beq_eq_false_iff_ne]; exact hl
      have hl3 : decide ((x :: xs).length = 0) = false := by simp
      rw [hl3] at HV
      generalize (x :: xs).length = L at *
      go_enter Tryd.func11, Tryd.ntmps11
      go_wp2_with (first
        | (go_at_call 27; refine (in_ok _ _ _ _).mono ?_; rintro e w2 ⟨rfl, rfl⟩)
        | (go_at_call 28; refine (HN.out _ ((hr.below (below_box2 w _ _) (Nat.le_refl _)).more (by rw [size2]; omega))).mono ?_; rintro e w2 ⟨rfl, hb2⟩))
      all_goals
        go_ret
        refine ⟨ret_bool ?_, by first | exact below_box2 w _ _ | exact (below_box2 w _ _).trans (Below.mono (by assumption) (by rw [size2]; omega))⟩
        rw [HV.out]
        first | (simp_all; done) | (simp; done)
set_option maxRecDepth 20000 in
set_option maxHeartbeats 400000 in
theorem impl10_ok (n k : Int) (tp : List Int) (A : Option Addr) (c bt ot ct : Nat) (w : World) (hf : Forms w bt ot ct) (hr : Rd w w.heap.size A (is64 tp)) (hn : tp.length ≤ 1048576) (hI : I64' n) :
    Calls Tryd.prog 11 #[stV ⟨10, n, k, tp⟩ A c] w fun e w' => e = .returned (.bool (valid ⟨10, n, k, tp⟩)) ∧ Below w.heap.size w w' := by
  obtain ⟨f0, hpos, hlt, hat⟩ := hf
  obtain ⟨a0, a1, a2, a3⟩ := hat 10 (by omega)
  have e1 : fN ((10 : Nat) : Int) = true := by decide
  have e2 : fK ((10 : Nat) : Int) = false := by decide
  have e3 : fT ((10 : Nat) : Int) = false := by decide
  rw [e1] at a1
  rw [e2] at a2
  rw [e3] at a3
  simp only [wordsV, List.getElem?_cons_succ, List.getElem?_cons_zero] at a0
  clear hat e1 e2 e3
  have hv := valid10 n k tp
  have hz : inZ 10 1 13 = true := rfl
  have hnum := fun w' (hr : Rd w' w'.heap.size A (is64 tp)) => numbers10_ok n k tp A c w' hr hn hI
  rw [okN10] at hnum
  unfold stV at hnum ⊢
  dsimp only at hnum ⊢
  have HN := hid hnum
  clear hnum
  have HV := hid hv
  clear hv
  by_cases hk : k = 0
  · subst hk
    cases tp with
    | nil =>
      simp only [List.length_nil] at HN hn
      go_enter Tryd.func11, Tryd.ntmps11
      go_wp2_with (first
        | (go_at_call 27; refine (in_ok _ _ _ _).mono ?_; rintro e w2 ⟨rfl, rfl⟩)
        | (go_at_call 28; refine (HN.out _ ((hr.below (below_box2 w _ _) (Nat.le_refl _)).more (by rw [size2]; omega))).mono ?_; rintro e w2 ⟨rfl, hb2⟩))
      all_goals
        go_ret
        refine ⟨ret_bool ?_, by first | exact below_box2 w _ _ | exact (below_box2 w _ _).trans (Below.mono (by assumption) (by rw [size2]; omega))⟩
        rw [HV.out]
        first | (simp_all; done) | (simp; done)
    | cons x xs =>
      have hl : ((x :: xs).length : Int) ≠ 0 := by rw [List.length_cons]; omega
      have hl2 : (((x :: xs).length : Int) == 0) = false := by rw [beq_eq_false_iff_ne]; exact hl
      have hl3 : decide ((x :: xs).length = 0) = false := by simp
      rw [hl3] at HV
      generalize (x :: xs).length = L at *
      go_enter Tryd.func11, Tryd.ntmps11
      go_wp2_with (first
        | (go_at_call 27; refine (in_ok _ _ _ _).mono ?_; rintro e w2 ⟨rfl, rfl⟩)
        | (go_at_call 28; refine (HN.out _ ((hr.below (below_box2 w _ _) (Nat.le_refl _)).more (by rw [size2]; omega))).mono ?_; rintro e w2 ⟨rfl, hb2⟩))
      all_goals
        go_ret
        refine ⟨ret_bool ?_, by first | exact below_box2 w _ _ | exact (below_box2 w _ _).trans (Below.mono (by assumption) (by rw [size2]; omega))⟩
        rw [HV.out]
        first | (simp_all; done) | (simp; done)
  · have hkb : (k == 0) = false := by rw [beq_eq_false_iff_ne]; exact hk
    cases tp with
    | nil =>
      simp only [List.length_nil] at HN hn
      go_enter Tryd.func11, Tryd.ntmps11
      go_wp2_with (first
        | (go_at_call 27; refine (in_ok _ _ _ _).mono ?_; rintro e w2 ⟨rfl, rfl⟩)
        | (go_at_call 28; refine (HN.out _ ((hr.below (below_box2 w _ _) (Nat.le_refl _)).more (by rw [size2]; omega))).mono ?_; rintro e w2 ⟨rfl, hb2⟩))
      all_goals
        go_ret
        refine ⟨ret_bool ?_, by first | exact below_box2 w _ _ | exact (below_box2 w _ _).trans (Below.mono (by assumption) (by rw [size2]; omega))⟩
        rw [HV.out]
        first | (simp_all; done) | (simp; done)
    | cons x xs =>
      have hl : ((x :: xs).length : Int) ≠ 0 := by rw [List.length_cons]; omega
      have hl2 : (((x :: xs).length : Int) == 0) = false := by rw [beq_eq_false_iff_ne]; exact hl
      have hl3 : decide ((x :: xs).length = 0) = false := by simp
      rw [hl3] at HV
      generalize (x :: xs).length = L at *
      go_enter Tryd.func11, Tryd.ntmps11
      go_wp2_with (first
        | (go_at_call 27; refine (in_ok _ _ _ _).mono ?_; rintro e w2 ⟨rfl, rfl⟩)
        | (go_at_call 28; refine (HN.out _ ((hr.below (below_box2 w _ _) (Nat.le_refl _)).more (by rw [size2]; omega))).mono ?_; rintro e w2 ⟨rfl, hb2⟩))
      all_goals
        go_ret
        refine ⟨ret_bool ?_, by first | exact below_box2 w _ _ | exact (below_box2 w _ _).trans (Below.mono (by assumption) (by rw [size2]; omega))⟩
        rw [HV.out]
        first | (simp_all; done) | (simp; done)
set_option maxRecDepth 20000 in
set_option maxHeartbeats 400000 in
theorem impl11_ok (n k : Int) (tp : List Int) (A : Option Addr) (c bt ot ct : Nat) (w : World) (hf : Forms w bt ot ct) (hr : Rd w w.heap.size A (is64 tp)) (hn : tp.length ≤ 1048576) (hI : I64' n) :
    Calls Tryd.prog 11 #[stV ⟨11, n, k, tp⟩ A c] w fun e w' => e = .returned (.bool (valid ⟨11, n, k, tp⟩)) ∧ Below w.heap.size w w' := by
  obtain ⟨f0, hpos, hlt, hat⟩ := hf
  obtain ⟨a0, a1, a2, a3⟩ := hat 11 (by omega)
  have e1 : fN ((11 : Nat) : Int) = false := by decide
  have e2 : fK ((11 : Nat) : Int) = false := by decide
  have e3 : fT ((11 : Nat) : Int) = false := by decide
  rw [e1] at a1
  rw [e2] at a2
  rw [e3] at a3
  simp only [wordsV, List.getElem?_cons_succ, List.getElem?_cons_zero] at a0
  clear hat e1 e2 e3
  have hv := valid11 n k tp
  have hz : inZ 11 1 13 = true := rfl
  have hnum := fun w' (hr : Rd w' w'.heap.size A (is64 tp)) => numbers11_ok n k tp A c w' hr hn hI
  rw [okN11] at hnum
  unfold stV at hnum ⊢
  dsimp only at hnum ⊢
  have HN := hid hnum
  clear hnum
  have HV := hid hv
  clear hv
  by_cases hn : n = 0
  · subst hn
    by_cases hk : k = 0
    · subst hk
      cases tp with
      | nil =>
        simp only [List.length_nil] at HN hn
        go_enter Tryd.func11, Tryd.ntmps11
        go_wp2_with (first
          | (go_at_call 27; refine (in_ok _ _ _ _).mono ?_; rintro e w2 ⟨rfl, rfl⟩)
          | (go_at_call 28; refine (HN.out _ ((hr.below (below_box2 w _ _) (Nat.le_refl _)).more (by rw [size2]; omega))).mono ?_; rintro e w2 ⟨rfl, hb2⟩))
        all_goals
          go_ret
          refine ⟨ret_bool ?_, by first | exact below_box2 w _ _ | exact (below_box2 w _ _).trans (Below.mono (by assumption) (by rw [size2]; omega))⟩
          rw [HV.out]
          first | (simp_all; done) | (simp; done)
      | cons x xs =>
        have hl : ((x :: xs).length : Int) ≠ 0 := by rw [List.length_cons]; omega
        have hl2 : (((x :: xs).length : Int) == 0) = false := by rw [beq_eq_false_iff_ne]; exact hl
        have hl3 : decide ((x :: xs).length = 0) = false := by simp
        rw [hl3] at HV
        generalize (x :: xs).length = L at *
        go_enter Tryd.func11, Tryd.ntmps11
        go_wp2_with (first
          | (go_at_call 27; refine (in_ok _ _ _ _).mono ?_; rintro e w2 ⟨rfl, rfl⟩)
          | (go_at_call 28; refine (HN.out _ ((hr.below (below_box2 w _ _) (Nat.le_refl _)).more (by rw [size2]; omega))).mono ?_; rintro e w2 ⟨rfl, hb2⟩))
        all_goals
          go_ret
          refine ⟨ret_bool ?_, by first | exact below_box2 w _ _ | exact (below_box2 w _ _).trans (Below.mono (by assumption) (by rw [size2]; omega))⟩
          rw [HV.out]
          first | (simp_all; done) | (simp; done)
    · have hkb : (k == 0) = false := by rw [beq_eq_false_iff_ne]; exact hk
      cases tp with
      | nil =>
        simp only [List.length_nil] at HN hn
        go_enter Tryd.func11, Tryd.ntmps11
        go_wp2_with (first
          | (go_at_call 27; refine (in_ok _ _ _ _).mono ?_; rintro e w2 ⟨rfl, rfl⟩)
          | (go_at_call 28; refine (HN.out _ ((hr.below (below_box2 w _ _) (Nat.le_refl _)).more (by rw [size2]; omega))).mono ?_; rintro e w2 ⟨rfl, hb2⟩))
        all_goals
          go_ret
          refine ⟨ret_bool ?_, by first | exact below_box2 w _ _ | exact (below_box2 w _ _).trans (Below.mono (by assumption) (by rw [size2]; omega))⟩
          rw [HV.out]
          first | (simp_all; done) | (simp; done)
      | cons x xs =>
        have hl : ((x :: xs).length : Int) ≠ 0 := by rw [List.length_cons]; omega
        have hl2 : (((x :: xs).length : Int) == 0) = false := by rw [beq_eq_false_iff_ne]; exact hl
        have hl3 : decide ((x :: xs).length = 0) = false := by simp
        rw [hl3] at HV
        generalize (x :: xs).length = L at *
        go_enter Tryd.func11, Tryd.ntmps11
        go_wp2_with (first
          | (go_at_call 27; refine (in_ok _ _ _ _).mono ?_; rintro e w2 ⟨rfl, rfl⟩)
          | (go_at_call 28; refine (HN.out _ ((hr.below (below_box2 w _ _) (Nat.le_refl _)).more (by rw [size2]; omega))).mono ?_; rintro e w2 ⟨rfl, hb2⟩))
        all_goals
          go_ret
          refine ⟨ret_bool ?_, by first | exact below_box2 w _ _ | exact (below_box2 w _ _).trans (Below.mono (by assumption) (by rw [size2]; omega))⟩
          rw [HV.out]
          first | (simp_all; done) | (simp; done)
  · have hnb : (n == 0) = false := by rw [beq_eq_false_iff_ne]; exact hn
    by_cases hk : k = 0
    · subst hk
      cases tp with
      | nil =>
        simp only [List.length_nil] at HN hn
        go_enter Tryd.func11, Tryd.ntmps11
        go_wp2_with (first
          | (go_at_call 27; refine (in_ok _ _ _ _).mono ?_; rintro e w2 ⟨rfl, rfl⟩)
          | (go_at_call 28; refine (HN.out _ ((hr.below (below_box2 w _ _) (Nat.le_refl _)).more (by rw [size2]; omega))).mono ?_; rintro e w2 ⟨rfl, hb2⟩))
        all_goals
          go_ret
          refine ⟨ret_bool ?_, by first | exact below_box2 w _ _ | exact (below_box2 w _ _).trans (Below.mono (by assumption) (by rw [size2]; omega))⟩
          rw [HV.out]
          first | (simp_all; done) | (simp; done)
      | cons x xs =>
        have hl : ((x :: xs).length : Int) ≠ 0 := by rw [List.length_cons]; omega
        have hl2 : (((x :: xs).length : Int) == 0) = false := by rw [beq_eq_false_iff_ne]; exact hl
        have hl3 : decide ((x :: xs).length = 0) = false := by simp
        rw [hl3] at HV
        generalize (x :: xs).length = L at *
        go_enter Tryd.func11, Tryd.ntmps11
        go_wp2_with (first
          | (go_at_call 27; refine (in_ok _ _ _ _).mono ?_; rintro e w2 ⟨rfl, rfl⟩)
          | (go_at_call 28; refine (HN.out _ ((hr.below (below_box2 w _ _) (Nat.le_refl _)).more (by rw [size2]; omega))).mono ?_; rintro e w2 ⟨rfl, hb2⟩))
        all_goals
          go_ret
          refine ⟨ret_bool ?_, by first | exact below_box2 w _ _ | exact (below_box2 w _ _).trans (Below.mono (by assumption) (by rw [size2]; omega))⟩
          rw [HV.out]
          first | (simp_all; done) | (simp; done)
    · have hkb : (k == 0) = false := by rw [beq_eq_false_iff_ne]; exact hk
      cases tp with
      | nil =>
        simp only [List.length_nil] at HN hn
        go_enter Tryd.func11, Tryd.ntmps11
        go_wp2_with (first
          | (go_at_call 27; refine (in_ok _ _ _ _).mono ?_; rintro e w2 ⟨rfl, rfl⟩)
          | (go_at_call 28; refine (HN.out _ ((hr.below (below_box2 w _ _) (Nat.le_refl _)).more (by rw [size2]; omega))).mono ?_; rintro e w2 ⟨rfl, hb2⟩))
        all_goals
          go_ret
          refine ⟨ret_bool ?_, by first | exact below_box2 w _ _ | exact (below_box2 w _ _).trans (Below.mono (by assumption) (by rw [size2]; omega))⟩
          rw [HV.out]
          first | (simp_all; done) | (simp; done)
      | cons x xs =>
        have hl : ((x :: xs).length : Int) ≠ 0 := by rw [List.length_cons]; omega
        have hl2 : (((x :: xs).length : Int) == 0) = false := by rw [beq_eq_false_iff_ne]; exact hl
        have hl3 : decide ((x :: xs).length = 0) = false := by simp
        rw [hl3] at HV
        generalize (x :: xs).length = L at *
        go_enter Tryd.func11, Tryd.ntmps11
        go_wp2_with (first
          | (go_at_call 27; refine (in_ok _ _ _ _).mono ?_; rintro e w2 ⟨rfl, rfl⟩)
          | (go_at_call 28; refine (HN.out _ ((hr.below (below_box2 w _ _) (Nat.le_refl _)).more (by rw [size2]; omega))).mono ?_; rintro e w2 ⟨rfl, hb2⟩))
        all_goals
          go_ret
          refine ⟨ret_bool ?_, by first | exact below_box2 w _ _ | exact (below_box2 w _ _).trans (Below.mono (by assumption) (by rw [size2]; omega))⟩
          rw [HV.out]
          first | (simp_all; done) | (simp; done)
set_option maxRecDepth 20000 in
set_option maxHeartbeats 400000 in
theorem impl12_ok (n k : Int) (tp : List Int) (A : Option Addr) (c bt ot ct : Nat) (w : World) (hf : Forms w bt ot ct) (hr : Rd w w.heap.size A (is64 tp)) (hn : tp.length ≤ 1048576) (hI : I64' n) :
    Calls Tryd.prog 11 #[stV ⟨12, n, k, tp⟩ A c] w fun e w' => e = .returned (.bool (valid ⟨12, n, k, tp⟩)) ∧ Below w.heap.size w w' := by
  obtain ⟨f0, hpos, hlt, hat⟩ := hf
  obtain ⟨a0, a1, a2, a3⟩ := hat 12 (by omega)
  have e1 : fN ((12 : Nat) : Int) = false := by decide
  have e2 : fK ((12 : Nat) : Int) = false := by decide
  have e3 : fT ((12 : Nat) : Int) = false := by decide
  rw [e1] at a1
  rw [e2] at a2
  rw [e3] at a3
  simp only [wordsV, List.getElem?_cons_succ, List.getElem?_cons_zero] at a0
  clear hat e1 e2 e3
  have hv := valid12 n k tp
  have hz : inZ 12 1 13 = true := rfl
  have hnum := fun w' (hr : Rd w' w'.heap.size A (is64 tp)) => numbers12_ok n k tp A c w' hr hn hI
  rw [okN12] at hnum
  unfold stV at hnum ⊢
  dsimp only at hnum ⊢
  have HN := hid hnum
  clear hnum
  have HV := hid hv
  clear hv
  by_cases hn : n = 0
  · subst hn
    by_cases hk : k = 0
    · subst hk
      cases tp with
      | nil =>
        simp only [List.length_nil] at HN hn
        go_enter Tryd.func11, Tryd.ntmps11
        go_wp2_with (first
          | (go_at_call 27; refine (in_ok _ _ _ _).mono ?_; rintro e w2 ⟨rfl, rfl⟩)
          | (go_at_call 28; refine (HN.out _ ((hr.below (below_box2 w _ _) (Nat.le_refl _)).more (by rw [size2]; omega))).mono ?_; rintro e w2 ⟨rfl, hb2⟩))
        all_goals
          go_ret
          refine ⟨ret_bool ?_, by first | exact below_box2 w _ _ | exact (below_box2 w _ _).trans (Below.mono (by assumption) (by rw [size2]; omega))⟩
          rw [HV.out]
          first | (simp_all; done) | (simp; done)
      | cons x xs =>
        have hl : ((x :: xs).length : Int) ≠ 0 := by rw [List.length_cons]; omega
        have hl2 : (((x :: xs).length : Int) == 0) = false := by rw [beq_eq_false_iff_ne]; exact hl
        have hl3 : decide ((x :: xs).length = 0) = false := by simp
        rw [hl3] at HV
        generalize (x :: xs).length = L at *
        go_enter Tryd.func11, Tryd.ntmps11
        go_wp2_with (first
          | (go_at_call 27; refine (in_ok _ _ _ _).mono ?_; rintro e w2 ⟨rfl, rfl⟩)
          | (go_at_call 28; refine (HN.out _ ((hr.below (below_box2 w _ _) (Nat.le_refl _)).more (by rw [size2]; omega))).mono ?_; rintro e w2 ⟨rfl, hb2⟩))
        all_goals
          go_ret
          refine ⟨ret_bool ?_, by first | exact below_box2 w _ _ | exact (below_box2 w _ _).trans (Below.mono (by assumption) (by rw [size2]; omega))⟩
          rw [HV.out]
          first | (simp_all; done) | (simp; done)
    · have hkb : (k == 0) = false := by rw [beq_eq_false_iff_ne]; exact hk
      cases tp with
      | nil =>
        simp only [List.length_nil] at HN hn
        go_enter Tryd.func11, Tryd.ntmps11
        go_wp2_with (first
          | (go_at_call 27; refine (in_ok _ _ _ _).mono ?_; rintro e w2 ⟨rfl, rfl⟩)
          | (go_at_call 28; refine (HN.out _ ((hr.below (below_box2 w _ _) (Nat.le_refl _)).more (by rw [size2]; omega))).mono ?_; rintro e w2 ⟨rfl, hb2⟩))
        all_goals
          go_ret
          refine ⟨ret_bool ?_, by first | exact below_box2 w _ _ | exact (below_box2 w _ _).trans (Below.mono (by assumption) (by rw [size2]; omega))⟩
          rw [HV.out]
          first | (simp_all; done) | (simp; done)
      | cons x xs =>
        have hl : ((x :: xs).length : Int) ≠ 0 := by rw [List.length_cons]; omega
        have hl2 : (((x :: xs).length : Int) == 0) = false := by rw [beq_eq_false_iff_ne]; exact hl
        have hl3 : decide ((x :: xs).length = 0) = false := by simp
        rw [hl3] at HV
        generalize (x :: xs).length = L at *
        go_enter Tryd.func11, Tryd.ntmps11
        go_wp2_with (first
          | (go_at_call 27; refine (in_ok _ _ _ _).mono ?_; rintro e w2 ⟨rfl, rfl⟩)
          | (go_at_call 28; refine (HN.out _ ((hr.below (below_box2 w _ _) (Nat.le_refl _)).more (by rw [size2]; omega))).mono ?_; rintro e w2 ⟨rfl, hb2⟩))
        all_goals
          go_ret
          refine ⟨ret_bool ?_, by first | exact below_box2 w _ _ | exact (below_box2 w _ _).trans (Below.mono (by assumption) (by rw [size2]; omega))⟩
          rw [HV.out]
          first | (simp_all; done) | (simp; done)
  · have hnb : (n == 0) = false := by rw [beq_eq_false_iff_ne]; exact hn
    by_cases hk : k = 0
    · subst hk
      cases tp with
      | nil =>
        simp only [List.length_nil] at HN hn
        go_enter Tryd.func11, Tryd.ntmps11
        go_wp2_with (first
          | (go_at_call 27; refine (in_ok _ _ _ _).mono ?_; rintro e w2 ⟨rfl, rfl⟩)
          | (go_at_call 28; refine (HN.out _ ((hr.below (below_box2 w _ _) (Nat.le_refl _)).more (by rw [size2]; omega))).mono ?_; rintro e w2 ⟨rfl, hb2⟩))
        all_goals
          go_ret
          refine ⟨ret_bool ?_, by first | exact below_box2 w _ _ | exact (below_box2 w _ _).trans (Below.mono (by assumption) (by rw [size2]; omega))⟩
          rw [HV.out]
          first | (simp_all; done) | (simp; done)
      | cons x xs =>
        have hl : ((x :: xs).length : Int) ≠ 0 := by rw [List.length_cons]; omega
        have hl2 : (((x :: xs).length : Int) == 0) = false := by rw [beq_eq_false_iff_ne]; exact hl
        have hl3 : decide ((x :: xs).length = 0) = false := by simp
        rw [hl3] at HV
        generalize (x :: xs).length = L at *
        go_enter Tryd.func11, Tryd.ntmps11
        go_wp2_with (first
          | (go_at_call 27; refine (in_ok _ _ _ _).mono ?_; rintro e w2 ⟨rfl, rfl⟩)
          | (go_at_call 28; refine (HN.out _ ((hr.below (below_box2 w _ _) (Nat.le_refl _)).more (by rw [size2]; omega))).mono ?_; rintro e w2 ⟨rfl, hb2⟩))
        all_goals
          go_ret
          refine ⟨ret_bool ?_, by first | exact below_box2 w _ _ | exact (below_box2 w _ _).trans (Below.mono (by assumption) (by rw [size2]; omega))⟩
          rw [HV.out]
          first | (simp_all; done) | (simp; done)
    · have hkb : (k == 0) = false := by rw [beq_eq_false_iff_ne]; exact hk
      cases tp with
      | nil =>
        simp only [List.length_nil] at HN hn
        go_enter Tryd.func11, Tryd.ntmps11
        go_wp2_with (first
          | (go_at_call 27; refine (in_ok _ _ _ _).mono ?_; rintro e w2 ⟨rfl, rfl⟩)
          | (go_at_call 28; refine (HN.out _ ((hr.below (below_box2 w _ _) (Nat.le_refl _)).more (by rw [size2]; omega))).mono ?_; rintro e w2 ⟨rfl, hb2⟩))
        all_goals
          go_ret
          refine ⟨ret_bool ?_, by first | exact below_box2 w _ _ | exact (below_box2 w _ _).trans (Below.mono (by assumption) (by rw [size2]; omega))⟩
          rw [HV.out]
          first | (simp_all; done) | (simp; done)
      | cons x xs =>
        have hl : ((x :: xs).length : Int) ≠ 0 := by rw [List.length_cons]; omega
        have hl2 : (((x :: xs).length : Int) == 0) = false := by rw [beq_eq_false_iff_ne]; exact hl
        have hl3 : decide ((x :: xs).length = 0) = false := by simp
        rw [hl3] at HV
        generalize (x :: xs).length = L at *
        go_enter Tryd.func11, Tryd.ntmps11
        go_wp2_with (first
          | (go_at_call 27; refine (in_ok _ _ _ _).mono ?_; rintro e w2 ⟨rfl, rfl⟩)
          | (go_at_call 28; refine (HN.out _ ((hr.below (below_box2 w _ _) (Nat.le_refl _)).more (by rw [size2]; omega))).mono ?_; rintro e w2 ⟨rfl, hb2⟩))
        all_goals
          go_ret
          refine ⟨ret_bool ?_, by first | exact below_box2 w _ _ | exact (below_box2 w _ _).trans (Below.mono (by assumption) (by rw [size2]; omega))⟩
          rw [HV.out]
          first | (simp_all; done) | (simp; done)
set_option maxRecDepth 20000 in
set_option maxHeartbeats 400000 in
theorem impl13_ok (n k : Int) (tp : List Int) (A : Option Addr) (c bt ot ct : Nat) (w : World) (hf : Forms w bt ot ct) (hr : Rd w w.heap.size A (is64 tp)) (hn : tp.length ≤ 1048576) (hI : I64' n) :
    Calls Tryd.prog 11 #[stV ⟨13, n, k, tp⟩ A c] w fun e w' => e = .returned (.bool (valid ⟨13, n, k, tp⟩)) ∧ Below w.heap.size w w' := by
  obtain ⟨f0, hpos, hlt, hat⟩ := hf
  obtain ⟨a0, a1, a2, a3⟩ := hat 13 (by omega)
  have e1 : fN ((13 : Nat) : Int) = false := by decide
  have e2 : fK ((13 : Nat) : Int) = false := by decide
  have e3 : fT ((13 : Nat) : Int) = false := by decide
  rw [e1] at a1
  rw [e2] at a2
  rw [e3] at a3
  simp only [wordsV, List.getElem?_cons_succ, List.getElem?_cons_zero] at a0
  clear hat e1 e2 e3
  have hv := valid13 n k tp
  have hz : inZ 13 1 13 = true := rfl
  have hnum := fun w' (hr : Rd w' w'.heap.size A (is64 tp)) => numbers13_ok n k tp A c w' hr hn hI
  rw [okN13] at hnum
  unfold stV at hnum ⊢
  dsimp only at hnum ⊢
  have HN := hid hnum
  clear hnum
  have HV := hid hv
  clear hv
  by_cases hn : n = 0
  · subst hn
    by_cases hk : k = 0
    · subst hk
      cases tp with
      | nil =>
        simp only [List.length_nil] at HN hn
        go_enter Tryd.func11, Tryd.ntmps11
        go_wp2_with (first
          | (go_at_call 27; refine (in_ok _ _ _ _).mono ?_; rintro e w2 ⟨rfl, rfl⟩)
          | (go_at_call 28; refine (HN.out _ ((hr.below (below_box2 w _ _) (Nat.le_refl _)).more (by rw [size2]; omega))).mono ?_; rintro e w2 ⟨rfl, hb2⟩))
        all_goals
          go_ret
          refine ⟨ret_bool ?_, by first | exact below_box2 w _ _ | exact (below_box2 w _ _).trans (Below.mono (by assumption) (by rw [size2]; omega))⟩
          rw [HV.out]
          first | (simp_all; done) | (simp; done)
      | cons x xs =>
        have hl : ((x :: xs).length : Int) ≠ 0 := by rw [List.length_cons]; omega
        have hl2 : (((x :: xs).length : Int) == 0) = false := by rw [beq_eq_false_iff_ne]; exact hl
        have hl3 : decide ((x :: xs).length = 0) = false := by simp
        rw [hl3] at HV
        generalize (x :: xs).length = L at *
        go_enter Tryd.func11, Tryd.ntmps11
        go_wp2_with (first
          | (go_at_call 27; refine (in_ok _ _ _ _).mono ?_; rintro e w2 ⟨rfl, rfl⟩)
          | (go_at_call 28; refine (HN.out _ ((hr.below (below_box2 w _ _) (Nat.le_refl _)).more (by rw [size2]; omega))).mono ?_; rintro e w2 ⟨rfl, hb2⟩))
        all_goals
          go_ret
          refine ⟨ret_bool ?_, by first | exact below_box2 w _ _ | exact (below_box2 w _ _).trans (Below.mono (by assumption) (by rw [size2]; omega))⟩
          rw [HV.out]
          first | (simp_all; done) | (simp; done)
    · have hkb : (k == 0) = false := by rw [beq_eq_false_iff_ne]; exact hk
      cases tp with
      | nil =>
        simp only [List.length_nil] at HN hn
        go_enter Tryd.func11, Tryd.ntmps11
        go_wp2_with (first
          | (go_at_call 27; refine (in_ok _ _ _ _).mono ?_; rintro e w2 ⟨rfl, rfl⟩)
          | (go_at_call 28; refine (HN.out _ ((hr.below (below_box2 w _ _) (Nat.le_refl _)).more (by rw [size2]; omega))).mono ?_; rintro e w2 ⟨rfl, hb2⟩))
        all_goals
          go_ret
          refine ⟨ret_bool ?_, by first | exact below_box2 w _ _ | exact (below_box2 w _ _).trans (Below.mono (by assumption) (by rw [size2]; omega))⟩
          rw [HV.out]
          first | (simp_all; done) | (simp; done)
      | cons x xs =>
        have hl : ((x :: xs).length : Int) ≠ 0 := by rw [List.length_cons]; omega
        have hl2 : (((x :: xs).length : Int) == 0) = false := by rw [beq_eq_false_iff_ne]; exact hl
        have hl3 : decide ((x :: xs).length = 0) = false := by simp
        rw [hl3] at HV
        generalize (x :: xs).length = L at *
        go_enter Tryd.func11, Tryd.ntmps11
        go_wp2_with (first
          | (go_at_call 27; refine (in_ok _ _ _ _).mono ?_; rintro e w2 ⟨rfl, rfl⟩)
          | (go_at_call 28; refine (HN.out _ ((hr.below (below_box2 w _ _) (Nat.le_refl _)).more (by rw [size2]; omega))).mono ?_; rintro e w2 ⟨rfl, hb2⟩))
        all_goals
          go_ret
          refine ⟨ret_bool ?_, by first | exact below_box2 w _ _ | exact (below_box2 w _ _).trans (Below.mono (by assumption) (by rw [size2]; omega))⟩
          rw [HV.out]
          first | (simp_all; done) | (simp; done)
  · have hnb : (n == 0) = false := by rw [beq_eq_false_iff_ne]; exact hn
    by_cases hk : k = 0
    · subst hk
      cases tp with
      | nil =>
        simp only [List.length_nil] at HN hn
        go_enter Tryd.func11, Tryd.ntmps11
        go_wp2_with (first
          | (go_at_call 27; refine (in_ok _ _ _ _).mono ?_; rintro e w2 ⟨rfl, rfl⟩)
          | (go_at_call 28; refine (HN.out _ ((hr.below (below_box2 w _ _) (Nat.le_refl _)).more (by rw [size2]; omega))).mono ?_; rintro e w2 ⟨rfl, hb2⟩))
        all_goals
          go_ret
          refine ⟨ret_bool ?_, by first | exact below_box2 w _ _ | exact (below_box2 w _ _).trans (Below.mono (by assumption) (by rw [size2]; omega))⟩
          rw [HV.out]
          first | (simp_all; done) | (simp; done)
      | cons x xs =>
        have hl : ((x :: xs).length : Int) ≠ 0 := by rw [List.length_cons]; omega
        have hl2 : (((x :: xs).length : Int) == 0) = false := by rw [beq_eq_false_iff_ne]; exact hl
        have hl3 : decide ((x :: xs).length = 0) = false := by simp
        rw [hl3] at HV
        generalize (x :: xs).length = L at *
        go_enter Tryd.func11, Tryd.ntmps11
        go_wp2_with (first
          | (go_at_call 27; refine (in_ok _ _ _ _).mono ?_; rintro e w2 ⟨rfl, rfl⟩)
          | (go_at_call 28; refine (HN.out _ ((hr.below (below_box2 w _ _) (Nat.le_refl _)).more (by rw [size2]; omega))).mono ?_; rintro e w2 ⟨rfl, hb2⟩))
        all_goals
          go_ret
          refine ⟨ret_bool ?_, by first | exact below_box2 w _ _ | exact (below_box2 w _ _).trans (Below.mono (by assumption) (by rw [size2]; omega))⟩
          rw [HV.out]
          first | (simp_all; done) | (simp; done)
    · have hkb : (k == 0) = false := by rw [beq_eq_false_iff_ne]; exact hk
      cases tp with
      | nil =>
        simp only [List.length_nil] at HN hn
        go_enter Tryd.func11, Tryd.ntmps11
        go_wp2_with (first
          | (go_at_call 27; refine (in_ok _ _ _ _).mono ?_; rintro e w2 ⟨rfl, rfl⟩)
          | (go_at_call 28; refine (HN.out _ ((hr.below (below_box2 w _ _) (Nat.le_refl _)).more (by rw [size2]; omega))).mono ?_; rintro e w2 ⟨rfl, hb2⟩))
        all_goals
          go_ret
          refine ⟨ret_bool ?_, by first | exact below_box2 w _ _ | exact (below_box2 w _ _).trans (Below.mono (by assumption) (by rw [size2]; omega))⟩
          rw [HV.out]
          first | (simp_all; done) | (simp; done)
      | cons x xs =>
        have hl : ((x :: xs).length : Int) ≠ 0 := by rw [List.length_cons]; omega
        have hl2 : (((x :: xs).length : Int) == 0) = false := by rw [beq_eq_false_iff_ne]; exact hl
        have hl3 : decide ((x :: xs).length = 0) = false := by simp
        rw [hl3] at HV
        generalize (x :: xs).length = L at *
        go_enter Tryd.func11, Tryd.ntmps11
        go_wp2_with (first
          | (go_at_call 27; refine (in_ok _ _ _ _).mono ?_; rintro e w2 ⟨rfl, rfl⟩)
          | (go_at_call 28; refine (HN.out _ ((hr.below (below_box2 w _ _) (Nat.le_refl _)).more (by rw [size2]; omega))).mono ?_; rintro e w2 ⟨rfl, hb2⟩))
        all_goals
          go_ret
          refine ⟨ret_bool ?_, by first | exact below_box2 w _ _ | exact (below_box2 w _ _).trans (Below.mono (by assumption) (by rw [size2]; omega))⟩
          rw [HV.out]
          first | (simp_all; done) | (simp; done)
set_option maxRecDepth 20000 in
set_option maxHeartbeats 400000 in
theorem implNo_ok (kd n k : Int) (tp : List Int) (A : Option Addr) (c : Nat) (w : World) (hz : inZ kd 1 13 = false) :
    Calls Tryd.prog 11 #[stV ⟨kd, n, k, tp⟩ A c] w fun e w' => e = .returned (.bool (valid ⟨kd, n, k, tp⟩)) ∧ Below w.heap.size w w' := by
  have hv : valid ⟨kd, n, k, tp⟩ = false := by unfold valid; rw [hz]; rfl
  unfold stV
  dsimp only
  go_enter Tryd.func11, Tryd.ntmps11
  go_wp2_with fail
  refine (in_ok _ _ _ _).mono ?_
  rintro e w2 ⟨rfl, rfl⟩
  rw [hz]
  go_wp2
  go_ret
  exact ⟨ret_bool hv.symm, below_box _ _⟩
theorem validStep_ok (s : St) (A : Option Addr) (c bt ot ct : Nat) (w : World) (hf : Forms w bt ot ct) (hr : Rd w w.heap.size A (is64 s.tp)) (hn : s.tp.length ≤ 1048576) (hI : I64' s.n) :
    Calls Tryd.prog 11 #[stV s A c] w fun e w' => e = .returned (.bool (valid s)) ∧ Below w.heap.size w w' := by
  obtain ⟨kd, n, k, tp⟩ := s
  by_cases hz : inZ kd 1 13 = true
  · have h1 : 1 ≤ kd ∧ kd ≤ 13 := by simpa [inZ] using hz
    have h2 : kd = 1 ∨ kd = 2 ∨ kd = 3 ∨ kd = 4 ∨ kd = 5 ∨ kd = 6 ∨ kd = 7 ∨ kd = 8 ∨ kd = 9 ∨ kd = 10 ∨ kd = 11 ∨ kd = 12 ∨ kd = 13 := by omega
    rcases h2 with rfl | rfl | rfl | rfl | rfl | rfl | rfl | rfl | rfl | rfl | rfl | rfl | rfl
    · exact impl1_ok n k tp A c bt ot ct w hf hr hn hI
    · exact impl2_ok n k tp A c bt ot ct w hf hr hn hI
    · exact impl3_ok n k tp A c bt ot ct w hf hr hn hI
    · exact impl4_ok n k tp A c bt ot ct w hf hr hn hI
    · exact impl5_ok n k tp A c bt ot ct w hf hr hn hI
    · exact impl6_ok n k tp A c bt ot ct w hf hr hn hI
    · exact impl7_ok n k tp A c bt ot ct w hf hr hn hI
    · exact impl8_ok n k tp A c bt ot ct w hf hr hn hI
    · exact impl9_ok n k tp A c bt ot ct w hf hr hn hI
    · exact impl10_ok n k tp A c bt ot ct w hf hr hn hI
    · exact impl11_ok n k tp A c bt ot ct w hf hr hn hI
    · exact impl12_ok n k tp A c bt ot ct w hf hr hn hI
    · exact impl13_ok n k tp A c bt ot ct w hf hr hn hI
  · have hz' : inZ kd 1 13 = false := by simpa using hz
    exact implNo_ok kd n k tp A c w hz'
end Go.Proofs.YtlafjmghfnlaoacDoor
