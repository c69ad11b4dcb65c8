/-
  Contracts: SmoothPowers of the reference.
-/
import Derived.Test.YtlafjmghfnlaoaaSmooth2
import Derived.Test.YtlafjmghfnlaoaaApp
namespace Go.Proofs.Ytlafjmghfnlaoaa
open Go.RowKit

set_option maxRecDepth 20000 in
set_option maxHeartbeats 400000 in
theorem l00Max_ok (n : Int) (w : World) : Calls Try.prog 68 #[.int .i64 0, .int .i64 (n - 1)] w fun e w' => e = .returned (.int .i64 (top n)) ∧ w = w' := by
  go_enter Try.func68, Try.ntmps68
  go_wp2
  all_goals
    go_ret
    go_light
    refine ⟨ret_int ?_, rfl⟩
    unfold top
    split <;> omega
theorem smIdx_zero (rs : List Nat) (r k : Nat) : smIdx rs.length r k 0 = (((k : Int) - r) % rs.length).toNat := by simp [smIdx]
theorem smIdx_at (rs : List Nat) (r k m : Nat) (j : Int) (h : j = 1 - (r : Int) + m) : smIdx rs.length r k ((m + 1 : Nat) : Int) = (((k : Int) + j) % rs.length).toNat := by
  unfold smIdx
  congr 2
  omega
theorem own_empty (w : World) (t : TypeId) : (w.alloc (.cells #[] t)).ownsRow w.heap.size t 1 (.slice (some ⟨w.heap.size, 0, none⟩) 0 0) 0 [] := own_of_bk (Bk.new w t #[]) rfl (Nat.le_refl _) (by omega)
theorem retFS_empty (w : World) (n : Nat) (g : Nat → F) {q : Int} (hq : ¬ q = 0) : RetFS w (lenIf n q) g q (.returned (.tuple #[.slice (some ⟨w.heap.size, 0, none⟩) 0 0, .int .i64 q])) (w.alloc (.cells #[] 23)) := by
  rw [lenIf_ne n hq]
  exact ⟨_, [], rfl, own_empty w _, IsL.nil _, below_box _ _⟩
set_option maxRecDepth 20000 in
set_option maxHeartbeats 400000 in
theorem specSmooth_ok (A : Option Addr) (c : Nat) (rs : List Nat) (k : Int) (w : World) (hr : Rd w w.heap.size A (fl rs)) (hw : Wfs rs) (hn : rs.length ≤ 1048576) (hk : -9223372036854775808 ≤ k ∧ k ≤ 9223372036854775807) (q : Int) (hq : smCode rs k = q) :
    Calls Try.prog 26 #[.slice A rs.length c, .int .i64 k] w (RetFS w (lenIf rs.length q) (smooth rs k.toNat) q) := by
  by_cases hl : 256 < rs.length
  · have hq3 : q = 3 := by rw [← hq, smCode, decide_eq_true hl, code_true, fnz_head (by omega)]
    subst hq3
    go_enter Try.func26, Try.ntmps26
    go_wp2
    go_ret2
    exact retFS_empty w _ _ (by omega)
  cases hi : inZ k 0 (top rs.length) with
  | false =>
    have hq2 : q = 2 := by rw [← hq, smCode, decide_eq_false hl, code_false, fnz_skip, hi]; rfl
    subst hq2
    have HI := hid hi
    clear hi hq
    go_enter Try.func26, Try.ntmps26
    go_wp2_with (first | (go_at_call 68; refine (l00Max_ok _ _).mono ?_; rintro e w2 ⟨rfl, rfl⟩) | (go_at_call 65; refine (l00In_ok _ _ _ _).mono ?_; rintro e w2 ⟨rfl, rfl⟩; rw [HI.out]))
    go_ret2
    exact retFS_empty w _ _ (by omega)
  | true =>
    have hq0 : q = 0 := by rw [← hq, smCode, decide_eq_false hl, code_false, fnz_skip, hi]; rfl
    subst hq0
    obtain ⟨_, hk0, hkn⟩ := smCode_ok hq
    rw [lenIf_zero]
    have HI := hid hi
    clear hi hq
    obtain ⟨r, hkr⟩ : ∃ r : Nat, k = r := ⟨k.toNat, by omega⟩
    subst hkr
    rw [Int.toNat_natCast]
    have HR := hid hr
    have HKN := hid hkn
    clear hr hkn
    go_enter Try.func26, Try.ntmps26
    go_wp2_with (first | (go_at_call 68; refine (l00Max_ok _ _).mono ?_; rintro e w2 ⟨rfl, rfl⟩) | (go_at_call 65; refine (l00In_ok _ _ _ _).mono ?_; rintro e w2 ⟨rfl, rfl⟩; rw [HI.out]))
    go_loopw [7, 8, 9, 10] (fun out kk s j wr => ∃ (k : Nat) (xs : List Nat), k ≤ rs.length ∧ kk = .int .i64 k ∧ wr.ownsRow w.heap.size 23 1 out k (fl xs) ∧ IsL xs k (smooth rs r) ∧ Below w.heap.size w wr) (fun _ kk _ _ _ => rs.length - (intOf kk).toNat)
    case atStart => exact ⟨0, [], by omega, rfl, own_empty w _, IsL.nil _, below_box _ _⟩
    case round =>
      obtain ⟨k, xs, hkn, rfl, ho, hl5, hbel⟩ := hrel
      have HO := hid ho
      have HL := hid hl5
      clear ho hl5
      by_cases hlt : k < rs.length
      · have hrn : r < rs.length := by have := HKN.out; omega
        have hne : ¬ rs = [] := by
          rintro rfl
          simp at hlt
        have hpos : (0 : Int) < (rs.length : Int) := by omega
        obtain ⟨b, off, rfl, hbl, hc⟩ := (HR.out.below hbel (Nat.le_refl _)).floats (by omega)
        have hc0 := hc _ (smIdx_lt (n := rs.length) (r := r) (k := k) (i := 0) (by omega))
        have HC := hid hc
        clear hc
        rw [smIdx_zero] at hc0
        have ha1 := Int.emod_nonneg ((k : Int) - r) (Int.ne_of_gt hpos)
        have hb1 := Int.emod_lt_of_pos ((k : Int) - r) hpos
        go_wp2
        go_loopw [9, 10] (fun s j w4 => ∃ (m : Nat) (x : Nat), m ≤ 2 * r ∧ j = .int .i64 (1 - (r : Int) + m) ∧ s = .float .f64 x ∧ V x = smSum rs r k (m + 1) ∧ Wf x ∧ ∃ d, w4 = wr.drewN d) (fun _ j _ => (r + 1 - intOf j).toNat)
        case atStart =>
          refine ⟨0, _, by omega, by go_num, rfl, ?_, hw.get (by omega), 0, rfl⟩
          exact congrArg (fun i => V (nth rs i)) (smIdx_zero rs r k).symm
        case round =>
          obtain ⟨m, x, hm, rfl, rfl, hx, hwx, d, rfl⟩ := hrel
          have HX := hid hx
          clear hx hc0 ha1 hb1
          obtain ⟨j, hj⟩ : ∃ j : Int, j = 1 - (r : Int) + m := ⟨_, rfl⟩
          rw [← hj]
          have hj0 : 1 - (r : Int) ≤ j := by omega
          have hj2 : j ≤ r + 1 := by omega
          by_cases hlt2 : m < 2 * r
          · have hj1 : j ≤ r := by omega
            have hc1 := HC.out _ (smIdx_lt (n := rs.length) (r := r) (k := k) (i := ((m + 1 : Nat) : Int)) (by omega))
            have hix := smIdx_at rs r k m j hj
            have hE : V (nth rs (smIdx rs.length r k ((m + 1 : Nat) : Int))) = V (nth rs (((k : Int) + j) % rs.length).toNat) := by rw [hix]
            rw [hix] at hc1
            clear hix
            have HE := hid hE
            have HJ := hid hj
            clear hE hj
            have ha1 := Int.emod_nonneg ((k : Int) + j) (Int.ne_of_gt hpos)
            have hb1 := Int.emod_lt_of_pos ((k : Int) + j) hpos
            go_wp2
            have e1 : ∀ w, V (fres .add .f64 x (nth rs (((k : Int) + j) % rs.length).toNat) w) = smSum rs r k (m + 1 + 1) := fun w => by
              rw [V_fres, HX.out, ← HE.out]
              exact (totalF_step _ (m + 1) (by omega)).symm
            have HE1 := hid e1
            have hj3 := HJ.out
            clear e1
            go_roundw
            case rel =>
              first
                | exact ⟨m + 1, _, by omega, by rw [hj3]; go_num, rfl, HE1.out _, Wf_fres _ _ _ _, _, rfl⟩
                | ((repeat apply Exists.intro); exact ⟨⟨m + 1, _, by omega, by rw [hj3]; go_num, rfl, HE1.out _, Wf_fres _ _ _ _, _, rfl⟩, rfl⟩)
            case measure => simp [intOf]; omega
          · obtain rfl : m = 2 * r := by omega
            have hj1 : ¬ j ≤ r := by omega
            have HJ := hid hj
            clear hj
            have hbel2 := hbel.drewN d
            go_wp2_with (at_builtin; refine app1 (W := wr.drewN _) rfl _ _ 22 23 (.float .f64 0) 8 rfl Try.underlying22 f64info rfl (by decide) w.heap.size _ k (fl xs) rfl _ rfl HO.out (by omega) hbel.size 1 rfl rfl ?_; intro v' w7 ho7 hb7)
            have e1 : ∀ w, V (fres .quo .f64 x (floatOfInt .f64 (2 * (r : Int) + 1)) w) = smooth rs r k := fun w => by
              rw [V_fres, HX.out]
              rfl
            have R := fun w => HL.out.snoc (e1 w) (Wf_fres .quo x (floatOfInt .f64 (2 * (r : Int) + 1)) w)
            have hB := hb7 _ w (Nat.le_refl _) (hbel.drewN _)
            refine ⟨?_, by simp [intOf]; omega⟩
            first
              | exact ⟨k + 1, _, by omega, by go_num, by simpa [fl] using ho7, R _, hB⟩
              | ((repeat apply Exists.intro); exact ⟨⟨k + 1, _, by omega, by go_num, by simpa [fl] using ho7, R _, hB⟩, rfl⟩)
      · obtain rfl : k = rs.length := by omega
        go_wp2
        go_ret2
        exact ⟨_, xs, rfl, HO.out, HL.out, hbel⟩
end Go.Proofs.Ytlafjmghfnlaoaa
