/-
  Contracts: CentroidOf, the program's and the reference's.
-/
import Derived.Test.YtlafjmghfnlaoaaC3
namespace Go.Proofs.Ytlafjmghfnlaoaa
open Go.RowKit

def cUp (rs : List Nat) (n : Nat) : F := totalF (fun i => fop .mul (V (floatOfInt .f64 (i : Int))) (V (nth rs i))) n
def cDown (rs : List Nat) (n : Nat) : F := totalF (fun i => V (nth rs i)) n
def badF (d : F) : Bool := eqF d (V 0) || !eqF d d
def centroid (rs : List Nat) : F × Int :=
  if 256 < rs.length then (V 0, 3)
  else if badF (cDown rs rs.length) then (V 0, 4)
  else (fop .quo (cUp rs rs.length) (cDown rs rs.length), 0)
theorem centroid_long {rs : List Nat} (h : 256 < rs.length) : centroid rs = (V 0, 3) := by simp [centroid, h]
theorem centroid_bad {rs : List Nat} (h : ¬ 256 < rs.length) (hb : badF (cDown rs rs.length) = true) : centroid rs = (V 0, 4) := by simp [centroid, h, hb]
theorem centroid_good {rs : List Nat} (h : ¬ 256 < rs.length) (hb : badF (cDown rs rs.length) = false) : centroid rs = (fop .quo (cUp rs rs.length) (cDown rs rs.length), 0) := by simp [centroid, h, hb]
theorem ofInt0 : V (floatOfInt .f64 ((0 : Nat) : Int)) = V 0 := by decide +kernel
theorem eqF00 : eqF (V 0) (V 0) = true := by decide +kernel
def RetF (w : World) (x : F) (k : Int) (e : Ending) (w' : World) : Prop := ∃ r, e = .returned (.tuple #[.float .f64 r, .int .i64 k]) ∧ V r = x ∧ Wf r ∧ Below w.heap.size w w'
theorem badF_spell (d : F) : badF d = ((ford d (V 0) == some .eq) || !(ford d d == some .eq)) := rfl

set_option maxRecDepth 20000 in
set_option maxHeartbeats 400000 in
theorem specCentroid_ok (A : Option Addr) (c : Nat) (rs : List Nat) (w : World) (hr : Rd w w.heap.size A (fl rs)) (hw : Wfs rs) (hn : rs.length ≤ 1048576) :
    Calls Try.prog 15 #[.slice A rs.length c] w (RetF w (centroid rs).1 (centroid rs).2) := by
  by_cases hlong : 256 < rs.length
  · rw [centroid_long hlong]
    go_enter Try.func15, Try.ntmps15
    go_wp2
    go_ret2
    exact ⟨_, rfl, rfl, Wf0, Below.refl _ _⟩
  by_cases hz : rs.length = 0
  · have hc : centroid rs = (V 0, 4) := centroid_bad hlong (by rw [hz]; rfl)
    rw [hc]
    have hz' : ((rs.length : Int) == 0) = true := by rw [beq_iff_eq]; omega
    have HZ := hid hz
    clear hz hc
    go_enter Try.func15, Try.ntmps15
    go_wp2
    go_ret2
    exact ⟨_, rfl, rfl, Wf0, Below.refl _ _⟩
  have hz' : ((rs.length : Int) == 0) = false := by rw [beq_eq_false_iff_ne]; omega
  obtain ⟨b, off, rfl, hbl, hc⟩ := hr.floats (by omega)
  have hc0 := hc 0 (by omega)
  rw [Nat.add_zero] at hc0
  have HC := hid hc
  have hpos : 0 < rs.length := by omega
  have hw0 : Wf (nth rs 0) := hw.get hpos
  clear hc hz
  go_enter Try.func15, Try.ntmps15
  go_wp2
  go_loopw [4, 5, 6] (fun u d i wr => ∃ (k ru rd : Nat), 1 ≤ k ∧ k ≤ rs.length ∧ i = .int .i64 k ∧ u = .float .f64 ru ∧ d = .float .f64 rd ∧ V ru = cUp rs k ∧ V rd = cDown rs k ∧ Wf ru ∧ Wf rd ∧ ∃ n, wr = w.drewN n) (fun _ _ i _ => rs.length - (intOf i).toNat)
  case atStart =>
    refine ⟨1, _, _, by omega, by omega, rfl, rfl, rfl, ?_, rfl, Wf_fres _ _ _ _, hw0, _, rfl⟩
    rw [V_fres]
    show _ = fop .mul (V (floatOfInt .f64 ((0 : Nat) : Int))) (V (nth rs 0))
    rw [ofInt0]
  case round =>
    obtain ⟨k, ru, rd, hk1, hk2, rfl, rfl, rfl, hu, hd, hwu, hwd, n, rfl⟩ := hrel
    have HU := hid hu
    have HD := hid hd
    clear hu hd
    by_cases h : k < rs.length
    · have hck := HC.out k h
      go_wp2
      refine ⟨?_, by simp [intOf]; omega⟩
      have e1 : ∀ wx wy wz, V (fres .add .f64 ru (fres .mul .f64 (floatOfInt .f64 (k : Int)) (nth rs k) wx) wy) = cUp rs (k + 1) ∧ V (fres .add .f64 rd (nth rs k) wz) = cDown rs (k + 1) := fun wx wy wz => by
        rw [V_fres, V_fres, V_fres, HU.out, HD.out]
        exact ⟨(totalF_step _ k hk1).symm, (totalF_step _ k hk1).symm⟩
      first
        | exact ⟨k + 1, _, _, by omega, by omega, by go_num, rfl, rfl, (e1 _ _ w).1, (e1 w w _).2, Wf_fres _ _ _ _, Wf_fres _ _ _ _, _, rfl⟩
        | ((repeat apply Exists.intro); exact ⟨⟨k + 1, _, _, by omega, by omega, by go_num, rfl, rfl, (e1 _ _ w).1, (e1 w w _).2, Wf_fres _ _ _ _, Wf_fres _ _ _ _, _, rfl⟩, rfl⟩)
    · obtain rfl : k = rs.length := by omega
      go_wp2_with (go_at_call 51; refine (l01NaN_ok _ _).mono ?_; rintro e w2 ⟨rfl, rfl⟩)
      · have h1 : ford (V rd) (V 0) = some .eq := by assumption
        rw [centroid_bad hlong (by rw [← HD.out]; simp [badF, eqF, h1])]
        go_ret2
        exact ⟨_, rfl, rfl, Wf0, (Below.refl _ _).drewN _⟩
      · have h1 : (ford (V rd) (V 0) == some .eq) = true ∨ (!eqF (V rd) (V rd)) = true := by assumption
        rw [centroid_bad hlong (by rw [← HD.out]; simpa [badF, eqF] using h1)]
        go_ret2
        exact ⟨_, rfl, rfl, Wf0, (Below.refl _ _).drewN _⟩
      · have h1 : (ford (V rd) (V 0) == some .eq) = false ∧ (!eqF (V rd) (V rd)) = false := by assumption
        rw [centroid_good hlong (by rw [← HD.out]; simpa [badF, eqF] using h1)]
        go_ret2
        exact ⟨_, rfl, by rw [V_fres, HU.out, HD.out], Wf_fres _ _ _ _, (Below.refl _ _).drewN _⟩

set_option maxRecDepth 20000 in
set_option maxHeartbeats 400000 in
theorem centroid1_ok (i : Int) (q b off c n : Nat) (r : Nat) (w : World) (hq : w.cell? ⟨q, 0, none⟩ = some (.slice (some ⟨b, off, none⟩) n c)) (hc : w.cell? ⟨b, off + i.toNat, none⟩ = some (.float .f64 r)) (h0 : 0 ≤ i) (hi : i < n) :
    Calls Try.prog 54 #[.int .i64 i, .pointer (some ⟨q, 0, none⟩)] w fun e w' => e = .returned (.float .f64 r) ∧ w = w' := by
  go_enter Try.func54, Try.ntmps54
  go_wp2
  go_ret
  exact ⟨rfl, rfl⟩
set_option maxRecDepth 20000 in
set_option maxHeartbeats 400000 in
theorem centroid2_ok (i : Int) (q b off c n : Nat) (r : Nat) (w : World) (hq : w.cell? ⟨q, 0, none⟩ = some (.slice (some ⟨b, off, none⟩) n c)) (hc : w.cell? ⟨b, off + i.toNat, none⟩ = some (.float .f64 r)) (h0 : 0 ≤ i) (hi : i < n) :
    Calls Try.prog 55 #[.int .i64 i, .pointer (some ⟨q, 0, none⟩)] w fun e w' => ∃ s n, e = .returned (.float .f64 s) ∧ V s = fop .mul (V (floatOfInt .f64 i)) (V r) ∧ Wf s ∧ w.drewN n = w' := by
  go_enter Try.func55, Try.ntmps55
  go_wp2_with (go_at_call 56; refine (mul_ok _ _ _).mono ?_; rintro e w2 ⟨s, n, rfl, hs, hws, rfl⟩)
  go_ret
  exact ⟨_, _, rfl, hs, hws, rfl⟩
theorem centroid1_in : Enters 54 := enters_of Try.func54 (by kernel_rfl) (by kernel_rfl)
theorem centroid2_in : Enters 55 := enters_of Try.func55 (by kernel_rfl) (by kernel_rfl)

theorem centroidTot1 (A : Option Addr) (c q B : Nat) (rs : List Nat) (w : World) (hq : w.cell? ⟨q, 0, none⟩ = some (.slice A rs.length c)) (hql : q < w.heap.size) (hr : Rd w B A (fl rs)) (hB : B ≤ w.heap.size) (hw : Wfs rs) (hn : rs.length ≤ 1048576) :
    Calls Try.prog 53 #[.int .i64 rs.length, .func (.func 54) #[] #[.pointer (some ⟨q, 0, none⟩)]] w fun e w' => ∃ r, e = .returned (.float .f64 r) ∧ V r = cDown rs rs.length ∧ Wf r ∧ Below w.heap.size w w' := by
  refine total_ok rs.length _ _ w (fun i => V (nth rs i)) (by omega) centroid1_in ?_
  intro i w' h0 hi hb
  obtain ⟨b, off, rfl, hbl, hc⟩ := (hr.below hb hB).floats (by omega)
  have hq' : w'.cell? ⟨q, 0, none⟩ = some (.slice (some ⟨b, off, none⟩) rs.length c) := ((olds hb).1 q 0 hql).trans hq
  refine (centroid1_ok i q b off c rs.length _ w' hq' (hc i.toNat (by omega)) h0 (by omega)).mono ?_
  rintro e w'' ⟨rfl, rfl⟩
  exact ⟨_, rfl, rfl, hw.get (by omega), Below.refl _ _⟩
theorem centroidTot2 (A : Option Addr) (c q B : Nat) (rs : List Nat) (w : World) (hq : w.cell? ⟨q, 0, none⟩ = some (.slice A rs.length c)) (hql : q < w.heap.size) (hr : Rd w B A (fl rs)) (hB : B ≤ w.heap.size) (hn : rs.length ≤ 1048576) :
    Calls Try.prog 53 #[.int .i64 rs.length, .func (.func 55) #[] #[.pointer (some ⟨q, 0, none⟩)]] w fun e w' => ∃ r, e = .returned (.float .f64 r) ∧ V r = cUp rs rs.length ∧ Wf r ∧ Below w.heap.size w w' := by
  refine total_ok rs.length _ _ w (fun i => fop .mul (V (floatOfInt .f64 (i : Int))) (V (nth rs i))) (by omega) centroid2_in ?_
  intro i w' h0 hi hb
  obtain ⟨b, off, rfl, hbl, hc⟩ := (hr.below hb hB).floats (by omega)
  have hq' : w'.cell? ⟨q, 0, none⟩ = some (.slice (some ⟨b, off, none⟩) rs.length c) := ((olds hb).1 q 0 hql).trans hq
  refine (centroid2_ok i q b off c rs.length _ w' hq' (hc i.toNat (by omega)) h0 (by omega)).mono ?_
  rintro e w'' ⟨s, n, rfl, hs, hws, rfl⟩
  exact ⟨_, rfl, by rw [hs, Int.toNat_of_nonneg h0], hws, (Below.refl _ _).drewN _⟩

set_option maxRecDepth 20000 in
set_option maxHeartbeats 400000 in
theorem implCentroid_ok (A : Option Addr) (c : Nat) (rs : List Nat) (w : World) (hr : Rd w w.heap.size A (fl rs)) (hw : Wfs rs) (hn : rs.length ≤ 1048576) :
    Calls Try.prog 17 #[.slice A rs.length c] w (RetF w (centroid rs).1 (centroid rs).2) := by
  have hB : Below w.heap.size w (w.alloc (.cells #[.slice A rs.length c] 22)) := below_box _ _
  by_cases hlong : 256 < rs.length
  · rw [centroid_long hlong]
    go_enter Try.func17, Try.ntmps17
    go_wp2_with (go_at_call 52; refine (realLimit_long _ _ _ _ hlong).mono ?_; rintro e w2 ⟨rfl, hb⟩)
    go_ret2
    exact ⟨_, rfl, rfl, Wf0, hB.trans (hb.mono hB.size)⟩
  go_enter Try.func17, Try.ntmps17
  go_wp2_with (go_at_call 52; refine (realLimit_short _ _ _ _ hlong).mono ?_; rintro e w2 ⟨rfl, hb⟩; have hbox := box_cell hb)
  have hB2 : Below w.heap.size w w2 := hB.trans (hb.mono hB.size)
  have hsz2 : w.heap.size < w2.heap.size := by have h1 := hb.size; rw [alloc_size] at h1; omega
  have hr2 := hr.below hB2 (Nat.le_refl _)
  refine (centroidTot1 A c _ _ rs w2 hbox hsz2 hr2 hB2.size hw hn).mono ?_
  rintro e w3 ⟨rd, rfl, hd, hwd, hb3⟩
  have HD := hid hd
  have hbox3 : w3.cell? ⟨w.heap.size, 0, none⟩ = some (.slice A rs.length c) := ((olds hb3).1 _ 0 hsz2).trans hbox
  clear hd hbox hb
  have hB3 : Below w.heap.size w w3 := hB2.trans (hb3.mono hB2.size)
  have hsz3 : w.heap.size < w3.heap.size := Nat.lt_of_lt_of_le hsz2 hb3.size
  have hr3 := hr.below hB3 (Nat.le_refl _)
  have hE : ∀ b1 : Bool, badF (V rd) = b1 → badF (cDown rs rs.length) = b1 := fun b1 h => by rw [← HD.out]; exact h
  have H2 := hid (centroidTot2 A c _ _ rs w3 hbox3 hsz3 hr3 hB3.size hn)
  clear hb3
  have HE := hid hE
  clear hE
  go_wp2_with (go_at_call 53; refine H2.out.mono ?_; rintro e w4 ⟨ru, rfl, hu, hwu, hb4⟩)
  · have h1 : ford (V rd) (V 0) = some .eq := by assumption
    rw [centroid_bad hlong (HE.out true (by simp [badF, eqF, h1]))]
    go_ret2
    exact ⟨_, rfl, rfl, Wf0, hB3⟩
  · have h1 : (ford (V rd) (V 0) == some .eq) = true ∨ (ford (V rd) (V rd) != some .eq) = true := by assumption
    rw [centroid_bad hlong (HE.out true (by simpa [badF, eqF, bne] using h1))]
    go_ret2
    exact ⟨_, rfl, rfl, Wf0, hB3⟩
  · have h1 : (ford (V rd) (V 0) == some .eq) = false ∧ (ford (V rd) (V rd) != some .eq) = false := by assumption
    rw [centroid_good hlong (HE.out false (by simpa [badF, eqF, bne] using h1))]
    go_ret2
    exact ⟨_, rfl, by rw [V_fres, hu, HD.out], Wf_fres _ _ _ _, (hB3.trans (hb4.mono hB3.size)).drewN _⟩
end Go.Proofs.Ytlafjmghfnlaoaa
