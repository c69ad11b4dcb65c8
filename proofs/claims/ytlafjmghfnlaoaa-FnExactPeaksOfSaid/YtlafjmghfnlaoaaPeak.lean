/-
  Contracts: PeakBetween, the program's and the reference's.
-/
import Derived.Test.YtlafjmghfnlaoaaC3
namespace Go.Proofs.Ytlafjmghfnlaoaa
open Go.RowKit

def pkL (rs : List Nat) (k : Nat) : Nat := nth rs ((k + rs.length - 1) % rs.length)
def pkR (rs : List Nat) (k : Nat) : Nat := nth rs ((k + 1) % rs.length)
def pkD (l c r : F) : F := fop .add (fop .sub l (fop .mul (V 4611686018427387904) c)) r
def pkO (l c r : F) : F := fop .quo (fop .mul (V 4602678819172646912) (fop .sub l r)) (pkD l c r)
def pkV (l c r : F) : F := fop .sub c (fop .mul (fop .mul (V 4598175219545276416) (fop .sub l r)) (pkO l c r))
def geF (x y : F) : Bool := ford x y == some .gt || ford x y == some .eq
def leF (x y : F) : Bool := ford x y == some .lt || ford x y == some .eq
def pkBad (l c r : F) : Bool := eqF (pkD l c r) (V 0) || !(geF (pkO l c r) (V 13830554455654793216) && leF (pkO l c r) (V 4607182418800017408))
def RetFFZ (w : World) (x y : F) (k : Int) (e : Ending) (w' : World) : Prop := ∃ r s, e = .returned (.tuple #[.float .f64 r, .float .f64 s, .int .i64 k]) ∧ V r = x ∧ V s = y ∧ Wf r ∧ Wf s ∧ Below w.heap.size w w'

def ringCode (n : Nat) : Int := if 256 < n then 3 else if n < 3 then 2 else 0
set_option maxRecDepth 20000 in
set_option maxHeartbeats 400000 in
theorem l06Ring_ok (A : Option Addr) (n c : Nat) (w : World) :
    Calls Try.prog 64 #[.slice A n c] w fun e w' => e = .returned (.int .i64 (ringCode n)) ∧ w = w' := by
  by_cases h : 256 < n
  · rw [show ringCode n = 3 by simp [ringCode, h]]
    go_enter Try.func64, Try.ntmps64
    go_wp2
    go_ret
    exact ⟨rfl, rfl⟩
  by_cases h3 : n < 3
  · rw [show ringCode n = 2 by simp [ringCode, h, h3]]
    go_enter Try.func64, Try.ntmps64
    go_wp2
    go_ret
    exact ⟨rfl, rfl⟩
  · rw [show ringCode n = 0 by simp [ringCode, h, h3]]
    go_enter Try.func64, Try.ntmps64
    go_wp2
    go_ret
    exact ⟨rfl, rfl⟩
set_option maxRecDepth 20000 in
set_option maxHeartbeats 400000 in
theorem around_ok (b off c : Nat) (rs : List Nat) (k : Nat) (w : World) (hk : k < rs.length) (hn : rs.length ≤ 256)
    (h1 : w.cell? ⟨b, off + (k + rs.length - 1) % rs.length, none⟩ = some (.float .f64 (pkL rs k))) (h2 : w.cell? ⟨b, off + (k + 1) % rs.length, none⟩ = some (.float .f64 (pkR rs k))) :
    Calls Try.prog 67 #[.slice (some ⟨b, off, none⟩) rs.length c, .int .i64 k] w fun e w' => ∃ n, e = .returned (.tuple #[.float .f64 (pkL rs k), .float .f64 (pkR rs k)]) ∧ w.drewN n = w' := by
  have hne : ¬ rs = [] := by
    rintro rfl
    simp at hk
  have hp : (0 : Int) < (rs.length : Int) := by omega
  have ha1 := Int.emod_nonneg ((k : Int) + rs.length - 1) (Int.ne_of_gt hp)
  have hb1 := Int.emod_lt_of_pos ((k : Int) + rs.length - 1) hp
  have ha2 := Int.emod_nonneg ((k : Int) + 1) (Int.ne_of_gt hp)
  have hb2 := Int.emod_lt_of_pos ((k : Int) + 1) hp
  go_enter Try.func67, Try.ntmps67
  go_wp2
  refine wp_region_dr (fun _ _ _ => False) (by kernel_rfl) (by kernel_rfl) ?_
  repeat (refine wpND_step (fun K hK => ?_); go_simp; first | (refine hK _ ?_; clear hK K) | (refine nd_dr (fun m => ?_); go_simp; (try go_bits); first | (refine hK _ ?_; clear hK K) | (fail; refine hK _ ?_; clear hK K)))
  refine wpND_nil ?_
  intro m
  (try rw [World.drewN_drewN])
  go_wp2
  go_ret2
  exact ⟨_, rfl, rfl⟩

def peak (rs : List Nat) (k : Nat) : F × F × Int :=
  let l := V (pkL rs k)
  let c := V (nth rs k)
  let r := V (pkR rs k)
  if pkBad l c r then (V 0, V 0, 4) else (pkO l c r, pkV l c r, 0)
theorem peak_bad {rs : List Nat} {k : Nat} (h : pkBad (V (pkL rs k)) (V (nth rs k)) (V (pkR rs k)) = true) : peak rs k = (V 0, V 0, 4) := by simp [peak, h]
theorem peak_good {rs : List Nat} {k : Nat} (h : pkBad (V (pkL rs k)) (V (nth rs k)) (V (pkR rs k)) = false) : peak rs k = (pkO (V (pkL rs k)) (V (nth rs k)) (V (pkR rs k)), pkV (V (pkL rs k)) (V (nth rs k)) (V (pkR rs k)), 0) := by simp [peak, h]
/-- the code of a list and a place -/
def peakCode (n : Nat) (k : Int) : Int := if 256 < n then 3 else if n < 3 then 2 else if inZ k 0 (n - 1) then 0 else 2
def peakAll (rs : List Nat) (k : Int) : F × F × Int := if peakCode rs.length k = 0 then peak rs k.toNat else (V 0, V 0, peakCode rs.length k)

set_option maxRecDepth 20000 in
set_option maxHeartbeats 400000 in
theorem specPeak_ok (A : Option Addr) (c : Nat) (rs : List Nat) (k : Int) (w : World) (hr : Rd w w.heap.size A (fl rs)) (hw : Wfs rs) (hn : rs.length ≤ 1048576) :
    Calls Try.prog 24 #[.slice A rs.length c, .int .i64 k] w (RetFFZ w (peakAll rs k).1 (peakAll rs k).2.1 (peakAll rs k).2.2) := by
  by_cases h0 : peakCode rs.length k = 0
  · rw [show peakAll rs k = peak rs k.toNat by simp [peakAll, h0]]
    have hlen : ¬ 256 < rs.length := fun h => by simp [peakCode, h] at h0
    have hlen3 : ¬ rs.length < 3 := fun h => by simp [peakCode, h, hlen] at h0
    have hin : inZ k 0 ((rs.length : Int) - 1) = true := by
      simp only [peakCode, hlen, hlen3, if_false] at h0
      by_cases h : inZ k 0 ((rs.length : Int) - 1) = true
      · exact h
      · rw [if_neg h] at h0; omega
    have hk : 0 ≤ k ∧ k ≤ (rs.length : Int) - 1 := by simpa [inZ] using hin
    obtain ⟨kn, rfl⟩ := Int.eq_ofNat_of_zero_le hk.1
    have hrc : ringCode rs.length = 0 := by simp [ringCode, hlen, hlen3]
    clear h0
    obtain ⟨b, off, rfl, hbl, hc⟩ := hr.floats (by omega)
    have hne : ¬ rs = [] := by
      rintro rfl
      simp at hlen3
    have hp : (0 : Int) < (rs.length : Int) := by omega
    have ha1 := Int.emod_nonneg ((kn : Int) + rs.length - 1) (Int.ne_of_gt hp)
    have hb1 := Int.emod_lt_of_pos ((kn : Int) + rs.length - 1) hp
    have ha2 := Int.emod_nonneg ((kn : Int) + 1) (Int.ne_of_gt hp)
    have hb2 := Int.emod_lt_of_pos ((kn : Int) + 1) hp
    have hc1 : w.cell? ⟨b, off + (kn + rs.length - 1) % rs.length, none⟩ = some (.float .f64 (pkL rs kn)) := hc _ (Nat.mod_lt _ (by omega))
    have hc2 : w.cell? ⟨b, off + (kn + 1) % rs.length, none⟩ = some (.float .f64 (pkR rs kn)) := hc _ (Nat.mod_lt _ (by omega))
    have hc3 := hc kn (by omega)
    have hkn : kn < rs.length := by omega
    have HRC := hid hrc
    have HIN := hid hin
    have HW : Wf (nth rs kn) := hw.get hkn
    clear hc hrc hin hr
    rw [Int.toNat_natCast]
    cases h1 : eqF (pkD (V (pkL rs kn)) (V (nth rs kn)) (V (pkR rs kn))) (V 0) with
    | true =>
      rw [peak_bad (by simp [pkBad, h1])]
      have h1' := h1
      unfold eqF pkD at h1'
      clear h1
      go_enter Try.func24, Try.ntmps24
      go_wp2_with (first | (go_at_call 64; refine (l06Ring_ok _ _ _ _).mono ?_; rintro e w2 ⟨rfl, rfl⟩; rw [HRC.out]) | (go_at_call 65; refine (l00In_ok _ _ _ _).mono ?_; rintro e w2 ⟨rfl, rfl⟩; rw [HIN.out]))
      go_ret3
      exact ⟨_, _, rfl, rfl, rfl, Wf0, Wf0, (Below.refl _ _).drewN _⟩
    | false =>
      have h1' := h1
      unfold eqF pkD at h1'
      cases h2 : geF (pkO (V (pkL rs kn)) (V (nth rs kn)) (V (pkR rs kn))) (V 13830554455654793216) with
      | false =>
        rw [peak_bad (by simp [pkBad, h2])]
        have h2' := h2
        unfold geF pkO pkD at h2'
        clear h1 h2
        go_enter Try.func24, Try.ntmps24
        go_wp2_with (first | (go_at_call 64; refine (l06Ring_ok _ _ _ _).mono ?_; rintro e w2 ⟨rfl, rfl⟩; rw [HRC.out]) | (go_at_call 65; refine (l00In_ok _ _ _ _).mono ?_; rintro e w2 ⟨rfl, rfl⟩; rw [HIN.out]))
        go_ret3
        exact ⟨_, _, rfl, rfl, rfl, Wf0, Wf0, (Below.refl _ _).drewN _⟩
      | true =>
        have h2' := h2
        unfold geF pkO pkD at h2'
        cases h3 : leF (pkO (V (pkL rs kn)) (V (nth rs kn)) (V (pkR rs kn))) (V 4607182418800017408) with
        | false =>
          rw [peak_bad (by simp [pkBad, h3])]
          have h3' := h3
          unfold leF pkO pkD at h3'
          clear h1 h2 h3
          go_enter Try.func24, Try.ntmps24
          go_wp2_with (first | (go_at_call 64; refine (l06Ring_ok _ _ _ _).mono ?_; rintro e w2 ⟨rfl, rfl⟩; rw [HRC.out]) | (go_at_call 65; refine (l00In_ok _ _ _ _).mono ?_; rintro e w2 ⟨rfl, rfl⟩; rw [HIN.out]))
          go_ret3
          exact ⟨_, _, rfl, rfl, rfl, Wf0, Wf0, (Below.refl _ _).drewN _⟩
        | true =>
          rw [peak_good (by simp [pkBad, h1, h2, h3])]
          have h3' := h3
          unfold leF pkO pkD at h3'
          clear h1 h2 h3
          go_enter Try.func24, Try.ntmps24
          go_wp2_with (first | (go_at_call 64; refine (l06Ring_ok _ _ _ _).mono ?_; rintro e w2 ⟨rfl, rfl⟩; rw [HRC.out]) | (go_at_call 65; refine (l00In_ok _ _ _ _).mono ?_; rintro e w2 ⟨rfl, rfl⟩; rw [HIN.out]))
          go_ret3
          exact ⟨_, _, rfl, by simp only [V_fres]; rfl, by simp only [V_fres]; rfl, Wf_fres _ _ _ _, Wf_fres _ _ _ _, (Below.refl _ _).drewN _⟩
  · rw [show peakAll rs k = (V 0, V 0, peakCode rs.length k) by simp [peakAll, h0]]
    by_cases hlong : 256 < rs.length
    · have hrc : ringCode rs.length = 3 := by simp [ringCode, hlong]
      rw [show peakCode rs.length k = 3 by simp [peakCode, hlong]]
      have HRC := hid hrc
      clear hrc h0
      go_enter Try.func24, Try.ntmps24
      go_wp2_with (go_at_call 64; refine (l06Ring_ok _ _ _ _).mono ?_; rintro e w2 ⟨rfl, rfl⟩; rw [HRC.out])
      go_ret3
      exact ⟨_, _, rfl, rfl, rfl, Wf0, Wf0, Below.refl _ _⟩
    by_cases h3 : rs.length < 3
    · have hrc : ringCode rs.length = 2 := by simp [ringCode, hlong, h3]
      rw [show peakCode rs.length k = 2 by simp [peakCode, hlong, h3]]
      have HRC := hid hrc
      clear hrc h0
      go_enter Try.func24, Try.ntmps24
      go_wp2_with (go_at_call 64; refine (l06Ring_ok _ _ _ _).mono ?_; rintro e w2 ⟨rfl, rfl⟩; rw [HRC.out])
      go_ret3
      exact ⟨_, _, rfl, rfl, rfl, Wf0, Wf0, Below.refl _ _⟩
    · have hrc : ringCode rs.length = 0 := by simp [ringCode, hlong, h3]
      have hin : inZ k 0 ((rs.length : Int) - 1) = false := by
        cases h : inZ k 0 ((rs.length : Int) - 1) with
        | false => rfl
        | true => simp [peakCode, hlong, h3, h] at h0
      rw [show peakCode rs.length k = 2 by simp [peakCode, hlong, h3, hin]]
      have HRC := hid hrc
      have HIN := hid hin
      clear hrc hin h0
      go_enter Try.func24, Try.ntmps24
      go_wp2_with (first | (go_at_call 64; refine (l06Ring_ok _ _ _ _).mono ?_; rintro e w2 ⟨rfl, rfl⟩; rw [HRC.out]) | (go_at_call 65; refine (l00In_ok _ _ _ _).mono ?_; rintro e w2 ⟨rfl, rfl⟩; rw [HIN.out]))
      go_ret3
      exact ⟨_, _, rfl, rfl, rfl, Wf0, Wf0, Below.refl _ _⟩

theorem peakCode_ok {n : Nat} {k : Int} (h0 : peakCode n k = 0) : ¬ 256 < n ∧ ¬ n < 3 ∧ inZ k 0 ((n : Int) - 1) = true ∧ 0 ≤ k ∧ k ≤ (n : Int) - 1 := by
  have hlen : ¬ 256 < n := fun h => by simp [peakCode, h] at h0
  have hlen3 : ¬ n < 3 := fun h => by simp [peakCode, h, hlen] at h0
  have hin : inZ k 0 ((n : Int) - 1) = true := by
    simp only [peakCode, hlen, hlen3, if_false] at h0
    by_cases h : inZ k 0 ((n : Int) - 1) = true
    · exact h
    · rw [if_neg h] at h0; omega
  have hk : 0 ≤ k ∧ k ≤ (n : Int) - 1 := by simpa [inZ] using hin
  exact ⟨hlen, hlen3, hin, hk.1, hk.2⟩
set_option maxRecDepth 20000 in
set_option maxHeartbeats 400000 in
theorem implPeak_ok (A : Option Addr) (c : Nat) (rs : List Nat) (k : Int) (w : World) (hr : Rd w w.heap.size A (fl rs)) (hw : Wfs rs) (hn : rs.length ≤ 1048576) :
    Calls Try.prog 25 #[.slice A rs.length c, .int .i64 k] w (RetFFZ w (peakAll rs k).1 (peakAll rs k).2.1 (peakAll rs k).2.2) := by
  by_cases h0 : peakCode rs.length k = 0
  · rw [show peakAll rs k = peak rs k.toNat by simp [peakAll, h0]]
    obtain ⟨hlen, hlen3, hin, hk1, hk2⟩ := peakCode_ok h0
    obtain ⟨kn, rfl⟩ := Int.eq_ofNat_of_zero_le hk1
    clear h0
    have hkn : kn < rs.length := by omega
    have HIN := hid hin
    clear hin
    rw [Int.toNat_natCast]
    obtain ⟨b, off, rfl, hbl, hc⟩ := hr.floats (by omega)
    have hc1 : w.cell? ⟨b, off + (kn + rs.length - 1) % rs.length, none⟩ = some (.float .f64 (pkL rs kn)) := hc _ (Nat.mod_lt _ (by omega))
    have hc2 : w.cell? ⟨b, off + (kn + 1) % rs.length, none⟩ = some (.float .f64 (pkR rs kn)) := hc _ (Nat.mod_lt _ (by omega))
    have hc3 := hc kn (by omega)
    have hcf := code_false
    have hfn := fnz_skip
    have HW : Wf (nth rs kn) := hw.get hkn
    clear hc hr
    have hn3 : (3 : Int) ≤ (rs.length : Int) := by omega
    cases h1 : eqF (pkD (V (pkL rs kn)) (V (nth rs kn)) (V (pkR rs kn))) (V 0) with
    | true =>
      rw [peak_bad (by simp [pkBad, h1])]
      have h1' := h1
      unfold eqF pkD at h1'
      clear h1
      go_enter Try.func25, Try.ntmps25
      go_wp2_with (first | (go_at_call 52; refine (realLimit_short _ _ _ _ hlen).mono ?_; rintro e w2 ⟨rfl, hb2⟩) | (go_at_call 66; refine (in_ok _ _ _ _).mono ?_; rintro e w2 ⟨rfl, rfl⟩; rw [HIN.out]) | (go_at_call 60; refine (unless_ok _ _ _).mono ?_; rintro e w2 ⟨rfl, rfl⟩) | (go_at_call 58; refine (first2_ok _ _ _).mono ?_; rintro e w3 ⟨rfl, hb3⟩))
      have hB3 : Below w.heap.size w w3 := hb2.trans (hb3.mono hb2.size)
      have hold := (olds hB3).1
      refine (around_ok b off c rs kn w3 hkn (by omega) ((hold _ _ hbl).trans hc1) ((hold _ _ hbl).trans hc2)).mono ?_
      rintro e w4 ⟨n4, rfl, rfl⟩
      have hc3' := (hold b (off + kn) hbl).trans hc3
      clear hold hc1 hc2 hc3 hb2 hb3 hcf hfn
      go_wp2_with (go_at_call 56; refine (mul_ok _ _ _).mono ?_; rintro e w5 ⟨s, n5, rfl, hs, hws, rfl⟩)
      go_ret3
      exact ⟨_, _, rfl, rfl, rfl, Wf0, Wf0, hB3.drewN _⟩
    | false =>
      by_cases hD : pkD (V (pkL rs kn)) (V (nth rs kn)) (V (pkR rs kn)) = none
      · have hO : pkO (V (pkL rs kn)) (V (nth rs kn)) (V (pkR rs kn)) = none := by unfold pkO; rw [hD, fop_none_r]
        rw [peak_bad (by simp [pkBad, geF, hO, ford_none_l])]
        have hD' : (ford (pkD (V (pkL rs kn)) (V (nth rs kn)) (V (pkR rs kn))) (pkD (V (pkL rs kn)) (V (nth rs kn)) (V (pkR rs kn))) != some .eq) = true := by rw [hD]; rfl
        have h1' := h1
        unfold eqF at h1'
        unfold pkD at h1' hD'
        clear h1 hD hO
        go_enter Try.func25, Try.ntmps25
        go_wp2_with (first | (go_at_call 52; refine (realLimit_short _ _ _ _ hlen).mono ?_; rintro e w2 ⟨rfl, hb2⟩) | (go_at_call 66; refine (in_ok _ _ _ _).mono ?_; rintro e w2 ⟨rfl, rfl⟩; rw [HIN.out]) | (go_at_call 60; refine (unless_ok _ _ _).mono ?_; rintro e w2 ⟨rfl, rfl⟩) | (go_at_call 58; refine (first2_ok _ _ _).mono ?_; rintro e w3 ⟨rfl, hb3⟩))
        have hB3 : Below w.heap.size w w3 := hb2.trans (hb3.mono hb2.size)
        have hold := (olds hB3).1
        refine (around_ok b off c rs kn w3 hkn (by omega) ((hold _ _ hbl).trans hc1) ((hold _ _ hbl).trans hc2)).mono ?_
        rintro e w4 ⟨n4, rfl, rfl⟩
        have hc3' := (hold b (off + kn) hbl).trans hc3
        clear hold hc1 hc2 hc3 hb2 hb3 hcf hfn
        go_wp2_with (go_at_call 56; refine (mul_ok _ _ _).mono ?_; rintro e w5 ⟨s, n5, rfl, hs, hws, rfl⟩)
        go_ret3
        exact ⟨_, _, rfl, rfl, rfl, Wf0, Wf0, hB3.drewN _⟩
      · have hD' : (ford (pkD (V (pkL rs kn)) (V (nth rs kn)) (V (pkR rs kn))) (pkD (V (pkL rs kn)) (V (nth rs kn)) (V (pkR rs kn))) != some .eq) = false := by
          unfold pkD at hD ⊢
          rw [ford_fop_self hD]
          rfl
        have h1' := h1
        unfold eqF at h1'
        unfold pkD at h1' hD'
        clear hD
        cases h2 : geF (pkO (V (pkL rs kn)) (V (nth rs kn)) (V (pkR rs kn))) (V 13830554455654793216) with
        | false =>
          rw [peak_bad (by simp [pkBad, h2])]
          have h2' := h2
          unfold geF pkO pkD at h2'
          clear h1 h2
          go_enter Try.func25, Try.ntmps25
          go_wp2_with (first | (go_at_call 52; refine (realLimit_short _ _ _ _ hlen).mono ?_; rintro e w2 ⟨rfl, hb2⟩) | (go_at_call 66; refine (in_ok _ _ _ _).mono ?_; rintro e w2 ⟨rfl, rfl⟩; rw [HIN.out]) | (go_at_call 60; refine (unless_ok _ _ _).mono ?_; rintro e w2 ⟨rfl, rfl⟩) | (go_at_call 58; refine (first2_ok _ _ _).mono ?_; rintro e w3 ⟨rfl, hb3⟩))
          have hB3 : Below w.heap.size w w3 := hb2.trans (hb3.mono hb2.size)
          have hold := (olds hB3).1
          refine (around_ok b off c rs kn w3 hkn (by omega) ((hold _ _ hbl).trans hc1) ((hold _ _ hbl).trans hc2)).mono ?_
          rintro e w4 ⟨n4, rfl, rfl⟩
          have hc3' := (hold b (off + kn) hbl).trans hc3
          clear hold hc1 hc2 hc3 hb2 hb3 hcf hfn
          go_wp2_with (go_at_call 56; refine (mul_ok _ _ _).mono ?_; rintro e w5 ⟨s, n5, rfl, hs, hws, rfl⟩)
          go_ret3
          exact ⟨_, _, rfl, rfl, rfl, Wf0, Wf0, hB3.drewN _⟩
        | true =>
          have h2' := h2
          unfold geF pkO pkD at h2'
          cases h3 : leF (pkO (V (pkL rs kn)) (V (nth rs kn)) (V (pkR rs kn))) (V 4607182418800017408) with
          | false =>
            rw [peak_bad (by simp [pkBad, h3])]
            have h3' := h3
            unfold leF pkO pkD at h3'
            clear h1 h2 h3
            go_enter Try.func25, Try.ntmps25
            go_wp2_with (first | (go_at_call 52; refine (realLimit_short _ _ _ _ hlen).mono ?_; rintro e w2 ⟨rfl, hb2⟩) | (go_at_call 66; refine (in_ok _ _ _ _).mono ?_; rintro e w2 ⟨rfl, rfl⟩; rw [HIN.out]) | (go_at_call 60; refine (unless_ok _ _ _).mono ?_; rintro e w2 ⟨rfl, rfl⟩) | (go_at_call 58; refine (first2_ok _ _ _).mono ?_; rintro e w3 ⟨rfl, hb3⟩))
            have hB3 : Below w.heap.size w w3 := hb2.trans (hb3.mono hb2.size)
            have hold := (olds hB3).1
            refine (around_ok b off c rs kn w3 hkn (by omega) ((hold _ _ hbl).trans hc1) ((hold _ _ hbl).trans hc2)).mono ?_
            rintro e w4 ⟨n4, rfl, rfl⟩
            have hc3' := (hold b (off + kn) hbl).trans hc3
            clear hold hc1 hc2 hc3 hb2 hb3 hcf hfn
            go_wp2_with (go_at_call 56; refine (mul_ok _ _ _).mono ?_; rintro e w5 ⟨s, n5, rfl, hs, hws, rfl⟩)
            go_ret3
            exact ⟨_, _, rfl, rfl, rfl, Wf0, Wf0, hB3.drewN _⟩
          | true =>
            rw [peak_good (by simp [pkBad, h1, h2, h3])]
            have h3' := h3
            unfold leF pkO pkD at h3'
            clear h1 h2 h3
            go_enter Try.func25, Try.ntmps25
            go_wp2_with (first | (go_at_call 52; refine (realLimit_short _ _ _ _ hlen).mono ?_; rintro e w2 ⟨rfl, hb2⟩) | (go_at_call 66; refine (in_ok _ _ _ _).mono ?_; rintro e w2 ⟨rfl, rfl⟩; rw [HIN.out]) | (go_at_call 60; refine (unless_ok _ _ _).mono ?_; rintro e w2 ⟨rfl, rfl⟩) | (go_at_call 58; refine (first2_ok _ _ _).mono ?_; rintro e w3 ⟨rfl, hb3⟩))
            have hB3 : Below w.heap.size w w3 := hb2.trans (hb3.mono hb2.size)
            have hold := (olds hB3).1
            refine (around_ok b off c rs kn w3 hkn (by omega) ((hold _ _ hbl).trans hc1) ((hold _ _ hbl).trans hc2)).mono ?_
            rintro e w4 ⟨n4, rfl, rfl⟩
            have hc3' := (hold b (off + kn) hbl).trans hc3
            clear hold hc1 hc2 hc3 hb2 hb3 hcf hfn
            go_wp2_with (go_at_call 56; refine (mul_ok _ _ _).mono ?_; rintro e w5 ⟨s, n5, rfl, hs, hws, rfl⟩)
            go_ret3
            exact ⟨_, _, rfl, by simp only [V_fres, *]; rfl, by simp only [V_fres, *]; rfl, Wf_fres _ _ _ _, Wf_fres _ _ _ _, hB3.drewN _⟩
  · rw [show peakAll rs k = (V 0, V 0, peakCode rs.length k) by simp [peakAll, h0]]
    have hct := code_true
    have hfn := fnz_skip
    have hf3 := fun y => fnz_head (show (3 : Int) ≠ 0 by omega) y
    by_cases hlong : 256 < rs.length
    · rw [show peakCode rs.length k = 3 by simp [peakCode, hlong]]
      have hn3 : (3 : Int) ≤ (rs.length : Int) := by omega
      clear h0
      go_enter Try.func25, Try.ntmps25
      go_wp2_with (first | (go_at_call 52; refine (realLimit_long _ _ _ _ hlong).mono ?_; rintro e w2 ⟨rfl, hb2⟩) | (go_at_call 66; refine (in_ok _ _ _ _).mono ?_; rintro e w2 ⟨rfl, rfl⟩) | (go_at_call 60; refine (unless_ok _ _ _).mono ?_; rintro e w2 ⟨rfl, rfl⟩) | (go_at_call 58; refine (first2_ok _ _ _).mono ?_; rintro e w3 ⟨rfl, hb3⟩))
      go_ret3
      exact ⟨_, _, rfl, rfl, rfl, Wf0, Wf0, hb2.trans (hb3.mono hb2.size)⟩
    by_cases h3 : rs.length < 3
    · rw [show peakCode rs.length k = 2 by simp [peakCode, hlong, h3]]
      have hn3 : ¬ (3 : Int) ≤ (rs.length : Int) := by omega
      clear h0
      go_enter Try.func25, Try.ntmps25
      go_wp2_with (first | (go_at_call 52; refine (realLimit_short _ _ _ _ hlong).mono ?_; rintro e w2 ⟨rfl, hb2⟩) | (go_at_call 66; refine (in_ok _ _ _ _).mono ?_; rintro e w2 ⟨rfl, rfl⟩) | (go_at_call 60; refine (unless_ok _ _ _).mono ?_; rintro e w2 ⟨rfl, rfl⟩) | (go_at_call 58; refine (first2_ok _ _ _).mono ?_; rintro e w3 ⟨rfl, hb3⟩))
      go_ret3
      exact ⟨_, _, rfl, rfl, rfl, Wf0, Wf0, hb2.trans (hb3.mono hb2.size)⟩
    · have hin : inZ k 0 ((rs.length : Int) - 1) = false := by
        cases h : inZ k 0 ((rs.length : Int) - 1) with
        | false => rfl
        | true => simp [peakCode, hlong, h3, h] at h0
      rw [show peakCode rs.length k = 2 by simp [peakCode, hlong, h3, hin]]
      have hn3 : (3 : Int) ≤ (rs.length : Int) := by omega
      clear h0
      go_enter Try.func25, Try.ntmps25
      go_wp2_with (first | (go_at_call 52; refine (realLimit_short _ _ _ _ hlong).mono ?_; rintro e w2 ⟨rfl, hb2⟩) | (go_at_call 66; refine (in_ok _ _ _ _).mono ?_; rintro e w2 ⟨rfl, rfl⟩) | (go_at_call 60; refine (unless_ok _ _ _).mono ?_; rintro e w2 ⟨rfl, rfl⟩) | (go_at_call 58; refine (first2_ok _ _ _).mono ?_; rintro e w3 ⟨rfl, hb3⟩))
      go_ret3
      exact ⟨_, _, rfl, rfl, rfl, Wf0, Wf0, hb2.trans (hb3.mono hb2.size)⟩
end Go.Proofs.Ytlafjmghfnlaoaa
