/-
  Contracts: PeaksOf of the reference.
-/
import Derived.Test.YtlafjmghfnlaoaaPeaks0
import Derived.Test.YtlafjmghfnlaoaaNd2
namespace Go.Proofs.Ytlafjmghfnlaoaa
open Go.RowKit
attribute [local irreducible] wpND

set_option maxRecDepth 20000 in
set_option maxHeartbeats 2000000 in
theorem specPeaks_ok (A : Option Addr) (c : Nat) (rs : List Nat) (f : Nat) (w : World) (hr : Rd w w.heap.size A (fl rs)) (hn : rs.length ≤ 1048576) (q : Int) (hq : ringCode rs.length = q) :
    Calls Try.prog 30 #[.slice A rs.length c, .float .f64 f] w (RetIS w (pkZs rs f q).length (pkZs rs f q) q) := by
  by_cases hq0 : q = 0
  · subst hq0
    rw [pkZs_zero]
    obtain ⟨hl, hl3⟩ := ringCode_ok hq
    have HQ := hid hq
    clear hq
    obtain ⟨b, off, rfl, hbl, hc0⟩ := hr.floats (by omega)
    have HR := hid hr
    have hp : (0 : Int) < (rs.length : Int) := by omega
    have hne : ¬ rs = [] := by
      rintro rfl
      simp at hp
    clear hc0
    go_enter Try.func30, Try.ntmps30
    go_wp2_with (go_at_call 64; refine (l06Ring_ok _ _ _ _).mono ?_; rintro e w2 ⟨rfl, rfl⟩; rw [HQ.out])
    go_loopw [8, 9] (fun out i wr => ∃ (k m : Nat), k ≤ rs.length ∧ i = .int .i64 k ∧ wr.ownsRow w.heap.size 2 1 out m (ints (peaks rs f k)) ∧ (peaks rs f k).length = m ∧ Below w.heap.size w wr) (fun _ i _ => rs.length - (intOf i).toNat)
    case atStart => exact ⟨0, 0, by omega, rfl, own_empty' w _, rfl, below_box _ _⟩
    case round =>
      obtain ⟨k, ml, hk, rfl, ho, hlm, hbel⟩ := hrel
      have HO := hid ho
      have HLM := hid hlm
      clear ho hlm
      by_cases hlt : k < rs.length
      · have hn2 : rs.length ≤ 256 := by omega
        have ha1 := Int.emod_nonneg ((k : Int) + rs.length - 1) (Int.ne_of_gt hp)
        have hb1 := Int.emod_lt_of_pos ((k : Int) + rs.length - 1) hp
        have ha2 := Int.emod_nonneg ((k : Int) + 1) (Int.ne_of_gt hp)
        have hb2 := Int.emod_lt_of_pos ((k : Int) + 1) hp
        obtain ⟨b', off', e', hbl', hc⟩ := (HR.out.below hbel (Nat.le_refl _)).floats (by omega)
        obtain ⟨rfl, rfl⟩ : b = b' ∧ off = off' := by simpa using e'
        have hc1 : wr.cell? ⟨b, off + (k + rs.length - 1) % rs.length, none⟩ = some (.float .f64 (pkL rs k)) := hc _ (Nat.mod_lt _ (by omega))
        have hc2 : wr.cell? ⟨b, off + (k + 1) % rs.length, none⟩ = some (.float .f64 (pkR rs k)) := hc _ (Nat.mod_lt _ (by omega))
        have hc3 := hc k hlt
        clear hc e'
        have hle : (peaks rs f k).length ≤ k := peaks_le rs f k
        have hlm2 := HLM.out
        cases h1 : gtF (V (nth rs k)) (V (pkL rs k)) with
        | false =>
          have hE := hid (peaks_false (rs := rs) (f := f) (k := k) (by simp [isPeak, h1]))
          unfold gtF at h1
          go_wp2
          refine wp_region_dr (fun _ _ _ => False) (by kernel_rfl) (by kernel_rfl) ?_
          repeat (first | (refine wpND_gfalse rfl rfl rfl rfl ?_; go_simp) | ((first | refine wpND_gtrue rfl rfl rfl (fun K hK => ?_) | refine wpND_gnone rfl (fun K hK => ?_)); refine nd_dr (fun m => ?_); go_simp; (try go_bits); first | (refine hK.out _ ?_; clear hK K) | ((fail); refine hK.out _ ?_; clear hK K)))
          refine wpND_nil ?_
          intro m
          (try rw [World.drewN_drewN])
          go_wp2
          go_roundw
          case rel =>
            first
              | exact ⟨k + 1, ml, by omega, by go_num, by rw [hE.out]; exact own_drewN HO.out _, by rw [hE.out]; exact HLM.out, hbel.drewN _⟩
              | ((repeat apply Exists.intro); exact ⟨⟨k + 1, ml, by omega, by go_num, by rw [hE.out]; exact own_drewN HO.out _, by rw [hE.out]; exact HLM.out, hbel.drewN _⟩, rfl⟩)
          case measure => simp [intOf]; omega
        | true =>
          cases h2 : gtF (V (nth rs k)) (V (pkR rs k)) with
          | false =>
            have hE := hid (peaks_false (rs := rs) (f := f) (k := k) (by simp [isPeak, h2]))
            unfold gtF at h1 h2
            go_wp2
            refine wp_region_dr (fun _ _ _ => False) (by kernel_rfl) (by kernel_rfl) ?_
            repeat (first | (refine wpND_gfalse rfl rfl rfl rfl ?_; go_simp) | ((first | refine wpND_gtrue rfl rfl rfl (fun K hK => ?_) | refine wpND_gnone rfl (fun K hK => ?_)); refine nd_dr (fun m => ?_); go_simp; (try go_bits); first | (refine hK.out _ ?_; clear hK K) | ((fail); refine hK.out _ ?_; clear hK K)))
            refine wpND_nil ?_
            intro m
            (try rw [World.drewN_drewN])
            go_wp2
            go_roundw
            case rel =>
              first
                | exact ⟨k + 1, ml, by omega, by go_num, by rw [hE.out]; exact own_drewN HO.out _, by rw [hE.out]; exact HLM.out, hbel.drewN _⟩
                | ((repeat apply Exists.intro); exact ⟨⟨k + 1, ml, by omega, by go_num, by rw [hE.out]; exact own_drewN HO.out _, by rw [hE.out]; exact HLM.out, hbel.drewN _⟩, rfl⟩)
            case measure => simp [intOf]; omega
          | true =>
            cases h3 : geF (V (nth rs k)) (V f) with
            | false =>
              have hE := hid (peaks_false (rs := rs) (f := f) (k := k) (by simp [isPeak, h3]))
              unfold gtF at h1 h2
              unfold geF at h3
              go_wp2
              refine wp_region_dr (fun _ _ _ => False) (by kernel_rfl) (by kernel_rfl) ?_
              repeat (first | (refine wpND_gfalse rfl rfl rfl rfl ?_; go_simp) | ((first | refine wpND_gtrue rfl rfl rfl (fun K hK => ?_) | refine wpND_gnone rfl (fun K hK => ?_)); refine nd_dr (fun m => ?_); go_simp; (try go_bits); first | (refine hK.out _ ?_; clear hK K) | ((fail); refine hK.out _ ?_; clear hK K)))
              refine wpND_nil ?_
              intro m
              (try rw [World.drewN_drewN])
              go_wp2
              go_roundw
              case rel =>
                first
                  | exact ⟨k + 1, ml, by omega, by go_num, by rw [hE.out]; exact own_drewN HO.out _, by rw [hE.out]; exact HLM.out, hbel.drewN _⟩
                  | ((repeat apply Exists.intro); exact ⟨⟨k + 1, ml, by omega, by go_num, by rw [hE.out]; exact own_drewN HO.out _, by rw [hE.out]; exact HLM.out, hbel.drewN _⟩, rfl⟩)
              case measure => simp [intOf]; omega
            | true =>
              have hE := hid (peaks_true (rs := rs) (f := f) (k := k) (by simp [isPeak, h1, h2, h3]))
              unfold gtF at h1 h2
              unfold geF at h3
              have hmk : ml ≤ k := by omega
              clear hle hlm2
              go_wp2
              refine wp_region_dr (fun _ _ _ => False) (by kernel_rfl) (by kernel_rfl) ?_
              repeat (first | (refine wpND_gfalse rfl rfl rfl rfl ?_; go_simp) | ((first | refine wpND_gtrue rfl rfl rfl (fun K hK => ?_) | refine wpND_gnone rfl (fun K hK => ?_)); refine nd_dr (fun m => ?_); go_simp; (try go_bits); first | (refine hK.out _ ?_; clear hK K) | ((fail); refine hK.out _ ?_; clear hK K)))
              refine wpND_nil ?_
              intro m
              (try rw [World.drewN_drewN])
              go_wp2_with (at_builtin; refine app1 (W := wr.drewN _) rfl _ _ 39 2 (.int .i64 0) 8 rfl Try.underlying39 i64infoP rfl (by decide) w.heap.size _ ml (ints (peaks rs f k)) rfl _ rfl HO.out (by omega) hbel.size 1 rfl rfl ?_; intro v' w7 ho7 hb7)
              have hB := hb7 _ w (Nat.le_refl _) (hbel.drewN _)
              have hO : w7.ownsRow w.heap.size 2 1 v' (ml + 1) (ints (peaks rs f (k + 1))) := by rw [hE.out]; simpa [ints] using ho7
              have hL : (peaks rs f (k + 1)).length = ml + 1 := by rw [hE.out, List.length_append, HLM.out]; rfl
              go_roundw
              case rel =>
                first
                  | exact ⟨k + 1, ml + 1, by omega, by go_num, hO, hL, hB⟩
                  | ((repeat apply Exists.intro); exact ⟨⟨k + 1, ml + 1, by omega, by go_num, hO, hL, hB⟩, rfl⟩)
              case measure => simp [intOf]; omega
      · obtain rfl : k = rs.length := by omega
        go_wp2
        go_ret2
        exact ⟨_, rfl, by rw [HLM.out]; exact HO.out, rfl, hbel⟩
  · rw [pkZs_ne _ _ hq0]
    have hq1 : (q != 0) = true := by simpa using hq0
    have HQ := hid hq
    clear hq
    go_enter Try.func30, Try.ntmps30
    go_wp2_with (go_at_call 64; refine (l06Ring_ok _ _ _ _).mono ?_; rintro e w2 ⟨rfl, rfl⟩; rw [HQ.out])
    go_ret2
    exact ⟨_, rfl, own_empty' w _, rfl, below_box _ _⟩
end Go.Proofs.Ytlafjmghfnlaoaa
