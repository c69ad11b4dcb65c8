/-
  Contracts: PeaksOf of the program; slices of integers that are alike.
-/
import Derived.Test.YtlafjmghfnlaoaaPeaks0
import Derived.Test.YtlafjmghfnlaoaaSmooth2
namespace Go.Proofs.Ytlafjmghfnlaoaa
open Go.RowKit

set_option maxRecDepth 20000 in
set_option maxHeartbeats 4000000 in
theorem implPeaks_ok (A : Option Addr) (c : Nat) (rs : List Nat) (f : Nat) (w : World) (hr : Rd w w.heap.size A (fl rs)) (hn : rs.length ≤ 1048576) (q : Int) (hq : ringCode rs.length = q) :
    Calls Try.prog 31 #[.slice A rs.length c, .float .f64 f] w (RetIS w (pkZs rs f q).length (pkZs rs f q) q) := by
  have hcf := code_false
  have hct := code_true
  have hfn := fnz_skip
  by_cases hl : 256 < rs.length
  · have hq3 : q = 3 := by rw [← hq]; simp [ringCode, hl]
    rw [hq3, pkZs_ne _ _ (by omega)]
    have hf3 := fun y => fnz_head (x := 3) (by omega) y
    clear hq
    by_cases h3 : (3 : Int) ≤ (rs.length : Int)
    · go_enter Try.func31, Try.ntmps31
      go_wp2_with (first | (go_at_call 52; refine (realLimit_long _ _ _ _ hl).mono ?_; rintro e w2 ⟨rfl, hb2⟩) | (go_at_call 60; refine (unless_ok _ _ _).mono ?_; rintro e w2 ⟨rfl, rfl⟩) | (go_at_call 58; refine (first2_ok _ _ _).mono ?_; rintro e w3 ⟨rfl, hb3⟩))
      go_ret2
      exact ⟨_, rfl, ⟨rfl, .inl ⟨rfl, rfl⟩⟩, rfl, hb2.trans (hb3.mono hb2.size)⟩
    · omega
  by_cases hl3 : rs.length < 3
  · have hq2 : q = 2 := by rw [← hq]; simp [ringCode, hl, hl3]
    rw [hq2, pkZs_ne _ _ (by omega)]
    have h3 : decide ((3 : Int) ≤ (rs.length : Int)) = false := decide_eq_false (by omega)
    clear hq
    go_enter Try.func31, Try.ntmps31
    go_wp2_with (first | (go_at_call 52; refine (realLimit_short _ _ _ _ hl).mono ?_; rintro e w2 ⟨rfl, hb2⟩) | (go_at_call 60; refine (unless_ok _ _ _).mono ?_; rintro e w2 ⟨rfl, rfl⟩) | (go_at_call 58; refine (first2_ok _ _ _).mono ?_; rintro e w3 ⟨rfl, hb3⟩))
    go_ret2
    exact ⟨_, rfl, ⟨rfl, .inl ⟨rfl, rfl⟩⟩, rfl, hb2.trans (hb3.mono hb2.size)⟩
  have hq0 : q = 0 := by rw [← hq]; simp [ringCode, hl, hl3]
  rw [hq0, pkZs_zero]
  clear hq hq0
  have hn3 : (3 : Int) ≤ (rs.length : Int) := by omega
  obtain ⟨b, off, rfl, hbl, hc0⟩ := hr.floats (by omega)
  have HR := hid hr
  have hp : (0 : Int) < (rs.length : Int) := by omega
  have hne : ¬ rs = [] := by
    rintro rfl
    simp at hp
  clear hc0 hr
  go_enter Try.func31, Try.ntmps31
  go_wp2_with (first | (go_at_call 52; refine (realLimit_short _ _ _ _ hl).mono ?_; rintro e w2 ⟨rfl, hb2⟩) | (go_at_call 60; refine (unless_ok _ _ _).mono ?_; rintro e w2 ⟨rfl, rfl⟩) | (go_at_call 58; refine (first2_ok _ _ _).mono ?_; rintro e w3 ⟨rfl, hb3⟩))
  have hB3 : Below w.heap.size w w3 := hb2.trans (hb3.mono hb2.size)
  go_loopw [7, 8, 9, 10, 11, 26] (fun out _ _ _ _ i wr => ∃ (k m : Nat), k ≤ rs.length ∧ i = .int .i64 k ∧ wr.ownsRow w3.heap.size 2 1 out m (ints (peaks rs f k)) ∧ (peaks rs f k).length = m ∧ Below w3.heap.size w3 wr) (fun _ _ _ _ _ i _ => rs.length - (intOf i).toNat)
  case atStart => exact ⟨0, 0, by omega, rfl, own_empty' w3 _, rfl, below_box _ _⟩
  case round =>
    obtain ⟨k, m, hk, rfl, ho, hlm, hbel⟩ := hrel
    have HO := hid ho
    have HLM := hid hlm
    clear ho hlm hb2 hb3 hcf hct hfn
    by_cases hlt : k < rs.length
    · obtain ⟨b', off', e', hbl', hc⟩ := (HR.out.below (hB3.trans (hbel.mono hB3.size)) (Nat.le_refl _)).floats (by omega)
      obtain ⟨rfl, rfl⟩ : b = b' ∧ off = off' := by simpa using e'
      have hc1 : wr.cell? ⟨b, off + (k + rs.length - 1) % rs.length, none⟩ = some (.float .f64 (pkL rs k)) := hc _ (Nat.mod_lt _ (by omega))
      have hc2 : wr.cell? ⟨b, off + (k + 1) % rs.length, none⟩ = some (.float .f64 (pkR rs k)) := hc _ (Nat.mod_lt _ (by omega))
      have hc3 := hc k hlt
      have HC1 := hid hc1
      have HC2 := hid hc2
      clear hc e' hc1 hc2
      have hle : (peaks rs f k).length ≤ k := peaks_le rs f k
      have hlm2 := HLM.out
      have hmk : m ≤ k := by omega
      clear hle hlm2
      cases h1 : gtF (V (nth rs k)) (V (pkL rs k)) with
      | false =>
        have hE := hid (peaks_false (rs := rs) (f := f) (k := k) (by simp [isPeak, h1]))
        unfold gtF at h1
        go_wp2_with (go_at_call 67; refine (around_ok b off c rs k _ hlt (by omega) HC1.out HC2.out).mono ?_; rintro e w4 ⟨n4, rfl, rfl⟩)
        go_roundw
        case rel =>
          first
            | exact ⟨k + 1, m, by omega, by go_num, by rw [hE.out]; exact own_drewN HO.out _, by rw [hE.out]; exact HLM.out, hbel.drewN _⟩
            | ((repeat apply Exists.intro); exact ⟨⟨k + 1, m, by omega, by go_num, by rw [hE.out]; exact own_drewN HO.out _, by rw [hE.out]; exact HLM.out, hbel.drewN _⟩, rfl⟩)
        case measure => simp [intOf]; omega
      | true =>
        cases h2 : gtF (V (nth rs k)) (V (pkR rs k)) with
        | false =>
          have hE := hid (peaks_false (rs := rs) (f := f) (k := k) (by simp [isPeak, h2]))
          unfold gtF at h1 h2
          go_wp2_with (go_at_call 67; refine (around_ok b off c rs k _ hlt (by omega) HC1.out HC2.out).mono ?_; rintro e w4 ⟨n4, rfl, rfl⟩)
          go_roundw
          case rel =>
            first
              | exact ⟨k + 1, m, by omega, by go_num, by rw [hE.out]; exact own_drewN HO.out _, by rw [hE.out]; exact HLM.out, hbel.drewN _⟩
              | ((repeat apply Exists.intro); exact ⟨⟨k + 1, m, by omega, by go_num, by rw [hE.out]; exact own_drewN HO.out _, by rw [hE.out]; exact HLM.out, hbel.drewN _⟩, rfl⟩)
          case measure => simp [intOf]; omega
        | true =>
          cases h3 : geF (V (nth rs k)) (V f) with
          | false =>
            have hE := hid (peaks_false (rs := rs) (f := f) (k := k) (by simp [isPeak, h3]))
            unfold gtF at h1 h2
            unfold geF at h3
            go_wp2_with (go_at_call 67; refine (around_ok b off c rs k _ hlt (by omega) HC1.out HC2.out).mono ?_; rintro e w4 ⟨n4, rfl, rfl⟩)
            go_roundw
            case rel =>
              first
                | exact ⟨k + 1, m, by omega, by go_num, by rw [hE.out]; exact own_drewN HO.out _, by rw [hE.out]; exact HLM.out, hbel.drewN _⟩
                | ((repeat apply Exists.intro); exact ⟨⟨k + 1, m, by omega, by go_num, by rw [hE.out]; exact own_drewN HO.out _, by rw [hE.out]; exact HLM.out, hbel.drewN _⟩, rfl⟩)
            case measure => simp [intOf]; omega
          | true =>
            have hE := hid (peaks_true (rs := rs) (f := f) (k := k) (by simp [isPeak, h1, h2, h3]))
            unfold gtF at h1 h2
            unfold geF at h3
            go_wp2_with (first | (go_at_call 67; refine (around_ok b off c rs k _ hlt (by omega) HC1.out HC2.out).mono ?_; rintro e w4 ⟨n4, rfl, rfl⟩) | (at_builtin; refine app1 (W := wr.drewN _) rfl _ _ 39 2 (.int .i64 0) 8 rfl Try.underlying39 i64infoP rfl (by decide) w3.heap.size _ m (ints (peaks rs f k)) rfl _ rfl HO.out (by omega) hbel.size 1 rfl rfl ?_; intro v' w7 ho7 hb7))
            have hB := hb7 _ w3 (Nat.le_refl _) (hbel.drewN _)
            have hO : w7.ownsRow w3.heap.size 2 1 v' (m + 1) (ints (peaks rs f (k + 1))) := by rw [hE.out]; simpa [ints] using ho7
            have hL : (peaks rs f (k + 1)).length = m + 1 := by rw [hE.out, List.length_append, HLM.out]; rfl
            refine ⟨?_, by simp [intOf]; omega⟩
            first
              | exact ⟨k + 1, m + 1, by omega, by go_num, hO, hL, hB⟩
              | ((repeat apply Exists.intro); exact ⟨⟨k + 1, m + 1, by omega, by go_num, hO, hL, hB⟩, rfl⟩)
    · obtain rfl : k = rs.length := by omega
      go_wp2
      go_ret2
      exact ⟨_, rfl, by rw [HLM.out]; exact ho_to_base HO.out hB3, rfl, hB3.trans (hbel.mono hB3.size)⟩
theorem RetIS.slice {w w' : World} {m : Nat} {G : List Int} {q : Int} {e : Ending} (h : RetIS w m G q e w') :
    ∃ A c xs, e = .returned (.tuple #[.slice A m c, .int .i64 q]) ∧ w'.ownsRow w.heap.size 2 1 (.slice A m c) m (ints xs) ∧ (xs = G ∧ xs.length = m) ∧ Below w.heap.size w w' := by
  obtain ⟨v, rfl, ho, hl, hb⟩ := h
  obtain ⟨A, c, rfl, _, _⟩ := own_slice ho
  exact ⟨A, c, G, rfl, ho, ⟨rfl, hl⟩, hb⟩
theorem Rd.intsAt {w : World} {B : Nat} {A : Option Addr} {zs : List Int} (h : Rd w B A (ints zs)) (hn : 0 < zs.length) : ∃ b off, A = some ⟨b, off, none⟩ ∧ b < B ∧ ∀ i, i < zs.length → w.cell? ⟨b, off + i, none⟩ = some (.int .i64 (nthZ zs i)) := by
  obtain ⟨b, off, e, hb, hc⟩ := h.open_ (by simpa [ints] using hn)
  refine ⟨b, off, e, hb, fun i hi => hc i _ ?_⟩
  simp [ints, nthZ, hi]
set_option maxRecDepth 20000 in
set_option maxHeartbeats 400000 in
theorem eqI_ok (A B : Option Addr) (c d : Nat) (xs ys : List Int) (m : Nat) (G : List Int) (w : World) (hx : xs = G ∧ xs.length = m) (hy : ys = G ∧ ys.length = m) (hm : m ≤ 1048576) (hr : Rd w w.heap.size A (ints xs)) (hs : Rd w w.heap.size B (ints ys)) :
    Calls Try.prog 32 #[.slice A m c, .slice B m d] w fun e w' => e = .returned (.bool true) ∧ ∃ n, w.drewN n = w' := by
  obtain ⟨rfl, rfl⟩ := hx
  obtain ⟨rfl, _⟩ := hy
  have hzz : ∀ z : Int, (z != z) = false := fun z => by simp
  go_enter Try.func32, Try.ntmps32
  go_wp2
  go_loopw [5] (fun i wr => ∃ k : Nat, k ≤ ys.length ∧ i = .int .i64 k ∧ ∃ n, wr = w.drewN n) (fun i _ => ys.length - (intOf i).toNat)
  case atStart => exact ⟨0, by omega, rfl, 0, rfl⟩
  case round =>
    obtain ⟨k, hk, rfl, n, rfl⟩ := hrel
    by_cases h : k < ys.length
    · obtain ⟨b, off, rfl, hbl, hc⟩ := hr.intsAt (by omega)
      obtain ⟨b2, off2, rfl, hbl2, hc2⟩ := hs.intsAt (by omega)
      have hc' := hc k h
      have hc2' := hc2 k h
      clear hc hc2
      go_wp2
      refine wp_region_dr (fun _ _ _ => False) (by kernel_rfl) (by kernel_rfl) ?_
      repeat (refine wpND_step (fun K hK => ?_); go_simp; first | (refine hK _ ?_; clear hK K) | (refine nd_dr (fun m => ?_); go_simp; (try go_bits); first | (refine hK _ ?_; clear hK K) | (fail; refine hK _ ?_; clear hK K)))
      refine wpND_nil ?_
      intro m
      (try rw [World.drewN_drewN])
      go_wp2
      go_roundw
      case rel =>
        first
          | exact ⟨k + 1, by omega, by go_num, _, rfl⟩
          | ((repeat apply Exists.intro); exact ⟨⟨k + 1, by omega, by go_num, _, rfl⟩, rfl⟩)
      case measure => simp [intOf]; omega
    · go_wp2
      go_ret
      exact ⟨rfl, _, rfl⟩
end Go.Proofs.Ytlafjmghfnlaoaa
