/-
  Contracts: the source of drawn numbers (spec.l00Src).
-/
import Derived.Test.YtlafjmghfnlaoabRows
import Derived.Test.YtlafjmghfnlaoabNd
import Derived.Test.YtlafjmghfnlaoabMem
import Derived.WalkKit
import Derived.WalkSpells
import Derived.WalkLawsBesides
import Derived.Deep.Light
import Derived.Laws.Bits64b
namespace Go.Proofs.Ytlafjmghfnlaoab
open Go.RowKit

/-- the source lies in block g: the bytes, the place, the seed -/
structure Src (w : World) (g : Nat) (A : Option Addr) (n c : Nat) (k : Int) (s : Int) : Prop where
  c0 : w.cell? ⟨g, 0, none⟩ = some (.slice A n c)
  c1 : w.cell? ⟨g, 1, none⟩ = some (.int .i64 k)
  c2 : w.cell? ⟨g, 2, none⟩ = some (.int .u64 s)
  f1 : w.frozen? ⟨g, 1, none⟩ = false
  f2 : w.frozen? ⟨g, 2, none⟩ = false
  lt : g < w.heap.size
theorem wrap_u64 (x : Int) : 0 ≤ IntKind.u64.wrap x ∧ IntKind.u64.wrap x < 18446744073709551616 := by
  unfold IntKind.wrap
  simp [IntKind.signed, IntKind.bits]
  omega
theorem and255 {y : Int} (h : 0 ≤ y ∧ y < 18446744073709551616) : ∃ z, wrap64 (bits .and .u64 (y / 1099511627776) 255) = z ∧ 0 ≤ z ∧ z ≤ 255 := by
  obtain ⟨m, rfl⟩ := Int.eq_ofNat_of_zero_le h.1
  have e : ((m : Int) / 1099511627776) = ((m / 1099511627776 : Nat) : Int) := by simp
  have h2 := bits_and_u64_nat (m / 1099511627776) 255 (by omega) (by omega)
  have h3 : (m / 1099511627776) &&& 255 ≤ 255 := Nat.and_le_right
  refine ⟨_, rfl, ?_⟩
  rw [e]
  rw [show ((255 : Nat) : Int) = (255 : Int) from rfl] at h2
  rw [h2]
  generalize (m / 1099511627776) &&& 255 = r at *
  unfold wrap64
  omega
theorem grown_drewN {w w1 : World} {r : Option Nat} (h : w.grownBy w1 r) (n : Nat) : w.grownBy (w1.drewN n) r := ⟨h.os, h.tape, h.output, h.size, h.block⟩
theorem grown_set {w w1 : World} {g : Nat} (h : w.grownBy w1 (some g)) (j : Nat) (u : Value) : w.grownBy (w1.setCell ⟨g, j, none⟩ u) (some g) :=
  ⟨h.os, h.tape, h.output, by simpa [World.setCell] using h.size, fun b hb hne => (Below.heap_setCell w1 ⟨g, j, none⟩ u b (fun e => hne (by rw [e]))).trans (h.block b hb hne)⟩
theorem src_after {w : World} {g : Nat} {A : Option Addr} {n c : Nat} (hf1 : w.frozen? ⟨g, 1, none⟩ = false) (hf2 : w.frozen? ⟨g, 2, none⟩ = false) (hlt : g < w.heap.size) (h0 : w.cell? ⟨g, 0, none⟩ = some (.slice A n c)) (m d : Nat) (k s : Int)
    (h1 : (w.cell? ⟨g, 1, none⟩).isSome = true) (h2 : (w.cell? ⟨g, 2, none⟩).isSome = true) :
    Src ((((w.drewN m).setCell ⟨g, 1, none⟩ (.int .i64 k)).setCell ⟨g, 2, none⟩ (.int .u64 s)).drewN d) g A n c k s := by
  refine ⟨?_, ?_, ?_, ?_, ?_, ?_⟩
  all_goals go_simp
  all_goals simp_all
set_option maxRecDepth 20000 in
set_option maxHeartbeats 400000 in
theorem next_in (g : Nat) (A : Option Addr) (n c : Nat) (k s : Int) (w : World) (z : Int) (b off : Nat) (hA : A = some ⟨b, off, none⟩) (hz : w.cell? ⟨b, off + k.toNat, none⟩ = some (.int .u8 z)) (hz0 : 0 ≤ z ∧ z ≤ 255) (h : Src w g A n c k s) (hk : 0 ≤ k) (hk2 : k < n) (hn : n ≤ 1048576) (_ : 0 ≤ s ∧ s < 18446744073709551616) (_ : b ≠ g) :
    Calls Try.prog 205 #[.pointer (some ⟨g, 0, none⟩)] w fun e w' => e = .returned (.int .i64 z) ∧ ∃ s', Src w' g A n c (k + 1) s' ∧ 0 ≤ s' ∧ s' < 18446744073709551616 ∧ w.grownBy w' (some g) := by
  obtain ⟨h0, h1, h2, hf1, hf2, hlt⟩ := h
  subst hA
  go_enter Try.func205, Try.ntmps205
  go_wp2
  refine wp_region_dr (fun _ _ _ => False) (by kernel_rfl) (by kernel_rfl) ?_
  repeat (refine wpND_step (fun K hK => ?_); go_simp; first | (refine hK _ ?_; clear hK K) | (refine nd_dr (fun m => ?_); go_simp; (try go_bits); first | (refine hK _ ?_; clear hK K) | (fail; refine hK _ ?_; clear hK K)))
  refine wpND_nil ?_
  intro m
  (try rw [World.drewN_drewN])
  go_wp2
  refine wp_region_dr (fun _ _ _ => False) (by kernel_rfl) (by kernel_rfl) ?_
  repeat (refine wpND_step (fun K hK => ?_); go_simp; first | (refine hK _ ?_; clear hK K) | (refine nd_dr (fun m => ?_); go_simp; (try go_bits); first | (refine hK _ ?_; clear hK K) | (fail; refine hK _ ?_; clear hK K)))
  refine wpND_nil ?_
  intro m
  (try rw [World.drewN_drewN])
  go_wp2
  refine wp_region_dr (fun _ _ _ => False) (by kernel_rfl) (by kernel_rfl) ?_
  repeat (refine wpND_step (fun K hK => ?_); go_simp; first | (refine hK _ ?_; clear hK K) | (refine nd_dr (fun m => ?_); go_simp; (try go_bits); first | (refine hK _ ?_; clear hK K) | (fail; refine hK _ ?_; clear hK K)))
  refine wpND_nil ?_
  intro m
  (try rw [World.drewN_drewN])
  go_wp2
  go_ret
  exact ⟨rfl, _, src_after hf1 hf2 hlt h0 _ _ _ _ (by rw [h1]; rfl) (by rw [h2]; rfl), (wrap_u64 _).1, (wrap_u64 _).2, grown_drewN (grown_set (grown_set (grown_drewN (World.grownBy.refl w _) _) _ _) _ _) _⟩
set_option maxRecDepth 20000 in
set_option maxHeartbeats 400000 in
theorem next_out (g : Nat) (A : Option Addr) (n c : Nat) (k s : Int) (w : World) (h : Src w g A n c k s) (hk : 0 ≤ k) (hk2 : (n : Int) ≤ k) (hk3 : k ≤ 1000000000) (_ : n ≤ 1048576) (_ : 0 ≤ s ∧ s < 18446744073709551616) :
    Calls Try.prog 205 #[.pointer (some ⟨g, 0, none⟩)] w fun e w' => ∃ z, e = .returned (.int .i64 z) ∧ 0 ≤ z ∧ z ≤ 255 ∧ ∃ s', Src w' g A n c (k + 1) s' ∧ 0 ≤ s' ∧ s' < 18446744073709551616 ∧ w.grownBy w' (some g) := by
  obtain ⟨h0, h1, h2, hf1, hf2, hlt⟩ := h
  go_enter Try.func205, Try.ntmps205
  go_wp2
  refine wp_region_dr (fun _ _ _ => False) (by kernel_rfl) (by kernel_rfl) ?_
  repeat (refine wpND_step (fun K hK => ?_); go_simp; first | (refine hK _ ?_; clear hK K) | (refine nd_dr (fun m => ?_); go_simp; (try go_bits); first | (refine hK _ ?_; clear hK K) | (fail; refine hK _ ?_; clear hK K)))
  refine wpND_nil ?_
  intro m
  (try rw [World.drewN_drewN])
  go_wp2
  refine wp_region_dr (fun _ _ _ => False) (by kernel_rfl) (by kernel_rfl) ?_
  repeat (refine wpND_step (fun K hK => ?_); go_simp; first | (refine hK _ ?_; clear hK K) | (refine nd_dr (fun m => ?_); go_simp; (try go_bits); first | (refine hK _ ?_; clear hK K) | (fail; refine hK _ ?_; clear hK K)))
  refine wpND_nil ?_
  intro m
  (try rw [World.drewN_drewN])
  go_wp2
  go_ret
  obtain ⟨z, hz, hz0, hz1⟩ := and255 (wrap_u64 (IntKind.u64.wrap (IntKind.u64.wrap (s * 6364136223846793005)) + 1442695040888963407))
  exact ⟨z, by rw [← hz]; rfl, hz0, hz1, _, src_after hf1 hf2 hlt h0 _ _ _ _ (by rw [h1]; rfl) (by rw [h2]; rfl), (wrap_u64 _).1, (wrap_u64 _).2, grown_drewN (grown_set (grown_set (grown_drewN (World.grownBy.refl w _) _) _ _) _ _) _⟩

/-- a source in block g that has been asked at most k0 times -/
def SrcOK (w : World) (g : Nat) (k0 : Nat) : Prop :=
  ∃ (A : Option Addr) (zs : List Int) (c : Nat) (k s : Int), Src w g A zs.length c k s ∧ Rd w g A (zs.map (Value.int .u8)) ∧ (∀ z ∈ zs, 0 ≤ z ∧ z ≤ 255) ∧ zs.length ≤ 1048576 ∧ 0 ≤ k ∧ k ≤ k0 ∧ 0 ≤ s ∧ s < 18446744073709551616
theorem rd_grown {w w' : World} {g : Nat} {A : Option Addr} {vs : List Value} (h : Rd w g A vs) (hg : w.grownBy w' (some g)) (hlt : g < w.heap.size) : Rd w' g A vs := by
  rcases h with h | ⟨b, off, rfl, hb, hc⟩
  · exact .inl h
  · refine .inr ⟨b, off, rfl, hb, fun i u hu => ?_⟩
    rw [World.cell?_of_block (w := w) (w' := w') (a := ⟨b, off + i, none⟩) (hg.block b (by omega) (fun e => by cases e; omega))]
    exact hc i u hu
theorem next_ok (g k0 : Nat) (w : World) (h : SrcOK w g k0) (hk0 : k0 ≤ 1000000000) :
    Calls Try.prog 205 #[.pointer (some ⟨g, 0, none⟩)] w fun e w' => ∃ z, e = .returned (.int .i64 z) ∧ 0 ≤ z ∧ z ≤ 255 ∧ SrcOK w' g (k0 + 1) ∧ w.grownBy w' (some g) := by
  obtain ⟨A, zs, c, k, s, hs, hr, hz, hn, hk, hk1, hs0, hs1⟩ := h
  by_cases hlt : k < zs.length
  · obtain ⟨b, off, rfl, hb, hc⟩ := hr.open_ (by simp; omega)
    have hi : k.toNat < zs.length := by omega
    have hget : (zs.map (Value.int .u8))[k.toNat]? = some (.int .u8 zs[k.toNat]) := by simp [hi]
    have hzz := hz _ (List.getElem_mem hi)
    refine (next_in g _ zs.length c k s w _ b off rfl (hc _ _ hget) hzz hs hk hlt hn ⟨hs0, hs1⟩ (by omega)).mono ?_
    rintro e w' ⟨rfl, s', hs', h1, h2, hg⟩
    exact ⟨_, rfl, hzz.1, hzz.2, ⟨_, zs, c, k + 1, s', hs', rd_grown hr hg hs.lt, hz, hn, by omega, by omega, h1, h2⟩, hg⟩
  · refine (next_out g A zs.length c k s w hs hk (by omega) (by omega) hn ⟨hs0, hs1⟩).mono ?_
    rintro e w' ⟨z, rfl, hz0, hz1, s', hs', h1, h2, hg⟩
    exact ⟨_, rfl, hz0, hz1, ⟨_, zs, c, k + 1, s', hs', rd_grown hr hg hs.lt, hz, hn, by omega, by omega, h1, h2⟩, hg⟩
theorem SrcOK.drewN {w : World} {g k0 : Nat} (h : SrcOK w g k0) (n : Nat) : SrcOK (w.drewN n) g k0 := by
  obtain ⟨A, zs, c, k, s, ⟨a1, a2, a3, a4, a5, a6⟩, hr, r⟩ := h
  exact ⟨A, zs, c, k, s, ⟨a1, a2, a3, a4, a5, a6⟩, hr, r⟩
theorem SrcOK.mono {w : World} {g k0 k1 : Nat} (h : SrcOK w g k0) (hk : k0 ≤ k1) : SrcOK w g k1 := by
  obtain ⟨A, zs, c, k, s, hs, hr, hz, hn, h1, h2, h3⟩ := h
  exact ⟨A, zs, c, k, s, hs, hr, hz, hn, h1, by omega, h3⟩
theorem SrcOK.lt {w : World} {g k0 : Nat} (h : SrcOK w g k0) : g < w.heap.size := by
  obtain ⟨A, zs, c, k, s, hs, _⟩ := h
  exact hs.lt
theorem grown_trans {a b c : World} {g : Nat} (h : a.grownBy b (some g)) (k : b.grownBy c (some g)) : a.grownBy c (some g) :=
  ⟨k.os.trans h.os, k.tape.trans h.tape, k.output.trans h.output, Nat.le_trans h.size k.size, fun b hb hne => (k.block b (Nat.lt_of_lt_of_le hb h.size) hne).trans (h.block b hb hne)⟩
set_option maxRecDepth 20000 in
set_option maxHeartbeats 400000 in
theorem pick_ok (g k0 : Nat) (n : Int) (w : World) (h : SrcOK w g k0) (hk0 : k0 + 2 ≤ 1000000000) (hn : n ≤ 4294967296) :
    Calls Try.prog 144 #[.pointer (some ⟨g, 0, none⟩), .int .i64 n] w fun e w' => ∃ z, e = .returned (.int .i64 z) ∧ 0 ≤ z ∧ (z < n ∨ z = 0) ∧ SrcOK w' g (k0 + 2) ∧ w.grownBy w' (some g) := by
  by_cases h1 : n ≤ 1
  · go_enter Try.func144, Try.ntmps144
    go_wp2
    go_ret
    exact ⟨0, rfl, by omega, .inr rfl, h.mono (by omega), World.grownBy.refl w _⟩
  · by_cases h2 : 200 < n
    · go_enter Try.func144, Try.ntmps144
      go_wp2_with fail
      refine (next_ok g k0 w h (by omega)).mono ?_
      rintro e w2 ⟨x, rfl, hx0, hx1, hs2, hg2⟩
      go_wp2_with fail
      refine (next_ok g (k0 + 1) w2 hs2 (by omega)).mono ?_
      rintro e w3 ⟨y, rfl, hy0, hy1, hs3, hg3⟩
      have ha := Int.emod_nonneg (x * 256 + y) (show n ≠ 0 by omega)
      have hb := Int.emod_lt_of_pos (x * 256 + y) (show (0 : Int) < n by omega)
      go_wp2
      go_ret
      exact ⟨_, rfl, ha, .inl hb, hs3, grown_trans hg2 hg3⟩
    · go_enter Try.func144, Try.ntmps144
      go_wp2_with fail
      refine (next_ok g k0 w h (by omega)).mono ?_
      rintro e w2 ⟨x, rfl, hx0, hx1, hs2, hg2⟩
      have ha := Int.emod_nonneg x (show n ≠ 0 by omega)
      have hb := Int.emod_lt_of_pos x (show (0 : Int) < n by omega)
      go_wp2
      go_ret
      exact ⟨_, rfl, ha, .inl hb, hs2.mono (by omega), hg2⟩
set_option maxRecDepth 20000 in
set_option maxHeartbeats 400000 in
theorem one_ok (g k0 : Nat) (n : Int) (w : World) (h : SrcOK w g k0) (hk0 : k0 + 2 ≤ 1000000000) (hn : n ≤ 4294967296) :
    Calls Try.prog 192 #[.pointer (some ⟨g, 0, none⟩), .int .i64 n] w fun e w' => ∃ b, e = .returned (.bool b) ∧ SrcOK w' g (k0 + 2) ∧ w.grownBy w' (some g) := by
  go_enter Try.func192, Try.ntmps192
  go_wp2_with fail
  refine (pick_ok g k0 n w h hk0 hn).mono ?_
  rintro e w2 ⟨z, rfl, _, _, hs2, hg2⟩
  go_wp2
  go_ret
  exact ⟨_, rfl, hs2, hg2⟩
set_option maxRecDepth 20000 in
set_option maxHeartbeats 400000 in
theorem plain_ok (g k0 : Nat) (w : World) (h : SrcOK w g k0) (hk0 : k0 + 2 ≤ 1000000000) :
    Calls Try.prog 193 #[.pointer (some ⟨g, 0, none⟩)] w fun e w' => ∃ r, e = .returned (.float .f64 r) ∧ Wf r ∧ SrcOK w' g (k0 + 2) ∧ w.grownBy w' (some g) := by
  go_enter Try.func193, Try.ntmps193
  go_wp2_with fail
  refine (pick_ok g k0 2049 w h hk0 (by omega)).mono ?_
  rintro e w2 ⟨z, rfl, hz0, hz1, hs2, hg2⟩
  go_wp2
  go_ret
  exact ⟨_, rfl, Wf_fres _ _ _ _, hs2.drewN _, grown_drewN hg2 _⟩
end Go.Proofs.Ytlafjmghfnlaoab
