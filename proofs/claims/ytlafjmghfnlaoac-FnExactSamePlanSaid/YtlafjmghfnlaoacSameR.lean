/-
  Contracts: the same plans in the reference and in the program.
-/
import Derived.Test.YtlafjmghfnlaoacSameQ
import Derived.Test.YtlafjmghfnlaoacPlC
namespace Go.Proofs.Ytlafjmghfnlaoac
open Go.RowKit

def sAll (xs ys : List SD) : Bool := decide (xs.length = ys.length) && !anyF xs.length (fun i => !sameSt (nthS xs i) (nthS ys i))
theorem sAll_len {xs ys : List SD} (h : ¬ xs.length = ys.length) : sAll xs ys = false := by simp [sAll, h]
theorem sAll_ne {xs ys : List SD} {k : Nat} (hk : k < xs.length) (h : sameSt (nthS xs k) (nthS ys k) = false) : sAll xs ys = false := by
  unfold sAll
  rw [anyF_true hk (by rw [h]; rfl)]
  simp
theorem sAll_all {xs ys : List SD} (hl : xs.length = ys.length) (h : ∀ j, j < xs.length → sameSt (nthS xs j) (nthS ys j) = true) : sAll xs ys = true := by
  unfold sAll
  rw [anyF_false fun i hi => by rw [h i hi]; rfl]
  simp [hl]
theorem sAll_sts {xs ys zs vs : List SD} (h : sts xs = sts zs) (k : sts ys = sts vs) : sAll xs ys = sAll zs vs := by
  unfold sAll
  rw [len_sts h, len_sts k, anyF_congr (fun i _ => by rw [nthS_sts h, nthS_sts k])]
set_option maxRecDepth 20000 in
set_option maxHeartbeats 400000 in
theorem specSame_ok (A B : Option Addr) (c d : Nat) (xs ys : List SD) (w : World) (hr : RdS w w.heap.size A xs) (hs : RdS w w.heap.size B ys) (hf : Fits xs) (hg : Fits ys) :
    Calls Try.prog 29 #[plV A xs.length c, plV B ys.length d] w fun e w' => e = .returned (.bool (sAll xs ys)) ∧ Below w.heap.size w w' := by
  obtain ⟨hn, hft⟩ := hf
  obtain ⟨hm, hgt⟩ := hg
  have hx : Below w.heap.size w ((w.alloc (.cells #[.slice A xs.length c] 57)).alloc (.cells #[.slice B ys.length d] 57)) := below_box2 _ _ _
  unfold plV
  by_cases hl : ¬ xs.length = ys.length
  · have hl' : ((xs.length : Int) != (ys.length : Int)) = true := by rw [bne_iff_ne]; omega
    go_enter Try.func29, Try.ntmps29
    go_wp2
    go_ret
    exact ⟨ret_bool (sAll_len hl).symm, hx⟩
  rw [Decidable.not_not] at hl
  have hl' : ((xs.length : Int) != (ys.length : Int)) = false := by rw [bne_eq_false_iff_eq]; omega
  have HL := hid hl
  clear hl
  have hr1 := (hr.below hx (Nat.le_refl _)).more hx.size
  have hs1 := (hs.below hx (Nat.le_refl _)).more hx.size
  have hsz : w.heap.size < ((w.alloc (.cells #[.slice A xs.length c] 57)).alloc (.cells #[.slice B ys.length d] 57)).heap.size := by rw [size2]; omega
  have hsz1 : w.heap.size + 1 < ((w.alloc (.cells #[.slice A xs.length c] 57)).alloc (.cells #[.slice B ys.length d] 57)).heap.size := by rw [size2]; omega
  have hq0 : ((w.alloc (.cells #[.slice A xs.length c] 57)).alloc (.cells #[.slice B ys.length d] 57)).cell? ⟨w.heap.size, 0, none⟩ = some (.slice A xs.length c) := by go_simp
  have hq1 : ((w.alloc (.cells #[.slice A xs.length c] 57)).alloc (.cells #[.slice B ys.length d] 57)).cell? ⟨w.heap.size + 1, 0, none⟩ = some (.slice B ys.length d) := by go_simp
  go_enter Try.func29, Try.ntmps29
  go_wp2
  generalize (w.alloc (.cells #[.slice A xs.length c] 57)).alloc (.cells #[.slice B ys.length d] 57) = W at *
  go_loopw [5] (fun i wr => ∃ k : Nat, k ≤ xs.length ∧ i = .int .i64 k ∧ (∀ j, j < k → sameSt (nthS xs j) (nthS ys j) = true) ∧ ∃ n, wr = W.drewN n) (fun i _ => xs.length - (intOf i).toNat)
  case atStart => exact ⟨0, by omega, rfl, fun j hj => by omega, 0, rfl⟩
  case round =>
    obtain ⟨k, hk, rfl, hall, n, rfl⟩ := hrel
    have Hall := hid hall
    clear hall
    by_cases h : k < xs.length
    · obtain ⟨b, off, rfl, hbl, hc⟩ := hr1.open_ (by omega)
      have h2 : k < ys.length := by have := HL.out; omega
      obtain ⟨b2, off2, rfl, hbl2, hc2⟩ := hs1.open_ (by omega)
      have hsx := hc k _ (List.getElem?_eq_getElem h)
      have hsy := hc2 k _ (List.getElem?_eq_getElem h2)
      have hrx := (hr1.2 _ (List.getElem_mem h)).1
      have hry := (hs1.2 _ (List.getElem_mem h2)).1
      have hfx := hft _ (List.getElem_mem h)
      have hfy := hgt _ (List.getElem_mem h2)
      have hvx : nthS xs k = xs[k].s := nthS_get h
      have hvy : nthS ys k = ys[k].s := nthS_get h2
      clear hc hc2
      generalize xs[k] = x at *
      generalize ys[k] = y at *
      have H := fun m => l07Same_ok x y b (off + k * 4) b2 (off2 + k * 4) (W.drewN m) ⟨hsx.1, hsx.2, hsx.3, hsx.4⟩ ⟨hsy.1, hsy.2, hsy.3, hsy.4⟩ hrx hry hfx hfy
      rw [← hvx, ← hvy] at H
      have HH := hid H
      clear H hsx hsy
      cases hq : sameSt (nthS xs k) (nthS ys k) with
      | false =>
        have HR := hid (sAll_ne h hq)
        rw [hq] at HH
        go_wp2
        refine wp_region_dr (fun _ _ v => v = .bool false) (by kernel_rfl) (by kernel_rfl) ?_
        repeat (refine wpND_step (fun K hK => ?_); go_simp; first | (refine hK _ ?_; clear hK K) | (refine nd_dr (fun m => ?_); go_simp; (try go_bits); first | (refine hK _ ?_; clear hK K) | (refine ⟨(HH.out _).mono (by rintro e w2 ⟨rfl, n2, rfl⟩; exact ⟨_, rfl, rfl, by go_simp⟩), ?_⟩; refine hK _ ?_; clear hK K)))
        refine wpND_nil ?_
        intro m
        (try rw [World.drewN_drewN])
        go_wp2
        go_ret
        exact ⟨ret_bool HR.out.symm, hx.drewN _⟩
      | true =>
        have HR := hid (show ∀ j, j < k + 1 → sameSt (nthS xs j) (nthS ys j) = true from fun j hj => by
          by_cases e : j = k
          · subst e; exact hq
          · exact Hall.out j (by omega))
        rw [hq] at HH
        go_wp2
        refine wp_region_dr (fun _ _ v => v = .bool true) (by kernel_rfl) (by kernel_rfl) ?_
        repeat (refine wpND_step (fun K hK => ?_); go_simp; first | (refine hK _ ?_; clear hK K) | (refine nd_dr (fun m => ?_); go_simp; (try go_bits); first | (refine hK _ ?_; clear hK K) | (refine ⟨(HH.out _).mono (by rintro e w2 ⟨rfl, n2, rfl⟩; exact ⟨_, rfl, rfl, by go_simp⟩), ?_⟩; refine hK _ ?_; clear hK K)))
        refine wpND_nil ?_
        intro m
        (try rw [World.drewN_drewN])
        go_wp2
        go_roundw
        case rel => exact ⟨k + 1, by omega, by go_num, HR.out, _, rfl⟩
        case measure => simp [intOf]; omega
    · go_wp2
      go_ret
      exact ⟨ret_bool (sAll_all HL.out (fun j hj => Hall.out j (by omega))).symm, hx.drewN _⟩
end Go.Proofs.Ytlafjmghfnlaoac
