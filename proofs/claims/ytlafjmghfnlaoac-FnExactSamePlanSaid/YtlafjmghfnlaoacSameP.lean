/-
  Contracts: the same steps, the same plans.
-/
import Derived.Test.YtlafjmghfnlaoacSt4
import Derived.Test.YtlafjmghfnlaoacNd2
namespace Go.Proofs.Ytlafjmghfnlaoac
open Go.RowKit

set_option maxRecDepth 20000 in
set_option maxHeartbeats 400000 in
theorem l00Same_ok (A B : Option Addr) (c d : Nat) (xs ys : List Int) (w : World) (hr : Rd w w.heap.size A (is64 xs)) (hs : Rd w w.heap.size B (is64 ys)) (hn : xs.length ≤ 1048576) (_ : ys.length ≤ 1048576) :
    Calls Try.prog 92 #[.slice A xs.length c, .slice B ys.length d] w fun e w' => e = .returned (.bool (eqI xs ys)) ∧ ∃ n, w.drewN n = w' := by
  by_cases hl : ¬ xs.length = ys.length
  · have hl' : ((xs.length : Int) != (ys.length : Int)) = true := by rw [bne_iff_ne]; omega
    go_enter Try.func92, Try.ntmps92
    go_wp2
    go_ret
    exact ⟨ret_bool (eqI_ne_len hl).symm, 0, rfl⟩
  rw [Decidable.not_not] at hl
  have hl' : ((xs.length : Int) != (ys.length : Int)) = false := by rw [bne_eq_false_iff_eq]; omega
  have HL := hid hl
  clear hl
  go_enter Try.func92, Try.ntmps92
  go_wp2
  go_loopw [5] (fun i wr => ∃ k : Nat, k ≤ xs.length ∧ i = .int .i64 k ∧ (∀ j, j < k → nthI xs j = nthI ys j) ∧ ∃ n, wr = w.drewN n) (fun i _ => xs.length - (intOf i).toNat)
  case atStart => exact ⟨0, by omega, rfl, fun j hj => by omega, 0, rfl⟩
  case round =>
    obtain ⟨k, hk, rfl, hall, n, rfl⟩ := hrel
    have Hall := hid hall
    clear hall
    by_cases h : k < xs.length
    · obtain ⟨b, off, rfl, hbl, hc⟩ := hr.ints (by omega)
      have := HL.out
      obtain ⟨b2, off2, rfl, hbl2, hc2⟩ := hs.ints (by omega)
      have hc' := hc k h
      have hc2' := hc2 k (by omega)
      have h2 : k < ys.length := by omega
      clear this hc hc2
      go_wp2
      refine wp_region_dr (fun _ _ _ => False) (by kernel_rfl) (by kernel_rfl) ?_
      repeat (refine wpND_step (fun K hK => ?_); go_simp; first | (refine hK _ ?_; clear hK K) | (refine nd_dr (fun m => ?_); go_simp; (try go_bits); first | (refine hK _ ?_; clear hK K) | (fail; refine hK _ ?_; clear hK K)))
      refine wpND_nil ?_
      intro m
      (try rw [World.drewN_drewN])
      go_wp2
      · have hs0 : (nthI xs k != nthI ys k) = true := by assumption
        have hs : nthI xs k ≠ nthI ys k := by simpa using hs0
        go_ret
        exact ⟨ret_bool (eqI_ne h h2 hs).symm, _, rfl⟩
      · have hs0 : (nthI xs k != nthI ys k) = false := by assumption
        have hs : nthI xs k = nthI ys k := by simpa using hs0
        refine ⟨?_, by simp [intOf]; omega⟩
        have hnext : ∀ j, j < k + 1 → nthI xs j = nthI ys j := fun j hj => by
          by_cases e : j = k
          · subst e; exact hs
          · exact Hall.out j (by omega)
        first
          | exact ⟨k + 1, by omega, by go_num, hnext, _, rfl⟩
          | ((repeat apply Exists.intro); exact ⟨⟨k + 1, by omega, by go_num, hnext, _, rfl⟩, rfl⟩)
    · go_wp2
      go_ret
      exact ⟨ret_bool (eqI_all HL.out (fun j hj => Hall.out j (by omega))).symm, _, rfl⟩
set_option maxRecDepth 20000 in
set_option maxHeartbeats 400000 in
theorem equalInts_ok (A B : Option Addr) (c d : Nat) (xs ys : List Int) (w : World) (hr : Rd w w.heap.size A (is64 xs)) (hs : Rd w w.heap.size B (is64 ys)) (hn : xs.length ≤ 1048576) (_ : ys.length ≤ 1048576) :
    Calls Try.prog 94 #[.slice A xs.length c, .slice B ys.length d] w fun e w' => e = .returned (.bool (eqI xs ys)) ∧ ∃ n, w.drewN n = w' := by
  by_cases hl : ¬ xs.length = ys.length
  · have hl' : ((xs.length : Int) != (ys.length : Int)) = true := by rw [bne_iff_ne]; omega
    go_enter Try.func94, Try.ntmps94
    go_wp2
    go_ret
    exact ⟨ret_bool (eqI_ne_len hl).symm, 0, rfl⟩
  rw [Decidable.not_not] at hl
  have hl' : ((xs.length : Int) != (ys.length : Int)) = false := by rw [bne_eq_false_iff_eq]; omega
  have HL := hid hl
  clear hl
  go_enter Try.func94, Try.ntmps94
  go_wp2
  go_loopw [13] (fun i wr => ∃ k : Nat, k ≤ xs.length ∧ i = .int .i64 k ∧ (∀ j, j < k → nthI xs j = nthI ys j) ∧ ∃ n, wr = w.drewN n) (fun i _ => xs.length - (intOf i).toNat)
  case atStart => exact ⟨0, by omega, rfl, fun j hj => by omega, 0, rfl⟩
  case round =>
    obtain ⟨k, hk, rfl, hall, n, rfl⟩ := hrel
    have Hall := hid hall
    clear hall
    by_cases h : k < xs.length
    · obtain ⟨b, off, rfl, hbl, hc⟩ := hr.ints (by omega)
      have := HL.out
      obtain ⟨b2, off2, rfl, hbl2, hc2⟩ := hs.ints (by omega)
      have hc' := hc k h
      have hc2' := hc2 k (by omega)
      have h2 : k < ys.length := by omega
      clear this hc hc2
      go_wp2
      refine wp_region_dr (fun _ _ _ => False) (by kernel_rfl) (by kernel_rfl) ?_
      repeat (refine wpND_step (fun K hK => ?_); go_simp; first | (refine hK _ ?_; clear hK K) | (refine nd_dr (fun m => ?_); go_simp; (try go_bits); first | (refine hK _ ?_; clear hK K) | (fail; refine hK _ ?_; clear hK K)))
      refine wpND_nil ?_
      intro m
      (try rw [World.drewN_drewN])
      go_wp2
      · have hs0 : (nthI xs k != nthI ys k) = true := by assumption
        have hs : nthI xs k ≠ nthI ys k := by simpa using hs0
        go_ret
        exact ⟨ret_bool (eqI_ne h h2 hs).symm, _, rfl⟩
      · have hs0 : (nthI xs k != nthI ys k) = false := by assumption
        have hs : nthI xs k = nthI ys k := by simpa using hs0
        refine ⟨?_, by simp [intOf]; omega⟩
        have hnext : ∀ j, j < k + 1 → nthI xs j = nthI ys j := fun j hj => by
          by_cases e : j = k
          · subst e; exact hs
          · exact Hall.out j (by omega)
        first
          | exact ⟨k + 1, by omega, by go_num, hnext, _, rfl⟩
          | ((repeat apply Exists.intro); exact ⟨⟨k + 1, by omega, by go_num, hnext, _, rfl⟩, rfl⟩)
    · go_wp2
      go_ret
      exact ⟨ret_bool (eqI_all HL.out (fun j hj => Hall.out j (by omega))).symm, _, rfl⟩
end Go.Proofs.Ytlafjmghfnlaoac
