/-
  Contracts: a valid step in the reference: the kinds whose statements draw their order, and no kind.
-/
import Derived.Test.YtlafjmghfnlaoacDoorValS
namespace Go.Proofs.YtlafjmghfnlaoacDoor
open Go.RowKit

set_option maxRecDepth 20000 in
set_option maxHeartbeats 400000 in
theorem spec4_ok (n k : Int) (tp : List Int) (A : Option Addr) (c b o : Nat) (w : World) (hc : StAt w b o ⟨⟨4, n, k, tp⟩, A, c⟩) (hb : b < w.heap.size) (_ : Rd w w.heap.size A (is64 tp)) (_ : tp.length ≤ 1048576) (hI : I64' n) :
    Calls Tryd.prog 25 #[.pointer (some ⟨b, o, none⟩)] w fun e w' => e = .returned (.bool (valid ⟨4, n, k, tp⟩)) ∧ Below w.heap.size w w' := by
  obtain ⟨c0, c1, c2, c3⟩ := hc
  dsimp only at c0 c1 c2 c3
  have hv := valid4 n k tp
  have hz : inZ 4 1 13 = true := rfl
  go_enter Tryd.func25, Tryd.ntmps25
  go_wp2_with (first
    | (go_at_call 45; refine (l00In_ok _ _ _ _).mono ?_; rintro e w2 ⟨rfl, rfl⟩)
    | (go_at_call 46; refine (words_ok w).mono ?_; rintro e w3 ⟨rfl, _, hkw, hb3⟩; have hk0 := hkw.cell 4; simp only [is64, told, List.map_cons, List.map_nil, List.getElem?_cons_succ, List.getElem?_cons_zero] at hk0; have hold := (olds hb3).1; have hbw := Nat.lt_of_lt_of_le hb hb3.size))
  · go_ret
    refine ⟨ret_bool ?_, by assumption⟩
    rw [hv]
    first | (simp_all; done) | (simp_all [List.length_pos_iff]; done)
  · skip
    refine wp_region_dr (fun _ _ v => v = .int .i64 (code (!turnOk n k) 2)) (by kernel_rfl) (by kernel_rfl) ?_
    repeat (refine wpND_step (fun K hK => ?_); go_simp; first | (refine hK _ ?_; clear hK K) | (refine nd_dr (fun m => ?_); go_simp; (try go_bits); first | (refine hK _ ?_; clear hK K) | (refine ⟨(turnCode_ok n k _ hI).mono (by rintro e w2 ⟨rfl, rfl⟩; exact ⟨_, rfl, rfl, by go_simp⟩), ?_⟩; refine hK _ ?_; clear hK K)))
    refine wpND_nil ?_
    intro m
    (try rw [World.drewN_drewN])
    go_wp2
    go_ret
    refine ⟨ret_bool ?_, Below.drewN (by assumption) _⟩
    rw [hv]
    cases turnOk n k
    · show false = _
      simp
    · show true = _
      simp_all
set_option maxRecDepth 20000 in
set_option maxHeartbeats 400000 in
theorem spec1_ok (n k : Int) (tp : List Int) (A : Option Addr) (c b o : Nat) (w : World) (hc : StAt w b o ⟨⟨1, n, k, tp⟩, A, c⟩) (hb : b < w.heap.size) (_ : Rd w w.heap.size A (is64 tp)) (_ : tp.length ≤ 1048576) :
    Calls Tryd.prog 25 #[.pointer (some ⟨b, o, none⟩)] w fun e w' => e = .returned (.bool (valid ⟨1, n, k, tp⟩)) ∧ Below w.heap.size w w' := by
  obtain ⟨c0, c1, c2, c3⟩ := hc
  dsimp only at c0 c1 c2 c3
  have hv := valid1 n k tp
  have hz : inZ 1 1 13 = true := rfl
  go_enter Tryd.func25, Tryd.ntmps25
  go_wp2_with (first
    | (go_at_call 45; refine (l00In_ok _ _ _ _).mono ?_; rintro e w2 ⟨rfl, rfl⟩)
    | (go_at_call 46; refine (words_ok w).mono ?_; rintro e w3 ⟨rfl, _, hkw, hb3⟩; have hk0 := hkw.cell 1; simp only [is64, told, List.map_cons, List.map_nil, List.getElem?_cons_succ, List.getElem?_cons_zero] at hk0; have hold := (olds hb3).1; have hbw := Nat.lt_of_lt_of_le hb hb3.size))
  · go_ret
    refine ⟨ret_bool ?_, by assumption⟩
    rw [hv]
    first | (simp_all; done) | (simp_all [List.length_pos_iff]; done)
  · skip
    refine wp_region_g' (fun f _ _ v _ => f = 47 → v = .bool (isP n && isP k)) (by kernel_rfl) (by kernel_rfl) (by kernel_rfl) ?_
    repeat (first | (refine g_fact (fun v w3 => ∀ g c', v = .slice (some ⟨g, 0, none⟩) 2 c' → Bk w3 g 2 (is64 [n, k])) rfl (by rintro d ⟨⟩ w <;> first | trivial | simp) rfl (fun ψ hψ K hK wq hwq => ?_); go_simp; refine ⟨fun w3 hg3 => (Bk.new _ _ _).below hg3 (by simp), hK _ _ ?_⟩; clear hK K hψ ψ) | (refine g_step (by rintro d ⟨⟩ w <;> first | trivial | simp) (fun K hK => ?_); go_simp; first | (refine hK _ ?_; clear hK K) | (refine g_in (fun wq hwq holdq hfq => ?_); go_simp; (try go_bits); first | (refine hK _ ?_; clear hK K) | (((refine ⟨(l07Parts_ok _ _ [n, k] _ (hfq 79 (by decide) rfl).rd (by simp)).mono (by rintro e w2 ⟨rfl, rfl⟩; exact ⟨_, rfl, by rw [allP2], Gr.refl _⟩), fun v w9 hv _ => ?_⟩; subst hv)); refine hK _ ?_; clear hK K))))
    refine g_nil (fun w3 hw3 => ?_)
    go_wp2
    go_ret
    refine ⟨ret_bool ?_, Below.trans hb3 (Below.mono hw3 hb3.size)⟩
    rw [hv]
    simp_all
end Go.Proofs.YtlafjmghfnlaoacDoor
