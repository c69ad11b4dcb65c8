/-
  Contracts: the same plans in the reference and in the program.
-/
import Derived.Test.YtlafjmghfnlaoacSameP
namespace Go.Proofs.Ytlafjmghfnlaoac
open Go.RowKit
attribute [local irreducible] wpND

theorem sameSt_1 {s t : St} (h : (s.kd == t.kd) = false) : sameSt s t = false := by
  rw [beq_eq_false_iff_ne] at h
  simp [sameSt, h]
theorem sameSt_2 {s t : St} (h : (s.n == t.n) = false) : sameSt s t = false := by
  rw [beq_eq_false_iff_ne] at h
  simp [sameSt, h]
theorem sameSt_3 {s t : St} (h : (s.k == t.k) = false) : sameSt s t = false := by
  rw [beq_eq_false_iff_ne] at h
  simp [sameSt, h]
theorem sameSt_4 {s t : St} (h1 : (s.kd == t.kd) = true) (h2 : (s.n == t.n) = true) (h3 : (s.k == t.k) = true) : sameSt s t = eqI s.tp t.tp := by
  rw [beq_iff_eq] at h1 h2 h3
  simp [sameSt, h1, h2, h3]
set_option maxRecDepth 20000 in
set_option maxHeartbeats 400000 in
theorem l07Same_ok (x y : SD) (b o b2 o2 : Nat) (w : World) (hx : StAt w b o x) (hy : StAt w b2 o2 y) (hr : Rd w w.heap.size x.A (is64 x.s.tp)) (hs : Rd w w.heap.size y.A (is64 y.s.tp)) (hn : x.s.tp.length ≤ 1048576) (hm : y.s.tp.length ≤ 1048576) :
    Calls Try.prog 66 #[.pointer (some ⟨b, o, none⟩), .pointer (some ⟨b2, o2, none⟩)] w fun e w' => e = .returned (.bool (sameSt x.s y.s)) ∧ ∃ n, w.drewN n = w' := by
  obtain ⟨a0, a1, a2, a3⟩ := hx
  obtain ⟨c0, c1, c2, c3⟩ := hy
  have H := fun m => l00Same_ok x.A y.A x.c y.c x.s.tp y.s.tp (w.drewN m) hr hs hn hm
  have HH := hid H
  clear H
  cases h1 : (x.s.kd == y.s.kd) with
  | false =>
    have HR := hid (sameSt_1 h1)
    rw [HR.out]
    go_enter Try.func66, Try.ntmps66
    go_wp2
    refine wp_region_dr (fun _ _ _ => False) (by kernel_rfl) (by kernel_rfl) ?_
    repeat (first | (refine wpND_gfalse rfl rfl rfl rfl ?_; go_simp) | ((first | refine wpND_gtrue rfl rfl rfl (fun K hK => ?_) | refine wpND_gnone rfl (fun K hK => ?_)); refine nd_dr (fun m => ?_); go_simp; (try go_bits); first | (refine hK.out _ ?_; clear hK K) | ((fail); refine hK.out _ ?_; clear hK K)))
    refine wpND_nil ?_
    intro m
    (try rw [World.drewN_drewN])
    go_wp2
    go_ret
    exact ⟨rfl, _, rfl⟩
  | true =>
    cases h2 : (x.s.n == y.s.n) with
    | false =>
      have HR := hid (sameSt_2 h2)
      rw [HR.out]
      go_enter Try.func66, Try.ntmps66
      go_wp2
      refine wp_region_dr (fun _ _ _ => False) (by kernel_rfl) (by kernel_rfl) ?_
      repeat (first | (refine wpND_gfalse rfl rfl rfl rfl ?_; go_simp) | ((first | refine wpND_gtrue rfl rfl rfl (fun K hK => ?_) | refine wpND_gnone rfl (fun K hK => ?_)); refine nd_dr (fun m => ?_); go_simp; (try go_bits); first | (refine hK.out _ ?_; clear hK K) | ((fail); refine hK.out _ ?_; clear hK K)))
      refine wpND_nil ?_
      intro m
      (try rw [World.drewN_drewN])
      go_wp2
      go_ret
      exact ⟨rfl, _, rfl⟩
    | true =>
      cases h3 : (x.s.k == y.s.k) with
      | false =>
        have HR := hid (sameSt_3 h3)
        rw [HR.out]
        go_enter Try.func66, Try.ntmps66
        go_wp2
        refine wp_region_dr (fun _ _ _ => False) (by kernel_rfl) (by kernel_rfl) ?_
        repeat (first | (refine wpND_gfalse rfl rfl rfl rfl ?_; go_simp) | ((first | refine wpND_gtrue rfl rfl rfl (fun K hK => ?_) | refine wpND_gnone rfl (fun K hK => ?_)); refine nd_dr (fun m => ?_); go_simp; (try go_bits); first | (refine hK.out _ ?_; clear hK K) | ((fail); refine hK.out _ ?_; clear hK K)))
        refine wpND_nil ?_
        intro m
        (try rw [World.drewN_drewN])
        go_wp2
        go_ret
        exact ⟨rfl, _, rfl⟩
      | true =>
        have HR := hid (sameSt_4 h1 h2 h3)
        rw [HR.out]
        go_enter Try.func66, Try.ntmps66
        go_wp2
        refine wp_region_dr (fun _ _ v => v = .bool (eqI x.s.tp y.s.tp)) (by kernel_rfl) (by kernel_rfl) ?_
        repeat (first | (refine wpND_gfalse rfl rfl rfl rfl ?_; go_simp) | ((first | refine wpND_gtrue rfl rfl rfl (fun K hK => ?_) | refine wpND_gnone rfl (fun K hK => ?_)); refine nd_dr (fun m => ?_); go_simp; (try go_bits); first | (refine hK.out _ ?_; clear hK K) | ((refine ⟨(HH.out _).mono (by rintro e w2 ⟨rfl, n2, rfl⟩; exact ⟨_, rfl, rfl, by go_simp⟩), ?_⟩); refine hK.out _ ?_; clear hK K)))
        refine wpND_nil ?_
        intro m
        (try rw [World.drewN_drewN])
        go_wp2
        go_ret
        exact ⟨rfl, _, rfl⟩
end Go.Proofs.Ytlafjmghfnlaoac
