/-
  Contracts: how many numbers a step makes.
-/
import Derived.Test.YtlafjmghfnlaoacDoorPlan
namespace Go.Proofs.YtlafjmghfnlaoacDoor
open Go.RowKit

def lenS (s : St) (n : Int) : Int := if s.kd = 5 then (n + s.n - 1) / s.n else if s.kd = 6 then n * s.n else if s.kd = 7 ∨ s.kd = 8 ∨ s.kd = 9 then n / s.n * s.n else n
/-- the bounds of a valid step's number, where it is divided by or multiplied with -/
def Bnd (s : St) : Prop := (s.kd = 5 ∨ s.kd = 6 ∨ s.kd = 7 ∨ s.kd = 8 ∨ s.kd = 9) → 1 ≤ s.n ∧ s.n ≤ 64
theorem bnd_valid {s : St} (h : valid s = true) : Bnd s := by
  intro hk
  unfold valid at h
  simp only [Bool.and_eq_true] at h
  have ho := h.2.2.2.2
  unfold okN at ho
  rcases hk with e | e | e | e | e <;> simp [e, inZ] at ho <;> omega
theorem kd_cases (kd : Int) : (kd = 5 ∨ kd = 6 ∨ kd = 7 ∨ kd = 8 ∨ kd = 9) ∨ ((kd == 5) = false ∧ (kd == 6) = false ∧ (kd == 7) = false ∧ (kd == 8) = false ∧ (kd == 9) = false) := by
  simp only [beq_eq_false_iff_ne]
  omega
theorem mul_bnd {n N : Int} (h0 : 0 ≤ n) (h1 : n ≤ 1000000) (h2 : 1 ≤ N) (h3 : N ≤ 64) : 0 ≤ n * N ∧ n * N ≤ 64000000 := by
  have a := Int.mul_le_mul h1 h3 (by omega) (by omega)
  exact ⟨Int.mul_nonneg h0 (by omega), by omega⟩
theorem div_bnd {n N : Int} (h0 : 0 ≤ n) (h2 : 1 ≤ N) : 0 ≤ n / N ∧ n / N ≤ n ∧ 0 ≤ n / N * N ∧ n / N * N ≤ n :=
  ⟨Int.ediv_nonneg h0 (by omega), Int.ediv_le_self _ h0, Int.mul_nonneg (Int.ediv_nonneg h0 (by omega)) (by omega), Int.ediv_mul_le n (by omega)⟩
theorem lenS_bnd {s : St} (hb : Bnd s) {n : Int} (h0 : 0 ≤ n) (h1 : n ≤ 1000000) : 0 ≤ lenS s n ∧ lenS s n ≤ 64000000 := by
  unfold lenS
  split
  · rename_i e
    obtain ⟨h2, h3⟩ := hb (.inl e)
    have := div_bnd (n := n + s.n - 1) (N := s.n) (by omega) h2
    omega
  · split
    · rename_i e
      obtain ⟨h2, h3⟩ := hb (.inr (.inl e))
      exact mul_bnd h0 h1 h2 h3
    · split
      · rename_i e
        obtain ⟨h2, h3⟩ := hb (.inr (.inr e))
        have := div_bnd h0 h2
        omega
      · omega
set_option maxRecDepth 20000 in
set_option maxHeartbeats 400000 in
theorem specLen5_ok (N k n : Int) (tp : List Int) (A : Option Addr) (c b o : Nat) (w : World) (hc : StAt w b o ⟨⟨5, N, k, tp⟩, A, c⟩) (h0 : 0 ≤ n) (h1 : n ≤ 1000000) (h2 : 1 ≤ N) (h3 : N ≤ 64) :
    Calls Tryd.prog 39 #[.pointer (some ⟨b, o, none⟩), .int .i64 n] w fun e w' => e = .returned (.int .i64 ((n + N - 1) / N)) ∧ ∃ m, w.drewN m = w' := by
  obtain ⟨c0, c1, _, _⟩ := hc
  dsimp only at c0 c1
  have hd := div_bnd (n := n + N - 1) (N := N) (by omega) h2
  have hm := mul_bnd h0 h1 h2 h3
  have hq := div_bnd h0 h2
  obtain ⟨hd0, hd1, _, _⟩ := hd
  obtain ⟨hm0, hm1⟩ := hm
  obtain ⟨hq0, hq1, hq2, hq3⟩ := hq
  have hN : N ≠ 0 := by omega
  go_enter Tryd.func39, Tryd.ntmps39
  go_wp2
  refine wp_region_dr (fun _ _ _ => False) (by kernel_rfl) (by kernel_rfl) ?_
  repeat (refine wpND_step (fun K hK => ?_); go_simp; first | (refine hK _ ?_; clear hK K) | (refine nd_dr (fun m => ?_); go_simp; (try go_bits); first | (refine hK _ ?_; clear hK K) | (fail; refine hK _ ?_; clear hK K)))
  refine wpND_nil ?_
  intro m
  (try rw [World.drewN_drewN])
  go_wp2
  go_ret
  exact ⟨rfl, _, rfl⟩
set_option maxRecDepth 20000 in
set_option maxHeartbeats 400000 in
theorem specLen6_ok (N k n : Int) (tp : List Int) (A : Option Addr) (c b o : Nat) (w : World) (hc : StAt w b o ⟨⟨6, N, k, tp⟩, A, c⟩) (h0 : 0 ≤ n) (h1 : n ≤ 1000000) (h2 : 1 ≤ N) (h3 : N ≤ 64) :
    Calls Tryd.prog 39 #[.pointer (some ⟨b, o, none⟩), .int .i64 n] w fun e w' => e = .returned (.int .i64 (n * N)) ∧ ∃ m, w.drewN m = w' := by
  obtain ⟨c0, c1, _, _⟩ := hc
  dsimp only at c0 c1
  have hd := div_bnd (n := n + N - 1) (N := N) (by omega) h2
  have hm := mul_bnd h0 h1 h2 h3
  have hq := div_bnd h0 h2
  obtain ⟨hd0, hd1, _, _⟩ := hd
  obtain ⟨hm0, hm1⟩ := hm
  obtain ⟨hq0, hq1, hq2, hq3⟩ := hq
  have hN : N ≠ 0 := by omega
  go_enter Tryd.func39, Tryd.ntmps39
  go_wp2
  go_ret
  exact ⟨rfl, 0, rfl⟩
set_option maxRecDepth 20000 in
set_option maxHeartbeats 400000 in
theorem specLen7_ok (N k n : Int) (tp : List Int) (A : Option Addr) (c b o : Nat) (w : World) (hc : StAt w b o ⟨⟨7, N, k, tp⟩, A, c⟩) (h0 : 0 ≤ n) (h1 : n ≤ 1000000) (h2 : 1 ≤ N) (h3 : N ≤ 64) :
    Calls Tryd.prog 39 #[.pointer (some ⟨b, o, none⟩), .int .i64 n] w fun e w' => e = .returned (.int .i64 (n / N * N)) ∧ ∃ m, w.drewN m = w' := by
  obtain ⟨c0, c1, _, _⟩ := hc
  dsimp only at c0 c1
  have hd := div_bnd (n := n + N - 1) (N := N) (by omega) h2
  have hm := mul_bnd h0 h1 h2 h3
  have hq := div_bnd h0 h2
  obtain ⟨hd0, hd1, _, _⟩ := hd
  obtain ⟨hm0, hm1⟩ := hm
  obtain ⟨hq0, hq1, hq2, hq3⟩ := hq
  have hN : N ≠ 0 := by omega
  go_enter Tryd.func39, Tryd.ntmps39
  go_wp2
  refine wp_region_dr (fun _ _ _ => False) (by kernel_rfl) (by kernel_rfl) ?_
  repeat (refine wpND_step (fun K hK => ?_); go_simp; first | (refine hK _ ?_; clear hK K) | (refine nd_dr (fun m => ?_); go_simp; (try go_bits); first | (refine hK _ ?_; clear hK K) | (fail; refine hK _ ?_; clear hK K)))
  refine wpND_nil ?_
  intro m
  (try rw [World.drewN_drewN])
  go_wp2
  go_ret
  exact ⟨rfl, _, rfl⟩
set_option maxRecDepth 20000 in
set_option maxHeartbeats 400000 in
theorem specLen8_ok (N k n : Int) (tp : List Int) (A : Option Addr) (c b o : Nat) (w : World) (hc : StAt w b o ⟨⟨8, N, k, tp⟩, A, c⟩) (h0 : 0 ≤ n) (h1 : n ≤ 1000000) (h2 : 1 ≤ N) (h3 : N ≤ 64) :
    Calls Tryd.prog 39 #[.pointer (some ⟨b, o, none⟩), .int .i64 n] w fun e w' => e = .returned (.int .i64 (n / N * N)) ∧ ∃ m, w.drewN m = w' := by
  obtain ⟨c0, c1, _, _⟩ := hc
  dsimp only at c0 c1
  have hd := div_bnd (n := n + N - 1) (N := N) (by omega) h2
  have hm := mul_bnd h0 h1 h2 h3
  have hq := div_bnd h0 h2
  obtain ⟨hd0, hd1, _, _⟩ := hd
  obtain ⟨hm0, hm1⟩ := hm
  obtain ⟨hq0, hq1, hq2, hq3⟩ := hq
  have hN : N ≠ 0 := by omega
  go_enter Tryd.func39, Tryd.ntmps39
  go_wp2
  refine wp_region_dr (fun _ _ _ => False) (by kernel_rfl) (by kernel_rfl) ?_
  repeat (refine wpND_step (fun K hK => ?_); go_simp; first | (refine hK _ ?_; clear hK K) | (refine nd_dr (fun m => ?_); go_simp; (try go_bits); first | (refine hK _ ?_; clear hK K) | (fail; refine hK _ ?_; clear hK K)))
  refine wpND_nil ?_
  intro m
  (try rw [World.drewN_drewN])
  go_wp2
  go_ret
  exact ⟨rfl, _, rfl⟩
set_option maxRecDepth 20000 in
set_option maxHeartbeats 400000 in
theorem specLen9_ok (N k n : Int) (tp : List Int) (A : Option Addr) (c b o : Nat) (w : World) (hc : StAt w b o ⟨⟨9, N, k, tp⟩, A, c⟩) (h0 : 0 ≤ n) (h1 : n ≤ 1000000) (h2 : 1 ≤ N) (h3 : N ≤ 64) :
    Calls Tryd.prog 39 #[.pointer (some ⟨b, o, none⟩), .int .i64 n] w fun e w' => e = .returned (.int .i64 (n / N * N)) ∧ ∃ m, w.drewN m = w' := by
  obtain ⟨c0, c1, _, _⟩ := hc
  dsimp only at c0 c1
  have hd := div_bnd (n := n + N - 1) (N := N) (by omega) h2
  have hm := mul_bnd h0 h1 h2 h3
  have hq := div_bnd h0 h2
  obtain ⟨hd0, hd1, _, _⟩ := hd
  obtain ⟨hm0, hm1⟩ := hm
  obtain ⟨hq0, hq1, hq2, hq3⟩ := hq
  have hN : N ≠ 0 := by omega
  go_enter Tryd.func39, Tryd.ntmps39
  go_wp2
  refine wp_region_dr (fun _ _ _ => False) (by kernel_rfl) (by kernel_rfl) ?_
  repeat (refine wpND_step (fun K hK => ?_); go_simp; first | (refine hK _ ?_; clear hK K) | (refine nd_dr (fun m => ?_); go_simp; (try go_bits); first | (refine hK _ ?_; clear hK K) | (fail; refine hK _ ?_; clear hK K)))
  refine wpND_nil ?_
  intro m
  (try rw [World.drewN_drewN])
  go_wp2
  go_ret
  exact ⟨rfl, _, rfl⟩
set_option maxRecDepth 20000 in
set_option maxHeartbeats 400000 in
theorem specLenX_ok (kd N k n : Int) (tp : List Int) (A : Option Addr) (c b o : Nat) (w : World) (hc : StAt w b o ⟨⟨kd, N, k, tp⟩, A, c⟩) (h5 : (kd == 5) = false) (h6 : (kd == 6) = false) (h7 : (kd == 7) = false) (h8 : (kd == 8) = false) (h9 : (kd == 9) = false) :
    Calls Tryd.prog 39 #[.pointer (some ⟨b, o, none⟩), .int .i64 n] w fun e w' => e = .returned (.int .i64 n) ∧ ∃ m, w.drewN m = w' := by
  obtain ⟨c0, c1, _, _⟩ := hc
  dsimp only at c0 c1
  go_enter Tryd.func39, Tryd.ntmps39
  go_wp2
  go_ret
  exact ⟨rfl, 0, rfl⟩
theorem lenX {s : St} (h5 : (s.kd == 5) = false) (h6 : (s.kd == 6) = false) (h7 : (s.kd == 7) = false) (h8 : (s.kd == 8) = false) (h9 : (s.kd == 9) = false) (n : Int) : lenS s n = n := by
  simp only [beq_eq_false_iff_ne] at h5 h6 h7 h8 h9
  simp [lenS, h5, h6, h7, h8, h9]
theorem specLen_ok (d : SD) (n : Int) (b o : Nat) (w : World) (hc : StAt w b o d) (hb : Bnd d.s) (h0 : 0 ≤ n) (h1 : n ≤ 1000000) :
    Calls Tryd.prog 39 #[.pointer (some ⟨b, o, none⟩), .int .i64 n] w fun e w' => e = .returned (.int .i64 (lenS d.s n)) ∧ ∃ m, w.drewN m = w' := by
  obtain ⟨⟨kd, N, k, tp⟩, A, c⟩ := d
  rcases kd_cases kd with (rfl | rfl | rfl | rfl | rfl) | ⟨h5, h6, h7, h8, h9⟩
  · obtain ⟨h2, h3⟩ := hb (.inl rfl)
    exact specLen5_ok N k n tp A c b o w hc h0 h1 h2 h3
  · obtain ⟨h2, h3⟩ := hb (.inr (.inl rfl))
    exact specLen6_ok N k n tp A c b o w hc h0 h1 h2 h3
  · obtain ⟨h2, h3⟩ := hb (.inr (.inr (.inl rfl)))
    exact specLen7_ok N k n tp A c b o w hc h0 h1 h2 h3
  · obtain ⟨h2, h3⟩ := hb (.inr (.inr (.inr (.inl rfl))))
    exact specLen8_ok N k n tp A c b o w hc h0 h1 h2 h3
  · obtain ⟨h2, h3⟩ := hb (.inr (.inr (.inr (.inr rfl))))
    exact specLen9_ok N k n tp A c b o w hc h0 h1 h2 h3
  · rw [lenX h5 h6 h7 h8 h9]
    exact specLenX_ok kd N k n tp A c b o w hc h5 h6 h7 h8 h9
set_option maxRecDepth 20000 in
set_option maxHeartbeats 400000 in
theorem implLen5_ok (N k n : Int) (tp : List Int) (A : Option Addr) (c : Nat) (w : World) (h0 : 0 ≤ n) (h1 : n ≤ 1000000) (h2 : 1 ≤ N) (h3 : N ≤ 64) :
    Calls Tryd.prog 41 #[stV ⟨5, N, k, tp⟩ A c, .int .i64 n] w fun e w' => e = .returned (.int .i64 ((n + N - 1) / N)) ∧ Below w.heap.size w w' := by
  unfold stV
  dsimp only
  have hd := div_bnd (n := n + N - 1) (N := N) (by omega) h2
  have hm := mul_bnd h0 h1 h2 h3
  have hq := div_bnd h0 h2
  obtain ⟨hd0, hd1, _, _⟩ := hd
  obtain ⟨hm0, hm1⟩ := hm
  obtain ⟨hq0, hq1, hq2, hq3⟩ := hq
  have hN : N ≠ 0 := by omega
  go_enter Tryd.func41, Tryd.ntmps41
  go_wp2
  go_ret
  exact ⟨rfl, below_box w _⟩
set_option maxRecDepth 20000 in
set_option maxHeartbeats 400000 in
theorem implLen6_ok (N k n : Int) (tp : List Int) (A : Option Addr) (c : Nat) (w : World) (h0 : 0 ≤ n) (h1 : n ≤ 1000000) (h2 : 1 ≤ N) (h3 : N ≤ 64) :
    Calls Tryd.prog 41 #[stV ⟨6, N, k, tp⟩ A c, .int .i64 n] w fun e w' => e = .returned (.int .i64 (n * N)) ∧ Below w.heap.size w w' := by
  unfold stV
  dsimp only
  have hd := div_bnd (n := n + N - 1) (N := N) (by omega) h2
  have hm := mul_bnd h0 h1 h2 h3
  have hq := div_bnd h0 h2
  obtain ⟨hd0, hd1, _, _⟩ := hd
  obtain ⟨hm0, hm1⟩ := hm
  obtain ⟨hq0, hq1, hq2, hq3⟩ := hq
  have hN : N ≠ 0 := by omega
  go_enter Tryd.func41, Tryd.ntmps41
  go_wp2
  go_ret
  exact ⟨rfl, below_box w _⟩
set_option maxRecDepth 20000 in
set_option maxHeartbeats 400000 in
theorem implLen7_ok (N k n : Int) (tp : List Int) (A : Option Addr) (c : Nat) (w : World) (h0 : 0 ≤ n) (h1 : n ≤ 1000000) (h2 : 1 ≤ N) (h3 : N ≤ 64) :
    Calls Tryd.prog 41 #[stV ⟨7, N, k, tp⟩ A c, .int .i64 n] w fun e w' => e = .returned (.int .i64 (n / N * N)) ∧ Below w.heap.size w w' := by
  unfold stV
  dsimp only
  have hd := div_bnd (n := n + N - 1) (N := N) (by omega) h2
  have hm := mul_bnd h0 h1 h2 h3
  have hq := div_bnd h0 h2
  obtain ⟨hd0, hd1, _, _⟩ := hd
  obtain ⟨hm0, hm1⟩ := hm
  obtain ⟨hq0, hq1, hq2, hq3⟩ := hq
  have hN : N ≠ 0 := by omega
  go_enter Tryd.func41, Tryd.ntmps41
  go_wp2
  refine wp_region_dr (fun _ _ _ => False) (by kernel_rfl) (by kernel_rfl) ?_
  repeat (refine wpND_step (fun K hK => ?_); go_simp; first | (refine hK _ ?_; clear hK K) | (refine nd_dr (fun m => ?_); go_simp; (try go_bits); first | (refine hK _ ?_; clear hK K) | (fail; refine hK _ ?_; clear hK K)))
  refine wpND_nil ?_
  intro m
  (try rw [World.drewN_drewN])
  go_wp2
  go_ret
  exact ⟨rfl, (below_box w _).drewN _⟩
set_option maxRecDepth 20000 in
set_option maxHeartbeats 400000 in
theorem implLen8_ok (N k n : Int) (tp : List Int) (A : Option Addr) (c : Nat) (w : World) (h0 : 0 ≤ n) (h1 : n ≤ 1000000) (h2 : 1 ≤ N) (h3 : N ≤ 64) :
    Calls Tryd.prog 41 #[stV ⟨8, N, k, tp⟩ A c, .int .i64 n] w fun e w' => e = .returned (.int .i64 (n / N * N)) ∧ Below w.heap.size w w' := by
  unfold stV
  dsimp only
  have hd := div_bnd (n := n + N - 1) (N := N) (by omega) h2
  have hm := mul_bnd h0 h1 h2 h3
  have hq := div_bnd h0 h2
  obtain ⟨hd0, hd1, _, _⟩ := hd
  obtain ⟨hm0, hm1⟩ := hm
  obtain ⟨hq0, hq1, hq2, hq3⟩ := hq
  have hN : N ≠ 0 := by omega
  go_enter Tryd.func41, Tryd.ntmps41
  go_wp2
  refine wp_region_dr (fun _ _ _ => False) (by kernel_rfl) (by kernel_rfl) ?_
  repeat (refine wpND_step (fun K hK => ?_); go_simp; first | (refine hK _ ?_; clear hK K) | (refine nd_dr (fun m => ?_); go_simp; (try go_bits); first | (refine hK _ ?_; clear hK K) | (fail; refine hK _ ?_; clear hK K)))
  refine wpND_nil ?_
  intro m
  (try rw [World.drewN_drewN])
  go_wp2
  go_ret
  exact ⟨rfl, (below_box w _).drewN _⟩
set_option maxRecDepth 20000 in
set_option maxHeartbeats 400000 in
theorem implLen9_ok (N k n : Int) (tp : List Int) (A : Option Addr) (c : Nat) (w : World) (h0 : 0 ≤ n) (h1 : n ≤ 1000000) (h2 : 1 ≤ N) (h3 : N ≤ 64) :
    Calls Tryd.prog 41 #[stV ⟨9, N, k, tp⟩ A c, .int .i64 n] w fun e w' => e = .returned (.int .i64 (n / N * N)) ∧ Below w.heap.size w w' := by
  unfold stV
  dsimp only
  have hd := div_bnd (n := n + N - 1) (N := N) (by omega) h2
  have hm := mul_bnd h0 h1 h2 h3
  have hq := div_bnd h0 h2
  obtain ⟨hd0, hd1, _, _⟩ := hd
  obtain ⟨hm0, hm1⟩ := hm
  obtain ⟨hq0, hq1, hq2, hq3⟩ := hq
  have hN : N ≠ 0 := by omega
  go_enter Tryd.func41, Tryd.ntmps41
  go_wp2
  refine wp_region_dr (fun _ _ _ => False) (by kernel_rfl) (by kernel_rfl) ?_
  repeat (refine wpND_step (fun K hK => ?_); go_simp; first | (refine hK _ ?_; clear hK K) | (refine nd_dr (fun m => ?_); go_simp; (try go_bits); first | (refine hK _ ?_; clear hK K) | (fail; refine hK _ ?_; clear hK K)))
  refine wpND_nil ?_
  intro m
  (try rw [World.drewN_drewN])
  go_wp2
  go_ret
  exact ⟨rfl, (below_box w _).drewN _⟩
set_option maxRecDepth 20000 in
set_option maxHeartbeats 400000 in
theorem implLenX_ok (kd N k n : Int) (tp : List Int) (A : Option Addr) (c : Nat) (w : World) (h5 : (kd == 5) = false) (h6 : (kd == 6) = false) (h7 : (kd == 7) = false) (h8 : (kd == 8) = false) (h9 : (kd == 9) = false) :
    Calls Tryd.prog 41 #[stV ⟨kd, N, k, tp⟩ A c, .int .i64 n] w fun e w' => e = .returned (.int .i64 n) ∧ Below w.heap.size w w' := by
  unfold stV
  dsimp only
  go_enter Tryd.func41, Tryd.ntmps41
  go_wp2
  go_ret
  exact ⟨rfl, below_box w _⟩
theorem implLen_ok (s : St) (A : Option Addr) (c : Nat) (n : Int) (w : World) (hb : Bnd s) (h0 : 0 ≤ n) (h1 : n ≤ 1000000) :
    Calls Tryd.prog 41 #[stV s A c, .int .i64 n] w fun e w' => e = .returned (.int .i64 (lenS s n)) ∧ Below w.heap.size w w' := by
  obtain ⟨kd, N, k, tp⟩ := s
  rcases kd_cases kd with (rfl | rfl | rfl | rfl | rfl) | ⟨h5, h6, h7, h8, h9⟩
  · obtain ⟨h2, h3⟩ := hb (.inl rfl)
    exact implLen5_ok N k n tp A c w h0 h1 h2 h3
  · obtain ⟨h2, h3⟩ := hb (.inr (.inl rfl))
    exact implLen6_ok N k n tp A c w h0 h1 h2 h3
  · obtain ⟨h2, h3⟩ := hb (.inr (.inr (.inl rfl)))
    exact implLen7_ok N k n tp A c w h0 h1 h2 h3
  · obtain ⟨h2, h3⟩ := hb (.inr (.inr (.inr (.inl rfl))))
    exact implLen8_ok N k n tp A c w h0 h1 h2 h3
  · obtain ⟨h2, h3⟩ := hb (.inr (.inr (.inr (.inr rfl))))
    exact implLen9_ok N k n tp A c w h0 h1 h2 h3
  · rw [lenX h5 h6 h7 h8 h9]
    exact implLenX_ok kd N k n tp A c w h5 h6 h7 h8 h9
end Go.Proofs.YtlafjmghfnlaoacDoor
