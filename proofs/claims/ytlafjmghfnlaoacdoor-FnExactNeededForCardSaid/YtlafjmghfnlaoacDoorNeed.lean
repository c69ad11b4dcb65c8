/-
  Contracts: of how many numbers a step makes at least n.
-/
import Derived.Test.YtlafjmghfnlaoacDoorLen
namespace Go.Proofs.YtlafjmghfnlaoacDoor
open Go.RowKit

/-- of how many numbers a step that keeps each N-th number makes n -/
def keepN (N n : Int) : Int := if n = 0 then 0 else (n - 1) * N + 1
def nedS (s : St) (n : Int) : Int := if s.kd = 5 then keepN s.n n else if s.kd = 6 then (n + s.n - 1) / s.n else if s.kd = 7 ∨ s.kd = 8 ∨ s.kd = 9 then (n + s.n - 1) / s.n * s.n else n
theorem keepN_bnd {N n : Int} (h0 : 0 ≤ n) (h1 : n ≤ 1000000) (h2 : 1 ≤ N) (h3 : N ≤ 64) : 0 ≤ keepN N n ∧ keepN N n ≤ 64000001 := by
  unfold keepN
  split
  · omega
  · have := mul_bnd (n := n - 1) (N := N) (by omega) (by omega) h2 h3
    omega
theorem nedS_bnd {s : St} (hb : Bnd s) {n : Int} (h0 : 0 ≤ n) (h1 : n ≤ 1000000) : 0 ≤ nedS s n ∧ nedS s n ≤ 64000001 := by
  unfold nedS
  split
  · rename_i e
    obtain ⟨h2, h3⟩ := hb (.inl e)
    exact keepN_bnd h0 h1 h2 h3
  · split
    · rename_i e
      obtain ⟨h2, h3⟩ := hb (.inr (.inl e))
      have := div_bnd (n := n + s.n - 1) (N := s.n) (by omega) h2
      omega
    · split
      · rename_i e
        obtain ⟨h2, h3⟩ := hb (.inr (.inr e))
        have := div_bnd (n := n + s.n - 1) (N := s.n) (by omega) h2
        omega
      · omega
set_option maxRecDepth 20000 in
set_option maxHeartbeats 400000 in
theorem l00Max_pos (z : Int) (w : World) (hz : 1 ≤ z) : Calls Tryd.prog 56 #[.int .i64 z, .int .i64 0] w fun e w' => e = .returned (.int .i64 z) ∧ w = w' := by
  have h : 0 < z := by omega
  go_enter Tryd.func56, Tryd.ntmps56
  go_wp2
  go_ret
  exact ⟨rfl, rfl⟩
set_option maxRecDepth 20000 in
set_option maxHeartbeats 400000 in
theorem l00Max_neg (z : Int) (w : World) (hz : z ≤ 0) : Calls Tryd.prog 56 #[.int .i64 z, .int .i64 0] w fun e w' => e = .returned (.int .i64 0) ∧ w = w' := by
  have h : ¬ 0 < z := by omega
  go_enter Tryd.func56, Tryd.ntmps56
  go_wp2
  go_ret
  exact ⟨rfl, rfl⟩
set_option maxRecDepth 20000 in
set_option maxHeartbeats 400000 in
theorem specNed5a_ok (N k : Int) (tp : List Int) (A : Option Addr) (c b o : Nat) (w : World) (hc : StAt w b o ⟨⟨5, N, k, tp⟩, A, c⟩) (h2 : 1 ≤ N) (h3 : N ≤ 64) :
    Calls Tryd.prog 42 #[.pointer (some ⟨b, o, none⟩), .int .i64 0] w fun e w' => e = .returned (.int .i64 0) ∧ ∃ m, w.drewN m = w' := by
  obtain ⟨c0, c1, _, _⟩ := hc
  dsimp only at c0 c1
  go_enter Tryd.func42, Tryd.ntmps42
  go_wp2_with fail
  refine (l00Max_neg _ _ (by omega)).mono ?_
  rintro e w2 ⟨rfl, rfl⟩
  go_wp2
  go_ret
  exact ⟨rfl, 0, rfl⟩
set_option maxRecDepth 20000 in
set_option maxHeartbeats 400000 in
theorem specNed5b_ok (N k n : Int) (tp : List Int) (A : Option Addr) (c b o : Nat) (w : World) (hc : StAt w b o ⟨⟨5, N, k, tp⟩, A, c⟩) (h0 : 1 ≤ n) (h1 : n ≤ 1000000) (h2 : 1 ≤ N) (h3 : N ≤ 64) :
    Calls Tryd.prog 42 #[.pointer (some ⟨b, o, none⟩), .int .i64 n] w fun e w' => e = .returned (.int .i64 ((n - 1) * N + 1)) ∧ ∃ m, w.drewN m = w' := by
  obtain ⟨c0, c1, _, _⟩ := hc
  dsimp only at c0 c1
  obtain ⟨hm0, hm1⟩ := mul_bnd (n := n - 1) (N := N) (by omega) (by omega) h2 h3
  go_enter Tryd.func42, Tryd.ntmps42
  go_wp2_with fail
  refine (l00Max_pos _ _ (by omega)).mono ?_
  rintro e w2 ⟨rfl, rfl⟩
  go_wp2
  go_ret
  exact ⟨rfl, 0, rfl⟩
set_option maxRecDepth 20000 in
set_option maxHeartbeats 400000 in
theorem specNed6_ok (N k n : Int) (tp : List Int) (A : Option Addr) (c b o : Nat) (w : World) (hc : StAt w b o ⟨⟨6, N, k, tp⟩, A, c⟩) (h0 : 0 ≤ n) (h1 : n ≤ 1000000) (h2 : 1 ≤ N) (h3 : N ≤ 64) :
    Calls Tryd.prog 42 #[.pointer (some ⟨b, o, none⟩), .int .i64 n] w fun e w' => e = .returned (.int .i64 ((n + N - 1) / N)) ∧ ∃ m, w.drewN m = w' := by
  obtain ⟨c0, c1, _, _⟩ := hc
  dsimp only at c0 c1
  have hd := div_bnd (n := n + N - 1) (N := N) (by omega) h2
  obtain ⟨hd0, hd1, hd2, hd3⟩ := hd
  have hN : N ≠ 0 := by omega
  go_enter Tryd.func42, Tryd.ntmps42
  go_wp2
  refine wp_region_dr (fun _ _ _ => False) (by kernel_rfl) (by kernel_rfl) ?_
  repeat (refine wpND_step (fun K hK => ?_); go_simp; first | (refine hK _ ?_; clear hK K) | (refine nd_dr (fun m => ?_); go_simp; (try go_bits); first | (refine hK _ ?_; clear hK K) | (fail; refine hK _ ?_; clear hK K)))
  refine wpND_nil ?_
  intro m
  (try rw [World.drewN_drewN])
  go_wp2
  go_ret
  exact ⟨rfl, _, rfl⟩
set_option maxRecDepth 20000 in
set_option maxHeartbeats 400000 in
theorem specNed7_ok (N k n : Int) (tp : List Int) (A : Option Addr) (c b o : Nat) (w : World) (hc : StAt w b o ⟨⟨7, N, k, tp⟩, A, c⟩) (h0 : 0 ≤ n) (h1 : n ≤ 1000000) (h2 : 1 ≤ N) (h3 : N ≤ 64) :
    Calls Tryd.prog 42 #[.pointer (some ⟨b, o, none⟩), .int .i64 n] w fun e w' => e = .returned (.int .i64 ((n + N - 1) / N * N)) ∧ ∃ m, w.drewN m = w' := by
  obtain ⟨c0, c1, _, _⟩ := hc
  dsimp only at c0 c1
  have hd := div_bnd (n := n + N - 1) (N := N) (by omega) h2
  obtain ⟨hd0, hd1, hd2, hd3⟩ := hd
  have hN : N ≠ 0 := by omega
  go_enter Tryd.func42, Tryd.ntmps42
  go_wp2
  refine wp_region_dr (fun _ _ _ => False) (by kernel_rfl) (by kernel_rfl) ?_
  repeat (refine wpND_step (fun K hK => ?_); go_simp; first | (refine hK _ ?_; clear hK K) | (refine nd_dr (fun m => ?_); go_simp; (try go_bits); first | (refine hK _ ?_; clear hK K) | (fail; refine hK _ ?_; clear hK K)))
  refine wpND_nil ?_
  intro m
  (try rw [World.drewN_drewN])
  go_wp2
  go_ret
  exact ⟨rfl, _, rfl⟩
set_option maxRecDepth 20000 in
set_option maxHeartbeats 400000 in
theorem specNed8_ok (N k n : Int) (tp : List Int) (A : Option Addr) (c b o : Nat) (w : World) (hc : StAt w b o ⟨⟨8, N, k, tp⟩, A, c⟩) (h0 : 0 ≤ n) (h1 : n ≤ 1000000) (h2 : 1 ≤ N) (h3 : N ≤ 64) :
    Calls Tryd.prog 42 #[.pointer (some ⟨b, o, none⟩), .int .i64 n] w fun e w' => e = .returned (.int .i64 ((n + N - 1) / N * N)) ∧ ∃ m, w.drewN m = w' := by
  obtain ⟨c0, c1, _, _⟩ := hc
  dsimp only at c0 c1
  have hd := div_bnd (n := n + N - 1) (N := N) (by omega) h2
  obtain ⟨hd0, hd1, hd2, hd3⟩ := hd
  have hN : N ≠ 0 := by omega
  go_enter Tryd.func42, Tryd.ntmps42
  go_wp2
  refine wp_region_dr (fun _ _ _ => False) (by kernel_rfl) (by kernel_rfl) ?_
  repeat (refine wpND_step (fun K hK => ?_); go_simp; first | (refine hK _ ?_; clear hK K) | (refine nd_dr (fun m => ?_); go_simp; (try go_bits); first | (refine hK _ ?_; clear hK K) | (fail; refine hK _ ?_; clear hK K)))
  refine wpND_nil ?_
  intro m
  (try rw [World.drewN_drewN])
  go_wp2
  go_ret
  exact ⟨rfl, _, rfl⟩
set_option maxRecDepth 20000 in
set_option maxHeartbeats 400000 in
theorem specNed9_ok (N k n : Int) (tp : List Int) (A : Option Addr) (c b o : Nat) (w : World) (hc : StAt w b o ⟨⟨9, N, k, tp⟩, A, c⟩) (h0 : 0 ≤ n) (h1 : n ≤ 1000000) (h2 : 1 ≤ N) (h3 : N ≤ 64) :
    Calls Tryd.prog 42 #[.pointer (some ⟨b, o, none⟩), .int .i64 n] w fun e w' => e = .returned (.int .i64 ((n + N - 1) / N * N)) ∧ ∃ m, w.drewN m = w' := by
  obtain ⟨c0, c1, _, _⟩ := hc
  dsimp only at c0 c1
  have hd := div_bnd (n := n + N - 1) (N := N) (by omega) h2
  obtain ⟨hd0, hd1, hd2, hd3⟩ := hd
  have hN : N ≠ 0 := by omega
  go_enter Tryd.func42, Tryd.ntmps42
  go_wp2
  refine wp_region_dr (fun _ _ _ => False) (by kernel_rfl) (by kernel_rfl) ?_
  repeat (refine wpND_step (fun K hK => ?_); go_simp; first | (refine hK _ ?_; clear hK K) | (refine nd_dr (fun m => ?_); go_simp; (try go_bits); first | (refine hK _ ?_; clear hK K) | (fail; refine hK _ ?_; clear hK K)))
  refine wpND_nil ?_
  intro m
  (try rw [World.drewN_drewN])
  go_wp2
  go_ret
  exact ⟨rfl, _, rfl⟩
set_option maxRecDepth 20000 in
set_option maxHeartbeats 400000 in
theorem specNedX_ok (kd N k n : Int) (tp : List Int) (A : Option Addr) (c b o : Nat) (w : World) (hc : StAt w b o ⟨⟨kd, N, k, tp⟩, A, c⟩) (h5 : (kd == 5) = false) (h6 : (kd == 6) = false) (h7 : (kd == 7) = false) (h8 : (kd == 8) = false) (h9 : (kd == 9) = false) :
    Calls Tryd.prog 42 #[.pointer (some ⟨b, o, none⟩), .int .i64 n] w fun e w' => e = .returned (.int .i64 n) ∧ ∃ m, w.drewN m = w' := by
  obtain ⟨c0, c1, _, _⟩ := hc
  dsimp only at c0 c1
  go_enter Tryd.func42, Tryd.ntmps42
  go_wp2
  go_ret
  exact ⟨rfl, 0, rfl⟩
theorem nedX {s : St} (h5 : (s.kd == 5) = false) (h6 : (s.kd == 6) = false) (h7 : (s.kd == 7) = false) (h8 : (s.kd == 8) = false) (h9 : (s.kd == 9) = false) (n : Int) : nedS s n = n := by
  simp only [beq_eq_false_iff_ne] at h5 h6 h7 h8 h9
  simp [nedS, h5, h6, h7, h8, h9]
theorem ned5a (N k : Int) (tp : List Int) : nedS ⟨5, N, k, tp⟩ 0 = 0 := by simp [nedS, keepN]
theorem ned5b {n : Int} (h : n ≠ 0) (N k : Int) (tp : List Int) : nedS ⟨5, N, k, tp⟩ n = (n - 1) * N + 1 := by simp [nedS, keepN, h]
theorem specNed_ok (d : SD) (n : Int) (b o : Nat) (w : World) (hc : StAt w b o d) (hb : Bnd d.s) (h0 : 0 ≤ n) (h1 : n ≤ 1000000) :
    Calls Tryd.prog 42 #[.pointer (some ⟨b, o, none⟩), .int .i64 n] w fun e w' => e = .returned (.int .i64 (nedS d.s n)) ∧ ∃ m, w.drewN m = w' := by
  obtain ⟨⟨kd, N, k, tp⟩, A, c⟩ := d
  rcases kd_cases kd with (rfl | rfl | rfl | rfl | rfl) | ⟨h5, h6, h7, h8, h9⟩
  · obtain ⟨h2, h3⟩ := hb (.inl rfl)
    by_cases hn : n = 0
    · subst hn
      rw [ned5a]
      exact specNed5a_ok N k tp A c b o w hc h2 h3
    · rw [ned5b hn]
      exact specNed5b_ok N k n tp A c b o w hc (by omega) h1 h2 h3
  · obtain ⟨h2, h3⟩ := hb (.inr (.inl rfl))
    exact specNed6_ok N k n tp A c b o w hc h0 h1 h2 h3
  · obtain ⟨h2, h3⟩ := hb (.inr (.inr (.inl rfl)))
    exact specNed7_ok N k n tp A c b o w hc h0 h1 h2 h3
  · obtain ⟨h2, h3⟩ := hb (.inr (.inr (.inr (.inl rfl))))
    exact specNed8_ok N k n tp A c b o w hc h0 h1 h2 h3
  · obtain ⟨h2, h3⟩ := hb (.inr (.inr (.inr (.inr rfl))))
    exact specNed9_ok N k n tp A c b o w hc h0 h1 h2 h3
  · rw [nedX h5 h6 h7 h8 h9]
    exact specNedX_ok kd N k n tp A c b o w hc h5 h6 h7 h8 h9
set_option maxRecDepth 20000 in
set_option maxHeartbeats 400000 in
theorem implNed5a_ok (N k : Int) (tp : List Int) (A : Option Addr) (c : Nat) (w : World) (h2 : 1 ≤ N) (h3 : N ≤ 64) :
    Calls Tryd.prog 44 #[stV ⟨5, N, k, tp⟩ A c, .int .i64 0] w fun e w' => e = .returned (.int .i64 0) ∧ Below w.heap.size w w' := by
  unfold stV
  dsimp only
  have hz : ¬ 0 < -N + 1 := by omega
  go_enter Tryd.func44, Tryd.ntmps44
  go_wp2
  · go_ret
    exact ⟨rfl, below_box w _⟩
  · go_ret
    exact ⟨ret_int (by omega), below_box w _⟩
set_option maxRecDepth 20000 in
set_option maxHeartbeats 400000 in
theorem implNed5b_ok (N k n : Int) (tp : List Int) (A : Option Addr) (c : Nat) (w : World) (h0 : 1 ≤ n) (h1 : n ≤ 1000000) (h2 : 1 ≤ N) (h3 : N ≤ 64) :
    Calls Tryd.prog 44 #[stV ⟨5, N, k, tp⟩ A c, .int .i64 n] w fun e w' => e = .returned (.int .i64 ((n - 1) * N + 1)) ∧ Below w.heap.size w w' := by
  unfold stV
  dsimp only
  obtain ⟨hm0, hm1⟩ := mul_bnd (n := n - 1) (N := N) (by omega) (by omega) h2 h3
  have hz : 0 < (n - 1) * N + 1 := by omega
  go_enter Tryd.func44, Tryd.ntmps44
  go_wp2
  go_ret
  exact ⟨ret_int (by omega), below_box w _⟩
set_option maxRecDepth 20000 in
set_option maxHeartbeats 400000 in
theorem implNed6_ok (N k n : Int) (tp : List Int) (A : Option Addr) (c : Nat) (w : World) (h0 : 0 ≤ n) (h1 : n ≤ 1000000) (h2 : 1 ≤ N) (h3 : N ≤ 64) :
    Calls Tryd.prog 44 #[stV ⟨6, N, k, tp⟩ A c, .int .i64 n] w fun e w' => e = .returned (.int .i64 ((n + N - 1) / N)) ∧ Below w.heap.size w w' := by
  unfold stV
  dsimp only
  have hd := div_bnd (n := n + N - 1) (N := N) (by omega) h2
  obtain ⟨hd0, hd1, hd2, hd3⟩ := hd
  have hN : N ≠ 0 := by omega
  go_enter Tryd.func44, Tryd.ntmps44
  go_wp2
  go_ret
  exact ⟨rfl, (below_box w _)⟩
set_option maxRecDepth 20000 in
set_option maxHeartbeats 400000 in
theorem implNed7_ok (N k n : Int) (tp : List Int) (A : Option Addr) (c : Nat) (w : World) (h0 : 0 ≤ n) (h1 : n ≤ 1000000) (h2 : 1 ≤ N) (h3 : N ≤ 64) :
    Calls Tryd.prog 44 #[stV ⟨7, N, k, tp⟩ A c, .int .i64 n] w fun e w' => e = .returned (.int .i64 ((n + N - 1) / N * N)) ∧ Below w.heap.size w w' := by
  unfold stV
  dsimp only
  have hd := div_bnd (n := n + N - 1) (N := N) (by omega) h2
  obtain ⟨hd0, hd1, hd2, hd3⟩ := hd
  have hN : N ≠ 0 := by omega
  go_enter Tryd.func44, Tryd.ntmps44
  go_wp2
  refine wp_region_dr (fun _ _ _ => False) (by kernel_rfl) (by kernel_rfl) ?_
  repeat (refine wpND_step (fun K hK => ?_); go_simp; first | (refine hK _ ?_; clear hK K) | (refine nd_dr (fun m => ?_); go_simp; (try go_bits); first | (refine hK _ ?_; clear hK K) | (fail; refine hK _ ?_; clear hK K)))
  refine wpND_nil ?_
  intro m
  (try rw [World.drewN_drewN])
  go_wp2
  go_ret
  exact ⟨rfl, (below_box w _).drewN _⟩
set_option maxRecDepth 20000 in
set_option maxHeartbeats 400000 in
theorem implNed8_ok (N k n : Int) (tp : List Int) (A : Option Addr) (c : Nat) (w : World) (h0 : 0 ≤ n) (h1 : n ≤ 1000000) (h2 : 1 ≤ N) (h3 : N ≤ 64) :
    Calls Tryd.prog 44 #[stV ⟨8, N, k, tp⟩ A c, .int .i64 n] w fun e w' => e = .returned (.int .i64 ((n + N - 1) / N * N)) ∧ Below w.heap.size w w' := by
  unfold stV
  dsimp only
  have hd := div_bnd (n := n + N - 1) (N := N) (by omega) h2
  obtain ⟨hd0, hd1, hd2, hd3⟩ := hd
  have hN : N ≠ 0 := by omega
  go_enter Tryd.func44, Tryd.ntmps44
  go_wp2
  refine wp_region_dr (fun _ _ _ => False) (by kernel_rfl) (by kernel_rfl) ?_
  repeat (refine wpND_step (fun K hK => ?_); go_simp; first | (refine hK _ ?_; clear hK K) | (refine nd_dr (fun m => ?_); go_simp; (try go_bits); first | (refine hK _ ?_; clear hK K) | (fail; refine hK _ ?_; clear hK K)))
  refine wpND_nil ?_
  intro m
  (try rw [World.drewN_drewN])
  go_wp2
  go_ret
  exact ⟨rfl, (below_box w _).drewN _⟩
set_option maxRecDepth 20000 in
set_option maxHeartbeats 400000 in
theorem implNed9_ok (N k n : Int) (tp : List Int) (A : Option Addr) (c : Nat) (w : World) (h0 : 0 ≤ n) (h1 : n ≤ 1000000) (h2 : 1 ≤ N) (h3 : N ≤ 64) :
    Calls Tryd.prog 44 #[stV ⟨9, N, k, tp⟩ A c, .int .i64 n] w fun e w' => e = .returned (.int .i64 ((n + N - 1) / N * N)) ∧ Below w.heap.size w w' := by
  unfold stV
  dsimp only
  have hd := div_bnd (n := n + N - 1) (N := N) (by omega) h2
  obtain ⟨hd0, hd1, hd2, hd3⟩ := hd
  have hN : N ≠ 0 := by omega
  go_enter Tryd.func44, Tryd.ntmps44
  go_wp2
  refine wp_region_dr (fun _ _ _ => False) (by kernel_rfl) (by kernel_rfl) ?_
  repeat (refine wpND_step (fun K hK => ?_); go_simp; first | (refine hK _ ?_; clear hK K) | (refine nd_dr (fun m => ?_); go_simp; (try go_bits); first | (refine hK _ ?_; clear hK K) | (fail; refine hK _ ?_; clear hK K)))
  refine wpND_nil ?_
  intro m
  (try rw [World.drewN_drewN])
  go_wp2
  go_ret
  exact ⟨rfl, (below_box w _).drewN _⟩
set_option maxRecDepth 20000 in
set_option maxHeartbeats 400000 in
theorem implNedX_ok (kd N k n : Int) (tp : List Int) (A : Option Addr) (c : Nat) (w : World) (h5 : (kd == 5) = false) (h6 : (kd == 6) = false) (h7 : (kd == 7) = false) (h8 : (kd == 8) = false) (h9 : (kd == 9) = false) :
    Calls Tryd.prog 44 #[stV ⟨kd, N, k, tp⟩ A c, .int .i64 n] w fun e w' => e = .returned (.int .i64 n) ∧ Below w.heap.size w w' := by
  unfold stV
  dsimp only
  go_enter Tryd.func44, Tryd.ntmps44
  go_wp2
  go_ret
  exact ⟨rfl, below_box w _⟩
theorem implNed_ok (s : St) (A : Option Addr) (c : Nat) (n : Int) (w : World) (hb : Bnd s) (h0 : 0 ≤ n) (h1 : n ≤ 1000000) :
    Calls Tryd.prog 44 #[stV s A c, .int .i64 n] w fun e w' => e = .returned (.int .i64 (nedS s n)) ∧ Below w.heap.size w w' := by
  obtain ⟨kd, N, k, tp⟩ := s
  rcases kd_cases kd with (rfl | rfl | rfl | rfl | rfl) | ⟨h5, h6, h7, h8, h9⟩
  · obtain ⟨h2, h3⟩ := hb (.inl rfl)
    by_cases hn : n = 0
    · subst hn
      rw [ned5a]
      exact implNed5a_ok N k tp A c w h2 h3
    · rw [ned5b hn]
      exact implNed5b_ok N k n tp A c w (by omega) h1 h2 h3
  · obtain ⟨h2, h3⟩ := hb (.inr (.inl rfl))
    exact implNed6_ok N k n tp A c w h0 h1 h2 h3
  · obtain ⟨h2, h3⟩ := hb (.inr (.inr (.inl rfl)))
    exact implNed7_ok N k n tp A c w h0 h1 h2 h3
  · obtain ⟨h2, h3⟩ := hb (.inr (.inr (.inr (.inl rfl))))
    exact implNed8_ok N k n tp A c w h0 h1 h2 h3
  · obtain ⟨h2, h3⟩ := hb (.inr (.inr (.inr (.inr rfl))))
    exact implNed9_ok N k n tp A c w h0 h1 h2 h3
  · rw [nedX h5 h6 h7 h8 h9]
    exact implNedX_ok kd N k n tp A c w h5 h6 h7 h8 h9
end Go.Proofs.YtlafjmghfnlaoacDoor
