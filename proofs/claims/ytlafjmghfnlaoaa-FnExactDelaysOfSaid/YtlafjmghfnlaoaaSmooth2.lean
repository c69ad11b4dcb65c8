/-
  Contracts: SmoothPowers of the program.
-/
import Derived.Test.YtlafjmghfnlaoaaSmooth
import Derived.Test.YtlafjmghfnlaoaaNg
namespace Go.Proofs.Ytlafjmghfnlaoaa
open Go.RowKit

theorem smooth1_in : Enters 70 := enters_of Try.func70 (by kernel_rfl) (by kernel_rfl)
def lenIf (n : Nat) (q : Int) : Nat := if q = 0 then n else 0
theorem lenIf_zero (n : Nat) : lenIf n 0 = n := rfl
theorem lenIf_le (n : Nat) (q : Int) : lenIf n q ≤ n := by
  unfold lenIf
  split <;> omega
theorem lenIf_ne (n : Nat) {q : Int} (h : ¬ q = 0) : lenIf n q = 0 := if_neg h
def top (n : Int) : Int := if n - 1 < 0 then 0 else n - 1
def smCode (rs : List Nat) (k : Int) : Int := firstNZ [code (decide (256 < rs.length)) 3, code (!inZ k 0 (top rs.length)) 2]
theorem smCode_ok {rs : List Nat} {k : Int} (h : smCode rs k = 0) : ¬ 256 < rs.length ∧ 0 ≤ k ∧ (k < rs.length ∨ rs.length = 0 ∧ k = 0) := by
  unfold smCode at h
  by_cases hl : 256 < rs.length
  · rw [decide_eq_true hl, code_true, fnz_head (by omega)] at h
    omega
  · rw [decide_eq_false hl, code_false, fnz_skip] at h
    refine ⟨hl, ?_⟩
    cases hi : inZ k 0 (top rs.length) with
    | false => rw [hi] at h; simp [code] at h
    | true =>
      obtain ⟨h1, h2⟩ : 0 ≤ k ∧ k ≤ top rs.length := by simpa [inZ] using hi
      unfold top at h2
      split at h2 <;> omega
theorem ho_to_base {w w3 w5 : World} {v : Value} {n : Nat} {xs : List Value} {t : TypeId} (ho : w5.ownsRow w3.heap.size t 1 v n xs) (h : Below w.heap.size w w3) : w5.ownsRow w.heap.size t 1 v n xs := by
  refine ⟨ho.1, ?_⟩
  rcases ho.2 with h0 | ⟨g, cap, cur, e, hb, r⟩
  · exact .inl h0
  · exact .inr ⟨g, cap, cur, e, Nat.le_trans h.size hb, r⟩
set_option maxRecDepth 20000 in
set_option maxHeartbeats 400000 in
theorem implSmooth_ok (A : Option Addr) (c : Nat) (rs : List Nat) (k : Int) (w : World) (hr : Rd w w.heap.size A (fl rs)) (hw : Wfs rs) (hn : rs.length ≤ 1048576) (hk : -9223372036854775808 ≤ k ∧ k ≤ 9223372036854775807) (q : Int) (hq : smCode rs k = q) :
    Calls Try.prog 27 #[.slice A rs.length c, .int .i64 k] w (RetFS w (lenIf rs.length q) (smooth rs k.toNat) q) := by
  have hcf := code_false
  have hfn := fnz_skip
  have hB1 : Below w.heap.size w (((w.alloc (.cells #[.slice A rs.length c] 22)).alloc (.cells #[.int .i64 rs.length] 3)).alloc (.cells #[.int .i64 k] 3)) := ((below_box _ _).alloc (by simp only [alloc_size]; omega) _).alloc (by simp only [alloc_size]; omega) _
  have hz : (((w.alloc (.cells #[.slice A rs.length c] 22)).alloc (.cells #[.int .i64 rs.length] 3)).alloc (.cells #[.int .i64 k] 3)).heap.size = w.heap.size + 3 := by simp
  have hc1 : (((w.alloc (.cells #[.slice A rs.length c] 22)).alloc (.cells #[.int .i64 rs.length] 3)).alloc (.cells #[.int .i64 k] 3)).cell? ⟨w.heap.size, 0, none⟩ = some (.slice A rs.length c) := by go_simp
  have hc2 : (((w.alloc (.cells #[.slice A rs.length c] 22)).alloc (.cells #[.int .i64 rs.length] 3)).alloc (.cells #[.int .i64 k] 3)).cell? ⟨w.heap.size + 1, 0, none⟩ = some (.int .i64 rs.length) := by go_simp
  have hc3 : (((w.alloc (.cells #[.slice A rs.length c] 22)).alloc (.cells #[.int .i64 rs.length] 3)).alloc (.cells #[.int .i64 k] 3)).cell? ⟨w.heap.size + 1 + 1, 0, none⟩ = some (.int .i64 k) := by go_simp
  go_enter Try.func27, Try.ntmps27
  go_wp2
  generalize (((w.alloc (.cells #[.slice A rs.length c] 22)).alloc (.cells #[.int .i64 rs.length] 3)).alloc (.cells #[.int .i64 k] 3)) = W at *
  refine wp_region_g' (fun f _ _ v _ => (f = 52 → v = .int .i64 (code (decide (256 < rs.length)) 3)) ∧ (f = 66 → v = .bool (inZ k 0 (top rs.length))) ∧ (f = 60 → v = .int .i64 (code (!inZ k 0 (top rs.length)) 2)) ∧ (f = 58 → v = .int .i64 q)) (by kernel_rfl) (by kernel_rfl) (by kernel_rfl) ?_
  repeat (first | (refine g_fact (fun v w3 => ∀ g c', v = .slice (some ⟨g, 0, none⟩) 2 c' → Bk w3 g 2 (ints [code (decide (256 < rs.length)) 3, code (!inZ k 0 (top rs.length)) 2])) rfl (by rintro d ⟨⟩ w <;> first | trivial | simp) rfl (fun ψ hψ K hK wq hwq => ?_); go_simp; refine ⟨fun w3 hg3 => (Bk.new _ _ _).below hg3 (by simp), hK _ _ ?_⟩; clear hK K hψ ψ) | (refine g_step (by rintro d ⟨⟩ w <;> first | trivial | simp) (fun K hK => ?_); go_simp; first | (refine hK _ ?_; clear hK K) | (refine g_in (fun wq hwq holdq hfq => ?_); go_simp; (try go_bits); first | (refine hK _ ?_; clear hK K) | ((first | (refine ⟨(realLimit_ok _ _ _ _).mono (by rintro e w2 ⟨rfl, hb⟩; exact ⟨_, rfl, rfl, hb⟩), fun v w9 hv _ => ?_⟩; subst hv) | (refine ⟨(in_ok _ _ _ _).mono (by rintro e w2 ⟨rfl, rfl⟩; exact ⟨_, rfl, rfl, Gr.refl _⟩), fun v w9 hv _ => ?_⟩; subst hv) | (refine ⟨(unless_ok _ _ _).mono (by rintro e w2 ⟨rfl, rfl⟩; exact ⟨_, rfl, rfl, Gr.refl _⟩), fun v w9 hv _ => ?_⟩; subst hv) | (refine ⟨(first_ok _ _ [_, _] _ (hfq 20 (by decide) rfl).rd (by simp)).mono (by rintro e w2 ⟨rfl, rfl⟩; exact ⟨_, rfl, by rw [← hq]; rfl, Gr.refl _⟩), fun v w9 hv _ => ?_⟩; subst hv)); refine hK _ ?_; clear hK K))))
  refine g_nil (fun w3 hw3 => ?_)
  generalize Value.int IntKind.i64 (if (rs.length : Int) - 1 < 0 then 0 else (rs.length : Int) - 1) = vmax
  have hg3 : Below W.heap.size W w3 := hw3
  have hW1 : Below w.heap.size w w3 := hB1.trans (hg3.mono hB1.size)
  have hn1 := (olds hg3).1 _ 0 (show w.heap.size < W.heap.size by omega) |>.trans hc1
  have hn2 := (olds hg3).1 _ 0 (show w.heap.size + 1 < W.heap.size by omega) |>.trans hc2
  have hn3 := (olds hg3).1 _ 0 (show w.heap.size + 1 + 1 < W.heap.size by omega) |>.trans hc3
  have hs3 := hg3.size
  clear hc1 hc2 hc3
  by_cases hq0 : q = 0
  · subst hq0
    rw [lenIf_zero]
    obtain ⟨hl, hk0, hkn⟩ := smCode_ok hq
    have HQ := hid hq
    clear hq
    go_wp2_with fail
    refine (reals_ok rs.length 70 #[.pointer (some ⟨w.heap.size + 1 + 1, 0, none⟩), .pointer (some ⟨w.heap.size, 0, none⟩), .pointer (some ⟨w.heap.size + 1, 0, none⟩)] w3 (smooth rs k.toNat) hn smooth1_in ?_).mono ?_
    · intro i w4 hi0 hin hb4
      obtain ⟨kk, hkk⟩ : ∃ kk : Nat, k = kk := ⟨k.toNat, by omega⟩
      subst hkk
      exact (smooth1_ok A i w.heap.size (w.heap.size + 1 + 1) (w.heap.size + 1) w.heap.size c rs kk w4 (((olds hb4).1 _ 0 (by omega)).trans hn1) (((olds hb4).1 _ 0 (by omega)).trans hn3) (((olds hb4).1 _ 0 (by omega)).trans hn2) (by have := hb4.size; omega) (by have := hb4.size; omega) (by have := hb4.size; omega) (hr.below (hW1.trans (hb4.mono (by omega))) (Nat.le_refl _)) (by have := hb4.size; omega) hw hi0 hin (by omega) hn).mono (fun e w5 h5 => h5)
    · rintro e w5 ⟨v, xs, rfl, ho, hl5, hb5⟩
      go_wp2
      go_ret2
      exact ⟨v, xs, rfl, ho_to_base ho hW1, hl5, hW1.trans (hb5.mono (by omega))⟩
  · rw [lenIf_ne _ hq0]
    have hq1 : (q != 0) = true := by simpa using hq0
    go_wp2
    go_ret2
    have h0 := lenIf_ne rs.length hq0
    exact ⟨_, [], rfl, ⟨by simp [fl, h0], .inl ⟨rfl, h0⟩⟩, h0 ▸ IsL.nil _, hW1⟩
end Go.Proofs.Ytlafjmghfnlaoaa
