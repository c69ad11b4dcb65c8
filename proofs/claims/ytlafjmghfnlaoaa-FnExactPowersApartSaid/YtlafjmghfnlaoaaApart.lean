/-
  Contracts: PowersApart, the program's and the reference's.
-/
import Derived.Test.YtlafjmghfnlaoaaSmooth2
import Derived.Test.YtlafjmghfnlaoaaCentroid
namespace Go.Proofs.Ytlafjmghfnlaoaa
open Go.RowKit

def apart (rs ss : List Nat) (n : Nat) : F := totalF (fun i => absF (fop .sub (V (nth rs i)) (V (nth ss i)))) n
def apCode (rs ss : List Nat) : Int := firstNZ [code (decide (256 < (rs.length : Int)) || decide (256 < (ss.length : Int))) 3, code (!((rs.length : Int) == (ss.length : Int))) 2]
def valIf (q : Int) (x : F) : F := if q = 0 then x else V 0
theorem valIf_zero (x : F) : valIf 0 x = x := rfl
theorem valIf_ne {q : Int} (h : ¬ q = 0) (x : F) : valIf q x = V 0 := if_neg h
theorem apCode_ok {rs ss : List Nat} (h : apCode rs ss = 0) : ¬ 256 < rs.length ∧ ¬ 256 < ss.length ∧ rs.length = ss.length := by
  unfold apCode at h
  cases hb : (decide (256 < (rs.length : Int)) || decide (256 < (ss.length : Int))) with
  | true => rw [hb, code_true, fnz_head (by omega)] at h; omega
  | false =>
    rw [hb, code_false, fnz_skip] at h
    simp only [Bool.or_eq_false_iff, decide_eq_false_iff_not] at hb
    cases he : ((rs.length : Int) == (ss.length : Int)) with
    | false => rw [he] at h; simp [code] at h
    | true => simp at he; omega
set_option maxRecDepth 20000 in
set_option maxHeartbeats 400000 in
theorem apart1_ok (i : Int) (qp qq b off b2 off2 c c2 : Nat) (n : Nat) (x y : Nat) (w : World)
    (hp : w.cell? ⟨qp, 0, none⟩ = some (.slice (some ⟨b, off, none⟩) n c)) (hq : w.cell? ⟨qq, 0, none⟩ = some (.slice (some ⟨b2, off2, none⟩) n c2))
    (hx : w.cell? ⟨b, off + i.toNat, none⟩ = some (.float .f64 x)) (hy : w.cell? ⟨b2, off2 + i.toNat, none⟩ = some (.float .f64 y)) (h0 : 0 ≤ i) (hi : i < n) :
    Calls Try.prog 61 #[.int .i64 i, .pointer (some ⟨qp, 0, none⟩), .pointer (some ⟨qq, 0, none⟩)] w fun e w' => ∃ s n, e = .returned (.float .f64 s) ∧ V s = absF (fop .sub (V x) (V y)) ∧ Wf s ∧ w.drewN n = w' := by
  go_enter Try.func61, Try.ntmps61
  go_wp2
  refine wp_region_dr (fun _ args v => ∀ x, args = #[.float .f64 x] → v = .float .f64 (absB x)) (by kernel_rfl) (by kernel_rfl) ?_
  repeat (refine wpND_step (fun K hK => ?_); go_simp; first | (refine hK _ ?_; clear hK K) | (refine nd_dr (fun m => ?_); go_simp; (try go_bits); first | (refine hK _ ?_; clear hK K) | (refine ⟨(abs_ok _ _ (Wf_fres _ _ _ _)).mono (by rintro e w2 ⟨rfl, rfl⟩; exact ⟨_, rfl, rfl, by first | exact ⟨_, rfl⟩ | go_simp⟩), ?_⟩; refine hK _ ?_; clear hK K)))
  refine wpND_nil ?_
  intro m
  (try rw [World.drewN_drewN])
  go_wp2
  go_ret
  exact ⟨_, _, rfl, by rw [V_absB, V_fres], Wf_absB _, rfl⟩
theorem apart1_in : Enters 61 := enters_of Try.func61 (by kernel_rfl) (by kernel_rfl)
set_option maxRecDepth 20000 in
set_option maxHeartbeats 400000 in
theorem implApart_ok (A B : Option Addr) (c d : Nat) (rs ss : List Nat) (w : World) (hr : Rd w w.heap.size A (fl rs)) (hs : Rd w w.heap.size B (fl ss)) (hn : rs.length ≤ 1048576) (_ : ss.length ≤ 1048576) (q : Int) (hq : apCode rs ss = q) :
    Calls Try.prog 21 #[.slice A rs.length c, .slice B ss.length d] w (RetF w (valIf q (apart rs ss rs.length)) q) := by
  have hB1 : Below w.heap.size w ((w.alloc (.cells #[.slice A rs.length c] 22)).alloc (.cells #[.slice B ss.length d] 22)) := (below_box _ _).alloc (by simp only [alloc_size]; omega) _
  have hz : ((w.alloc (.cells #[.slice A rs.length c] 22)).alloc (.cells #[.slice B ss.length d] 22)).heap.size = w.heap.size + 2 := by simp
  have hc1 : ((w.alloc (.cells #[.slice A rs.length c] 22)).alloc (.cells #[.slice B ss.length d] 22)).cell? ⟨w.heap.size, 0, none⟩ = some (.slice A rs.length c) := by go_simp
  have hc2 : ((w.alloc (.cells #[.slice A rs.length c] 22)).alloc (.cells #[.slice B ss.length d] 22)).cell? ⟨w.heap.size + 1, 0, none⟩ = some (.slice B ss.length d) := by go_simp
  go_enter Try.func21, Try.ntmps21
  go_wp2
  generalize ((w.alloc (.cells #[.slice A rs.length c] 22)).alloc (.cells #[.slice B ss.length d] 22)) = W at *
  refine wp_region_g' (fun f _ _ v _ => (f = 59 → v = .int .i64 (code (decide (256 < (rs.length : Int)) || decide (256 < (ss.length : Int))) 3)) ∧ (f = 60 → v = .int .i64 (code (!((rs.length : Int) == (ss.length : Int))) 2)) ∧ (f = 58 → v = .int .i64 q)) (by kernel_rfl) (by kernel_rfl) (by kernel_rfl) ?_
  repeat (first | (refine g_fact (fun v w3 => ∀ g c', v = .slice (some ⟨g, 0, none⟩) 2 c' → Bk w3 g 3 (ints [(rs.length : Int), (ss.length : Int)])) rfl (by rintro d ⟨⟩ w <;> first | trivial | simp) rfl (fun ψ hψ K hK wq hwq => ?_); go_simp; refine ⟨fun w3 hg3 => (Bk.new _ _ _).below hg3 (by simp), hK _ _ ?_⟩; clear hK K hψ ψ) | (first | (refine g_fact (fun v w3 => ∀ g c', v = .slice (some ⟨g, 0, none⟩) 2 c' → Bk w3 g 2 (ints [code (decide (256 < (rs.length : Int)) || decide (256 < (ss.length : Int))) 3, code (!((rs.length : Int) == (ss.length : Int))) 2])) rfl (by rintro d ⟨⟩ w <;> first | trivial | simp) rfl (fun ψ hψ K hK wq hwq => ?_); go_simp; refine ⟨fun w3 hg3 => (Bk.new _ _ _).below hg3 (by simp), hK _ _ ?_⟩; clear hK K hψ ψ) | (refine g_step (by rintro d ⟨⟩ w <;> first | trivial | simp) (fun K hK => ?_); go_simp; first | (refine hK _ ?_; clear hK K) | (refine g_in (fun wq hwq holdq hfq => ?_); go_simp; (try go_bits); first | (refine hK _ ?_; clear hK K) | ((first | (refine ⟨(unless_ok _ _ _).mono (by rintro e w2 ⟨rfl, rfl⟩; exact ⟨_, rfl, rfl, Gr.refl _⟩), fun v w9 hv _ => ?_⟩; subst hv) | (refine ⟨(first_ok _ _ [_, _] _ ((hfq 19 (by decide)).2 rfl).rd (by simp)).mono (by rintro e w2 ⟨rfl, rfl⟩; exact ⟨_, rfl, by rw [← hq]; rfl, Gr.refl _⟩), fun v w9 hv _ => ?_⟩; subst hv) | (refine ⟨(limit_ok _ _ [_, _] _ (hfq 11 (by decide) rfl).rd (by simp)).mono (by rintro e w2 ⟨rfl, hb⟩; exact ⟨_, rfl, by rfl, hb⟩), fun v w9 hv _ => ?_⟩; subst hv)); refine hK _ ?_; clear hK K)))))
  refine g_nil (fun w3 hw3 => ?_)
  have hg3 : Below W.heap.size W w3 := hw3
  have hW1 : Below w.heap.size w w3 := hB1.trans (hg3.mono hB1.size)
  have hn1 := (olds hg3).1 _ 0 (show w.heap.size < W.heap.size by omega) |>.trans hc1
  have hn2 := (olds hg3).1 _ 0 (show w.heap.size + 1 < W.heap.size by omega) |>.trans hc2
  have hs3 := hg3.size
  clear hc1 hc2
  by_cases hq0 : q = 0
  · subst hq0
    rw [valIf_zero]
    obtain ⟨h1, h2, h3⟩ := apCode_ok hq
    have H3 := hid h3
    clear hq h3
    go_wp2_with fail
    refine (total_ok rs.length 61 #[.pointer (some ⟨w.heap.size, 0, none⟩), .pointer (some ⟨w.heap.size + 1, 0, none⟩)] w3 (fun i => absF (fop .sub (V (nth rs i)) (V (nth ss i)))) (by omega) apart1_in ?_).mono ?_
    · intro i w4 hi0 hin hb4
      have hW4 : Below w.heap.size w w4 := hW1.trans (hb4.mono (by omega))
      have h3 := H3.out
      obtain ⟨b, off, rfl, hbl, hca⟩ := (hr.below hW4 (Nat.le_refl _)).floats (by omega)
      obtain ⟨b2, off2, rfl, hbl2, hcb⟩ := (hs.below hW4 (Nat.le_refl _)).floats (by omega)
      refine (apart1_ok i w.heap.size (w.heap.size + 1) b off b2 off2 c d rs.length _ _ w4 (((olds hb4).1 _ 0 (by omega)).trans hn1) ((((olds hb4).1 _ 0 (by omega)).trans hn2).trans (by rw [h3])) (hca i.toNat (by omega)) (hcb i.toNat (by omega)) hi0 hin).mono ?_
      rintro e w5 ⟨s, n, rfl, hv, hws, rfl⟩
      exact ⟨_, rfl, hv, hws, (Below.refl _ _).drewN _⟩
    · rintro e w5 ⟨r, rfl, hv, hws, hb5⟩
      have HV := hid hv
      clear hv
      go_wp2
      go_ret2
      exact ⟨_, rfl, HV.out, hws, hW1.trans (hb5.mono (by omega))⟩
  · have hq1 : (q != 0) = true := by simpa using hq0
    go_wp2
    go_ret2
    exact ⟨_, rfl, (valIf_ne hq0 _).symm, Wf0, hW1⟩
set_option maxRecDepth 20000 in
set_option maxHeartbeats 400000 in
theorem specApart_ok (A B : Option Addr) (c d : Nat) (rs ss : List Nat) (w : World) (hr : Rd w w.heap.size A (fl rs)) (hs : Rd w w.heap.size B (fl ss)) (hn : rs.length ≤ 1048576) (hm : ss.length ≤ 1048576) (q : Int) (hq : apCode rs ss = q) :
    Calls Try.prog 20 #[.slice A rs.length c, .slice B ss.length d] w (RetF w (valIf q (apart rs ss rs.length)) q) := by
  by_cases hl : 256 < rs.length ∨ 256 < ss.length
  · have hq3 : q = 3 := by
      have hb : (decide (256 < (rs.length : Int)) || decide (256 < (ss.length : Int))) = true := by
        simp only [Bool.or_eq_true, decide_eq_true_eq]; omega
      rw [← hq, apCode, hb, code_true, fnz_head (by omega)]
    rw [hq3, valIf_ne (by omega)]
    clear hq
    by_cases h1 : 256 < rs.length
    · go_enter Try.func20, Try.ntmps20
      go_wp2
      go_ret2
      exact ⟨_, rfl, rfl, Wf0, Below.refl _ _⟩
    · have h2 : 256 < ss.length := by omega
      clear hl
      go_enter Try.func20, Try.ntmps20
      go_wp2
      go_ret2
      exact ⟨_, rfl, rfl, Wf0, Below.refl _ _⟩
  have hl1 : ¬ 256 < rs.length := by omega
  have hl2 : ¬ 256 < ss.length := by omega
  clear hl
  have hb : (decide (256 < (rs.length : Int)) || decide (256 < (ss.length : Int))) = false := by
    simp only [Bool.or_eq_false_iff, decide_eq_false_iff_not]; omega
  cases he : ((rs.length : Int) == (ss.length : Int)) with
  | false =>
    have hq2 : q = 2 := by
      rw [← hq, apCode, hb, code_false, fnz_skip, he]; rfl
    rw [hq2, valIf_ne (by omega)]
    have he' : ((rs.length : Int) != (ss.length : Int)) = true := by rw [bne, he]; rfl
    clear hq hb he
    go_enter Try.func20, Try.ntmps20
    go_wp2
    go_ret2
    exact ⟨_, rfl, rfl, Wf0, Below.refl _ _⟩
  | true =>
    have hq0 : q = 0 := by
      rw [← hq, apCode, hb, code_false, fnz_skip, he]; rfl
    rw [hq0, valIf_zero]
    have he' : ((rs.length : Int) != (ss.length : Int)) = false := by rw [bne, he]; rfl
    have hel : rs.length = ss.length := by simp at he; omega
    have HEL := hid hel
    have HR := hid hr
    have HS := hid hs
    clear hq hb he hel hr hs
    go_enter Try.func20, Try.ntmps20
    go_wp2
    go_loopw [6, 7] (fun s i wr => ∃ (k x : Nat), k ≤ rs.length ∧ i = .int .i64 k ∧ s = .float .f64 x ∧ V x = apart rs ss k ∧ Wf x ∧ ∃ n, wr = w.drewN n) (fun _ i _ => rs.length - (intOf i).toNat)
    case atStart => exact ⟨0, 0, by omega, rfl, rfl, rfl, Wf0, 0, rfl⟩
    case round =>
      obtain ⟨k, x, hk, rfl, rfl, hx, hwx, n, rfl⟩ := hrel
      have HX := hid hx
      clear hx
      by_cases hlt : k < rs.length
      · have hlt2 : k < ss.length := by have := HEL.out; omega
        obtain ⟨b, off, rfl, hbl, hca⟩ := HR.out.floats (by omega)
        obtain ⟨b2, off2, rfl, hbl2, hcb⟩ := HS.out.floats (by omega)
        have hck := hca k hlt
        have hck2 := hcb k hlt2
        clear hca hcb
        by_cases h0 : k = 0
        · subst h0
          have hne : ¬ rs = [] := by rintro rfl; simp at hlt
          have hne2 : ¬ ss = [] := by rintro rfl; simp at hlt2
          have hp1 : 0 < rs.length := hlt
          have hp2 : 0 < ss.length := hlt2
          rw [Nat.add_zero] at hck hck2
          go_wp2
          refine wp_region_dr (fun _ args v => ∀ x, args = #[.float .f64 x] → v = .float .f64 (absB x)) (by kernel_rfl) (by kernel_rfl) ?_
          repeat (refine wpND_step (fun K hK => ?_); go_simp; first | (refine hK _ ?_; clear hK K) | (refine nd_dr (fun m => ?_); go_simp; (try go_bits); first | (refine hK _ ?_; clear hK K) | (refine ⟨(abs_ok _ _ (Wf_fres _ _ _ _)).mono (by rintro e w2 ⟨rfl, rfl⟩; exact ⟨_, rfl, rfl, by first | exact ⟨_, rfl⟩ | go_simp⟩), ?_⟩; refine hK _ ?_; clear hK K)))
          refine wpND_nil ?_
          intro m
          (try rw [World.drewN_drewN])
          go_wp2
          have e1 : ∀ w1, V (absB (fres .sub .f64 (nth rs 0) (nth ss 0) w1)) = apart rs ss 1 := fun w1 => by rw [V_absB, V_fres]; rfl
          have E1 := hid e1
          clear e1
          refine ⟨?_, by simp [intOf]; omega⟩
          first
            | exact ⟨1, _, by omega, by go_num, rfl, E1.out _, Wf_absB _, _, rfl⟩
            | ((repeat apply Exists.intro); exact ⟨⟨1, _, by omega, by go_num, rfl, E1.out _, Wf_absB _, _, rfl⟩, rfl⟩)
        · have h0' : ((k : Int) == 0) = false := by rw [beq_eq_false_iff_ne]; omega
          have H0 := hid h0
          clear h0
          go_wp2
          refine wp_region_dr (fun _ args v => ∀ x, args = #[.float .f64 x] → v = .float .f64 (absB x)) (by kernel_rfl) (by kernel_rfl) ?_
          repeat (refine wpND_step (fun K hK => ?_); go_simp; first | (refine hK _ ?_; clear hK K) | (refine nd_dr (fun m => ?_); go_simp; (try go_bits); first | (refine hK _ ?_; clear hK K) | (refine ⟨(abs_ok _ _ (Wf_fres _ _ _ _)).mono (by rintro e w2 ⟨rfl, rfl⟩; exact ⟨_, rfl, rfl, by first | exact ⟨_, rfl⟩ | go_simp⟩), ?_⟩; refine hK _ ?_; clear hK K)))
          refine wpND_nil ?_
          intro m
          (try rw [World.drewN_drewN])
          go_wp2
          have e1 : ∀ w1 w2, V (fres .add .f64 x (absB (fres .sub .f64 (nth rs k) (nth ss k) w1)) w2) = apart rs ss (k + 1) := fun w1 w2 => by
            rw [V_fres, V_absB, V_fres, HX.out]
            exact (totalF_step _ k (by have := H0.out; omega)).symm
          have E1 := hid e1
          clear e1
          refine ⟨?_, by simp [intOf]; omega⟩
          first
            | exact ⟨k + 1, _, by omega, by go_num, rfl, E1.out _ _, Wf_fres _ _ _ _, _, rfl⟩
            | ((repeat apply Exists.intro); exact ⟨⟨k + 1, _, by omega, by go_num, rfl, E1.out _ _, Wf_fres _ _ _ _, _, rfl⟩, rfl⟩)
      · obtain rfl : k = rs.length := by omega
        go_wp2
        go_ret2
        exact ⟨_, rfl, HX.out, hwx, (Below.refl _ _).drewN _⟩
end Go.Proofs.Ytlafjmghfnlaoaa
