/-
  Contracts: SmoothPowers, the program's and the reference's.
-/
import Derived.Test.YtlafjmghfnlaoaaReals
namespace Go.Proofs.Ytlafjmghfnlaoaa
open Go.RowKit

def smIdx (n r k : Nat) (i : Int) : Nat := (((k : Int) - r + i) % n).toNat
theorem smIdx_lt {n r k : Nat} {i : Int} (h : 0 < n) : smIdx n r k i < n := by
  unfold smIdx
  have h1 := Int.emod_nonneg ((k : Int) - r + i) (show (n : Int) ≠ 0 by omega)
  have h2 := Int.emod_lt_of_pos ((k : Int) - r + i) (show (0 : Int) < (n : Int) by omega)
  omega
def smSum (rs : List Nat) (r k m : Nat) : F := totalF (fun i => V (nth rs (smIdx rs.length r k (i : Int)))) m
def smooth (rs : List Nat) (r : Nat) (k : Nat) : F := fop .quo (smSum rs r k (2 * r + 1)) (V (floatOfInt .f64 (2 * (r : Int) + 1)))

set_option maxRecDepth 20000 in
set_option maxHeartbeats 400000 in
theorem smooth11_ok (i : Int) (qp qk qr qn b off c : Nat) (rs : List Nat) (r k : Nat) (w : World)
    (hp : w.cell? ⟨qp, 0, none⟩ = some (.slice (some ⟨b, off, none⟩) rs.length c)) (hk : w.cell? ⟨qk, 0, none⟩ = some (.int .i64 k)) (hr : w.cell? ⟨qr, 0, none⟩ = some (.int .i64 r)) (hq : w.cell? ⟨qn, 0, none⟩ = some (.int .i64 rs.length))
    (hc : w.cell? ⟨b, off + smIdx rs.length r k i, none⟩ = some (.float .f64 (nth rs (smIdx rs.length r k i)))) (hkn : k < rs.length) (hrn : r < rs.length) (hn : rs.length ≤ 1048576) (hi0 : 0 ≤ i) (hi1 : i ≤ 2 * r) :
    Calls Try.prog 71 #[.int .i64 i, .pointer (some ⟨qp, 0, none⟩), .pointer (some ⟨qk, 0, none⟩), .pointer (some ⟨qr, 0, none⟩), .pointer (some ⟨qn, 0, none⟩)] w fun e w' => ∃ n, e = .returned (.float .f64 (nth rs (smIdx rs.length r k i))) ∧ w.drewN n = w' := by
  have hne : ¬ rs = [] := by
    rintro rfl
    simp at hkn
  have hpos : (0 : Int) < (rs.length : Int) := by omega
  have ha1 := Int.emod_nonneg ((k : Int) - r + i) (Int.ne_of_gt hpos)
  have hb1 := Int.emod_lt_of_pos ((k : Int) - r + i) hpos
  generalize nth rs (smIdx rs.length r k i) = x at *
  unfold smIdx at hc
  go_enter Try.func71, Try.ntmps71
  go_wp2
  refine wp_region_dr (fun _ _ _ => False) (by kernel_rfl) (by kernel_rfl) ?_
  repeat (refine wpND_step (fun K hK => ?_); go_simp; first | (refine hK _ ?_; clear hK K) | (refine nd_dr (fun m => ?_); go_simp; (try go_bits); first | (refine hK _ ?_; clear hK K) | (fail; refine hK _ ?_; clear hK K)))
  refine wpND_nil ?_
  intro m
  (try rw [World.drewN_drewN])
  go_wp2
  go_ret
  exact ⟨_, rfl, rfl⟩
theorem smooth11_in : Enters 71 := enters_of Try.func71 (by kernel_rfl) (by kernel_rfl)

theorem smoothTot (A : Option Addr) (qp qk qr qn B c : Nat) (rs : List Nat) (r k : Nat) (w : World)
    (hp : w.cell? ⟨qp, 0, none⟩ = some (.slice A rs.length c)) (hk : w.cell? ⟨qk, 0, none⟩ = some (.int .i64 k)) (hr : w.cell? ⟨qr, 0, none⟩ = some (.int .i64 r)) (hq : w.cell? ⟨qn, 0, none⟩ = some (.int .i64 rs.length))
    (lp : qp < w.heap.size) (lk : qk < w.heap.size) (lr : qr < w.heap.size) (lq : qn < w.heap.size) (hrd : Rd w B A (fl rs)) (hB : B ≤ w.heap.size) (hw : Wfs rs) (hkn : k < rs.length) (hrn : r < rs.length) (hn : rs.length ≤ 1048576) :
    Calls Try.prog 53 #[.int .i64 (2 * (r : Int) + 1), .func (.func 71) #[] #[.pointer (some ⟨qp, 0, none⟩), .pointer (some ⟨qk, 0, none⟩), .pointer (some ⟨qr, 0, none⟩), .pointer (some ⟨qn, 0, none⟩)]] w fun e w' =>
      ∃ s, e = .returned (.float .f64 s) ∧ V s = smSum rs r k (2 * r + 1) ∧ Wf s ∧ Below w.heap.size w w' := by
  have e1 : (2 * (r : Int) + 1) = ((2 * r + 1 : Nat) : Int) := by omega
  rw [e1]
  refine total_ok (2 * r + 1) _ _ w (fun i => V (nth rs (smIdx rs.length r k (i : Int)))) (by omega) smooth11_in ?_
  intro i w' h0 hi hb
  obtain ⟨b, off, rfl, hbl, hc⟩ := (hrd.below hb hB).floats (by omega)
  have hold := (olds hb).1
  have hidx : smIdx rs.length r k i < rs.length := smIdx_lt (by omega)
  refine (smooth11_ok i qp qk qr qn b off c rs r k w' ((hold _ _ lp).trans hp) ((hold _ _ lk).trans hk) ((hold _ _ lr).trans hr) ((hold _ _ lq).trans hq) (hc _ hidx) hkn hrn hn h0 (by omega)).mono ?_
  rintro e w'' ⟨n, rfl, rfl⟩
  refine ⟨_, rfl, ?_, hw.get hidx, (Below.refl _ _).drewN _⟩
  rw [Int.toNat_of_nonneg h0]

set_option maxRecDepth 20000 in
set_option maxHeartbeats 400000 in
theorem smooth1_ok (A : Option Addr) (k : Int) (qp qr qn B c : Nat) (rs : List Nat) (r : Nat) (w : World)
    (hp : w.cell? ⟨qp, 0, none⟩ = some (.slice A rs.length c)) (hr : w.cell? ⟨qr, 0, none⟩ = some (.int .i64 r)) (hq : w.cell? ⟨qn, 0, none⟩ = some (.int .i64 rs.length))
    (lp : qp < w.heap.size) (lr : qr < w.heap.size) (lq : qn < w.heap.size) (hrd : Rd w B A (fl rs)) (hB : B ≤ w.heap.size) (hw : Wfs rs) (hk0 : 0 ≤ k) (hkn : k < rs.length) (hrn : r < rs.length) (hn : rs.length ≤ 1048576) :
    Calls Try.prog 70 #[.int .i64 k, .pointer (some ⟨qr, 0, none⟩), .pointer (some ⟨qp, 0, none⟩), .pointer (some ⟨qn, 0, none⟩)] w fun e w' => ∃ s, e = .returned (.float .f64 s) ∧ V s = smooth rs r k.toNat ∧ Wf s ∧ Below w.heap.size w w' := by
  obtain ⟨k, rfl⟩ := Int.eq_ofNat_of_zero_le hk0
  rw [Int.toNat_natCast]
  have hbx : Below w.heap.size w (w.alloc (.cells #[.int .i64 k] 3)) := below_box _ _
  have hck : (w.alloc (.cells #[.int .i64 k] 3)).cell? ⟨w.heap.size, 0, none⟩ = some (.int .i64 k) := box_cell (Below.refl _ _)
  have hsz : w.heap.size < (w.alloc (.cells #[.int .i64 k] 3)).heap.size := by rw [alloc_size]; omega
  have hold := (olds hbx).1
  have hp1 := (hold _ 0 lp).trans hp
  have hr1 := (hold _ 0 lr).trans hr
  have hq1 := (hold _ 0 lq).trans hq
  have hrd1 := hrd.below hbx hB
  go_enter Try.func70, Try.ntmps70
  go_wp2
  clear hold hp hr hq hrd
  generalize w.alloc (.cells #[.int .i64 k] 3) = W at *
  have lp1 : qp < W.heap.size := by omega
  have lr1 : qr < W.heap.size := by omega
  have lq1 : qn < W.heap.size := by omega
  refine wp_region_bw (fun _ _ v => ∃ s, v = .float .f64 s ∧ V s = smSum rs r k (2 * r + 1) ∧ Wf s) (by kernel_rfl) (by kernel_rfl) ?_
  repeat (refine wpND_step (fun K hK => ?_); go_simp; first | (refine hK _ ?_; clear hK K) | (refine nd_bw (fun wq hwq holdq => ?_); go_simp; (try go_bits); first | (refine hK _ ?_; clear hK K) | (refine ⟨(smoothTot A qp w.heap.size qr qn B c rs r k wq ((holdq _ _ lp1).trans hp1) ((holdq _ _ hsz).trans hck) ((holdq _ _ lr1).trans hr1) ((holdq _ _ lq1).trans hq1) (Nat.lt_of_lt_of_le lp1 hwq.size) (Nat.lt_of_lt_of_le hsz hwq.size) (Nat.lt_of_lt_of_le lr1 hwq.size) (Nat.lt_of_lt_of_le lq1 hwq.size) (hrd1.below hwq (by omega)) (by have := hwq.size; omega) hw (by omega) hrn hn).mono (by rintro e w3 ⟨s, rfl, hs, hws, hb3⟩; exact ⟨_, rfl, ⟨_, rfl, hs, hws⟩, hwq.trans (hb3.mono hwq.size)⟩), ?_⟩; rintro _ s rfl hs hws; refine hK _ ?_; clear hK K)))
  refine wpND_nil ?_
  intro w4 hb4
  go_wp2
  go_ret
  exact ⟨_, rfl, by rw [V_fres, hs]; rfl, Wf_fres _ _ _ _, hbx.trans (hb4.mono hbx.size)⟩
end Go.Proofs.Ytlafjmghfnlaoaa
