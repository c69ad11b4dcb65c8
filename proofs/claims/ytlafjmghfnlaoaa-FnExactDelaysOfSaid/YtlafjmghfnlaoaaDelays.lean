/-
  Contracts: DelaysOf, the program's and the reference's.
-/
import Derived.Test.YtlafjmghfnlaoaaUnwrap2
namespace Go.Proofs.Ytlafjmghfnlaoaa
open Go.RowKit
attribute [local irreducible] wpG wpND

def gaps (rs : List Nat) (i : Nat) : F := fop .sub (unw rs i) (unw rs (i + 1))
set_option maxRecDepth 20000 in
set_option maxHeartbeats 400000 in
theorem specDelays_ok (A : Option Addr) (c : Nat) (rs : List Nat) (w : World) (hr : Rd w w.heap.size A (fl rs)) (hw : Wfs rs) (hn : rs.length ≤ 1048576) (q : Int) (hq : unCode rs.length = q) :
    Calls Try.prog 39 #[.slice A rs.length c] w (RetFS w (lenIf (rs.length - 1) q) (gaps rs) q) := by
  by_cases hl : 256 < rs.length
  · have hq3 : q = 3 := by rw [← hq, unCode, decide_eq_true hl, code_true]
    subst hq3
    go_enter Try.func39, Try.ntmps39
    go_wp2
    go_ret2
    exact retFS_empty w _ _ (by omega)
  · have hq0 : q = 0 := by rw [← hq, unCode, decide_eq_false hl, code_false]
    subst hq0
    rw [lenIf_zero]
    go_enter Try.func39, Try.ntmps39
    go_wp2_with (go_at_call 77; refine (l06Unwrap_ok A c rs w hr hw hn).mono ?_; rintro e w2 ⟨v, us, rfl, ho, hx, hb⟩; obtain ⟨A2, c2, rfl, _, _⟩ := own_slice ho)
    have HX := hid hx
    have HR2 := hid (own_rd ho)
    clear ho hx
    go_loopw [5, 6] (fun out i wr => ∃ (k : Nat) (xs : List Nat), k ≤ rs.length - 1 ∧ i = .int .i64 ((k : Int) + 1) ∧ wr.ownsRow w2.heap.size 23 1 out k (fl xs) ∧ IsL xs k (gaps rs) ∧ Below w2.heap.size w2 wr) (fun _ i _ => rs.length - (intOf i).toNat)
    case atStart => exact ⟨0, [], by omega, rfl, own_empty w2 _, IsL.nil _, below_box _ _⟩
    case round =>
      obtain ⟨k, xs, hk, rfl, ho, hx, hbel⟩ := hrel
      have HO := hid ho
      have HL := hid hx
      clear ho hx
      have hul : us.length = rs.length := HX.out.1
      by_cases hlt : k + 1 < rs.length
      · obtain ⟨b, off, rfl, hbl, hc⟩ := (HR2.out.below hbel (Nat.le_refl _)).floats (by omega)
        have hck := hc k (by omega)
        have hck1 := hc (k + 1) (by omega)
        have hbw : b < wr.heap.size := Nat.lt_of_lt_of_le hbl hbel.size
        have hj1 : (k : Int) + 1 < (rs.length : Int) := by omega
        have hj0 : (0 : Int) ≤ (k : Int) + 1 := by omega
        have hjr : (k : Int) < (rs.length : Int) := by omega
        clear hc
        go_wp2
        refine wp_region_gt' 12 (fun f _ _ v _ => False) (by kernel_rfl) (by kernel_rfl) (by kernel_rfl) rfl rfl ?_
        repeat (first | (refine g_fact (fun v w3 => ∀ g c', v = .slice (some ⟨g, 0, none⟩) 1 c' → ∃ y, V y = gaps rs k ∧ Wf y ∧ Bk w3 g 23 [.float .f64 y]) rfl (by rintro d ⟨⟩ w <;> first | trivial | simp) rfl (fun ψ hψ K hK wq hwq => ?_); go_simp; refine ⟨fun w3 hg3 => ⟨_, (by rw [V_fres, HX.out.2.2 k (by omega), HX.out.2.2 (k + 1) (by omega)]; rfl), Wf_fres _ _ _ _, (Bk.new _ _ _).below hg3 (by simp)⟩, hK _ _ ?_⟩; clear hK K hψ ψ) | (refine g_step (by rintro d ⟨⟩ w <;> first | trivial | simp) (fun K hK => ?_); go_simp; first | (refine hK _ ?_; clear hK K) | (refine g_in (fun wq hwq holdq hfq => ?_); go_simp; (try go_bits); first | (refine hK _ ?_; clear hK K) | ((fail); refine hK _ ?_; clear hK K))))
        refine gt_nil (fun w3 hw3 hΓ3 => ?_)
        obtain ⟨y, hy, hwy, hBk⟩ : ∃ y, V y = gaps rs k ∧ Wf y ∧ Bk w3 _ 23 [.float .f64 y] := by
          have := hΓ3 31
          simpa using this
        have hg3 : Below wr.heap.size wr w3 := hw3
        refine app1' rfl _ _ 22 23 (.float .f64 0) 8 rfl Try.underlying22 f64info rfl (by decide) w2.heap.size _ k (fl xs) rfl (.float .f64 y) rfl (own_below' HO.out hg3) (by omega) (Nat.le_trans hbel.size hg3.size) _ 1 hBk rfl ?_
        intro v' w7 ho7 hb7
        have R := HL.out.snoc hy hwy
        have hB := hb7 _ w2 (Nat.le_refl _) (hbel.trans (hg3.mono hbel.size))
        have ho8 : w7.ownsRow w2.heap.size 23 1 v' (k + 1) (fl (xs ++ [y])) := by simpa [fl] using ho7
        clear ho7 hb7 hBk
        go_wp2
        refine ⟨?_, by simp [intOf]; omega⟩
        first
          | exact ⟨k + 1, _, by omega, by go_num, ho8, R, hB⟩
          | ((repeat apply Exists.intro); exact ⟨⟨k + 1, _, by omega, by go_num, ho8, R, hB⟩, rfl⟩)
      · have hk1 : k = rs.length - 1 := by omega
        have hj1 : ¬ ((k : Int) + 1 < (rs.length : Int)) := by omega
        go_wp2
        go_ret2
        exact ⟨_, xs, rfl, by rw [← hk1]; exact ho_to_base HO.out hb, by rw [← hk1]; exact HL.out, hb.trans (hbel.mono hb.size)⟩
set_option maxRecDepth 20000 in
set_option maxHeartbeats 400000 in
theorem delays1_ok (k qq b off c n : Nat) (x y : Nat) (w : World) (hq : w.cell? ⟨qq, 0, none⟩ = some (.slice (some ⟨b, off, none⟩) n c))
    (hx : w.cell? ⟨b, off + k, none⟩ = some (.float .f64 x)) (hy : w.cell? ⟨b, off + (k + 1), none⟩ = some (.float .f64 y)) (hk : k + 1 < n) (hn : n ≤ 1048576) :
    Calls Try.prog 79 #[.int .i64 k, .pointer (some ⟨qq, 0, none⟩)] w fun e w' => ∃ s n, e = .returned (.float .f64 s) ∧ V s = fop .sub (V x) (V y) ∧ Wf s ∧ w.drewN n = w' := by
  have hj1 : (k : Int) + 1 < (n : Int) := by omega
  have hj0 : (0 : Int) ≤ (k : Int) + 1 := by omega
  have hjr : (k : Int) < (n : Int) := by omega
  go_enter Try.func79, Try.ntmps79
  go_wp2
  refine wp_region_dr (fun _ _ _ => False) (by kernel_rfl) (by kernel_rfl) ?_
  repeat (refine wpND_step (fun K hK => ?_); go_simp; first | (refine hK _ ?_; clear hK K) | (refine nd_dr (fun m => ?_); go_simp; (try go_bits); first | (refine hK _ ?_; clear hK K) | (fail; refine hK _ ?_; clear hK K)))
  refine wpND_nil ?_
  intro m
  (try rw [World.drewN_drewN])
  go_wp2
  go_ret
  exact ⟨_, _, rfl, V_fres _ _ _ _, Wf_fres _ _ _ _, rfl⟩
theorem delays1_in : Enters 79 := enters_of Try.func79 (by kernel_rfl) (by kernel_rfl)
set_option maxRecDepth 20000 in
set_option maxHeartbeats 400000 in
theorem implDelays_ok (A : Option Addr) (c : Nat) (rs : List Nat) (w : World) (hr : Rd w w.heap.size A (fl rs)) (hw : Wfs rs) (hn : rs.length ≤ 1048576) (q : Int) (hq : unCode rs.length = q) :
    Calls Try.prog 40 #[.slice A rs.length c] w (RetFS w (lenIf (rs.length - 1) q) (gaps rs) q) := by
  by_cases hl : 256 < rs.length
  · have hq3 : q = 3 := by rw [← hq, unCode, decide_eq_true hl, code_true]
    subst hq3
    go_enter Try.func40, Try.ntmps40
    go_wp2_with (go_at_call 52; refine (realLimit_long _ _ _ _ hl).mono ?_; rintro e w2 ⟨rfl, hb2⟩)
    go_ret2
    exact ⟨_, [], rfl, ⟨rfl, .inl ⟨rfl, rfl⟩⟩, IsL.nil _, hb2⟩
  · have hq0 : q = 0 := by rw [← hq, unCode, decide_eq_false hl, code_false]
    subst hq0
    rw [lenIf_zero]
    have hmax : (if (rs.length : Int) - 1 < 0 then (0 : Int) else (rs.length : Int) - 1) = ((rs.length - 1 : Nat) : Int) := by split <;> omega
    go_enter Try.func40, Try.ntmps40
    go_wp2_with (first | (go_at_call 52; refine (realLimit_short _ _ _ _ hl).mono ?_; rintro e w2 ⟨rfl, hb2⟩) | (go_at_call 78; refine (unwrapped_ok A c rs w2 ((hr.below hb2 (Nat.le_refl _)).more hb2.size) hw hn).mono ?_; rintro e w3 ⟨v, us, rfl, ho, hx, hb3⟩; obtain ⟨A2, c2, rfl, _, _⟩ := own_slice ho))
    have hB3 : Below w.heap.size w w3 := hb2.trans (hb3.mono hb2.size)
    have hrd := own_rd ho
    have hbx := below_box w3 (.cells #[.slice A2 rs.length c2] 22)
    have hsz : (w3.alloc (.cells #[.slice A2 rs.length c2] 22)).heap.size = w3.heap.size + 1 := alloc_size _ _
    have hcb : (w3.alloc (.cells #[.slice A2 rs.length c2] 22)).cell? ⟨w3.heap.size, 0, none⟩ = some (.slice A2 rs.length c2) := by go_simp
    generalize (w3.alloc (.cells #[.slice A2 rs.length c2] 22)) = w4 at *
    refine (reals_ok (rs.length - 1) 79 #[.pointer (some ⟨w3.heap.size, 0, none⟩)] w4 (gaps rs) (by omega) delays1_in ?_).mono ?_
    · intro i w5 hi0 hin hb5
      obtain ⟨k, rfl⟩ := Int.eq_ofNat_of_zero_le hi0
      have hul : us.length = rs.length := hx.1
      have hB5 : Below w3.heap.size w3 w5 := hbx.trans (hb5.mono hbx.size)
      obtain ⟨b, off, rfl, hbl, hc⟩ := (hrd.below hB5 (Nat.le_refl _)).floats (by omega)
      refine (delays1_ok k w3.heap.size b off c2 rs.length _ _ w5 (((olds hb5).1 _ 0 (by omega)).trans hcb) (hc k (by omega)) (hc (k + 1) (by omega)) (by omega) hn).mono ?_
      rintro e w6 ⟨s, n, rfl, hs, hws, rfl⟩
      refine ⟨_, rfl, ?_, hws, (Below.refl _ _).drewN _⟩
      rw [hs, hx.2.2 k (by omega), hx.2.2 (k + 1) (by omega)]
      rfl
    · rintro e w6 ⟨v, xs, rfl, ho6, hx6, hb6⟩
      have hB4 : Below w.heap.size w w4 := hB3.trans (hbx.mono hB3.size)
      clear hcb hmax
      go_wp2
      go_ret2
      exact ⟨v, xs, rfl, ho_to_base ho6 hB4, hx6, hB4.trans (hb6.mono hB4.size)⟩
end Go.Proofs.Ytlafjmghfnlaoaa
