/-
  Contracts: phases that do not jump, the reference's.
-/
import Derived.Test.YtlafjmghfnlaoaaSmooth3
import Derived.Test.YtlafjmghfnlaoaaWrap
import Derived.Test.YtlafjmghfnlaoaaNgt
namespace Go.Proofs.Ytlafjmghfnlaoaa
open Go.RowKit
attribute [local irreducible] wpG

def unw (rs : List Nat) : Nat → F
  | 0 => V (nth rs 0)
  | k + 1 => fop .add (unw rs k) (wrapF (fop .sub (V (nth rs (k + 1))) (V (nth rs k))))

set_option maxRecDepth 20000 in
set_option maxHeartbeats 400000 in
theorem l06Unwrap_ok (A : Option Addr) (c : Nat) (rs : List Nat) (w : World) (hr : Rd w w.heap.size A (fl rs)) (hw : Wfs rs) (hn : rs.length ≤ 1048576) :
    Calls Try.prog 77 #[.slice A rs.length c] w fun e w' => ∃ v xs, e = .returned v ∧ w'.ownsRow w.heap.size 23 1 v rs.length (fl xs) ∧ IsL xs rs.length (unw rs) ∧ Below w.heap.size w w' := by
  have HR := hid hr
  clear hr
  go_enter Try.func77, Try.ntmps77
  go_wp2
  go_loopw [3, 4] (fun out i wr => ∃ (k : Nat) (xs : List Nat), k ≤ rs.length ∧ i = .int .i64 k ∧ wr.ownsRow w.heap.size 23 1 out k (fl xs) ∧ IsL xs k (unw rs) ∧ Below w.heap.size w wr) (fun _ i _ => rs.length - (intOf i).toNat)
  case atStart => exact ⟨0, [], by omega, rfl, own_empty w _, IsL.nil _, below_box _ _⟩
  case round =>
    obtain ⟨k, xs, hk, rfl, ho, hl, hbel⟩ := hrel
    have HO := hid ho
    have HL := hid hl
    by_cases hlt : k < rs.length
    · obtain ⟨b, off, rfl, hbl, hc⟩ := (HR.out.below hbel (Nat.le_refl _)).floats (by omega)
      have hsz := hbel.size
      by_cases h0 : k = 0
      · subst h0
        have hc0 := hc 0 hlt
        rw [Nat.add_zero] at hc0
        have hne : ¬ rs = [] := by rintro rfl; simp at hlt
        have hw0 : Wf (nth rs 0) := hw.get hlt
        clear hc ho hl
        go_wp2_with (at_builtin; refine app1 (W := wr) rfl _ _ 22 23 (.float .f64 0) 8 rfl Try.underlying22 f64info rfl (by decide) w.heap.size _ 0 (fl xs) rfl _ rfl HO.out (by omega) hbel.size 1 rfl rfl ?_; intro v' w7 ho7 hb7)
        have R : IsL (xs ++ [nth rs 0]) 1 (unw rs) := HL.out.snoc rfl hw0
        have hB := hb7 _ w (Nat.le_refl _) hbel
        refine ⟨?_, by simp [intOf]; omega⟩
        first
          | exact ⟨1, _, by omega, by go_num, by simpa [fl] using ho7, R, hB⟩
          | ((repeat apply Exists.intro); exact ⟨⟨1, _, by omega, by go_num, by simpa [fl] using ho7, R, hB⟩, rfl⟩)
      · obtain ⟨j, rfl⟩ : ∃ j, k = j + 1 := ⟨k - 1, by omega⟩
        obtain ⟨A2, c2, rfl, hrd2, _⟩ := own_slice HO.out
        have hxl : xs.length = j + 1 := hl.1
        obtain ⟨b2, off2, rfl, hbl2, hc2⟩ := hrd2.floats (by omega)
        have hcp := hc2 j (by omega)
        have hck := hc (j + 1) hlt
        have hcj := hc j (by omega)
        have hbw : b < wr.heap.size := by omega
        have hwk := hw.get hlt
        have hjj : (j : Int) < (j : Int) + 1 := by omega
        have hj0 : (0 : Int) ≤ (j : Int) + 1 := by omega
        have hjr : (j : Int) < (rs.length : Int) := by omega
        clear hc hc2 ho hl hrd2
        go_wp2
        refine wp_region_gt' 19 (fun _ args _ v _ => ∃ x r, args = #[.float .f64 x] ∧ v = .float .f64 r ∧ V r = wrapF (V x) ∧ Wf r) (by kernel_rfl) (by kernel_rfl) (by kernel_rfl) rfl rfl ?_
        repeat (first | (refine g_fact (fun v w3 => ∀ g c', v = .slice (some ⟨g, 0, none⟩) 1 c' → ∃ y, V y = unw rs (j + 1) ∧ Wf y ∧ Bk w3 g 23 [.float .f64 y]) rfl (by rintro d ⟨⟩ w <;> first | trivial | simp) rfl (fun ψ hψ K hK wq hwq => ?_); go_simp; refine ⟨fun w3 hg3 => ⟨_, (by rw [V_fres, hrV, HL.out.2.2 j (by omega)]; rfl), Wf_fres _ _ _ _, (Bk.new _ _ _).below hg3 (by simp)⟩, hK _ _ ?_⟩; clear hK K hψ ψ) | (refine g_step (by rintro d ⟨⟩ w <;> first | trivial | simp) (fun K hK => ?_); go_simp; first | (refine hK _ ?_; clear hK K) | (refine g_in (fun wq hwq holdq hfq => ?_); go_simp; (try go_bits); first | (refine hK _ ?_; clear hK K) | ((refine ⟨(l06Wrap_ok _ _ (Wf_fres _ _ _ _)).mono (by rintro e w2 ⟨r, n, rfl, hr, hwr, rfl⟩; exact ⟨_, rfl, ⟨r, rfl, by rw [hr, V_fres], hwr⟩, by go_simp⟩), fun v w9 r hv hrV hrW _ => ?_⟩; subst hv); refine hK _ ?_; clear hK K))))
        refine gt_nil (fun w3 hw3 hΓ3 => ?_)
        obtain ⟨y, hy, hwy, hBk⟩ : ∃ y, V y = unw rs (j + 1) ∧ Wf y ∧ Bk w3 _ 23 [.float .f64 y] := by
          have := hΓ3 38
          simpa using this
        have hg3 : Below wr.heap.size wr w3 := hw3
        refine app1' rfl _ _ 22 23 (.float .f64 0) 8 rfl Try.underlying22 f64info rfl (by decide) w.heap.size _ (j + 1) (fl xs) rfl (.float .f64 y) rfl (own_below' HO.out hg3) (by omega) (Nat.le_trans hbel.size hg3.size) _ 1 hBk rfl ?_
        intro v' w7 ho7 hb7
        have R := HL.out.snoc hy hwy
        have hB := hb7 _ w (Nat.le_refl _) (hbel.trans (hg3.mono hbel.size))
        have ho8 : w7.ownsRow w.heap.size 23 1 v' (j + 1 + 1) (fl (xs ++ [y])) := by simpa [fl] using ho7
        clear ho7 hb7 hBk
        go_wp2
        refine ⟨?_, by simp [intOf]; omega⟩
        first
          | exact ⟨j + 1 + 1, _, by omega, by go_num, ho8, R, hB⟩
          | ((repeat apply Exists.intro); exact ⟨⟨j + 1 + 1, _, by omega, by go_num, ho8, R, hB⟩, rfl⟩)
    · obtain rfl : k = rs.length := by omega
      go_wp2
      go_ret
      exact ⟨_, xs, rfl, HO.out, HL.out, hbel⟩
end Go.Proofs.Ytlafjmghfnlaoaa
