/-
  The table of forms, out of the row's condition; the witness; the frame of a card.
-/
import Derived.Test.YtlafjmghfnlaoacDoorEndS
import Derived.Test.YtlafjmghfnlaoacDoorValI
import Derived.Test.YtlafjmghfnlaoacDoorTie
import Derived.LaidMore
import Derived.MakeChecks
import Derived.SevenTiedAt
import Derived.Stop.Joined
namespace Go.Proofs.YtlafjmghfnlaoacDoor
open Go.RowKit Go.ChangeShapes Go.WideShapes Go.Joins Go.Deep

def wB : List (List UInt8) := [[], [103, 97, 105, 110], [100, 101, 108, 97, 121], [102, 105, 108, 116, 101, 114], [116, 117, 114, 110], [107, 101, 101, 112], [115, 116, 117, 102, 102], [98, 108, 111, 99, 107], [98, 97, 99, 107], [102, 108, 105, 112], [115, 117, 109], [110, 97, 114, 114, 111, 119], [109, 105, 114, 114, 111, 114], [115, 113, 117, 97, 114, 101]]
def formD {H : Type} (K : Nat) : DataW H := .agg [.lit (.string (wB.getD K [])), .lit (.bool (fN K)), .lit (.bool (fK K)), .lit (.bool (fT K))]
theorem laid_forms : (Rows.laid_loop_example_g01155_impl_stepForms : DataW Unit) = .slice ((List.range 14).map formD) [] := rfl
theorem words_str (K : Nat) (h : K < 14) : wordsV[K]? = some (.string ⟨(wB.getD K []).toArray⟩) := by
  match K, h with
  | 0, _ | 1, _ | 2, _ | 3, _ | 4, _ | 5, _ | 6, _ | 7, _ | 8, _ | 9, _ | 10, _ | 11, _ | 12, _ | 13, _ => rfl
theorem gForms : Tryd.prog.globalNamed "loop.example/g01155/impl.stepForms" = some 0 := by kernel_rfl
theorem tForms : (Tryd.prog.globals[0]?).map (·.type) = some 54 := by kernel_rfl
theorem cells_form : Tryd.prog.cellsOf 53 = 4 := by kernel_rfl
theorem one_form : ∃ f0 f1 f2 f3 : Field, Tryd.prog.underlying 53 = some (.struct #[f0, f1, f2, f3]) ∧ oneCellFields Tryd.prog #[f0, f1, f2, f3] = true ∧ f0.type = 9 ∧ f1.type = 4 ∧ f2.type = 4 ∧ f3.type = 4 := by
  refine ⟨_, _, _, _, Tryd.underlying53, by kernel_rfl, rfl, rfl, rfl, rfl⟩
theorem forms_of_laid {W : World} (h : laidMetH Tryd.prog [("loop.example/g01155/impl.stepForms", Rows.laid_loop_example_g01155_impl_stepForms)] W) : ∃ bt ot ct, Forms W bt ot ct := by
  rw [MakeChecks.laidMetH_plain _ _ _ (by kernel_rfl)] at h
  obtain ⟨ps, ⟨g0, t0, cs0, f0, p0, q0, hg0, ht0, hv0, hd0, _, _⟩, _, _⟩ := h
  obtain rfl := Option.some.inj (gForms.symm.trans hg0)
  obtain rfl := Option.some.inj (tForms.symm.trans ht0)
  rw [laid_forms] at hd0
  rcases DataW.trod_slice Tryd.underlying54 hd0 with ⟨_, hx⟩ | ⟨a, len, cap, elems, rest, n, _, hcs, hx, _, hl, hm, hlen, hel, _, _⟩
  · cases hx
  · simp only [Prod.mk.injEq, DataW.slice.injEq] at hx
    obtain ⟨⟨hx1, _⟩, _⟩ := hx
    have hlen14 : elems.length = 14 := by
      have := congrArg List.length hx1
      simpa using this.symm
    obtain rfl : len = 14 := by omega
    have hcell : W.cell? ⟨0, 0, none⟩ = some (.slice (some a) 14 cap) := by
      have h1 := World.var?_cell hg0 hv0 0
      have h2 : cs0[0]? = cs0.toList[0]? := by simp
      rw [h1, h2, hcs]
      rfl
    have each : ∀ K, K < 14 → ∃ c0 c1 c2 c3 : Value, (∀ i, i < 4 → W.cell? ((a.add (K * 4)).add i) = [c0, c1, c2, c3][i]?) ∧ c0 = .string ⟨(wB.getD K []).toArray⟩ ∧ c1 = .bool (fN K) ∧ c2 = .bool (fK K) ∧ c3 = .bool (fT K) := by
      intro K hK
      have h1 := hel K hK
      rw [cells_form] at h1
      rw [List.getElem?_eq_getElem (by omega), Option.bind_eq_some_iff] at h1
      obtain ⟨cs, hcs1, hy⟩ := h1
      obtain ⟨_, hc4, hcell4⟩ := World.cells?_some hcs1
      have hyd : (elems[K]).1 = formD K := by
        have h3 : (elems.map (·.1))[K]? = ((List.range 14).map formD)[K]? := by rw [hx1]
        rw [List.getElem?_map, List.getElem?_map, List.getElem?_eq_getElem (by omega), List.getElem?_range hK] at h3
        simpa using h3
      generalize elems[K] = y at hy hyd
      obtain ⟨g0, g1, g2, g3, hs, hone, e0, e1, e2, e3⟩ := one_form
      obtain ⟨y0, y1, y2, y3, m, rfl, _, h0, h1, h2, h3⟩ := trod_struct4 hs hy
      match cs, hc4 with
      | [c0, c1, c2, c3], _ =>
        obtain ⟨o0, k0⟩ := hone_of hone 0 g0 rfl
        obtain ⟨o1, k1⟩ := hone_of hone 1 g1 rfl
        obtain ⟨o2, k2⟩ := hone_of hone 2 g2 rfl
        obtain ⟨o3, k3⟩ := hone_of hone 3 g3 rfl
        rw [o0, k0, e0] at h0
        rw [o1, k1, e1] at h1
        rw [o2, k2, e2] at h2
        rw [o3, k3, e3] at h3
        obtain ⟨s, hs0, hs1, _⟩ := DataW.trod_string Tryd.underlying9 (show DataW.trod _ _ _ _ _ _ _ _ [c0] = _ from h0)
        obtain ⟨b1, hb1, hb1'⟩ := DataW.trod_bool Tryd.underlying4 (show DataW.trod _ _ _ _ _ _ _ _ [c1] = _ from h1)
        obtain ⟨b2, hb2, hb2'⟩ := DataW.trod_bool Tryd.underlying4 (show DataW.trod _ _ _ _ _ _ _ _ [c2] = _ from h2)
        obtain ⟨b3, hb3, hb3'⟩ := DataW.trod_bool Tryd.underlying4 (show DataW.trod _ _ _ _ _ _ _ _ [c3] = _ from h3)
        subst hs1; subst hb1'; subst hb2'; subst hb3'
        simp only [formD, DataW.agg.injEq, List.cons.injEq, DataW.lit.injEq, Lit.string.injEq, Lit.bool.injEq, and_true] at hyd
        obtain ⟨q0, q1, q2, q3⟩ := hyd
        refine ⟨c0, c1, c2, c3, hcell4, ?_, ?_, ?_, ?_⟩
        · cases hs0
          rw [← q0, bytes_eta]
        · cases hb1; rw [q1]
        · cases hb2; rw [q2]
        · cases hb3; rw [q3]
    obtain ⟨b, off, spot⟩ := a
    have hspot : spot = none := by
      obtain ⟨c0, c1, c2, c3, h1, _⟩ := each 0 (by omega)
      have h2 := h1 0 (by omega)
      simpa [Addr.add] using World.cell?_spot h2
    subst hspot
    refine ⟨b, off, cap, hcell, ?_, ?_, fun K hK => ?_⟩
    · rcases Nat.lt_or_ge 0 W.heap.size with h | h
      · exact h
      · simp [World.cell?, Array.getElem?_eq_none h] at hcell
    · obtain ⟨c0, c1, c2, c3, h1, _⟩ := each 0 (by omega)
      have h2 := h1 0 (by omega)
      rw [Addr.add_lit, Addr.add_lit] at h2
      rcases Nat.lt_or_ge b W.heap.size with h | h
      · exact h
      · simp [World.cell?, Array.getElem?_eq_none h] at h2
    · obtain ⟨c0, c1, c2, c3, h1, rfl, rfl, rfl, rfl⟩ := each K hK
      have a0 := h1 0 (by omega)
      have a1 := h1 1 (by omega)
      have a2 := h1 2 (by omega)
      have a3 := h1 3 (by omega)
      rw [Addr.add_lit, Addr.add_lit] at a0 a1 a2 a3
      exact ⟨by rw [words_str K hK]; exact a0, a1, a2, a3⟩
end Go.Proofs.YtlafjmghfnlaoacDoor
