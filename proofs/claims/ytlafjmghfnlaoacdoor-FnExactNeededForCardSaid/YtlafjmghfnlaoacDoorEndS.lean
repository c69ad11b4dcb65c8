/-
  Arguments that are steps or plans, opened; the table of forms out of the row's condition.
-/
import Derived.Test.YtlafjmghfnlaoacDoorSt3
import Derived.Test.YtlafjmghfnlaoacDoorEndV
import Derived.Lib.SmallJoins
namespace Go.Proofs.YtlafjmghfnlaoacDoor
open Go.RowKit Go.ChangeShapes Go.WideShapes Go.Joins Go.Deep

section
variable {H : Type} {enc : TypeId × Value → H}
/-- a slice of int64s, off its cell -/
theorem ints_of_trod {P : Program} {w : World} {base : Nat} {t e : TypeId} {fuel : Nat} {cs : List Value} {x : DataW H × List MemPlace} (ht : P.underlying t = some (.slice e)) (he : P.underlying e = some (.int .i64)) (hc : P.cellsOf e = 1)
    (hf : DataW.trod enc P w base (fun _ => true) true fuel t cs = some x) :
    ∃ (A : Option Addr) (c : Nat) (zs : List Int), cs = [.slice A zs.length c] ∧ Rd w w.heap.size A (is64 zs) ∧ (∀ z ∈ zs, I64' z) ∧ zs.length ≤ maxLen := by
  rcases DataW.trod_slice ht hf with ⟨rfl, _⟩ | ⟨a, len, cap, elems, rest, n, _, rfl, _, _, hl, hm, hlen, hel, _, _⟩
  · exact ⟨none, 0, [], rfl, .inl rfl, (fun z h => by cases h), Nat.zero_le _⟩
  · have each : ∀ i, i < len → ∃ b, w.cell? (a.add i) = some (.int .i64 b) ∧ I64' b := by
      intro i hi
      have h1 := hel i hi
      rw [hc, Nat.mul_one] at h1
      have h2 : i < elems.length := by omega
      rw [List.getElem?_eq_getElem h2, Option.bind_eq_some_iff] at h1
      obtain ⟨cs', hcs, hy⟩ := h1
      obtain ⟨b, rfl, _, hw⟩ := DataW.trod_int he hy
      exact ⟨b, cell_of_cells?_one hcs, by simpa [Lit.wf, IntKind.min, IntKind.max, IntKind.signed, IntKind.bits, I64'] using hw⟩
    have key : ∀ n, n ≤ len → ∃ zs : List Int, zs.length = n ∧ (∀ z ∈ zs, I64' z) ∧ ∀ i, i < n → w.cell? (a.add i) = some (.int .i64 (nthI zs i)) := by
      intro n
      induction n with
      | zero => exact fun _ => ⟨[], rfl, (fun r h => by cases h), fun i hi => by omega⟩
      | succ n ih =>
        intro hn
        obtain ⟨zs, h1, h2, h3⟩ := ih (by omega)
        obtain ⟨b, hb, hwf⟩ := each n (by omega)
        refine ⟨zs ++ [b], by simp [h1], ?_, fun i hi => ?_⟩
        · intro r hr
          rcases List.mem_append.1 hr with hr | hr
          · exact h2 r hr
          · simp at hr; subst hr; exact hwf
        · by_cases e : i = n
          · subst e
            rw [hb]
            simp [nthI, ← h1]
          · rw [h3 i (by omega)]
            have : i < zs.length := by omega
            simp [nthI, List.getElem?_append_left this]
    obtain ⟨zs, h1, h2, h3⟩ := key len (Nat.le_refl _)
    subst h1
    refine ⟨some a, cap, zs, rfl, ?_, h2, by omega⟩
    by_cases hz : zs = []
    · exact .inl (by simp [hz, is64])
    · have hpos : 0 < zs.length := List.length_pos_iff.2 hz
      obtain ⟨b, off, spot⟩ := a
      have hspot : spot = none := by simpa [Addr.add] using World.cell?_spot (h3 0 hpos)
      subst hspot
      refine .inr ⟨b, off, rfl, ?_, fun i u hu => ?_⟩
      · have := h3 0 hpos
        rcases Nat.lt_or_ge b w.heap.size with h | h
        · exact h
        · simp [World.cell?, Addr.add, Array.getElem?_eq_none h] at this
      · have hi : i < zs.length := by
          have := (List.getElem?_eq_some_iff.1 hu).1
          simpa [is64] using this
        rw [is64_get zs hi] at hu
        have := h3 i hi
        rw [Addr.add_lit] at this
        rw [this, hu]
theorem cells_i64 : Tryd.prog.cellsOf 2 = 1 := by kernel_rfl
theorem cells_lstep : Tryd.prog.cellsOf 24 = 4 := by kernel_rfl
theorem one_lstep : ∃ f0 f1 f2 f3 : Field, Tryd.prog.underlying 24 = some (.struct #[f0, f1, f2, f3]) ∧ oneCellFields Tryd.prog #[f0, f1, f2, f3] = true ∧ f0.type = 2 ∧ f1.type = 2 ∧ f2.type = 2 ∧ f3.type = 22 := by
  refine ⟨_, _, _, _, Tryd.underlying24, by kernel_rfl, rfl, rfl, rfl, rfl⟩
def StI (s : St) : Prop := I64' s.n
theorem i64_of {z : Int} (h : (Lit.int .i64 z).wf = true) : I64' z := by
  simpa [Lit.wf, IntKind.min, IntKind.max, IntKind.signed, IntKind.bits, I64'] using h
set_option maxRecDepth 20000 in
/-- a step that comes in -/
theorem open_step {w : World} {base : Nat} {v : Value} {d : DataW H} {ps : List MemPlace} {r : Reach} {b0 : Nat}
    (hv : Value.okWide Tryd.prog w r b0 24 v) (h : DataW.Trod enc Tryd.prog w base (fun _ => true) true 24 v d ps) :
    ∃ (s : St) (A : Option Addr) (c : Nat), v = stV s A c ∧ Rd w w.heap.size A (is64 s.tp) ∧ s.tp.length ≤ maxLen ∧ StI s := by
  obtain ⟨f0, f1, f2, f3, hs, hone, e0, e1, e2, e3⟩ := one_lstep
  obtain ⟨v0, v1, v2, v3, y0, y1, y2, y3, n, rfl, _, _, h0, h1, h2, h3⟩ := open_agg4 hs hone cells_lstep hv h
  rw [e0] at h0
  rw [e1] at h1
  rw [e2] at h2
  rw [e3] at h3
  obtain ⟨a, ha, _, _⟩ := DataW.trod_int Tryd.underlying2 h0
  obtain ⟨b, hb, _, hbw⟩ := DataW.trod_int Tryd.underlying2 h1
  obtain ⟨k, hk, _, _⟩ := DataW.trod_int Tryd.underlying2 h2
  obtain ⟨A, c, zs, hz, hr, _, hm⟩ := ints_of_trod Tryd.underlying22 Tryd.underlying2 cells_i64 h3
  cases ha; cases hb; cases hk; cases hz
  exact ⟨⟨a, b, k, zs⟩, A, c, rfl, hr, hm, i64_of hbw⟩
end
end Go.Proofs.YtlafjmghfnlaoacDoor
