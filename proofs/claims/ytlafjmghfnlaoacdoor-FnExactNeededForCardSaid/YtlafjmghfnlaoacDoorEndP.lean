/-
  Arguments that are plans, opened.
-/
import Derived.Test.YtlafjmghfnlaoacDoorEndS
import Derived.Test.YtlafjmghfnlaoacDoorPlan
namespace Go.Proofs.YtlafjmghfnlaoacDoor
open Go.RowKit Go.ChangeShapes Go.WideShapes Go.Joins Go.Deep

section
variable {H : Type} {enc : TypeId × Value → H}
theorem steps_of_trod {w : World} {base : Nat} {fuel : Nat} {cs : List Value} {x : DataW H × List MemPlace}
    (hf : DataW.trod enc Tryd.prog w base (fun _ => true) true fuel 31 cs = some x) :
    ∃ (A : Option Addr) (c : Nat) (ds : List SD), cs = [.slice A ds.length c] ∧ RdS w w.heap.size A ds ∧ PlI ds ∧ ds.length ≤ maxLen := by
  rcases DataW.trod_slice Tryd.underlying31 hf with ⟨rfl, _⟩ | ⟨a, len, cap, elems, rest, n, _, rfl, _, _, hl, hm, hlen, hel, _, _⟩
  · exact ⟨none, 0, [], rfl, ⟨.inl rfl, fun d h => by cases h⟩, (fun z h => by cases h), Nat.zero_le _⟩
  · have each : ∀ i, i < len → ∃ d : SD, (∀ j, j < 4 → w.cell? ((a.add (i * 4)).add j) = [Value.int .i64 d.s.kd, .int .i64 d.s.n, .int .i64 d.s.k, .slice d.A d.s.tp.length d.c][j]?) ∧ Rd w w.heap.size d.A (is64 d.s.tp) ∧ d.s.tp.length ≤ maxLen ∧ I64' d.s.n := by
      intro i hi
      have h1 := hel i hi
      rw [cells_lstep] at h1
      rw [List.getElem?_eq_getElem (by omega), Option.bind_eq_some_iff] at h1
      obtain ⟨cs, hcs1, hy⟩ := h1
      obtain ⟨_, hc4, hcell4⟩ := World.cells?_some hcs1
      generalize elems[i] = y at hy
      obtain ⟨g0, g1, g2, g3, hs, hone, e0, e1, e2, e3⟩ := one_lstep
      obtain ⟨y0, y1, y2, y3, m, _, _, h0, h1, h2, h3⟩ := trod_struct4 hs hy
      match cs, hc4 with
      | [c0, c1, c2, c3], _ =>
        obtain ⟨o0, k0⟩ := hone_of hone 0 g0 rfl
        obtain ⟨o1, k1⟩ := hone_of hone 1 g1 rfl
        obtain ⟨o2, k2⟩ := hone_of hone 2 g2 rfl
        obtain ⟨o3, k3⟩ := hone_of hone 3 g3 rfl
        rw [o0, k0, e0] at h0
        rw [o1, k1, e1] at h1
        rw [o2, k2, e2] at h2
        rw [o3, k3, e3] at h3
        obtain ⟨p, hp, _, _⟩ := DataW.trod_int Tryd.underlying2 (show DataW.trod _ _ _ _ _ _ _ _ [c0] = _ from h0)
        obtain ⟨q, hq, _, hqw⟩ := DataW.trod_int Tryd.underlying2 (show DataW.trod _ _ _ _ _ _ _ _ [c1] = _ from h1)
        obtain ⟨k, hk, _, _⟩ := DataW.trod_int Tryd.underlying2 (show DataW.trod _ _ _ _ _ _ _ _ [c2] = _ from h2)
        obtain ⟨A, c, zs, hz, hr, _, hm⟩ := ints_of_trod Tryd.underlying22 Tryd.underlying2 cells_i64 (show DataW.trod _ _ _ _ _ _ _ _ [c3] = _ from h3)
        cases hp; cases hq; cases hk; cases hz
        exact ⟨⟨⟨p, q, k, zs⟩, A, c⟩, hcell4, hr, hm, i64_of hqw⟩
    have key : ∀ n, n ≤ len → ∃ ds : List SD, ds.length = n ∧ (∀ d ∈ ds, Rd w w.heap.size d.A (is64 d.s.tp) ∧ d.s.tp.length ≤ maxLen) ∧ PlI ds ∧ ∀ i d, ds[i]? = some d → ∀ j, j < 4 → w.cell? ((a.add (i * 4)).add j) = [Value.int .i64 d.s.kd, .int .i64 d.s.n, .int .i64 d.s.k, .slice d.A d.s.tp.length d.c][j]? := by
      intro n
      induction n with
      | zero => exact fun _ => ⟨[], rfl, (fun r h => by cases h), (fun r h => by cases h), fun i d hi => by simp at hi⟩
      | succ n ih =>
        intro hn
        obtain ⟨ds, h1, h2, h3, h4⟩ := ih (by omega)
        obtain ⟨d, g1, g2, g3, g4⟩ := each n (by omega)
        refine ⟨ds ++ [d], by simp [h1], ?_, ?_, fun i e hi => ?_⟩
        · intro r hr
          rcases List.mem_append.1 hr with hr | hr
          · exact h2 r hr
          · simp at hr; subst hr; exact ⟨g2, g3⟩
        · intro r hr
          rcases List.mem_append.1 hr with hr | hr
          · exact h3 r hr
          · simp at hr; subst hr; exact g4
        · by_cases hin : i = n
          · subst hin
            rw [List.getElem?_append_right (by omega), h1, Nat.sub_self] at hi
            simp at hi
            subst hi
            exact g1
          · have hlt : i < ds.length := by
              have := (List.getElem?_eq_some_iff.1 hi).1
              simp at this
              omega
            rw [List.getElem?_append_left hlt] at hi
            exact h4 i e hi
    obtain ⟨ds, h1, h2, h3, h4⟩ := key len (Nat.le_refl _)
    subst h1
    refine ⟨some a, cap, ds, rfl, ⟨?_, h2⟩, h3, by omega⟩
    by_cases hz : ds = []
    · exact .inl hz
    · have hpos : 0 < ds.length := List.length_pos_iff.2 hz
      obtain ⟨b, off, spot⟩ := a
      have hc0 := h4 0 _ (List.getElem?_eq_getElem hpos) 0 (by omega)
      have hspot : spot = none := by simpa [Addr.add] using World.cell?_spot hc0
      subst hspot
      refine .inr ⟨b, off, rfl, ?_, fun i d hd => ?_⟩
      · rw [Addr.add_lit, Addr.add_lit] at hc0
        rcases Nat.lt_or_ge b w.heap.size with h | h
        · exact h
        · simp [World.cell?, Array.getElem?_eq_none h] at hc0
      · have a0 := h4 i d hd 0 (by omega)
        have a1 := h4 i d hd 1 (by omega)
        have a2 := h4 i d hd 2 (by omega)
        have a3 := h4 i d hd 3 (by omega)
        rw [Addr.add_lit, Addr.add_lit] at a0 a1 a2 a3
        exact ⟨a0, a1, a2, a3⟩
theorem cells_lplan : Tryd.prog.cellsOf 33 = 1 := by kernel_rfl
theorem cells_lsteps : Tryd.prog.cellsOf 31 = 1 := by kernel_rfl
theorem one_lplan : ∃ f0 : Field, Tryd.prog.underlying 33 = some (.struct #[f0]) ∧ f0.offset = 0 ∧ f0.type = 31 := by
  refine ⟨_, Tryd.underlying33, rfl, rfl⟩
/-- a plan that comes in -/
theorem open_plan {w : World} {base : Nat} {v : Value} {d : DataW H} {ps : List MemPlace} {r : Reach} {b0 : Nat}
    (hv : Value.okWide Tryd.prog w r b0 33 v) (h : DataW.Trod enc Tryd.prog w base (fun _ => true) true 33 v d ps) :
    ∃ (ds : List SD) (A : Option Addr) (c : Nat), v = plV A ds.length c ∧ RdS w w.heap.size A ds ∧ ds.length ≤ maxLen ∧ PlI ds := by
  obtain ⟨f0, hs, ho, ht⟩ := one_lplan
  obtain ⟨cs, rfl, hsz⟩ := okWide_struct hs hv
  rw [cells_lplan] at hsz
  obtain ⟨fuel, hf⟩ := h
  obtain ⟨y0, n, _, _, h0⟩ := trod_struct1 hs hf
  rw [ho, ht, cells_lsteps] at h0
  obtain ⟨l⟩ := cs
  match l, hsz with
  | [c0], _ =>
    obtain ⟨A, c, ds, hz, hr, hI, hm⟩ := steps_of_trod (show DataW.trod _ _ _ _ _ _ _ _ [c0] = _ from h0)
    cases hz
    exact ⟨ds, A, c, rfl, hr, hm, hI⟩
end
end Go.Proofs.YtlafjmghfnlaoacDoor
