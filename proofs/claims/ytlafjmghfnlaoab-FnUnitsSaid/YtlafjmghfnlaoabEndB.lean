/-
  Slices of bytes that come in, opened. No program is named here.
-/
import Derived.Test.YtlafjmghfnlaoabEnd
namespace Go.Proofs.Ytlafjmghfnlaoab
open Go Go.RowKit Go.ChangeShapes Go.WideShapes Go.ChangeAt

section
variable {H : Type} {enc : TypeId × Value → H} {P : Program}
def bs (zs : List Int) : List Value := zs.map (Value.int .u8)
def Bytes (zs : List Int) : Prop := ∀ z ∈ zs, 0 ≤ z ∧ z ≤ 255
def nthB (zs : List Int) (i : Nat) : Int := zs.getD i 0
theorem bs_get (zs : List Int) {i : Nat} (h : i < zs.length) : (bs zs)[i]? = some (.int .u8 (nthB zs i)) := by simp [bs, nthB, h]
/-- a slice of bytes that comes in -/
theorem open_bytes {w : World} {base : Nat} {t e : TypeId} {v : Value} {d : DataW H} {ps : List MemPlace} {r : Reach} {b0 : Nat} (ht : P.underlying t = some (.slice e)) (he : P.underlying e = some (.int .u8)) (hc : P.cellsOf e = 1)
    (hv : Value.okWide P w r b0 t v) (h : DataW.Trod enc P w base (fun _ => true) true t v d ps) :
    ∃ (A : Option Addr) (c : Nat) (rs : List Int), v = .slice A rs.length c ∧ Rd w w.heap.size A (bs rs) ∧ Bytes rs ∧ rs.length ≤ maxLen := by
  obtain ⟨a0, len, cap, rfl⟩ := okWide_slice ht hv
  obtain ⟨fuel, hf⟩ := h
  rcases DataW.trod_slice ht hf with ⟨hcs, _⟩ | ⟨a, len', cap', elems, rest, n, _, hcs, _, _, hl, hm, hlen, hel, _, _⟩
  · simp [Value.cells] at hcs
    obtain ⟨rfl, rfl, rfl⟩ := hcs
    exact ⟨none, 0, [], rfl, .inl rfl, (fun r h => by cases h), Nat.zero_le _⟩
  · simp [Value.cells] at hcs
    obtain ⟨rfl, rfl, rfl⟩ := hcs
    have each : ∀ i, i < len → ∃ b, w.cell? (a.add i) = some (.int .u8 b) ∧ (0 ≤ b ∧ b ≤ 255) := by
      intro i hi
      have h1 := hel i hi
      rw [hc, Nat.mul_one] at h1
      have h2 : i < elems.length := by omega
      rw [List.getElem?_eq_getElem h2, Option.bind_eq_some_iff] at h1
      obtain ⟨cs', hcs, hy⟩ := h1
      obtain ⟨b, rfl, _, hw⟩ := DataW.trod_int he hy
      exact ⟨b, cell_of_cells?_one hcs, by simpa [Lit.wf, IntKind.min, IntKind.max, IntKind.signed, IntKind.bits] using hw⟩
    have key : ∀ n, n ≤ len → ∃ rs : List Int, rs.length = n ∧ Bytes rs ∧ ∀ i, i < n → w.cell? (a.add i) = some (.int .u8 (nthB rs i)) := by
      intro n
      induction n with
      | zero => exact fun _ => ⟨[], rfl, (fun r h => by cases h), fun i hi => by omega⟩
      | succ n ih =>
        intro hn
        obtain ⟨rs, h1, h2, h3⟩ := ih (by omega)
        obtain ⟨b, hb, hwf⟩ := each n (by omega)
        refine ⟨rs ++ [b], by simp [h1], ?_, fun i hi => ?_⟩
        · intro r hr
          rcases List.mem_append.1 hr with hr | hr
          · exact h2 r hr
          · simp at hr; subst hr; exact hwf
        · by_cases e : i = n
          · subst e
            rw [hb]
            simp [nthB, ← h1]
          · rw [h3 i (by omega)]
            have : i < rs.length := by omega
            simp [nthB, List.getElem?_append_left this]
    obtain ⟨rs, h1, h2, h3⟩ := key len (Nat.le_refl _)
    subst h1
    refine ⟨some a, cap, rs, rfl, ?_, h2, by omega⟩
    by_cases hz : rs = []
    · exact .inl (by simp [hz, bs])
    · have hpos : 0 < rs.length := List.length_pos_iff.2 hz
      obtain ⟨b, off, spot⟩ := a
      have hspot : spot = none := by simpa [Addr.add] using World.cell?_spot (h3 0 hpos)
      subst hspot
      refine .inr ⟨b, off, rfl, ?_, fun i u hu => ?_⟩
      · have := h3 0 hpos
        rcases Nat.lt_or_ge b w.heap.size with h | h
        · exact h
        · simp [World.cell?, Addr.add, Array.getElem?_eq_none h] at this
      · have hi : i < rs.length := by
          have := (List.getElem?_eq_some_iff.1 hu).1
          simpa [bs] using this
        rw [bs_get rs hi] at hu
        have := h3 i hi
        rw [Addr.add_lit] at this
        rw [this, hu]
end
end Go.Proofs.Ytlafjmghfnlaoab
