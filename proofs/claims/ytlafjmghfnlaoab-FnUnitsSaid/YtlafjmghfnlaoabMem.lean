/-
  Words for memory: a slice that reads as a list, a block that is known whole. No program is named here.
-/
import Derived.Test.YtlafjmghfnlaoabFl
import Derived.WalkKit
namespace Go.Proofs.Ytlafjmghfnlaoab
open Go Go.RowKit

theorem ret_bool {a b : Bool} (h : a = b) : Ending.returned (.bool a) = .returned (.bool b) := by rw [h]
theorem ret_int {k : IntKind} {a b : Int} (h : a = b) : Ending.returned (.int k a) = .returned (.int k b) := by rw [h]
theorem _root_.Go.RowKit.Below.drewN {B : Nat} {a w : World} (h : Below B a w) (n : Nat) : Below B a (w.drewN n) := ⟨h.os, h.tape, h.output, h.size, h.block⟩
/-- what a contract over 'Below' says of old cells, as two rules for the walk -/
theorem olds {W w1 : World} {B : Nat} (hb : Below B W w1) : (∀ b o, b < B → w1.cell? ⟨b, o, none⟩ = W.cell? ⟨b, o, none⟩) ∧ (∀ b o, b < B → w1.frozen? ⟨b, o, none⟩ = W.frozen? ⟨b, o, none⟩) :=
  ⟨fun b o h => hb.cell (p := ⟨b, o, none⟩) h, fun b o h => hb.frozen (p := ⟨b, o, none⟩) h⟩

/-- the elements of a slice of float64s -/
def fl (rs : List Nat) : List Value := rs.map (Value.float .f64)
def nth (rs : List Nat) (i : Nat) : Nat := rs.getD i 0
def nthF (xs : List F) (i : Nat) : F := xs.getD i none
def Wfs (rs : List Nat) : Prop := ∀ r ∈ rs, Wf r

/-- a slice at 'A' whose elements (of one cell each) are vs; it lies below block B -/
def Rd (w : World) (B : Nat) (A : Option Addr) (vs : List Value) : Prop :=
  vs = [] ∨ ∃ b off, A = some ⟨b, off, none⟩ ∧ b < B ∧ ∀ i u, vs[i]? = some u → w.cell? ⟨b, off + i, none⟩ = some u

section
variable {w w' : World} {B B' : Nat} {A : Option Addr} {vs : List Value}
theorem Rd.below (h : Rd w B A vs) {C : Nat} (hb : Below C w w') (hC : B ≤ C) : Rd w' B A vs := by
  rcases h with h | ⟨b, off, hA, hlt, hc⟩
  · exact .inl h
  · exact .inr ⟨b, off, hA, hlt, fun i u hu => (hb.cell (p := ⟨b, off + i, none⟩) (by show b < C; omega)).trans (hc i u hu)⟩
theorem Rd.more (h : Rd w B A vs) (hB : B ≤ B') : Rd w B' A vs := by
  rcases h with h | ⟨b, off, hA, hlt, hc⟩
  · exact .inl h
  · exact .inr ⟨b, off, hA, by omega, hc⟩
theorem Rd.open_ (h : Rd w B A vs) (hn : 0 < vs.length) : ∃ b off, A = some ⟨b, off, none⟩ ∧ b < B ∧ ∀ i u, vs[i]? = some u → w.cell? ⟨b, off + i, none⟩ = some u := by
  rcases h with h | h
  · subst h; simp at hn
  · exact h
theorem fl_length (rs : List Nat) : (fl rs).length = rs.length := by simp [fl]
theorem fl_get (rs : List Nat) {i : Nat} (h : i < rs.length) : (fl rs)[i]? = some (.float .f64 (nth rs i)) := by
  simp [fl, nth, h]
/-- floats, opened: one address, a cell an element -/
theorem Rd.floats {rs : List Nat} (h : Rd w B A (fl rs)) (hn : 0 < rs.length) : ∃ b off, A = some ⟨b, off, none⟩ ∧ b < B ∧ ∀ i, i < rs.length → w.cell? ⟨b, off + i, none⟩ = some (.float .f64 (nth rs i)) := by
  obtain ⟨b, off, hA, hb, hc⟩ := h.open_ (by rw [fl_length]; exact hn)
  exact ⟨b, off, hA, hb, fun i hi => hc i _ (fl_get rs hi)⟩
end
theorem Wfs.get {rs : List Nat} (h : Wfs rs) {i : Nat} (hi : i < rs.length) : Wf (nth rs i) := by
  have : nth rs i = rs[i] := by simp [nth, hi]
  rw [this]
  exact h _ (List.getElem_mem hi)
theorem V_get (rs : List Nat) {i : Nat} (hi : i < rs.length) : V (nth rs i) = nthF (rs.map V) i := by simp [nth, nthF, hi]

/-- block g is just the cells cs of the element type t, none frozen -/
def Bk (w : World) (g : Nat) (t : TypeId) (cs : List Value) : Prop := w.heap[g]? = some (.cells cs.toArray t (0, 0))
section
variable {w w' : World} {g B : Nat} {t : TypeId} {cs : List Value}
theorem Bk.lt (h : Bk w g t cs) : g < w.heap.size := by
  rcases Nat.lt_or_ge g w.heap.size with hlt | hge
  · exact hlt
  · unfold Bk at h; rw [Array.getElem?_eq_none hge] at h; cases h
theorem Bk.cell (h : Bk w g t cs) (i : Nat) : w.cell? ⟨g, i, none⟩ = cs[i]? := by
  unfold Bk at h
  simp [World.cell?, h]
theorem Bk.frozen (h : Bk w g t cs) (i : Nat) : w.frozen? ⟨g, i, none⟩ = false := by
  unfold Bk at h
  simp [World.frozen?, h]
theorem Bk.drewN (h : Bk w g t cs) (n : Nat) : Bk (w.drewN n) g t cs := h
theorem Bk.set_ (h : Bk w g t cs) (i : Nat) (u : Value) : Bk (w.setCell ⟨g, i, none⟩ u) g t (cs.set i u) := by
  unfold Bk at h ⊢
  simp [World.setCell, Array.getElem?_modify, h]
theorem Bk.far (h : Bk w g t cs) {p : Addr} (hp : g ≠ p.block) (u : Value) : Bk (w.setCell p u) g t cs := (Below.heap_setCell w p u g hp).trans h
theorem Bk.below (h : Bk w g t cs) (hb : Below B w w') (hg : g < B) : Bk w' g t cs := (hb.block g hg).trans h
theorem Bk.rd (h : Bk w g t cs) : Rd w w.heap.size (some ⟨g, 0, none⟩) cs :=
  .inr ⟨g, 0, rfl, h.lt, fun i u hu => by rw [Nat.zero_add, h.cell, hu]⟩
theorem Bk.new (w : World) (t : TypeId) (cs : Array Value) : Bk (w.alloc (.cells cs t)) w.heap.size t cs.toList := by
  unfold Bk
  rw [heap_alloc_new]
end
theorem madeCells_one (z : Value) (h : z.cells = #[z]) (n : Nat) : (madeCells z.cells (n * 1)).toList = List.replicate n z := by
  rw [h, Nat.mul_one]
  apply List.ext_getElem
  · simp [madeCells]
  · intro i h1 h2
    simp [madeCells, Nat.mod_one]

theorem store_step (l : List Value) (z v : Value) {k n : Nat} (hl : l.length = k) (hk : k < n) : (l ++ List.replicate (n - k) z).set k v = (l ++ [v]) ++ List.replicate (n - (k + 1)) z := by
  have h1 : n - k = (n - (k + 1)) + 1 := by omega
  subst hl
  rw [List.set_append_right _ _ (Nat.le_refl _), Nat.sub_self, h1, List.replicate_succ, List.set_cons_zero, List.append_assoc]
  rfl
theorem hole_get (l : List Value) (z : Value) {k n : Nat} (hl : l.length = k) (hk : k < n) : (l ++ List.replicate (n - k) z)[k]? = some z := by
  subst hl
  rw [List.getElem?_append_right (Nat.le_refl _), Nat.sub_self, List.getElem?_replicate, if_pos (by omega)]
theorem fl_take (rs : List Nat) {k : Nat} (h : k < rs.length) : fl (rs.take (k + 1)) = fl (rs.take k) ++ [.float .f64 (nth rs k)] := by
  unfold fl
  rw [List.take_succ_eq_append_getElem h, List.map_append]
  simp [nth, h]

/-- a variable that is boxed: its cell behind a call -/
theorem box_cell {w w2 : World} {v : Value} {t : TypeId} (hb : Below (w.alloc (.cells #[v] t)).heap.size (w.alloc (.cells #[v] t)) w2) : w2.cell? ⟨w.heap.size, 0, none⟩ = some v := by
  have h := (Bk.new w t #[v]).below hb (Bk.new w t #[v]).lt
  rw [h.cell]
  rfl
theorem below_box (w : World) (o : Obj) : Below w.heap.size w (w.alloc o) := (Below.refl _ _).alloc (Nat.le_refl _) _
theorem alloc_size (w : World) (o : Obj) : (w.alloc o).heap.size = w.heap.size + 1 := by
  show (w.heap.push o).size = _
  simp

theorem run_store_float (P : Program) (w : World) (a : Addr) (m : Mode) (k : FloatKind) (b : Nat) : (store a (.float k b) m).run P w = stored P w a (.float k b) m := run_store P w a _ m rfl
theorem run_store_complex (P : Program) (w : World) (a : Addr) (m : Mode) (k : FloatKind) (x y : Nat) : (store a (.complex k x y) m).run P w = stored P w a (.complex k x y) m := run_store P w a _ m rfl
attribute [go_sem] run_store_float run_store_complex
/-- make([]T, n), an element of one cell -/
theorem run_make_one {P : Program} (t e : TypeId) (z : Value) (by_ : Nat) (hz1 : z.cells = #[z]) (ht : P.underlying t = some (.slice e)) (hi : (P.info? e).map (fun i => (i.zero, i.size, i.bytes)) = some (some z, 1, by_))
    (kl kc : IntKind) (n : Nat) (hb : by_ * n ≤ 281474976710656) (h63 : n ≤ 9223372036854775807) (w : World) :
    (Instr.makeSlice t (.int kl (n : Int)) (.int kc (n : Int))).run P w = .ok (.slice (some ⟨w.heap.size, 0, none⟩) n n) (w.alloc (.cells (List.replicate n z).toArray e)) := by
  obtain ⟨i, h1, h2, h3, h4⟩ := info_parts hi
  have hb' : (i.bytes : Int) * (n : Int) ≤ 281474976710656 := by
    rw [h4]
    have : ((by_ * n : Nat) : Int) ≤ 281474976710656 := by omega
    rwa [Int.natCast_mul] at this
  have hr := run_make (P := P) w t e i z ht h1 h2 kl kc n n (by omega) (by omega) hb' (by omega)
  simp only [Int.toNat_natCast, h3] at hr
  rw [hr, ← madeCells_one z hz1 n]
end Go.Proofs.Ytlafjmghfnlaoab
