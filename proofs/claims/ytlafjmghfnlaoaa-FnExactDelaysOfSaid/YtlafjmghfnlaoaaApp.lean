/-
  Appending one value onto a row of the call's own. No program is named here.
-/
import Derived.Test.YtlafjmghfnlaoaaReals
import Derived.Maps.AppendAt
namespace Go.Proofs.Ytlafjmghfnlaoaa
open Go Go.RowKit

theorem app1 {P : Program} {W w : World} {ops : Array Oper} {rest : List Oper} {o : Oper} {a : Act} {Q : Exit → Act → World → Prop} (hgd : o.guard = none) (s x : Operand) (t e : TypeId) (z : Value) (by_ : Nat)
    (ho : o.op = .call { callee := .builtin .append, args := #[s, x], argTypes := #[t, t] })
    (ht : P.underlying t = some (.slice e)) (hi : (P.info? e).map (fun i => (i.zero, i.size, i.bytes)) = some (some z, 1, by_)) (hz1 : z.cells = #[z]) (hby : by_ ≤ 16)
    (base : Nat) (v : Value) (n : Nat) (xs : List Value) (hs : a.eval s = v) (u : Value) (hu : u.oneCell' = true) (hown : W.ownsRow base e 1 v n xs) (hn : n ≤ 1048576) (hbase : base ≤ W.heap.size) (c : Nat)
    (hw : w = W.alloc (.cells #[u] e)) (hx : a.eval x = .slice (some ⟨W.heap.size, 0, none⟩) 1 c)
    (h : ∀ v' w', w'.ownsRow base e 1 v' (n + 1) (xs ++ [u]) → (∀ B a', B ≤ base → Below B a' W → Below B a' w') → wpList P ops Q rest (a.put o.dst v') w') : wpList P ops Q (o :: rest) a w := by
  cases hinfo : P.info? e with
  | none => rw [hinfo] at hi; cases hi
  | some i =>
    rw [hinfo] at hi
    have hi' : (i.zero, i.size, i.bytes) = (some z, 1, by_) := by simpa using hi
    obtain ⟨h1, h2, h3⟩ : i.zero = some z ∧ i.size = 1 ∧ i.bytes = by_ := by simpa using hi'
    subst hw
    refine wpList_append_own _ hgd s x t ho base e i z 1 by_ ht hinfo h1 h2 h3 (by rw [hz1]; rfl) (by decide) v n xs hs (hown.alloc _) ⟨W.heap.size, 0, none⟩ 1 c [u] hx rfl (cell_one_new W u e) (fun y hy => by simp at hy; subst hy; exact hu) (by unfold maxLen; omega) ?_ (by simp only [alloc_size]; omega) ?_
    · have : (n + 1) * by_ ≤ (1048577) * 16 := Nat.mul_le_mul (by omega) hby
      omega
    · intro v' w' h4 h5 _
      exact h v' w' h4 fun B a' hB hb => (hb.alloc (by omega) _).grown h5 (by simp only [alloc_size]; omega) (fun k hk => Nat.le_trans hB (hown.lt k hk).1)
theorem app1' {P : Program} {w : World} {ops : Array Oper} {rest : List Oper} {o : Oper} {a : Act} {Q : Exit → Act → World → Prop} (hgd : o.guard = none) (s x : Operand) (t e : TypeId) (z : Value) (by_ : Nat)
    (ho : o.op = .call { callee := .builtin .append, args := #[s, x], argTypes := #[t, t] })
    (ht : P.underlying t = some (.slice e)) (hi : (P.info? e).map (fun i => (i.zero, i.size, i.bytes)) = some (some z, 1, by_)) (hz1 : z.cells = #[z]) (hby : by_ ≤ 16)
    (base : Nat) (v : Value) (n : Nat) (xs : List Value) (hs : a.eval s = v) (u : Value) (hu : u.oneCell' = true) (hown : w.ownsRow base e 1 v n xs) (hn : n ≤ 1048576) (hbase : base ≤ w.heap.size) (g c : Nat)
    (hB : Bk w g e [u]) (hx : a.eval x = .slice (some ⟨g, 0, none⟩) 1 c)
    (h : ∀ v' w', w'.ownsRow base e 1 v' (n + 1) (xs ++ [u]) → (∀ B a', B ≤ base → Below B a' w → Below B a' w') → wpList P ops Q rest (a.put o.dst v') w') : wpList P ops Q (o :: rest) a w := by
  cases hinfo : P.info? e with
  | none => rw [hinfo] at hi; cases hi
  | some i =>
    rw [hinfo] at hi
    have hi' : (i.zero, i.size, i.bytes) = (some z, 1, by_) := by simpa using hi
    obtain ⟨h1, h2, h3⟩ : i.zero = some z ∧ i.size = 1 ∧ i.bytes = by_ := by simpa using hi'
    refine wpList_append_own _ hgd s x t ho base e i z 1 by_ ht hinfo h1 h2 h3 (by rw [hz1]; rfl) (by decide) v n xs hs hown ⟨g, 0, none⟩ 1 c [u] hx rfl (fun j y hj => ?_) (fun y hy => by simp at hy; subst hy; exact hu) (by unfold maxLen; omega) ?_ hbase ?_
    · have h := hB.cell j
      rw [hj] at h
      have e : (⟨g, 0, none⟩ : Addr).add j = ⟨g, j, none⟩ := by
        unfold Addr.add
        by_cases h0 : j = 0
        · simp [h0]
        · simp [h0]
      rw [e]
      exact h
    · have : (n + 1) * by_ ≤ (1048577) * 16 := Nat.mul_le_mul (by omega) hby
      omega
    · intro v' w' h4 h5 _
      exact h v' w' h4 fun B a' hB hb => hb.grown h5 (by omega) (fun k hk => Nat.le_trans hB (hown.lt k hk).1)
end Go.Proofs.Ytlafjmghfnlaoaa
