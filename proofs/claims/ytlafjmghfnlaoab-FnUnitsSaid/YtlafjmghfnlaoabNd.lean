/-
  Regions that draw their order, walked once in the order of the text, where an operation may yield one of several values (a NaN's bits, a new block's address) and the world may move within a class C. No program is named here.
-/
import Derived.Still
import Derived.Deep.Draws
import Derived.Below
import Derived.Tactics
import Derived.KernelRfl
namespace Go.Proofs.Ytlafjmghfnlaoab
open Go Go.RowKit

section
variable {P : Program} {ops : Array Oper} {md : Region.Mode} {C : World → Prop} {S : FuncId → Array Value → Value → Prop}

def ndUpon (P : Program) (C : World → Prop) (S : FuncId → Array Value → Value → Prop) (K : Value → Prop) : Result Next → Prop
  | .ok (.value u) w' => C w' ∧ K u
  | .ok .skip w' => C w' ∧ K undef
  | .ok (.enter f args) w' => C w' ∧ Calls P f args w' (fun e w'' => ∃ v, e = .returned v ∧ S f args v ∧ C w'') ∧ ∀ v, S f args v → K v
  | _ => False

/-- whatever world of the class it is carried out in, the operation goes through, and what follows holds of each value that it may yield -/
def nd (P : Program) (C : World → Prop) (S : FuncId → Array Value → Value → Prop) (o : Oper) (a : Act) (K : Act → Prop) : Prop :=
  ∀ w, C w → ndUpon P C S (fun v => K (a.put o.dst v)) ((execOp a.eval o).run P w)

def wpND (P : Program) (ops : Array Oper) (C : World → Prop) (S : FuncId → Array Value → Value → Prop) (Q : Act → Prop) : List Oper → Act → Prop
  | [], a => Q a
  | o :: rest, a => if Region.wanted o (yielded ops a.tmps) then nd P C S o a (wpND P ops C S Q rest) else wpND P ops C S Q rest (a.put o.dst undef)

theorem wpND_nil {Q : Act → Prop} {a : Act} (h : Q a) : wpND P ops C S Q [] a := h
theorem wpND_step {Q : Act → Prop} {a : Act} {o : Oper} {rest : List Oper}
    (h : ∀ K : Act → Prop, (∀ a, wpND P ops C S Q rest a → K a) → if Region.wanted o (yielded ops a.tmps) then nd P C S o a K else K (a.put o.dst undef)) : wpND P ops C S Q (o :: rest) a :=
  h _ (fun _ h => h)

/-- the values that it may yield -/
def reach (P : Program) (C : World → Prop) (S : FuncId → Array Value → Value → Prop) (m : Sem Next) (v : Value) : Prop :=
  ∃ w, C w ∧ match m.run P w with
    | .ok (.value u) _ => v = u
    | .ok .skip _ => v = undef
    | .ok (.enter f args) _ => S f args v
    | _ => False
def fine (P : Program) (C : World → Prop) (S : FuncId → Array Value → Value → Prop) (m : Sem Next) : Prop := ∀ w, C w → ndUpon P C S (fun _ => True) (m.run P w)

theorem nd_split {o : Oper} {a : Act} {K : Act → Prop} (h : nd P C S o a K) : fine P C S (execOp a.eval o) ∧ ∀ v, reach P C S (execOp a.eval o) v → K (a.put o.dst v) := by
  constructor
  · intro w hw
    have := h w hw
    generalize (execOp a.eval o).run P w = r at *
    cases r with
    | ok n w' => cases n <;> simp only [ndUpon] at this ⊢ <;> first | exact ⟨this.1, trivial⟩ | exact ⟨this.1, this.2.1, fun _ _ => trivial⟩ | exact this
    | halt x w' => exact this
  · rintro v ⟨w, hw, hv⟩
    have := h w hw
    generalize (execOp a.eval o).run P w = r at *
    cases r with
    | ok n w' => cases n <;> simp only [ndUpon] at this hv ⊢ <;> first | (subst hv; exact this.2) | exact this.2.2 v hv | exact hv.elim
    | halt x w' => exact this.elim

def okAt (P : Program) (ops : Array Oper) (C : World → Prop) (S : FuncId → Array Value → Value → Prop) (o : Oper) (a : Act) : Prop :=
  Region.wanted o (yielded ops a.tmps) = true → fine P C S (execOp a.eval o)
def valAt (P : Program) (ops : Array Oper) (C : World → Prop) (S : FuncId → Array Value → Value → Prop) (o : Oper) (a : Act) (v : Value) : Prop :=
  if Region.wanted o (yielded ops a.tmps) = true then reach P C S (execOp a.eval o) v else v = undef

theorem valAt_some {w₀ : World} (h₀ : C w₀) {o : Oper} {a : Act} (h : okAt P ops C S o a) : ∃ v, valAt P ops C S o a v := by
  unfold valAt
  by_cases hw : Region.wanted o (yielded ops a.tmps) = true
  · simp only [hw, if_true]
    have h1 := h hw w₀ h₀
    unfold reach
    cases hr : (execOp a.eval o).run P w₀ with
    | ok n w' =>
      rw [hr] at h1
      cases n <;> simp only [ndUpon] at h1
      case value u => exact ⟨u, w₀, h₀, by rw [hr]⟩
      case skip => exact ⟨undef, w₀, h₀, by rw [hr]⟩
      case enter f args =>
        obtain ⟨e, w'', fr, ⟨v, _, hv, _⟩, _⟩ := h1.2.1 []
        exact ⟨v, w₀, h₀, by rw [hr]; exact hv⟩
    | halt x w' => rw [hr] at h1; exact h1.elim
  · exact ⟨undef, by simp [hw]⟩

def wpAnyN (P : Program) (md : Region.Mode) (ops : Array Oper) (C : World → Prop) (S : FuncId → Array Value → Value → Prop) (Q : Act → Prop) : Nat → Array Bool → Act → Prop
  | 0, listed, a => Region.ready md ops listed = [] ∧ Q a
  | fuel + 1, listed, a =>
    (Region.ready md ops listed = [] → Q a) ∧
    ∀ i ∈ Region.ready md ops listed, ∀ o, ops[i]? = some o → okAt P ops C S o a ∧ ∀ v, valAt P ops C S o a v → wpAnyN P md ops C S Q fuel (listed.setIfInBounds i true) (a.put o.dst v)

theorem keep_apart {oi oj : Oper} {v : Value} (hap : oi.apart ops oj = true) (hsj : ∀ cs b, oj.op ≠ .select cs b) (a : Act) :
    execOp (a.put oi.dst v).eval oj = execOp a.eval oj ∧ Region.wanted oj (yielded ops (a.put oi.dst v).tmps) = Region.wanted oj (yielded ops a.tmps) := by
  obtain ⟨h1, _, _⟩ := Oper.apart_spec hap
  exact ⟨execOp_put oj hsj a oi.dst v h1, wanted_put oj a oi.dst v h1⟩
theorem keep_apart' {oi oj : Oper} {v : Value} (hap : oi.apart ops oj = true) (hsi : ∀ cs b, oi.op ≠ .select cs b) (a : Act) :
    execOp (a.put oj.dst v).eval oi = execOp a.eval oi ∧ Region.wanted oi (yielded ops (a.put oj.dst v).tmps) = Region.wanted oi (yielded ops a.tmps) := by
  obtain ⟨_, _, h3⟩ := Oper.apart_spec hap
  exact ⟨execOp_put oi hsi a oj.dst v h3, wanted_put oi a oj.dst v h3⟩

theorem wpAnyN_first {w₀ : World} (h₀ : C w₀) {Q : Act → Prop} {i : Nat} {oi : Oper} (hi : ops[i]? = some oi) (hsel : ∀ (j : Nat) (o : Oper) cs b, ops[j]? = some o → o.op ≠ .select cs b) :
    ∀ (fuel : Nat) (listed : Array Bool) (a : Act),
      (∀ j oj, ops[j]? = some oj → j ≠ i → listed.getD j true = false → (∀ e ∈ oj.after, Region.binds md e = true → e.on ≠ i) → oi.apart ops oj = true) →
      i ∈ Region.ready md ops listed → okAt P ops C S oi a →
      (∀ v, valAt P ops C S oi a v → wpAnyN P md ops C S Q fuel (listed.setIfInBounds i true) (a.put oi.dst v)) → wpAnyN P md ops C S Q (fuel + 1) listed a := by
  intro fuel
  induction fuel with
  | zero =>
    intro listed a _ hr hok H
    refine ⟨fun h => (by rw [h] at hr; cases hr), fun j hj o ho => ?_⟩
    by_cases hji : j = i
    · subst hji
      rw [hi] at ho
      cases ho
      exact ⟨hok, H⟩
    · obtain ⟨v, hv⟩ := valAt_some h₀ hok
      have h1 := ready_mono hj hji
      rw [(H v hv).1] at h1
      cases h1
  | succ fuel ih =>
    intro listed a hfree hr hok H
    refine ⟨fun h => (by rw [h] at hr; cases hr), fun j hj oj hoj => ?_⟩
    by_cases hji : j = i
    · subst hji
      rw [hi] at hoj
      cases hoj
      exact ⟨hok, H⟩
    · obtain ⟨hjun, oj', hoj', hall⟩ := mem_ready.1 hj
      rw [hoj] at hoj'
      cases hoj'
      have hnot : ∀ e ∈ oj.after, Region.binds md e = true → e.on ≠ i := fun e he hb heq => by
        have h1 := hall e he hb
        have h0 := (mem_ready.1 hr).1
        rw [heq] at h1
        rcases Nat.lt_or_ge i listed.size with h' | h'
        · simp [h'] at h0 h1; rw [h0] at h1; cases h1
        · simp [Array.getElem?_eq_none h'] at h1
      have hap := hfree j oj hoj hji hjun hnot
      have hsi := fun cs b => hsel i oi cs b hi
      have hsj := fun cs b => hsel j oj cs b hoj
      have hcomm := (Oper.apart_spec hap).2.1
      obtain ⟨v₀, hv₀⟩ := valAt_some h₀ hok
      have step : ∀ v, valAt P ops C S oi a v → okAt P ops C S oj a ∧ ∀ u, valAt P ops C S oj a u → wpAnyN P md ops C S Q fuel ((listed.setIfInBounds i true).setIfInBounds j true) ((a.put oi.dst v).put oj.dst u) := by
        intro v hv
        have h1 := (H v hv).2 j (ready_mono hj hji) oj hoj
        obtain ⟨he, hw⟩ := keep_apart (v := v) hap hsj a
        unfold okAt valAt at h1 ⊢
        rw [he, hw] at h1
        exact h1
      refine ⟨(step v₀ hv₀).1, fun u hu => ?_⟩
      obtain ⟨he, hw⟩ := keep_apart' (v := u) hap hsi a
      refine ih (listed.setIfInBounds j true) (a.put oj.dst u) ?_ (ready_mono hr (Ne.symm hji)) ?_ ?_
      · intro k ok hk hki hun hno
        refine hfree k ok hk hki ?_ hno
        by_cases hjk : j = k
        · subst hjk; exact hjun
        · rw [getD_set_ne true hjk] at hun; exact hun
      · unfold okAt at hok ⊢
        rw [he, hw]
        exact hok
      · intro v hv
        have hv' : valAt P ops C S oi a v := by
          unfold valAt at hv ⊢
          rw [he, hw] at hv
          exact hv
        rw [Array.setIfInBounds_comm _ _ hji, ← Act.put_comm a v u hcomm]
        exact (step v hv').2 u hu

theorem wpAnyN_lex {w₀ : World} (h₀ : C w₀) {Q : Act → Prop} (hs : Region.noSelect ops = true) : ∀ (l : List Oper) (k : Nat) (listed : Array Bool) (a : Act), (∀ j, l[j]? = ops[k + j]?) →
    Region.lexFrom md ops l.length k listed = true → wpND P ops C S Q l a → wpAnyN P md ops C S Q l.length listed a
  | [], _, _, _, _, hB, h => ⟨by simpa [Region.lexFrom] using hB, h⟩
  | o :: l, k, listed, a, hl, hB, h => by
    have h0 : ops[k]? = some o := by simpa using (hl 0).symm
    simp only [List.length_cons, Region.lexFrom, Bool.and_eq_true] at hB
    obtain ⟨⟨hr, hf⟩, hB'⟩ := hB
    have hnext := fun a => wpAnyN_lex h₀ (Q := Q) hs l (k + 1) (listed.setIfInBounds k true) a (fun j => by have := hl (j + 1); simpa [Nat.add_assoc, Nat.add_comm 1 j] using this) hB'
    have hsplit : okAt P ops C S o a ∧ ∀ v, valAt P ops C S o a v → wpND P ops C S Q l (a.put o.dst v) := by
      unfold okAt valAt
      unfold wpND at h
      by_cases hw : Region.wanted o (yielded ops a.tmps) = true
      · simp only [hw, if_true] at h ⊢
        have h2 := nd_split h
        exact ⟨fun _ => h2.1, h2.2⟩
      · simp only [hw] at h ⊢
        exact ⟨fun x => by simp at x, fun v hv => by
          have : v = undef := by simpa using hv
          subst this
          exact h⟩
    exact wpAnyN_first h₀ h0 (Region.noSelect_spec hs) l.length listed a (Region.free_spec h0 hf) (by simpa using hr) hsplit.1 (fun v hv => hnext _ (hsplit.2 v hv))

theorem wpAny_of_nd {Q : Act → Prop} {Q' : Exit → Act → World → Prop} (hQ : ∀ a w, C w → Q a → Q' .normal a w) : ∀ (fuel : Nat) (listed : Array Bool) (a : Act) (w : World), C w →
    wpAnyN P md ops C S Q fuel listed a → wpAny P md ops Q' fuel listed a w
  | 0, _, _, _, hw, h => ⟨h.1, hQ _ _ hw h.2⟩
  | fuel + 1, listed, a, w, hC, h => by
    refine ⟨fun h0 => hQ _ _ hC (h.1 h0), fun i hi => ?_⟩
    obtain ⟨_, o, ho, _⟩ := mem_ready.1 hi
    obtain ⟨hok, hval⟩ := h.2 i hi o ho
    unfold wpOp
    simp only [ho]
    by_cases hw : Region.wanted o (yielded ops a.tmps) = true
    · simp only [hw, if_true]
      refine .inl ?_
      have h1 := hok hw w hC
      have h2 : ∀ v, reach P C S (execOp a.eval o) v → wpAnyN P md ops C S Q fuel (listed.setIfInBounds i true) (a.put o.dst v) := fun v hv => hval v (by unfold valAt; simp only [hw, if_true]; exact hv)
      unfold Oper.wp
      cases hr : (execOp a.eval o).run P w with
      | ok n w' =>
        rw [hr] at h1
        cases n <;> simp only [ndUpon] at h1 <;> simp only [Oper.upon]
        case value u => exact wpAny_of_nd hQ fuel _ _ _ h1.1 (h2 u ⟨w, hC, by rw [hr]⟩)
        case skip => exact wpAny_of_nd hQ fuel _ _ _ h1.1 (h2 undef ⟨w, hC, by rw [hr]⟩)
        case enter f args =>
          refine h1.2.1.mono ?_
          rintro e w'' ⟨v, rfl, hv, hCw⟩
          exact wpAny_of_nd hQ fuel _ _ _ hCw (h2 v ⟨w, hC, by rw [hr]; exact hv⟩)
      | halt x w' => rw [hr] at h1; exact h1.elim
    · simp only [hw]
      exact wpAny_of_nd hQ fuel _ _ _ hC (hval undef (by unfold valAt; simp [hw]))

/-- One walk of the text's order serves every order. -/
theorem wp_region_nd (C : World → Prop) (S : FuncId → Array Value → Value → Prop) {id : Nat} {Q : Exit → Act → World → Prop} {a : Act} {w : World} {l : List Oper} (hm : P.follows .mixedOrders = true) (hB : Region.lexB .any l.toArray = true) (hC : C w.drew)
    (h : wpND P l.toArray C S (fun a' => ∀ w', C w' → Q .normal a' w') l a) : (Code.region id l.toArray true).wp P Q a w := by
  simp only [Region.lexB, Bool.and_eq_true] at hB
  refine wp_region_any hm (wpAny_of_nd (S := S) (Q := fun a' => ∀ w', C w' → Q .normal a' w') (fun _ w' hw' h => h w' hw') _ _ _ _ hC ?_)
  have := wpAnyN_lex (P := P) (C := C) (S := S) (md := .any) (w₀ := w.drew) hC hB.1 l 0 (Array.replicate l.toArray.size false) a (by simp) (by simpa using hB.2) h
  simpa using this
end
/-- the class 'w after some draws' -/
def Dr (w w' : World) : Prop := ∃ n, w' = w.drewN n
theorem Dr.drewN (w : World) (n : Nat) : Dr w (w.drewN n) := ⟨n, rfl⟩
theorem Dr.rule (w : World) (n : Nat) : Dr w (w.drewN n) = True := eq_true (Dr.drewN w n)
theorem Dr.rule1 (w : World) (n m : Nat) : Dr (w.drewN n) (w.drewN (n + m)) = True := eq_true ⟨m, by rw [World.drewN_drewN]⟩
theorem Dr.rule2 (w : World) (n m j : Nat) : Dr (w.drewN n) (w.drewN (n + m + j)) = True := eq_true ⟨m + j, by rw [World.drewN_drewN, Nat.add_assoc]⟩
theorem Dr.rule3 (w : World) : Dr w w = True := eq_true ⟨0, rfl⟩
attribute [go_sem] Dr.rule Dr.rule1 Dr.rule2 Dr.rule3 ndUpon
theorem nd_dr {P : Program} {S : FuncId → Array Value → Value → Prop} {o : Oper} {a : Act} {K : Act → Prop} {w : World}
    (h : ∀ n, ndUpon P (Dr w) S (fun v => K (a.put o.dst v)) ((execOp a.eval o).run P (w.drewN n))) : nd P (Dr w) S o a K := by
  rintro _ ⟨n, rfl⟩
  exact h n
theorem wp_region_dr (S : FuncId → Array Value → Value → Prop) {P : Program} {id : Nat} {Q : Exit → Act → World → Prop} {a : Act} {w : World} {l : List Oper} (hm : P.follows .mixedOrders = true) (hB : Region.lexB .any l.toArray = true)
    (h : wpND P l.toArray (Dr w) S (fun a' => ∀ n, Q .normal a' (w.drewN n)) l a) : (Code.region id l.toArray true).wp P Q a w := by
  refine wp_region_nd (Dr w) S hm hB ⟨1, rfl⟩ ?_
  have e : (fun a' => ∀ w', Dr w w' → Q .normal a' w') = fun a' => ∀ n, Q .normal a' (w.drewN n) := by
    funext a'
    exact propext ⟨fun h n => h _ ⟨n, rfl⟩, fun h w' ⟨n, hn⟩ => hn ▸ h n⟩
  rw [e]
  exact h
/-- the class 'w with more blocks behind it' -/
theorem wp_region_bw (S : FuncId → Array Value → Value → Prop) {P : Program} {id : Nat} {Q : Exit → Act → World → Prop} {a : Act} {w : World} {l : List Oper} (hm : P.follows .mixedOrders = true) (hB : Region.lexB .any l.toArray = true)
    (h : wpND P l.toArray (Below w.heap.size w) S (fun a' => ∀ w', Below w.heap.size w w' → Q .normal a' w') l a) : (Code.region id l.toArray true).wp P Q a w :=
  wp_region_nd (Below w.heap.size w) S hm hB (Below.drew (Below.refl _ _)) h
theorem nd_bw {P : Program} {S : FuncId → Array Value → Value → Prop} {o : Oper} {a : Act} {K : Act → Prop} {w : World}
    (h : ∀ w', Below w.heap.size w w' → (∀ b o, b < w.heap.size → w'.cell? ⟨b, o, none⟩ = w.cell? ⟨b, o, none⟩) → ndUpon P (Below w.heap.size w) S (fun v => K (a.put o.dst v)) ((execOp a.eval o).run P w')) : nd P (Below w.heap.size w) S o a K := by
  intro w' hw
  exact h w' hw (fun b o hb => hw.cell (p := ⟨b, o, none⟩) hb)
@[go_sem] theorem below_drewN_iff (B : Nat) (a w : World) (n : Nat) : Below B a (w.drewN n) = Below B a w :=
  propext ⟨fun h => ⟨h.os, h.tape, h.output, h.size, h.block⟩, fun h => ⟨h.os, h.tape, h.output, h.size, h.block⟩⟩
end Go.Proofs.Ytlafjmghfnlaoab
