/-
  Regions that draw their order and end in a forced tail: the head walked once with values that are not determined, then the tail as it stands. No program is named here.
-/
import Derived.Test.YtlafjmghfnlaoaaNd
import Derived.StillTail
namespace Go.Proofs.Ytlafjmghfnlaoaa
open Go Go.RowKit

section
variable {P : Program} {ops : Array Oper} {md : Region.Mode} {C : World → Prop} {S : FuncId → Array Value → Value → Prop}

def wpAnyT (P : Program) (md : Region.Mode) (ops : Array Oper) (C : World → Prop) (S : FuncId → Array Value → Value → Prop) (n : Nat) (L : Array Bool → Act → Prop) : Nat → Array Bool → Act → Prop
  | 0, listed, a => L listed a
  | f + 1, listed, a =>
    Region.ready md ops listed ≠ [] ∧ ∀ i ∈ Region.ready md ops listed, i < n ∧ ∀ o, ops[i]? = some o → okAt P ops C S o a ∧ ∀ v, valAt P ops C S o a v → wpAnyT P md ops C S n L f (listed.setIfInBounds i true) (a.put o.dst v)

theorem wpAnyT_first {w₀ : World} (h₀ : C w₀) {n i : Nat} {oi : Oper} {L : Array Bool → Act → Prop} (hi : ops[i]? = some oi) (hsel : ∀ (j : Nat) (o : Oper) cs b, ops[j]? = some o → o.op ≠ .select cs b)
    (hs : Region.sinkB md ops n = true) (hc : Region.chainB md ops n = true) (hn : n < ops.size) (hin : i < n)
    (hdone : ∀ listed a, L listed a → ∀ j ∈ Region.ready md ops listed, n ≤ j) :
    ∀ (f : Nat) (listed : Array Bool) (a : Act), HeadInv md ops n listed →
      (∀ j oj, ops[j]? = some oj → j ≠ i → listed.getD j true = false → (∀ e ∈ oj.after, Region.binds md e = true → e.on ≠ i) → oi.apart ops oj = true) →
      i ∈ Region.ready md ops listed → okAt P ops C S oi a →
      (∀ v, valAt P ops C S oi a v → wpAnyT P md ops C S n L f (listed.setIfInBounds i true) (a.put oi.dst v)) → wpAnyT P md ops C S n L (f + 1) listed a := by
  intro f
  induction f with
  | zero =>
    intro listed a inv _ hr hok H
    have hun := (mem_ready.1 hr).1
    refine ⟨fun h => (by rw [h] at hr; cases hr), fun j hj => ?_⟩
    have hjn : j < n := by
      rcases Nat.lt_or_ge j n with h | h
      · exact h
      · exact absurd hj (tail_waits hs hc hn inv _ i rfl hin hun j h)
    refine ⟨hjn, fun o ho => ?_⟩
    by_cases hji : j = i
    · subst hji
      rw [hi] at ho
      cases ho
      exact ⟨hok, H⟩
    · obtain ⟨v, hv⟩ := valAt_some h₀ hok
      have := hdone _ _ (H v hv) j (ready_mono hj hji)
      omega
  | succ f ih =>
    intro listed a inv hfree hr hok H
    have hun := (mem_ready.1 hr).1
    refine ⟨fun h => (by rw [h] at hr; cases hr), fun j hj => ?_⟩
    have hjn : j < n := by
      rcases Nat.lt_or_ge j n with h | h
      · exact h
      · exact absurd hj (tail_waits hs hc hn inv _ i rfl hin hun j h)
    refine ⟨hjn, fun oj hoj => ?_⟩
    by_cases hji : j = i
    · subst hji
      rw [hi] at hoj
      cases hoj
      exact ⟨hok, H⟩
    · obtain ⟨hjun, oj', hoj', hall⟩ := mem_ready.1 hj
      rw [hoj] at hoj'
      cases hoj'
      have hnot : ∀ e ∈ oj.after, Region.binds md e = true → e.on ≠ i := fun e he hb heq => by
        have h1 := hall e he hb
        rw [heq, getD_both hun] at h1
        cases h1
      have hap := hfree j oj hoj hji hjun hnot
      have hsi := fun cs b => hsel i oi cs b hi
      have hsj := fun cs b => hsel j oj cs b hoj
      have hcomm := (Oper.apart_spec hap).2.1
      obtain ⟨v₀, hv₀⟩ := valAt_some h₀ hok
      have step : ∀ v, valAt P ops C S oi a v → okAt P ops C S oj a ∧ ∀ u, valAt P ops C S oj a u → wpAnyT P md ops C S n L f ((listed.setIfInBounds i true).setIfInBounds j true) ((a.put oi.dst v).put oj.dst u) := by
        intro v hv
        have h1 := ((H v hv).2 j (ready_mono hj hji)).2 oj hoj
        obtain ⟨he, hw⟩ := keep_apart (v := v) hap hsj a
        unfold okAt valAt at h1 ⊢
        rw [he, hw] at h1
        exact h1
      refine ⟨(step v₀ hv₀).1, fun u hu => ?_⟩
      obtain ⟨he, hw⟩ := keep_apart' (v := u) hap hsi a
      refine ih (listed.setIfInBounds j true) (a.put oj.dst u) (inv.set hj hjn) ?_ (ready_mono hr (Ne.symm hji)) ?_ ?_
      · intro k ok hk hki hun hno
        refine hfree k ok hk hki ?_ hno
        by_cases hjk : j = k
        · subst hjk; exact hjun
        · rw [getD_set_ne true hjk] at hun; exact hun
      · unfold okAt at hok ⊢
        rw [he, hw]
        exact hok
      · intro v hv
        have hv' : valAt P ops C S oi a v := by
          unfold valAt at hv ⊢
          rw [he, hw] at hv
          exact hv
        rw [Array.setIfInBounds_comm _ _ hji, ← Act.put_comm a v u hcomm]
        exact (step v hv').2 u hu

theorem wpAnyT_lex {w₀ : World} (h₀ : C w₀) {n g : Nat} {Lq : Act → Prop} (hsel : Region.noSelect ops = true) (hs : Region.sinkB md ops n = true) (hc : Region.chainB md ops n = true) (hn : n < ops.size) :
    ∀ (l : List Oper) (k : Nat) (listed : Array Bool) (a : Act), (∀ j, j < l.length → l[j]? = ops[k + j]?) → k + l.length = n → HeadInv md ops n listed →
    Region.lexHead md ops g l.length k listed = true → wpND P ops C S Lq l a →
    wpAnyT P md ops C S n (fun listed' a' => Region.seqB md ops g n listed' = true ∧ Lq a') l.length listed a
  | [], k, listed, a, _, hk, _, hB, h => by
    have : k = n := by simpa using hk
    subst this
    exact ⟨by simpa [Region.lexHead] using hB, h⟩
  | o :: l, k, listed, a, hl, hk, inv, hB, h => by
    have h0 : ops[k]? = some o := by simpa using (hl 0 (by simp)).symm
    simp only [List.length_cons, Region.lexHead, Bool.and_eq_true] at hB
    obtain ⟨⟨hr, hf⟩, hB'⟩ := hB
    have hkn : k < n := by simp only [List.length_cons] at hk; omega
    have hr' : k ∈ Region.ready md ops listed := by simpa using hr
    have hnext := fun a => wpAnyT_lex h₀ (g := g) (Lq := Lq) hsel hs hc hn l (k + 1) (listed.setIfInBounds k true) a (fun j hj => by have := hl (j + 1) (by simp; omega); simpa [Nat.add_assoc, Nat.add_comm 1 j] using this) (by simp only [List.length_cons] at hk; omega) (inv.set hr' hkn) hB'
    have hsplit : okAt P ops C S o a ∧ ∀ v, valAt P ops C S o a v → wpND P ops C S Lq l (a.put o.dst v) := by
      unfold okAt valAt
      unfold wpND at h
      by_cases hw : Region.wanted o (yielded ops a.tmps) = true
      · simp only [hw, if_true] at h ⊢
        have h2 := nd_split h
        exact ⟨fun _ => h2.1, h2.2⟩
      · simp only [hw] at h ⊢
        exact ⟨fun x => by simp at x, fun v hv => by
          have : v = undef := by simpa using hv
          subst this
          exact h⟩
    exact wpAnyT_first h₀ h0 (Region.noSelect_spec hsel) hs hc hn hkn (fun listed' a' hL => seqB_ready hL.1) l.length listed a inv (Region.free_spec h0 hf) hr' hsplit.1 (fun v hv => hnext _ (hsplit.2 v hv))

theorem wpAny_of_t {n g : Nat} {L : Array Bool → Act → Prop} {Q' : Exit → Act → World → Prop} (hL : ∀ listed a w, C w → L listed a → wpAny P md ops Q' g listed a w) : ∀ (f : Nat) (listed : Array Bool) (a : Act) (w : World), C w →
    wpAnyT P md ops C S n L f listed a → wpAny P md ops Q' (f + g) listed a w
  | 0, _, _, _, hw, h => by rw [Nat.zero_add]; exact hL _ _ _ hw h
  | f + 1, listed, a, w, hC, h => by
    rw [show f + 1 + g = (f + g) + 1 by omega]
    refine ⟨fun h0 => absurd h0 h.1, fun i hi => ?_⟩
    obtain ⟨_, o, ho, _⟩ := mem_ready.1 hi
    obtain ⟨hok, hval⟩ := (h.2 i hi).2 o ho
    unfold wpOp
    simp only [ho]
    by_cases hw : Region.wanted o (yielded ops a.tmps) = true
    · simp only [hw, if_true]
      refine .inl ?_
      have h1 := hok hw w hC
      have h2 : ∀ v, reach P C S (execOp a.eval o) v → wpAnyT P md ops C S n L f (listed.setIfInBounds i true) (a.put o.dst v) := fun v hv => hval v (by unfold valAt; simp only [hw, if_true]; exact hv)
      unfold Oper.wp
      cases hr : (execOp a.eval o).run P w with
      | ok n w' =>
        rw [hr] at h1
        cases n <;> simp only [ndUpon] at h1 <;> simp only [Oper.upon]
        case value u => exact wpAny_of_t hL f _ _ _ h1.1 (h2 u ⟨w, hC, by rw [hr]⟩)
        case skip => exact wpAny_of_t hL f _ _ _ h1.1 (h2 undef ⟨w, hC, by rw [hr]⟩)
        case enter fn args =>
          refine h1.2.1.mono ?_
          rintro e w'' ⟨v, rfl, hv, hCw⟩
          exact wpAny_of_t hL f _ _ _ hCw (h2 v ⟨w, hC, by rw [hr]; exact hv⟩)
      | halt x w' => rw [hr] at h1; exact h1.elim
    · simp only [hw]
      exact wpAny_of_t hL f _ _ _ hC (hval undef (by unfold valAt; simp [hw]))

theorem wp_region_nt (n : Nat) (C : World → Prop) (S : FuncId → Array Value → Value → Prop) {id : Nat} {Q : Exit → Act → World → Prop} {a : Act} {w : World} {l : List Oper} (hm : P.follows .mixedOrders = true) (hB : Region.lexTailB .any l.toArray n = true) (hC : C w.drew)
    (h : wpND P l.toArray C S (fun a' => ∀ w', C w' → wpList P l.toArray Q (l.drop n) a' w') (l.take n) a) : (Code.region id l.toArray true).wp P Q a w := by
  simp only [Region.lexTailB, Bool.and_eq_true, decide_eq_true_eq] at hB
  obtain ⟨⟨⟨⟨hsel, hn⟩, hs⟩, hc⟩, hlex⟩ := hB
  have hn' : n < l.length := by simpa using hn
  have htl : (l.take n).length = n := by simp; omega
  have hdl : (l.drop n).length = l.toArray.size - n := by simp
  have inv0 : HeadInv .any l.toArray n (Array.replicate l.toArray.size false) :=
    ⟨by simp, fun j oj _ hl => (by rw [getD_replicate_false] at hl; cases hl), fun t _ ht => getD_in (by simpa using ht) (getD_replicate_false _ _)⟩
  have H := wpAnyT_lex (md := .any) (g := l.toArray.size - n) hC hsel hs hc hn (l.take n) 0 _ a (fun j hj => by
    have hj' : j < n := by rw [htl] at hj; exact hj
    simp [hj']) (by simpa using htl) inv0 (by rw [htl]; exact hlex) h
  refine wp_region_any hm ?_
  have := wpAny_of_t (Q' := Q) (g := l.toArray.size - n) (fun listed a' w' hC' hL => by
    have := wpAny_of_seq (md := .any) (Q' := Q) (l.drop n) n listed a' w' (fun j => by simp [List.getElem?_drop]) (by rw [hdl]; exact hL.1) (hL.2 w' hC')
    rwa [hdl] at this) _ _ _ _ hC H
  rw [htl, show n + (l.toArray.size - n) = l.toArray.size by omega] at this
  exact this
theorem wp_region_tdr (n : Nat) (S : FuncId → Array Value → Value → Prop) {P : Program} {id : Nat} {Q : Exit → Act → World → Prop} {a : Act} {w : World} {l l1 l2 : List Oper} (hm : P.follows .mixedOrders = true) (hB : Region.lexTailB .any l.toArray n = true) (h1 : l.take n = l1) (h2 : l.drop n = l2)
    (h : wpND P l.toArray (Dr w) S (fun a' => ∀ m, wpList P l.toArray Q l2 a' (w.drewN m)) l1 a) : (Code.region id l.toArray true).wp P Q a w := by
  subst h1
  subst h2
  refine wp_region_nt n (Dr w) S hm hB ⟨1, rfl⟩ ?_
  have e : (fun a' => ∀ w', Dr w w' → wpList P l.toArray Q (l.drop n) a' w') = fun a' => ∀ m, wpList P l.toArray Q (l.drop n) a' (w.drewN m) := by
    funext a'
    exact propext ⟨fun h m => h _ ⟨m, rfl⟩, fun h w' ⟨m, hm⟩ => hm ▸ h m⟩
  rw [e]
  exact h
end
end Go.Proofs.Ytlafjmghfnlaoaa
