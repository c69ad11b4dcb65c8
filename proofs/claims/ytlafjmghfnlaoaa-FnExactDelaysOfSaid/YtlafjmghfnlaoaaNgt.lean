/-
  Regions that draw their order, make memory and end in a forced tail. No program is named here.
-/
import Derived.Test.YtlafjmghfnlaoaaNg
import Derived.StillTail
namespace Go.Proofs.Ytlafjmghfnlaoaa
open Go Go.RowKit

section
variable {P : Program} {ops : Array Oper} {md : Region.Mode} {W : World} {S : CallRel}

def wpAnyGT (P : Program) (md : Region.Mode) (ops : Array Oper) (W : World) (S : CallRel) (n : Nat) (L : Array Bool → Act → Facts → Prop) : Nat → Array Bool → Act → Facts → Prop
  | 0, listed, a, Γ => realG W Γ → L listed a Γ
  | f + 1, listed, a, Γ => realG W Γ →
    Region.ready md ops listed ≠ [] ∧ ∀ i ∈ Region.ready md ops listed, i < n ∧ ∀ o, ops[i]? = some o → okG P ops W S o a Γ ∧ ∀ v, valG P ops W S o a Γ v → wpAnyGT P md ops W S n L f (listed.setIfInBounds i true) (a.put o.dst v) (upd Γ o.dst (canG P ops W S o a Γ v))
theorem wpAnyGT_real {n : Nat} {L : Array Bool → Act → Facts → Prop} {fuel : Nat} {listed : Array Bool} {a : Act} {Γ : Facts} (h : realG W Γ → wpAnyGT P md ops W S n L fuel listed a Γ) : wpAnyGT P md ops W S n L fuel listed a Γ := by
  cases fuel <;> exact fun hr => h hr hr

theorem wpAnyGT_first {n i : Nat} {oi : Oper} {L : Array Bool → Act → Facts → Prop} (hi : ops[i]? = some oi) (hsel : ∀ (j : Nat) (o : Oper) cs b, ops[j]? = some o → o.op ≠ .select cs b) (hd : distinctG ops)
    (hs : Region.sinkB md ops n = true) (hc : Region.chainB md ops n = true) (hn : n < ops.size) (hin : i < n)
    (hdone : ∀ listed a Γ, L listed a Γ → ∀ j ∈ Region.ready md ops listed, n ≤ j) :
    ∀ (fuel : Nat) (listed : Array Bool) (a : Act) (Γ : Facts), HeadInv md ops n listed → Pers W Γ → freshG ops listed Γ →
      (∀ j oj, ops[j]? = some oj → j ≠ i → listed.getD j true = false → (∀ e ∈ oj.after, Region.binds md e = true → e.on ≠ i) → oi.apart ops oj = true) →
      i ∈ Region.ready md ops listed → okG P ops W S oi a Γ →
      (∀ v, valG P ops W S oi a Γ v → wpAnyGT P md ops W S n L fuel (listed.setIfInBounds i true) (a.put oi.dst v) (upd Γ oi.dst (canG P ops W S oi a Γ v))) → wpAnyGT P md ops W S n L (fuel + 1) listed a Γ := by
  intro fuel
  induction fuel with
  | zero =>
    intro listed a Γ inv hP hfr _ hr hok H hreal
    have hun := (mem_ready.1 hr).1
    refine ⟨fun h => (by rw [h] at hr; cases hr), fun j hj => ?_⟩
    have hjn : j < n := by
      rcases Nat.lt_or_ge j n with h | h
      · exact h
      · exact absurd hj (tail_waits hs hc hn inv _ i rfl hin hun j h)
    refine ⟨hjn, fun o ho => ?_⟩
    by_cases hji : j = i
    · subst hji
      rw [hi] at ho
      cases ho
      exact ⟨hok, H⟩
    · obtain ⟨v, hv, hre⟩ := realG_next hP hreal hok
      have := hdone _ _ _ (H v hv hre) j (ready_mono hj hji)
      omega
  | succ fuel ih =>
    intro listed a Γ inv hP hfr hfree hr hok H hreal
    have hun := (mem_ready.1 hr).1
    refine ⟨fun h => (by rw [h] at hr; cases hr), fun j hj => ?_⟩
    have hjn : j < n := by
      rcases Nat.lt_or_ge j n with h | h
      · exact h
      · exact absurd hj (tail_waits hs hc hn inv _ i rfl hin hun j h)
    refine ⟨hjn, fun oj hoj => ?_⟩
    by_cases hji : j = i
    · subst hji
      rw [hi] at hoj
      cases hoj
      exact ⟨hok, H⟩
    · obtain ⟨hjun, oj', hoj', hall⟩ := mem_ready.1 hj
      rw [hoj] at hoj'
      cases hoj'
      have hnot : ∀ e ∈ oj.after, Region.binds md e = true → e.on ≠ i := fun e he hb heq => by
        have h1 := hall e he hb
        rw [heq, getD_both hun] at h1
        cases h1
      have hap := Oper.apart_spec (hfree j oj hoj hji hjun hnot)
      have hsi := fun cs b => hsel i oi cs b hi
      have hsj := fun cs b => hsel j oj cs b hoj
      have step : ∀ v, valG P ops W S oi a Γ v → realG W (upd Γ oi.dst (canG P ops W S oi a Γ v)) → okG P ops W S oj a Γ ∧ ∀ u, valG P ops W S oj a Γ u →
          wpAnyGT P md ops W S n L fuel ((listed.setIfInBounds i true).setIfInBounds j true) ((a.put oi.dst v).put oj.dst u) (upd (upd Γ oi.dst (canG P ops W S oi a Γ v)) oj.dst (canG P ops W S oj a Γ u)) := by
        intro v hv hre
        have h1 := ((H v hv hre).2 j (ready_mono hj hji)).2 oj hoj
        obtain ⟨e1, e2, e3⟩ := indep (P := P) (W := W) (S := S) (v := v) (ψ := canG P ops W S oi a Γ v) (Γ := Γ) hap.1 hsj a
        rw [e1, e2, e3] at h1
        exact h1
      obtain ⟨v₀, hv₀, hre₀⟩ := realG_next hP hreal hok
      refine ⟨(step v₀ hv₀ hre₀).1, fun u hu => ?_⟩
      obtain ⟨e1, e2, e3⟩ := indep (P := P) (W := W) (S := S) (v := u) (ψ := canG P ops W S oj a Γ u) (Γ := Γ) hap.2.2 hsi a
      refine ih (listed.setIfInBounds j true) (a.put oj.dst u) _ (inv.set hj hjn) (hP.upd_can u) (hfr.take hd hoj (ready_lt hj) _) ?_ (ready_mono hr (Ne.symm hji)) (by rw [e1]; exact hok) ?_
      · intro k ok hk hki hun hno
        refine hfree k ok hk hki ?_ hno
        by_cases hjk : j = k
        · subst hjk; exact hjun
        · rw [getD_set_ne true hjk] at hun; exact hun
      · intro v hv
        rw [e2] at hv
        rw [e3, Array.setIfInBounds_comm _ _ hji, ← Act.put_comm a v u hap.2.1, ← upd_comm hap.2.1]
        refine wpAnyGT_real fun hre => (step v hv ?_).2 u hu
        obtain ⟨w, hw, hΓ⟩ := hre
        refine ⟨w, hw, fun t => ?_⟩
        have ht := hΓ t
        unfold upd at ht ⊢
        by_cases e : oi.dst = some t
        · have hne : oj.dst ≠ some t := hap.2.1 t e
          simpa only [e, hne, if_true, if_false] using ht
        · by_cases e' : oj.dst = some t
          · simp only [e, if_false]
            exact hfr j oj hoj hjun t e' w
          · simpa only [e, e', if_false] using ht

theorem wpAnyGT_lex {n g : Nat} {Lq : Act → Facts → Prop} (hsel : Region.noSelect ops = true) (hd : distinctG ops) (hs : Region.sinkB md ops n = true) (hc : Region.chainB md ops n = true) (hn : n < ops.size) :
    ∀ (l : List Oper) (k : Nat) (listed : Array Bool) (a : Act) (Γ : Facts), (∀ j, j < l.length → l[j]? = ops[k + j]?) → k + l.length = n → HeadInv md ops n listed → Pers W Γ → freshG ops listed Γ →
    Region.lexHead md ops g l.length k listed = true → wpG P ops W S Lq l a Γ →
    wpAnyGT P md ops W S n (fun listed' a' Γ' => Region.seqB md ops g n listed' = true ∧ Lq a' Γ') l.length listed a Γ
  | [], k, listed, a, Γ, _, hk, _, _, _, hB, h => by
    have : k = n := by simpa using hk
    subst this
    exact fun _ => ⟨by simpa [Region.lexHead] using hB, h⟩
  | o :: l, k, listed, a, Γ, hl, hk, inv, hP, hfr, hB, h => by
    have h0 : ops[k]? = some o := by simpa using (hl 0 (by simp)).symm
    simp only [List.length_cons, Region.lexHead, Bool.and_eq_true] at hB
    obtain ⟨⟨hr, hf⟩, hB'⟩ := hB
    have hkn : k < n := by simp only [List.length_cons] at hk; omega
    have hr' : k ∈ Region.ready md ops listed := by simpa using hr
    exact wpAnyGT_first h0 (Region.noSelect_spec hsel) hd hs hc hn hkn (fun listed' a' Γ' hL => seqB_ready hL.1) l.length listed a Γ inv hP hfr (Region.free_spec h0 hf) hr' h.1 (fun v hv =>
      wpAnyGT_lex hsel hd hs hc hn l (k + 1) _ _ _ (fun j hj => by have := hl (j + 1) (by simp; omega); simpa [Nat.add_assoc, Nat.add_comm 1 j] using this) (by simp only [List.length_cons] at hk; omega) (inv.set hr' hkn) (hP.upd_can v) (hfr.take hd h0 (ready_lt hr') _) hB' (h.2 v hv))

theorem wpAny_of_gt {n g : Nat} {L : Array Bool → Act → Facts → Prop} {Q' : Exit → Act → World → Prop} (hL : ∀ listed a Γ w, Gr W w → (∀ t, Γ t w) → L listed a Γ → wpAny P md ops Q' g listed a w) : ∀ (fuel : Nat) (listed : Array Bool) (a : Act) (Γ : Facts) (w : World), Gr W w → (∀ t, Γ t w) → Pers W Γ →
    wpAnyGT P md ops W S n L fuel listed a Γ → wpAny P md ops Q' (fuel + g) listed a w
  | 0, _, _, _, w, hw, hΓ, _, h => by rw [Nat.zero_add]; exact hL _ _ _ _ hw hΓ (h ⟨w, hw, hΓ⟩)
  | fuel + 1, listed, a, Γ, w, hW, hΓ, hP, h => by
    have h := h ⟨w, hW, hΓ⟩
    rw [show fuel + 1 + g = (fuel + g) + 1 by omega]
    refine ⟨fun h0 => absurd h0 h.1, fun i hi => ?_⟩
    obtain ⟨_, o, ho, _⟩ := mem_ready.1 hi
    obtain ⟨hok, hval⟩ := (h.2 i hi).2 o ho
    unfold wpOp
    simp only [ho]
    by_cases hw : Region.wanted o (yielded ops a.tmps) = true
    · simp only [hw, if_true]
      refine .inl ?_
      have h1 := hok hw w hW (fun t _ => hΓ t)
      have next : ∀ v w', Gr w w' → gRuns P S (execOp a.eval o) w v w' → wpAny P md ops Q' (fuel + g) (listed.setIfInBounds i true) (a.put o.dst v) w' := by
        intro v w' hg hr
        have hv : valG P ops W S o a Γ v := by unfold valG; simp only [hw, if_true]; exact ⟨w, w', hW, fun t _ => hΓ t, hr⟩
        refine wpAny_of_gt hL fuel _ _ _ w' (hW.trans hg) (fun t => ?_) (hP.upd_can v) (hval v hv)
        unfold upd
        split
        · exact fun _ => ⟨w, w', hW, fun t _ => hΓ t, hr, Gr.refl _⟩
        · exact hP t w w' hW hg (hΓ t)
      unfold Oper.wp
      unfold gRuns at next
      cases hr : (execOp a.eval o).run P w with
      | ok n w' =>
        rw [hr] at h1
        rw [hr] at next
        cases n <;> simp only [gUpon] at h1 <;> simp only [Oper.upon]
        case value u => exact next u w' h1.1 ⟨rfl, rfl⟩
        case skip => exact next undef w' h1.1 ⟨rfl, rfl⟩
        case enter f args =>
          refine h1.2.1.mono ?_
          rintro e w'' ⟨v, rfl, hv, hg⟩
          exact next v w'' (h1.1.trans hg) ⟨hv, hg⟩
      | halt x w' => rw [hr] at h1; exact h1.elim
    · simp only [hw]
      have hv : valG P ops W S o a Γ undef := by unfold valG; simp [hw]
      refine wpAny_of_gt hL fuel _ _ _ w hW (fun t => ?_) (hP.upd_can undef) (hval undef hv)
      unfold upd
      split
      · exact fun h => absurd h hw
      · exact hΓ t

theorem wp_region_gt (n : Nat) (S : CallRel) {id : Nat} {Q : Exit → Act → World → Prop} {a : Act} {w : World} {l l1 l2 : List Oper} (hm : P.follows .mixedOrders = true) (hB : Region.lexTailB .any l.toArray n = true) (hD : distinctB l = true) (e1 : l.take n = l1) (e2 : l.drop n = l2)
    (h : wpG P l.toArray w S (fun a' Γ => ∀ w', Gr w w' → (∀ t, Γ t w') → wpList P l.toArray Q l2 a' w') l1 a (fun _ _ => True)) : (Code.region id l.toArray true).wp P Q a w := by
  subst e1
  subst e2
  simp only [Region.lexTailB, Bool.and_eq_true, decide_eq_true_eq] at hB
  obtain ⟨⟨⟨⟨hsel, hn⟩, hs⟩, hc⟩, hlex⟩ := hB
  have hn' : n < l.length := by simpa using hn
  have htl : (l.take n).length = n := by simp; omega
  have hdl : (l.drop n).length = l.toArray.size - n := by simp
  have hP : Pers w (fun _ _ => True) := fun _ _ _ _ _ _ => trivial
  have inv0 : HeadInv .any l.toArray n (Array.replicate l.toArray.size false) :=
    ⟨by simp, fun j oj _ hl => (by rw [getD_replicate_false] at hl; cases hl), fun t _ ht => getD_in (by simpa using ht) (getD_replicate_false _ _)⟩
  have H := wpAnyGT_lex (P := P) (W := w) (S := S) (md := .any) (g := l.toArray.size - n) hsel (distinctB_ok hD) hs hc hn (l.take n) 0 _ a (fun _ _ => True) (fun j hj => by
    have hj' : j < n := by rw [htl] at hj; exact hj
    simp [hj']) (by simpa using htl) inv0 hP (fun _ _ _ _ _ _ _ => trivial) (by rw [htl]; exact hlex) h
  refine wp_region_any hm ?_
  have := wpAny_of_gt (Q' := Q) (g := l.toArray.size - n) (fun listed a' Γ w' hC' hΓ hL => by
    have := wpAny_of_seq (md := .any) (Q' := Q) (l.drop n) n listed a' w' (fun j => by simp [List.getElem?_drop]) (by rw [hdl]; exact hL.1) (hL.2 w' hC' hΓ)
    rwa [hdl] at this) _ _ _ _ _ (Gr.drew (Gr.refl _)) (fun _ => trivial) hP H
  rw [htl, show n + (l.toArray.size - n) = l.toArray.size by omega] at this
  exact this
theorem gt_nil {post : Act → World → Prop} {a : Act} {Γ : Facts} (h : ∀ w', Gr W w' → (∀ t, Γ t w') → post a w') : wpG P ops W S (EndG W post) [] a Γ := fun w' hw hΓ => h w' hw hΓ
theorem wp_region_gt' (n : Nat) (S : CallRel) {id : Nat} {Q : Exit → Act → World → Prop} {a : Act} {w : World} {l l1 l2 : List Oper} (hm : P.follows .mixedOrders = true) (hB : Region.lexTailB .any l.toArray n = true) (hD : distinctB l = true) (e1 : l.take n = l1) (e2 : l.drop n = l2)
    (h : wpG P l.toArray w S (EndG w (fun a' w' => wpList P l.toArray Q l2 a' w')) l1 a (fun _ _ => True)) : (Code.region id l.toArray true).wp P Q a w :=
  wp_region_gt n S hm hB hD e1 e2 h
end
end Go.Proofs.Ytlafjmghfnlaoaa
