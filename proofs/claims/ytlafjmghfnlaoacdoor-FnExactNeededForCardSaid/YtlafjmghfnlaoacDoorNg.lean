/-
  Regions that draw their order, walked once in the order of the text, where operations and callees may make memory: the world grows, nothing that was there turns; what is known of a new block goes with the temporary that holds its address. No program is named here.
-/
import Derived.Test.YtlafjmghfnlaoacDoorNd
namespace Go.Proofs.YtlafjmghfnlaoacDoor
open Go Go.RowKit

/-- nothing that was there has turned -/
def Gr (w w' : World) : Prop := Below w.heap.size w w'
theorem Gr.refl (w : World) : Gr w w := Below.refl _ _
theorem Gr.trans {a b c : World} (h : Gr a b) (k : Gr b c) : Gr a c := Below.trans h (Below.mono k (Below.size h))
theorem Gr.drew {a b : World} (h : Gr a b) : Gr a b.drew := Below.drew h
theorem Gr.drewN {a b : World} (h : Gr a b) (n : Nat) : Gr a (b.drewN n) := ⟨h.os, h.tape, h.output, h.size, h.block⟩

abbrev Facts := Tmp → World → Prop
abbrev CallRel := FuncId → Array Value → World → Value → World → Prop

section
variable {P : Program} {ops : Array Oper} {md : Region.Mode} {W : World} {S : CallRel}

def gUpon (P : Program) (S : CallRel) (w : World) (K : Value → World → Prop) : Result Next → Prop
  | .ok (.value u) w' => Gr w w' ∧ K u w'
  | .ok .skip w' => Gr w w' ∧ K undef w'
  | .ok (.enter f args) w' => Gr w w' ∧ Calls P f args w' (fun e w'' => ∃ v, e = .returned v ∧ S f args w' v w'' ∧ Gr w' w'') ∧ ∀ v w'', S f args w' v w'' → Gr w' w'' → K v w''
  | _ => False
def gRuns (P : Program) (S : CallRel) (m : Sem Next) (w : World) (v : Value) (w₂ : World) : Prop :=
  match m.run P w with
  | .ok (.value u) w' => v = u ∧ w₂ = w'
  | .ok .skip w' => v = undef ∧ w₂ = w'
  | .ok (.enter f args) w' => S f args w' v w₂ ∧ Gr w' w₂
  | _ => False
theorem gUpon_split {K : Value → World → Prop} {m : Sem Next} {w : World} (h : gUpon P S w K (m.run P w)) : gUpon P S w (fun _ _ => True) (m.run P w) ∧ ∀ v w', gRuns P S m w v w' → Gr w w' ∧ K v w' := by
  unfold gRuns
  generalize m.run P w = r at *
  cases r with
  | ok n w1 =>
    cases n <;> simp only [gUpon] at h ⊢
    case value u => exact ⟨⟨h.1, trivial⟩, fun v w' ⟨e1, e2⟩ => by subst e1; subst e2; exact h⟩
    case skip => exact ⟨⟨h.1, trivial⟩, fun v w' ⟨e1, e2⟩ => by subst e1; subst e2; exact h⟩
    case enter f args => exact ⟨⟨h.1, h.2.1, fun _ _ _ _ => trivial⟩, fun v w' ⟨e1, e2⟩ => ⟨h.1.trans e2, h.2.2 v w' e1 e2⟩⟩
    all_goals exact h.elim
  | halt x w1 => exact h.elim

def factsAt (ops : Array Oper) (o : Oper) (Γ : Facts) (w : World) : Prop := ∀ t, t ∈ o.looksAt ops → Γ t w
def okG (P : Program) (ops : Array Oper) (W : World) (S : CallRel) (o : Oper) (a : Act) (Γ : Facts) : Prop :=
  Region.wanted o (yielded ops a.tmps) = true → ∀ w, Gr W w → factsAt ops o Γ w → gUpon P S w (fun _ _ => True) ((execOp a.eval o).run P w)
def valG (P : Program) (ops : Array Oper) (W : World) (S : CallRel) (o : Oper) (a : Act) (Γ : Facts) (v : Value) : Prop :=
  if Region.wanted o (yielded ops a.tmps) = true then ∃ w w', Gr W w ∧ factsAt ops o Γ w ∧ gRuns P S (execOp a.eval o) w v w' else v = undef
def canG (P : Program) (ops : Array Oper) (W : World) (S : CallRel) (o : Oper) (a : Act) (Γ : Facts) (v : Value) : World → Prop := fun w₂ =>
  Region.wanted o (yielded ops a.tmps) = true → ∃ w w', Gr W w ∧ factsAt ops o Γ w ∧ gRuns P S (execOp a.eval o) w v w' ∧ Gr w' w₂
def upd (Γ : Facts) (dst : Option Tmp) (ψ : World → Prop) : Facts := fun t => if dst = some t then ψ else Γ t

def wpG (P : Program) (ops : Array Oper) (W : World) (S : CallRel) (Q : Act → Facts → Prop) : List Oper → Act → Facts → Prop
  | [], a, Γ => Q a Γ
  | o :: rest, a, Γ => okG P ops W S o a Γ ∧ ∀ v, valG P ops W S o a Γ v → wpG P ops W S Q rest (a.put o.dst v) (upd Γ o.dst (canG P ops W S o a Γ v))

def realG (W : World) (Γ : Facts) : Prop := ∃ w, Gr W w ∧ ∀ t, Γ t w
def wpAnyG (P : Program) (md : Region.Mode) (ops : Array Oper) (W : World) (S : CallRel) (Q : Act → Facts → Prop) : Nat → Array Bool → Act → Facts → Prop
  | 0, listed, a, Γ => realG W Γ → Region.ready md ops listed = [] ∧ Q a Γ
  | fuel + 1, listed, a, Γ => realG W Γ →
    ((Region.ready md ops listed = [] → Q a Γ) ∧
    ∀ i ∈ Region.ready md ops listed, ∀ o, ops[i]? = some o → okG P ops W S o a Γ ∧ ∀ v, valG P ops W S o a Γ v → wpAnyG P md ops W S Q fuel (listed.setIfInBounds i true) (a.put o.dst v) (upd Γ o.dst (canG P ops W S o a Γ v)))
theorem wpAnyG_real {Q : Act → Facts → Prop} {fuel : Nat} {listed : Array Bool} {a : Act} {Γ : Facts} (h : realG W Γ → wpAnyG P md ops W S Q fuel listed a Γ) : wpAnyG P md ops W S Q fuel listed a Γ := by
  cases fuel <;> exact fun hr => h hr hr

theorem valG_some {a : Act} {o : Oper} {Γ : Facts} {w₀ : World} (hw : Gr W w₀) (hΓ : ∀ t, Γ t w₀) (h : okG P ops W S o a Γ) : ∃ v w', valG P ops W S o a Γ v ∧ Gr w₀ w' ∧ canG P ops W S o a Γ v w' := by
  unfold valG canG
  by_cases hwt : Region.wanted o (yielded ops a.tmps) = true
  · simp only [hwt, if_true]
    have h1 := h hwt w₀ hw (fun t _ => hΓ t)
    have key : ∃ v w', Gr w₀ w' ∧ gRuns P S (execOp a.eval o) w₀ v w' := by
      unfold gRuns
      cases hr : (execOp a.eval o).run P w₀ with
      | ok n w' =>
        rw [hr] at h1
        cases n <;> simp only [gUpon] at h1
        case value u => exact ⟨u, w', h1.1, rfl, rfl⟩
        case skip => exact ⟨undef, w', h1.1, rfl, rfl⟩
        case enter f args =>
          obtain ⟨e, w'', fr, ⟨v, _, hv, hg⟩, _⟩ := h1.2.1 []
          exact ⟨v, w'', h1.1.trans hg, hv, hg⟩
      | halt x w' => rw [hr] at h1; exact h1.elim
    obtain ⟨v, w', hg, hr⟩ := key
    exact ⟨v, w', ⟨w₀, w', hw, fun t _ => hΓ t, hr⟩, hg, fun _ => ⟨w₀, w', hw, fun t _ => hΓ t, hr, Gr.refl _⟩⟩
  · exact ⟨undef, w₀, by simp [hwt], Gr.refl _, fun h => absurd h hwt⟩

def Pers (W : World) (Γ : Facts) : Prop := ∀ t w w', Gr W w → Gr w w' → Γ t w → Γ t w'
theorem Pers.upd_can {o : Oper} {a : Act} {Γ : Facts} (h : Pers W Γ) (v : Value) : Pers W (upd Γ o.dst (canG P ops W S o a Γ v)) := by
  intro t w w' hW hg ht
  unfold upd at ht ⊢
  by_cases e : o.dst = some t
  · simp only [e, if_true] at ht ⊢
    intro hwt
    obtain ⟨w1, w2, h1, h2, h3, h4⟩ := ht hwt
    exact ⟨w1, w2, h1, h2, h3, h4.trans hg⟩
  · simp only [e, if_false] at ht ⊢
    exact h t w w' hW hg ht

theorem upd_comm {Γ : Facts} {x y : Option Tmp} {ψ φ : World → Prop} (h : ∀ d, x = some d → y ≠ some d) : upd (upd Γ x ψ) y φ = upd (upd Γ y φ) x ψ := by
  funext t w
  unfold upd
  by_cases hx : x = some t
  · have hy := h t hx
    simp [hx, hy]
  · by_cases hy : y = some t <;> simp [hx, hy]

theorem indep {oi oj : Oper} {v : Value} {ψ : World → Prop} {Γ : Facts} (hap : ∀ d, oi.dst = some d → d ∉ oj.looksAt ops) (hsj : ∀ cs b, oj.op ≠ .select cs b) (a : Act) :
    okG P ops W S oj (a.put oi.dst v) (upd Γ oi.dst ψ) = okG P ops W S oj a Γ ∧ valG P ops W S oj (a.put oi.dst v) (upd Γ oi.dst ψ) = valG P ops W S oj a Γ ∧ canG P ops W S oj (a.put oi.dst v) (upd Γ oi.dst ψ) = canG P ops W S oj a Γ := by
  have he := execOp_put (ops := ops) oj hsj a oi.dst v hap
  have hw := wanted_put (ops := ops) oj a oi.dst v hap
  have hf : factsAt ops oj (upd Γ oi.dst ψ) = factsAt ops oj Γ := by
    funext w
    unfold factsAt
    refine propext ⟨fun h t ht => ?_, fun h t ht => ?_⟩
    · have := h t ht
      unfold upd at this
      rwa [if_neg (fun e => hap t e ht)] at this
    · unfold upd
      rw [if_neg (fun e => hap t e ht)]
      exact h t ht
  refine ⟨?_, ?_, ?_⟩
  · unfold okG; rw [he, hw, hf]
  · funext u; unfold valG; rw [he, hw, hf]
  · funext u; unfold canG; rw [he, hw, hf]

def freshG (ops : Array Oper) (listed : Array Bool) (Γ : Facts) : Prop := ∀ (j : Nat) (oj : Oper), ops[j]? = some oj → listed.getD j true = false → ∀ d, oj.dst = some d → ∀ w, Γ d w
def distinctG (ops : Array Oper) : Prop := ∀ (i j : Nat) (oi oj : Oper), i ≠ j → ops[i]? = some oi → ops[j]? = some oj → ∀ d, oi.dst = some d → oj.dst ≠ some d
theorem freshG.take {listed : Array Bool} {Γ : Facts} (h : freshG ops listed Γ) (hd : distinctG ops) {i : Nat} {oi : Oper} (hi : ops[i]? = some oi) (hlt : i < listed.size) (ψ : World → Prop) : freshG ops (listed.setIfInBounds i true) (upd Γ oi.dst ψ) := by
  intro j oj hj hun d hdst w
  by_cases e : i = j
  · subst e
    simp [hlt] at hun
  · rw [getD_set_ne true e] at hun
    have hne : oi.dst ≠ some d := hd j i oj oi (Ne.symm e) hj hi d hdst
    unfold upd
    rw [if_neg hne]
    exact h j oj hj hun d hdst w

theorem realG_next {o : Oper} {a : Act} {Γ : Facts} (hP : Pers W Γ) (h : realG W Γ) (hok : okG P ops W S o a Γ) : ∃ v, valG P ops W S o a Γ v ∧ realG W (upd Γ o.dst (canG P ops W S o a Γ v)) := by
  obtain ⟨w₀, hw₀, hΓ⟩ := h
  obtain ⟨v, w', hv, hg, hc⟩ := valG_some hw₀ hΓ hok
  refine ⟨v, hv, w', hw₀.trans hg, fun t => ?_⟩
  unfold upd
  split
  · exact hc
  · exact hP t w₀ w' hw₀ hg (hΓ t)

theorem ready_lt {i : Nat} {listed : Array Bool} (h : i ∈ Region.ready md ops listed) : i < listed.size := by
  have h0 := (mem_ready.1 h).1
  rcases Nat.lt_or_ge i listed.size with h' | h'
  · exact h'
  · simp [Array.getElem?_eq_none h'] at h0

theorem wpAnyG_first {Q : Act → Facts → Prop} {i : Nat} {oi : Oper} (hi : ops[i]? = some oi) (hsel : ∀ (j : Nat) (o : Oper) cs b, ops[j]? = some o → o.op ≠ .select cs b) (hd : distinctG ops) :
    ∀ (fuel : Nat) (listed : Array Bool) (a : Act) (Γ : Facts), Pers W Γ → freshG ops listed Γ →
      (∀ j oj, ops[j]? = some oj → j ≠ i → listed.getD j true = false → (∀ e ∈ oj.after, Region.binds md e = true → e.on ≠ i) → oi.apart ops oj = true) →
      i ∈ Region.ready md ops listed → okG P ops W S oi a Γ →
      (∀ v, valG P ops W S oi a Γ v → wpAnyG P md ops W S Q fuel (listed.setIfInBounds i true) (a.put oi.dst v) (upd Γ oi.dst (canG P ops W S oi a Γ v))) → wpAnyG P md ops W S Q (fuel + 1) listed a Γ := by
  intro fuel
  induction fuel with
  | zero =>
    intro listed a Γ hP hfr _ hr hok H hreal
    refine ⟨fun h => (by rw [h] at hr; cases hr), fun j hj o ho => ?_⟩
    by_cases hji : j = i
    · subst hji
      rw [hi] at ho
      cases ho
      exact ⟨hok, H⟩
    · obtain ⟨v, hv, hre⟩ := realG_next hP hreal hok
      have h1 := ready_mono hj hji
      rw [(H v hv hre).1] at h1
      cases h1
  | succ fuel ih =>
    intro listed a Γ hP hfr hfree hr hok H hreal
    refine ⟨fun h => (by rw [h] at hr; cases hr), fun j hj oj hoj => ?_⟩
    by_cases hji : j = i
    · subst hji
      rw [hi] at hoj
      cases hoj
      exact ⟨hok, H⟩
    · obtain ⟨hjun, oj', hoj', hall⟩ := mem_ready.1 hj
      rw [hoj] at hoj'
      cases hoj'
      have hnot : ∀ e ∈ oj.after, Region.binds md e = true → e.on ≠ i := fun e he hb heq => by
        have h1 := hall e he hb
        have h0 := (mem_ready.1 hr).1
        rw [heq] at h1
        rcases Nat.lt_or_ge i listed.size with h' | h'
        · simp [h'] at h0 h1; rw [h0] at h1; cases h1
        · simp [Array.getElem?_eq_none h'] at h1
      have hap := Oper.apart_spec (hfree j oj hoj hji hjun hnot)
      have hsi := fun cs b => hsel i oi cs b hi
      have hsj := fun cs b => hsel j oj cs b hoj
      have step : ∀ v, valG P ops W S oi a Γ v → realG W (upd Γ oi.dst (canG P ops W S oi a Γ v)) → okG P ops W S oj a Γ ∧ ∀ u, valG P ops W S oj a Γ u →
          wpAnyG P md ops W S Q fuel ((listed.setIfInBounds i true).setIfInBounds j true) ((a.put oi.dst v).put oj.dst u) (upd (upd Γ oi.dst (canG P ops W S oi a Γ v)) oj.dst (canG P ops W S oj a Γ u)) := by
        intro v hv hre
        have h1 := (H v hv hre).2 j (ready_mono hj hji) oj hoj
        obtain ⟨e1, e2, e3⟩ := indep (P := P) (W := W) (S := S) (v := v) (ψ := canG P ops W S oi a Γ v) (Γ := Γ) hap.1 hsj a
        rw [e1, e2, e3] at h1
        exact h1
      obtain ⟨v₀, hv₀, hre₀⟩ := realG_next hP hreal hok
      refine ⟨(step v₀ hv₀ hre₀).1, fun u hu => ?_⟩
      obtain ⟨e1, e2, e3⟩ := indep (P := P) (W := W) (S := S) (v := u) (ψ := canG P ops W S oj a Γ u) (Γ := Γ) hap.2.2 hsi a
      refine ih (listed.setIfInBounds j true) (a.put oj.dst u) _ (hP.upd_can u) (hfr.take hd hoj (ready_lt hj) _) ?_ (ready_mono hr (Ne.symm hji)) (by rw [e1]; exact hok) ?_
      · intro k ok hk hki hun hno
        refine hfree k ok hk hki ?_ hno
        by_cases hjk : j = k
        · subst hjk; exact hjun
        · rw [getD_set_ne true hjk] at hun; exact hun
      · intro v hv
        rw [e2] at hv
        rw [e3, Array.setIfInBounds_comm _ _ hji, ← Act.put_comm a v u hap.2.1, ← upd_comm hap.2.1]
        refine wpAnyG_real fun hre => (step v hv ?_).2 u hu
        obtain ⟨w, hw, hΓ⟩ := hre
        refine ⟨w, hw, fun t => ?_⟩
        have ht := hΓ t
        unfold upd at ht ⊢
        by_cases e : oi.dst = some t
        · have hne : oj.dst ≠ some t := hap.2.1 t e
          simpa only [e, hne, if_true, if_false] using ht
        · by_cases e' : oj.dst = some t
          · simp only [e, if_false]
            exact hfr j oj hoj hjun t e' w
          · simpa only [e, e', if_false] using ht

theorem wpAnyG_lex {Q : Act → Facts → Prop} (hs : Region.noSelect ops = true) (hd : distinctG ops) : ∀ (l : List Oper) (k : Nat) (listed : Array Bool) (a : Act) (Γ : Facts), (∀ j, l[j]? = ops[k + j]?) → Pers W Γ → freshG ops listed Γ →
    Region.lexFrom md ops l.length k listed = true → wpG P ops W S Q l a Γ → wpAnyG P md ops W S Q l.length listed a Γ
  | [], _, _, _, _, _, _, _, hB, h => fun _ => ⟨by simpa [Region.lexFrom] using hB, h⟩
  | o :: l, k, listed, a, Γ, hl, hP, hfr, hB, h => by
    have h0 : ops[k]? = some o := by simpa using (hl 0).symm
    simp only [List.length_cons, Region.lexFrom, Bool.and_eq_true] at hB
    obtain ⟨⟨hr, hf⟩, hB'⟩ := hB
    have hr' : k ∈ Region.ready md ops listed := by simpa using hr
    exact wpAnyG_first h0 (Region.noSelect_spec hs) hd l.length listed a Γ hP hfr (Region.free_spec h0 hf) hr' h.1 (fun v hv =>
      wpAnyG_lex hs hd l (k + 1) (listed.setIfInBounds k true) _ _ (fun j => by have := hl (j + 1); simpa [Nat.add_assoc, Nat.add_comm 1 j] using this) (hP.upd_can v) (hfr.take hd h0 (ready_lt hr') _) hB' (h.2 v hv))

theorem wpAny_of_g {Q : Act → Facts → Prop} {Q' : Exit → Act → World → Prop} (hQ : ∀ a Γ w, Gr W w → (∀ t, Γ t w) → Q a Γ → Q' .normal a w) : ∀ (fuel : Nat) (listed : Array Bool) (a : Act) (Γ : Facts) (w : World), Gr W w → (∀ t, Γ t w) → Pers W Γ →
    wpAnyG P md ops W S Q fuel listed a Γ → wpAny P md ops Q' fuel listed a w
  | 0, _, _, _, w, hw, hΓ, _, h => ⟨(h ⟨w, hw, hΓ⟩).1, hQ _ _ _ hw hΓ (h ⟨w, hw, hΓ⟩).2⟩
  | fuel + 1, listed, a, Γ, w, hW, hΓ, hP, h => by
    have h := h ⟨w, hW, hΓ⟩
    refine ⟨fun h0 => hQ _ _ _ hW hΓ (h.1 h0), fun i hi => ?_⟩
    obtain ⟨_, o, ho, _⟩ := mem_ready.1 hi
    obtain ⟨hok, hval⟩ := h.2 i hi o ho
    unfold wpOp
    simp only [ho]
    by_cases hw : Region.wanted o (yielded ops a.tmps) = true
    · simp only [hw, if_true]
      refine .inl ?_
      have h1 := hok hw w hW (fun t _ => hΓ t)
      have next : ∀ v w', Gr w w' → gRuns P S (execOp a.eval o) w v w' → wpAny P md ops Q' fuel (listed.setIfInBounds i true) (a.put o.dst v) w' := by
        intro v w' hg hr
        have hv : valG P ops W S o a Γ v := by unfold valG; simp only [hw, if_true]; exact ⟨w, w', hW, fun t _ => hΓ t, hr⟩
        refine wpAny_of_g hQ fuel _ _ _ w' (hW.trans hg) (fun t => ?_) (hP.upd_can v) (hval v hv)
        unfold upd
        split
        · exact fun _ => ⟨w, w', hW, fun t _ => hΓ t, hr, Gr.refl _⟩
        · exact hP t w w' hW hg (hΓ t)
      unfold Oper.wp
      have hruns : ∀ v w', gRuns P S (execOp a.eval o) w v w' ↔ gRuns P S (execOp a.eval o) w v w' := fun _ _ => Iff.rfl
      unfold gRuns at next
      cases hr : (execOp a.eval o).run P w with
      | ok n w' =>
        rw [hr] at h1
        rw [hr] at next
        cases n <;> simp only [gUpon] at h1 <;> simp only [Oper.upon]
        case value u => exact next u w' h1.1 ⟨rfl, rfl⟩
        case skip => exact next undef w' h1.1 ⟨rfl, rfl⟩
        case enter f args =>
          refine h1.2.1.mono ?_
          rintro e w'' ⟨v, rfl, hv, hg⟩
          exact next v w'' (h1.1.trans hg) ⟨hv, hg⟩
      | halt x w' => rw [hr] at h1; exact h1.elim
    · simp only [hw]
      have hv : valG P ops W S o a Γ undef := by unfold valG; simp [hw]
      refine wpAny_of_g hQ fuel _ _ _ w hW (fun t => ?_) (hP.upd_can undef) (hval undef hv)
      unfold upd
      split
      · exact fun h => absurd h hw
      · exact hΓ t

def distinctB (l : List Oper) : Bool := (l.filterMap (·.dst)).Nodup
theorem distinctB_ok {l : List Oper} (h : distinctB l = true) : distinctG l.toArray := by
  have hn : (l.filterMap (·.dst)).Nodup := by simpa [distinctB] using h
  clear h
  intro i j oi oj hij hi hj d hdi hdj
  simp only [List.getElem?_toArray] at hi hj
  induction l generalizing i j with
  | nil => simp at hi
  | cons o l ih =>
    have hl : (l.filterMap (·.dst)).Nodup := by
      cases ho : o.dst with
      | none => simpa [List.filterMap_cons, ho] using hn
      | some x => simp only [List.filterMap_cons, ho, List.nodup_cons] at hn; exact hn.2
    have key : ∀ (k : Nat) (ok : Oper), l[k]? = some ok → ok.dst = some d → o.dst ≠ some d := by
      intro k ok hk hd ho
      simp only [List.filterMap_cons, ho, List.nodup_cons] at hn
      exact hn.1 (List.mem_filterMap.2 ⟨ok, List.mem_of_getElem? hk, hd⟩)
    cases i with
    | zero =>
      simp at hi
      subst hi
      cases j with
      | zero => exact hij rfl
      | succ j => exact key j oj (by simpa using hj) hdj hdi
    | succ i =>
      cases j with
      | zero =>
        simp at hj
        subst hj
        exact key i oi (by simpa using hi) hdi hdj
      | succ j => exact ih hl i j (by omega) (by simpa using hi) (by simpa using hj)

/-- One walk of the text's order serves every order; the world grows on the way. -/
theorem wp_region_g (S : CallRel) {id : Nat} {Q : Exit → Act → World → Prop} {a : Act} {w : World} {l : List Oper} (hm : P.follows .mixedOrders = true) (hB : Region.lexB .any l.toArray = true) (hD : distinctB l = true)
    (h : wpG P l.toArray w S (fun a' Γ => ∀ w', Gr w w' → (∀ t, Γ t w') → Q .normal a' w') l a (fun _ _ => True)) : (Code.region id l.toArray true).wp P Q a w := by
  simp only [Region.lexB, Bool.and_eq_true] at hB
  have hP : Pers w (fun _ _ => True) := fun _ _ _ _ _ _ => trivial
  refine wp_region_any hm (wpAny_of_g (W := w) (S := S) (Q := fun a' Γ => ∀ w', Gr w w' → (∀ t, Γ t w') → Q .normal a' w') (fun _ _ w' hw' hΓ h => h w' hw' hΓ) _ _ _ (fun _ _ => True) _ (Gr.drew (Gr.refl _)) (fun _ => trivial) hP ?_)
  have := wpAnyG_lex (P := P) (W := w) (S := S) (md := .any) hB.1 (distinctB_ok hD) l 0 (Array.replicate l.toArray.size false) a (fun _ _ => True) (by simp) hP (fun _ _ _ _ _ _ _ => trivial) (by simpa using hB.2) h
  simpa using this

theorem wpG_weaken {Q : Act → Facts → Prop} (hQ : ∀ a Γ Γ', (∀ t w, Γ t w → Γ' t w) → Q a Γ' → Q a Γ) : ∀ (l : List Oper) (a : Act) (Γ Γ' : Facts), (∀ t w, Γ t w → Γ' t w) → wpG P ops W S Q l a Γ' → wpG P ops W S Q l a Γ
  | [], a, Γ, Γ', hΓ, h => hQ a Γ Γ' hΓ h
  | o :: l, a, Γ, Γ', hΓ, h => by
    have hf : ∀ w, factsAt ops o Γ w → factsAt ops o Γ' w := fun w h t ht => hΓ t w (h t ht)
    refine ⟨fun hw w hW hfa => h.1 hw w hW (hf w hfa), fun v hv => ?_⟩
    have hv' : valG P ops W S o a Γ' v := by
      unfold valG at hv ⊢
      split at hv
      · rename_i hw
        simp only [hw, if_true]
        obtain ⟨w, w', h1, h2, h3⟩ := hv
        exact ⟨w, w', h1, hf w h2, h3⟩
      · rename_i hw
        simp only [hw]
        simpa using hv
    refine wpG_weaken hQ l _ _ _ (fun t w => ?_) (h.2 v hv')
    unfold upd
    split
    · intro hc hw
      obtain ⟨w1, w2, h1, h2, h3, h4⟩ := hc hw
      exact ⟨w1, w2, h1, hf w1 h2, h3, h4⟩
    · exact hΓ t w

/-- What is asked of the end: in every world to which the region may lead. -/
def EndG (W : World) (post : Act → World → Prop) (a : Act) (Γ : Facts) : Prop := ∀ w', Gr W w' → (∀ t, Γ t w') → post a w'
theorem EndG.mono (W : World) (post : Act → World → Prop) (a : Act) (Γ Γ' : Facts) (h : ∀ t w, Γ t w → Γ' t w) (k : EndG W post a Γ') : EndG W post a Γ :=
  fun w' hw hΓ => k w' hw fun t => h t w' (hΓ t)

variable {post : Act → World → Prop} {Γ : Facts} {a : Act} {o : Oper} {rest : List Oper}
theorem wpG_step (hd : ∀ d, o.dst = some d → ∀ w, Γ d w)
    (h : ∀ K : Act → Prop, (∀ a, wpG P ops W S (EndG W post) rest a Γ → K a) → if Region.wanted o (yielded ops a.tmps) = true then (∀ w, Gr W w → factsAt ops o Γ w → gUpon P S w (fun v _ => K (a.put o.dst v)) ((execOp a.eval o).run P w)) else K (a.put o.dst undef)) :
    wpG P ops W S (EndG W post) (o :: rest) a Γ := by
  have h := h _ (fun _ h => h)
  have weak : ∀ v, wpG P ops W S (EndG W post) rest (a.put o.dst v) Γ → wpG P ops W S (EndG W post) rest (a.put o.dst v) (upd Γ o.dst (canG P ops W S o a Γ v)) := fun v =>
    wpG_weaken (EndG.mono W post) rest _ _ _ (fun t w hu => by
      unfold upd at hu
      split at hu
      · rename_i e; exact hd t e w
      · exact hu)
  by_cases hw : Region.wanted o (yielded ops a.tmps) = true
  · simp only [hw, if_true] at h
    refine ⟨fun _ w hW hf => (gUpon_split (h w hW hf)).1, fun v hv => weak v ?_⟩
    unfold valG at hv
    simp only [hw, if_true] at hv
    obtain ⟨w, w', h1, h2, h3⟩ := hv
    exact ((gUpon_split (h w h1 h2)).2 v w' h3).2
  · simp only [hw] at h
    refine ⟨fun hx => absurd hx hw, fun v hv => weak v ?_⟩
    unfold valG at hv
    simp only [hw] at hv
    have : v = undef := by simpa using hv
    rw [this]
    simpa using h
/-- an operation of whose result something is known in every later world -/
theorem wpG_fact (ψ : Value → World → Prop) (hd : ∀ d, o.dst = some d → ∀ w, Γ d w) (hg : o.guard = none)
    (h : ∀ K : Act → (World → Prop) → Prop, (∀ a φ, wpG P ops W S (EndG W post) rest a (fun t w => Γ t w ∧ (o.dst = some t → φ w)) → K a φ) → ∀ w, Gr W w → factsAt ops o Γ w → gUpon P S w (fun v w' => (∀ w'', Gr w' w'' → ψ v w'') ∧ K (a.put o.dst v) (ψ v)) ((execOp a.eval o).run P w)) :
    wpG P ops W S (EndG W post) (o :: rest) a Γ := by
  have h := h (fun a φ => wpG P ops W S (EndG W post) rest a (fun t w => Γ t w ∧ (o.dst = some t → φ w))) (fun _ _ h => h)
  have hw : Region.wanted o (yielded ops a.tmps) = true := by simp [Region.wanted, hg]
  refine ⟨fun _ w hW hf => (gUpon_split (h w hW hf)).1, fun v hv => ?_⟩
  have hv0 := hv
  unfold valG at hv
  simp only [hw, if_true] at hv
  obtain ⟨w, w', h1, h2, h3⟩ := hv
  obtain ⟨_, _, hk⟩ := (gUpon_split (h w h1 h2)).2 v w' h3
  refine wpG_weaken (EndG.mono W post) rest _ _ _ (fun t w₂ hu => ?_) hk
  unfold upd at hu
  split at hu
  · rename_i e
    obtain ⟨w1, w2, g1, g2, g3, g4⟩ := hu hw
    exact ⟨hd t e w₂, fun _ => ((gUpon_split (h w1 g1 g2)).2 v w2 g3).2.1 w₂ g4⟩
  · rename_i e
    exact ⟨hu, fun e' => absurd e' e⟩
/-- the operation goes through in every world to which the region may have led, and what follows holds of each value that it may yield -/
def gnd (P : Program) (ops : Array Oper) (W : World) (S : CallRel) (o : Oper) (a : Act) (Γ : Facts) (K : Act → Prop) : Prop :=
  ∀ w, Gr W w → factsAt ops o Γ w → gUpon P S w (fun v _ => K (a.put o.dst v)) ((execOp a.eval o).run P w)
theorem g_step (hd : ∀ d, o.dst = some d → ∀ w, Γ d w)
    (h : ∀ K : Act → Prop, (∀ a, wpG P ops W S (EndG W post) rest a Γ → K a) → if Region.wanted o (yielded ops a.tmps) then gnd P ops W S o a Γ K else K (a.put o.dst undef)) :
    wpG P ops W S (EndG W post) (o :: rest) a Γ :=
  wpG_step hd (fun K hK => h K hK)
theorem g_in {K : Act → Prop} (h : ∀ w, Gr W w → (∀ b o, b < W.heap.size → w.cell? ⟨b, o, none⟩ = W.cell? ⟨b, o, none⟩) → factsAt ops o Γ w → gUpon P S w (fun v _ => K (a.put o.dst v)) ((execOp a.eval o).run P w)) : gnd P ops W S o a Γ K :=
  fun w hw hf => h w hw (fun b o hb => hw.cell (p := ⟨b, o, none⟩) hb) hf
def isBuild : Op → Bool
  | .buildSlice .. => true
  | _ => false
theorem g_fact (ψ : Value → World → Prop) (_ : isBuild o.op = true) (hd : ∀ d, o.dst = some d → ∀ w, Γ d w) (hg : o.guard = none)
    (h : ∀ ψ' : Value → World → Prop, ψ' = ψ → ∀ K : Act → (World → Prop) → Prop, (∀ a φ, wpG P ops W S (EndG W post) rest a (fun t w => Γ t w ∧ (o.dst = some t → φ w)) → K a φ) → ∀ w, Gr W w → gUpon P S w (fun v w' => (∀ w'', Gr w' w'' → ψ' v w'') ∧ K (a.put o.dst v) (ψ' v)) ((execOp a.eval o).run P w)) :
    wpG P ops W S (EndG W post) (o :: rest) a Γ := by
  exact wpG_fact ψ hd hg (fun K hK w hw _ => h ψ rfl K hK w hw)
theorem g_nil {a : Act} (h : ∀ w', Gr W w' → post a w') : wpG P ops W S (EndG W post) [] a Γ := fun w' hw _ => h w' hw
theorem wp_region_g' (S : CallRel) {id : Nat} {Q : Exit → Act → World → Prop} {a : Act} {w : World} {l : List Oper} (hm : P.follows .mixedOrders = true) (hB : Region.lexB .any l.toArray = true) (hD : distinctB l = true)
    (h : wpG P l.toArray w S (EndG w (fun a' w' => Q .normal a' w')) l a (fun _ _ => True)) : (Code.region id l.toArray true).wp P Q a w :=
  wp_region_g S hm hB hD h
end
@[go_sem] theorem Gr_self (w : World) : Gr w w = True := eq_true (Gr.refl w)
@[go_sem] theorem Gr_drewN (a w : World) (n : Nat) : Gr a (w.drewN n) = Gr a w := propext ⟨fun h => ⟨h.os, h.tape, h.output, h.size, h.block⟩, fun h => Gr.drewN h n⟩
@[go_sem] theorem Gr_alloc (w : World) (o : Obj) : Gr w (w.alloc o) = True := eq_true ((Below.refl _ _).alloc (Nat.le_refl _) _)
attribute [go_sem] gUpon
end Go.Proofs.YtlafjmghfnlaoacDoor
