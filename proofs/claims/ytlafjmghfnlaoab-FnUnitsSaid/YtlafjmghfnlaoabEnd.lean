/-
  From a walk that ends in 'true' and turns nothing that was there, to the row's own words; arguments that are floats or slices of floats, opened. No program is named here.
-/
import Derived.Test.YtlafjmghfnlaoabMem
import Derived.ProofKit
import Derived.OpenShut
namespace Go.Proofs.Ytlafjmghfnlaoab
open Go Go.RowKit Go.ChangeShapes Go.WideShapes Go.ChangeAt

section
variable {H : Type} {enc : TypeId × Value → H} {P : Program}

theorem trodAll_stays (hl : laidOutB P = true) {W W' : World} {sp : Nat → Bool} : ∀ (ts : List TypeId) (vs : List Value) (ds : List (DataW H)) (ps : List MemPlace), (∀ t ∈ ts, P.readableRec t = true ∧ t < P.types.size) →
    DataW.TrodAll enc P W 0 (fun _ => true) true ts vs ds ps → (∀ p ∈ ps, W.sameAt W' p) → (∀ p ∈ ps, sp p.block = true) → DataW.TrodAll enc P W' 0 sp true ts vs ds ps
  | [], vs, ds, ps, _, h, _, _ => by
    obtain ⟨rfl, rfl, rfl⟩ := trodAll_nil h
    exact trodAll_mk0
  | t :: ts, vs, ds, ps, hts, h, hs, hp => by
    obtain ⟨v, vs', d, ds', p, q, rfl, rfl, rfl, h0, h1⟩ := trodAll_cons h
    obtain ⟨ha, hb⟩ := hts t (by simp)
    exact trodAll_cons_mk (WideElems.Trod_stays hl ha hb h0 (fun x hx => hs x (by simp [hx])) (fun x hx => hp x (by simp [hx])))
      (trodAll_stays hl ts vs' ds' q (fun x hx => hts x (by simp [hx])) h1 (fun x hx => hs x (by simp [hx])) (fun x hx => hp x (by simp [hx])))

/-- a law: it answers true, and below the heap's old size nothing has turned -/
theorem law_post {f : Func} {s : ChangeSpec} {apart fresh handsOn again : Bool} {W W' : World} {args : Array Value} {ds gs : List (DataW H)} {before : List MemPlace} {bt : TypeId}
    (hl : laidOutB P = true) (hts : ∀ t ∈ f.params.toList, P.readableRec t = true ∧ t < P.types.size) (hres : f.resultTypes = #[bt]) (hbt : P.underlying bt = some .bool) (hvars : s.vars = [])
    (hfn : s.fn H ds = { results := [.lit (.bool true)], args := ds })
    (hW : DataW.Whole enc P f.params.toList s.vars apart W args.toList ds gs before) (hb : Below W.heap.size W W') :
    s.post enc P f apart fresh handsOn again W args (.bool true) W' := by
  have hW' := hW
  obtain ⟨p, q, hA, hV, rfl, hz, hn⟩ := hW
  rw [hvars] at hV
  obtain ⟨rfl, rfl⟩ := trodVars_none hV
  have hlt : ∀ x ∈ p ++ [], x.block < W.heap.size := fun x hx => hW'.lt x hx
  have hsame : ∀ x ∈ p, W.sameAt W' x := fun x hx => hb.same (hlt x (by simpa using hx))
  have hgs : s.fn H (ds ++ []) = { results := [.lit (.bool true)], args := ds } := by rw [List.append_nil]; exact hfn
  have args' : ∀ sp : Nat → Bool, (∀ x ∈ p, sp x.block = true) → DataW.TrodAll enc P W' 0 sp true f.params.toList args.toList ds p := fun sp hsp => trodAll_stays hl _ _ _ _ hts hA hsame hsp
  have res' : ∀ (b : Nat) (sp : Nat → Bool) (hd : Bool), DataW.TrodAll enc P W' b sp hd f.resultTypes.toList ((Value.bool true).resultList f.resultTypes.size) [.lit (.bool true)] [] := by
    intro b sp hd
    rw [hres]
    exact trodAll_mk1 (shut_bool hbt true)
  refine ⟨ds, [], p ++ [], [], p, [], hW', ?_, ?_, ?_, World.keptBut_mono (fun x hx => ⟨hx, .inr (by simpa using hx)⟩) (hb.frame (· ∈ p ++ [])), fun _ => ⟨?_, ?_⟩⟩
  · rw [hgs]; exact res' _ _ _
  · rw [hgs]; exact args' _ (fun x hx => by simpa using hlt x (by simpa using hx))
  · rw [hvars, hgs]; rfl
  · intro j t r ht hr
    rw [hres] at ht hr
    match j with
    | 0 =>
      simp [Value.resultList] at ht hr
      subst ht; subst hr
      exact okWide_bool_mk hbt true
    | j + 1 => simp at ht
  · refine ⟨[.lit (.bool true)] ++ ds, [], ([] ++ p) ++ [], ⟨[] ++ p, [], trodAll_append (args' _ (fun _ _ => rfl)) (res' _ _ _), ?_, rfl, ?_, ?_⟩, ?_⟩
    · rw [hvars]; rfl
    · intro b off hp
      have hin : MemPlace.cell b off ∈ p ++ [] := by simpa using hp
      rw [hb.frozen (hlt _ hin)]
      exact hz b off hin
    · intro ha
      have := hn ha
      simpa using this
    · intro x hx _
      simpa using hx

theorem trod_float {w : World} {base : Nat} {spare : Nat → Bool} {held : Bool} {t : TypeId} {k : FloatKind} {fuel : Nat} {cs : List Value} {x : DataW H × List MemPlace} (ht : P.underlying t = some (.float k)) (h : DataW.trod enc P w base spare held fuel t cs = some x) :
    ∃ b, cs = [.float k b] ∧ (Lit.float k b).wf = true := by
  cases fuel with
  | zero => simp [DataW.trod] at h
  | succ n =>
    unfold DataW.trod at h
    rw [ht] at h
    split at h <;> simp_all

/-- a slice of float64s that comes in -/
theorem open_floats {w : World} {base : Nat} {t e : TypeId} {v : Value} {d : DataW H} {ps : List MemPlace} {r : Reach} {b0 : Nat} (ht : P.underlying t = some (.slice e)) (he : P.underlying e = some (.float .f64)) (hc : P.cellsOf e = 1)
    (hv : Value.okWide P w r b0 t v) (h : DataW.Trod enc P w base (fun _ => true) true t v d ps) :
    ∃ (A : Option Addr) (c : Nat) (rs : List Nat), v = .slice A rs.length c ∧ Rd w w.heap.size A (fl rs) ∧ Wfs rs ∧ rs.length ≤ maxLen := by
  obtain ⟨a0, len, cap, rfl⟩ := okWide_slice ht hv
  obtain ⟨fuel, hf⟩ := h
  rcases DataW.trod_slice ht hf with ⟨hcs, _⟩ | ⟨a, len', cap', elems, rest, n, _, hcs, _, _, hl, hm, hlen, hel, _, _⟩
  · simp [Value.cells] at hcs
    obtain ⟨rfl, rfl, rfl⟩ := hcs
    exact ⟨none, 0, [], rfl, .inl rfl, (fun r h => by cases h), Nat.zero_le _⟩
  · simp [Value.cells] at hcs
    obtain ⟨rfl, rfl, rfl⟩ := hcs
    have each : ∀ i, i < len → ∃ b, w.cell? (a.add i) = some (.float .f64 b) ∧ Wf b := by
      intro i hi
      have h1 := hel i hi
      rw [hc, Nat.mul_one] at h1
      have h2 : i < elems.length := by omega
      rw [List.getElem?_eq_getElem h2, Option.bind_eq_some_iff] at h1
      obtain ⟨cs', hcs, hy⟩ := h1
      obtain ⟨b, rfl, hw⟩ := trod_float he hy
      exact ⟨b, cell_of_cells?_one hcs, by simpa [Lit.wf, Wf] using hw⟩
    have key : ∀ n, n ≤ len → ∃ rs : List Nat, rs.length = n ∧ Wfs rs ∧ ∀ i, i < n → w.cell? (a.add i) = some (.float .f64 (nth rs i)) := by
      intro n
      induction n with
      | zero => exact fun _ => ⟨[], rfl, (fun r h => by cases h), fun i hi => by omega⟩
      | succ n ih =>
        intro hn
        obtain ⟨rs, h1, h2, h3⟩ := ih (by omega)
        obtain ⟨b, hb, hwf⟩ := each n (by omega)
        refine ⟨rs ++ [b], by simp [h1], ?_, fun i hi => ?_⟩
        · intro r hr
          rcases List.mem_append.1 hr with hr | hr
          · exact h2 r hr
          · simp at hr; subst hr; exact hwf
        · by_cases e : i = n
          · subst e
            rw [hb]
            simp [nth, ← h1]
          · rw [h3 i (by omega)]
            have : i < rs.length := by omega
            simp [nth, List.getElem?_append_left this]
    obtain ⟨rs, h1, h2, h3⟩ := key len (Nat.le_refl _)
    subst h1
    refine ⟨some a, cap, rs, rfl, ?_, h2, by omega⟩
    by_cases hz : rs = []
    · exact .inl (by simp [hz, fl])
    · have hpos : 0 < rs.length := List.length_pos_iff.2 hz
      obtain ⟨b, off, spot⟩ := a
      have hspot : spot = none := by simpa [Addr.add] using World.cell?_spot (h3 0 hpos)
      subst hspot
      refine .inr ⟨b, off, rfl, ?_, fun i u hu => ?_⟩
      · have := h3 0 hpos
        rcases Nat.lt_or_ge b w.heap.size with h | h
        · exact h
        · simp [World.cell?, Addr.add, Array.getElem?_eq_none h] at this
      · have hi : i < rs.length := by
          have := (List.getElem?_eq_some_iff.1 hu).1
          rwa [fl_length] at this
        rw [fl_get rs hi] at hu
        have := h3 i hi
        rw [Addr.add_lit] at this
        rw [this, hu]
end
def I64 (z : Int) : Prop := -9223372036854775808 ≤ z ∧ z ≤ 9223372036854775807
theorem I64_of {z : Int} (h : (Lit.int .i64 z).wf = true) : I64 z := by
  simpa [Lit.wf, IntKind.min, IntKind.max, IntKind.signed, IntKind.bits, I64] using h
end Go.Proofs.Ytlafjmghfnlaoab
