/-
  From a walk that ends in 'true' and turns nothing that was there, to the row's own words, where the row names package-level variables. No program is named here.
-/
import Derived.Test.YtlafjmghfnlaoacDoorMem
import Derived.ProofKit
import Derived.OpenShut
namespace Go.Proofs.YtlafjmghfnlaoacDoor
open Go Go.RowKit Go.ChangeShapes Go.WideShapes Go.ChangeAt

section
variable {H : Type} {enc : TypeId × Value → H} {P : Program}

theorem trodAll_stays1 (hl : laidOutB P = true) {W W' : World} {sp : Nat → Bool} : ∀ (ts : List TypeId) (vs : List Value) (ds : List (DataW H)) (ps : List MemPlace), (∀ t ∈ ts, P.readableRec t = true ∧ t < P.types.size) →
    DataW.TrodAll enc P W 0 (fun _ => true) true ts vs ds ps → (∀ p ∈ ps, W.sameAt W' p) → (∀ p ∈ ps, sp p.block = true) → DataW.TrodAll enc P W' 0 sp true ts vs ds ps
  | [], vs, ds, ps, _, h, _, _ => by
    obtain ⟨rfl, rfl, rfl⟩ := trodAll_nil h
    exact trodAll_mk0
  | t :: ts, vs, ds, ps, hts, h, hs, hp => by
    obtain ⟨v, vs', d, ds', p, q, rfl, rfl, rfl, h0, h1⟩ := trodAll_cons h
    obtain ⟨ha, hb⟩ := hts t (by simp)
    exact trodAll_cons_mk (WideElems.Trod_stays hl ha hb h0 (fun x hx => hs x (by simp [hx])) (fun x hx => hp x (by simp [hx])))
      (trodAll_stays1 hl ts vs' ds' q (fun x hx => hts x (by simp [hx])) h1 (fun x hx => hs x (by simp [hx])) (fun x hx => hp x (by simp [hx])))

/-- a law over one named variable: it answers true, and below the heap's old size nothing has turned -/
theorem law_post1 {f : Func} {s : ChangeSpec} {apart fresh handsOn : Bool} {W W' : World} {args : Array Value} {ds gs : List (DataW H)} {before : List MemPlace} {bt gt : TypeId} {n : String} {g : Nat}
    (hl : laidOutB P = true) (hts : ∀ t ∈ f.params.toList, P.readableRec t = true ∧ t < P.types.size) (hres : f.resultTypes = #[bt]) (hbt : P.underlying bt = some .bool) (hvars : s.vars = [n])
    (hgt : (P.globals[g]?).map (·.type) = some gt) (hgn : P.globalNamed n = some g) (hgr : P.readableRec gt = true ∧ gt < P.types.size)
    (hfn : ∀ x, s.fn H (ds ++ [x]) = { results := [.lit (.bool true)], args := ds, vars := [x] })
    (hW : DataW.Whole enc P f.params.toList s.vars apart W args.toList ds gs before) (hb : Below W.heap.size W W') :
    s.post enc P f apart fresh handsOn false W args (.bool true) W' := by
  have hW' := hW
  obtain ⟨p, q, hA, hV, rfl, hz, hn⟩ := hW
  rw [hvars] at hV
  obtain ⟨g', t', cs, fuel, d, p', rfl, h1, h2, h3, h4, rfl⟩ := trodVars_one hV
  obtain rfl := Option.some.inj (hgn.symm.trans h1)
  obtain rfl := Option.some.inj (hgt.symm.trans h2)
  have hlt : ∀ x ∈ p ++ (MemPlace.row ⟨g, 0, none⟩ cs.size ++ p'), x.block < W.heap.size := fun x hx => hW'.lt x hx
  have hsame : ∀ x ∈ p, W.sameAt W' x := fun x hx => hb.same (hlt x (List.mem_append_left _ hx))
  have hsame' : ∀ x ∈ p', W.sameAt W' x := fun x hx => hb.same (hlt x (List.mem_append_right _ (List.mem_append_right _ hx)))
  have args' : DataW.TrodAll enc P W' 0 (fun b => decide (b < W.heap.size)) true f.params.toList args.toList ds p := trodAll_stays1 hl _ _ _ _ hts hA hsame (fun x hx => by simpa using hlt x (List.mem_append_left _ hx))
  have res' : ∀ (b : Nat) (sp : Nat → Bool) (hd : Bool), DataW.TrodAll enc P W' b sp hd f.resultTypes.toList ((Value.bool true).resultList f.resultTypes.size) [.lit (.bool true)] [] := by
    intro b sp hd
    rw [hres]
    exact trodAll_mk1 (shut_bool hbt true)
  have hvar : W'.var? P n = some cs := by
    have hgl : g < W.heap.size := by
      simp only [World.var?, hgn, Option.bind_some] at h3
      rcases Nat.lt_or_ge g W.heap.size with h | h
      · exact h
      · rw [Array.getElem?_eq_none h] at h3; cases h3
    simp only [World.var?, hgn, Option.bind_some] at h3 ⊢
    rw [hb.block g hgl]
    exact h3
  have trod' : DataW.trod enc P W' 0 (fun b => decide (b < W.heap.size)) true fuel gt cs.toList = some (d, p') :=
    DataW.trod_stays (kids_book hl hgr.1) (book_sized hgr.1) (fun h => by cases h) ⟨hgr.2, book_self gt⟩ h4 hsame' (fun x hx => by simpa using hlt x (List.mem_append_right _ (List.mem_append_right _ hx)))
  refine ⟨ds, [d], p ++ (MemPlace.row ⟨g, 0, none⟩ cs.size ++ p'), [], p, MemPlace.row ⟨g, 0, none⟩ cs.size ++ p', hW', ?_, ?_, ?_, World.keptBut_mono (fun x hx => ⟨hx, ?_⟩) (hb.frame (· ∈ p ++ (MemPlace.row ⟨g, 0, none⟩ cs.size ++ p'))), fun h => by cases h⟩
  · rw [hfn]; exact res' _ _ _
  · rw [hfn]; exact args'
  · rw [hvars, hfn]
    exact trodVars_mk1 hgn hgt hvar trod'
  · rcases List.mem_append.1 hx with h | h
    · exact .inr (.inl h)
    · exact .inr (.inr h)
end
end Go.Proofs.YtlafjmghfnlaoacDoor
