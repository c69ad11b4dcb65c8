/-
  Contracts: lists of reals that are made of places; what the results of laws are.
-/
import Derived.Test.YtlafjmghfnlaoaaRes
namespace Go.Proofs.Ytlafjmghfnlaoaa
open Go.RowKit

/-- words for the values g 0, g 1, .. -/
def IsL (rs : List Nat) (n : Nat) (g : Nat → F) : Prop := rs.length = n ∧ Wfs rs ∧ ∀ i, i < n → V (nth rs i) = g i
theorem IsL.nil (g : Nat → F) : IsL [] 0 g := ⟨rfl, fun r h => (by cases h), fun i h => (by omega)⟩
theorem IsL.snoc {rs : List Nat} {n : Nat} {g : Nat → F} {r : Nat} (h : IsL rs n g) (hr : V r = g n) (hw : Wf r) : IsL (rs ++ [r]) (n + 1) g := by
  obtain ⟨h1, h2, h3⟩ := h
  refine ⟨by simp [h1], fun x hx => ?_, fun i hi => ?_⟩
  · rcases List.mem_append.1 hx with hx | hx
    · exact h2 x hx
    · simp at hx; subst hx; exact hw
  · by_cases e : i = n
    · subst e; subst h1; simpa [nth] using hr
    · rw [← h3 i (by omega)]
      have : i < rs.length := by omega
      simp [nth, List.getElem?_append_left this]
theorem IsL.eqs {rs ss : List Nat} {n : Nat} {g : Nat → F} (h : IsL rs n g) (k : IsL ss n g) : eqsF (rs.map V) (ss.map V) = true := by
  refine eqsF_of_eq ?_
  obtain ⟨h1, _, h3⟩ := h
  obtain ⟨k1, _, k3⟩ := k
  apply List.ext_getElem
  · simp [h1, k1]
  · intro i hi hj
    have hi' : i < rs.length := by simpa using hi
    have hj' : i < ss.length := by simpa using hj
    have e1 := h3 i (by omega)
    have e2 := k3 i (by omega)
    simp [nth, hi'] at e1
    simp [nth, hj'] at e2
    simp [e1, e2]
/-- a slice of floats that the call has made, and a code -/
def RetFS (w : World) (n : Nat) (g : Nat → F) (k : Int) (e : Ending) (w' : World) : Prop :=
  ∃ v rs, e = .returned (.tuple #[v, .int .i64 k]) ∧ w'.ownsRow w.heap.size 23 1 v n (fl rs) ∧ IsL rs n g ∧ Below w.heap.size w w'
theorem own_of_bk {w : World} {g n base : Nat} {t : TypeId} {cs : List Value} (h : Bk w g t cs) (hn : cs.length = n) (hb : base ≤ g) (hm : n ≤ 1048576) : w.ownsRow base t 1 (.slice (some ⟨g, 0, none⟩) n n) n cs := by
  refine ⟨by omega, .inr ⟨g, n, cs.toArray, rfl, hb, h, Nat.le_refl _, by unfold maxLen; omega, by simp [hn], ?_⟩⟩
  simp only [List.toList_toArray, Nat.mul_one]
  exact List.take_of_length_le (by omega)
theorem own_slice {w : World} {base n : Nat} {t : TypeId} {v : Value} {vs : List Value} (h : w.ownsRow base t 1 v n vs) : ∃ A c, v = .slice A n c ∧ Rd w w.heap.size A vs ∧ vs.length = n := by
  have hl : vs.length = n := by simpa using h.1
  rcases h.2 with ⟨rfl, h0⟩ | ⟨g, cap, cur, rfl, hb, hh, hnc, hm, hs, ht⟩
  · subst h0
    exact ⟨none, 0, rfl, .inl (List.eq_nil_of_length_eq_zero hl), hl⟩
  · refine ⟨_, cap, rfl, .inr ⟨g, 0, rfl, (h.lt g rfl).2, fun i u hu => ?_⟩, hl⟩
    have hi : i < vs.length := (List.getElem?_eq_some_iff.1 hu).1
    rw [Nat.zero_add, h.cellAt i (by omega), hu]
theorem own_below {w w' : World} {base n B : Nat} {t : TypeId} {v : Value} {vs : List Value} (h : w.ownsRow base t 1 v n vs) (hb : Below B w w') (hB : ∀ k, v.ownBlock = some k → k < B) : w'.ownsRow base t 1 v n vs := by
  refine ⟨h.1, ?_⟩
  rcases h.2 with h0 | ⟨g, cap, cur, rfl, hbg, hh, r⟩
  · exact .inl h0
  · exact .inr ⟨g, cap, cur, rfl, hbg, (hb.block g (hB g rfl)).trans hh, r⟩
theorem own_below' {w w' : World} {base n : Nat} {t : TypeId} {v : Value} {vs : List Value} (h : w.ownsRow base t 1 v n vs) (hb : Below w.heap.size w w') : w'.ownsRow base t 1 v n vs :=
  own_below h hb fun k hk => (h.lt k hk).2

set_option maxRecDepth 20000 in
set_option maxHeartbeats 400000 in
theorem reals_ok (n : Nat) (K : FuncId) (caps : Array Value) (w : World) (g : Nat → F) (hn : n ≤ 1048576) (hK : Enters K)
    (hf : ∀ (i : Int) w', 0 ≤ i → i < n → Below w.heap.size w w' → Calls Try.prog K (#[.int .i64 i] ++ caps) w' fun e w'' => ∃ r, e = .returned (.float .f64 r) ∧ V r = g i.toNat ∧ Wf r ∧ Below w'.heap.size w' w'') :
    Calls Try.prog 69 #[.int .i64 n, .func (.func K) #[] caps] w fun e w' => ∃ v rs, e = .returned v ∧ w'.ownsRow w.heap.size 23 1 v n (fl rs) ∧ IsL rs n g ∧ Below w.heap.size w w' := by
  have HF := hid hf
  clear hf
  unfold Enters at hK
  have hmk := fun W => run_make_one (P := Try.prog) 22 23 (.float .f64 0) 8 rfl Try.underlying22 f64info .i64 .i64 n (by omega) (by omega) W
  go_enter Try.func69, Try.ntmps69
  go_wp2_with fail
  clear hmk
  go_loopw [11] (fun i wr => ∃ (k : Nat) (rs : List Nat), k ≤ n ∧ i = .int .i64 k ∧ IsL rs k g ∧ Bk wr w.heap.size 23 (fl rs ++ List.replicate (n - k) (.float .f64 0)) ∧ Below w.heap.size w wr) (fun i _ => n - (intOf i).toNat)
  case atStart => exact ⟨0, [], by omega, rfl, IsL.nil g, by simpa [fl] using Bk.new w 23 (List.replicate n (.float .f64 0)).toArray, (Below.refl _ _).alloc (Nat.le_refl _) _⟩
  case round =>
    obtain ⟨k, rs, hk, rfl, hrs, hb, hbel⟩ := hrel
    have hlt := hb.lt
    have HRS := hid hrs
    have HB := hid hb
    clear hrs hb
    by_cases h : k < n
    · go_wp2_with fail
      refine (HF.out k wr (by omega) (by omega) hbel).mono ?_
      rintro e w2 ⟨r, rfl, hr, hwf, hb2⟩
      have hb3 := HB.out.below hb2 hlt
      have hg : w2.cell? ⟨w.heap.size, k, none⟩ = some (.float .f64 0) := by
        rw [hb3.cell]
        exact hole_get _ _ (by rw [fl_length]; exact HRS.out.1) h
      have hfz := hb3.frozen k
      have HB3 := hid hb3
      have hrV := hid hr
      clear hb3 hr
      go_wp2
      go_roundw
      case rel =>
        refine ⟨k + 1, rs ++ [r], by omega, by go_num, HRS.out.snoc hrV.out hwf, ?_, (hbel.trans (hb2.mono hbel.size)).setCell (p := ⟨w.heap.size, k, none⟩) (Nat.le_refl _) _⟩
        have := HB3.out.set_ k (.float .f64 r)
        rw [store_step _ _ _ (by rw [fl_length]; exact HRS.out.1) h] at this
        simpa [fl] using this
      case measure => simp [intOf]; omega
    · go_wp2
      go_ret
      have hkn : k = n := by omega
      subst hkn
      refine ⟨_, rs, rfl, own_of_bk (by simpa using HB.out) (by rw [fl_length]; exact HRS.out.1) (Nat.le_refl _) hn, HRS.out, hbel⟩
end Go.Proofs.Ytlafjmghfnlaoaa
