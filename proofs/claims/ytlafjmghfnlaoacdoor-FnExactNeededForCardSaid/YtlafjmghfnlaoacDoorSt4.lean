/-
  Contracts: equality of slices of steps; plans in the laws' own helpers.
-/
import Derived.Test.YtlafjmghfnlaoacDoorSt3
namespace Go.Proofs.YtlafjmghfnlaoacDoor
open Go.RowKit

theorem sameSt_self (s : St) : sameSt s s = true := by simp [sameSt, eqI]
set_option maxRecDepth 20000 in
set_option maxHeartbeats 400000 in
theorem eqSteps_ok (A B : Option Addr) (c d : Nat) (xs ys : List SD) (w : World) (hr : RdS w w.heap.size A xs) (hs : RdS w w.heap.size B ys) (hf : Fits xs) (hg : Fits ys) (he : sts xs = sts ys) :
    Calls Tryd.prog 35 #[.slice A xs.length c, .slice B ys.length d] w fun e w' => e = .returned (.bool true) ∧ Below w.heap.size w w' := by
  obtain ⟨hn, hft⟩ := hf
  obtain ⟨hm, hgt⟩ := hg
  have hl : xs.length = ys.length := by
    have := congrArg List.length he
    simpa [sts] using this
  have hl' : ((xs.length : Int) != (ys.length : Int)) = false := by rw [bne_eq_false_iff_eq]; omega
  have hsame : ∀ k (h1 : k < xs.length) (h2 : k < ys.length), sameSt xs[k].s ys[k].s = true := fun k h1 h2 => by
    have h3 : (sts xs)[k]? = (sts ys)[k]? := by rw [he]
    simp [sts, h1, h2] at h3
    rw [h3]
    exact sameSt_self _
  have HL := hid hl
  have HS := hid hsame
  clear hl he hsame
  go_enter Tryd.func35, Tryd.ntmps35
  go_wp2
  go_loopw [5] (fun i wr => ∃ k : Nat, k ≤ xs.length ∧ i = .int .i64 k ∧ Below w.heap.size w wr) (fun i _ => xs.length - (intOf i).toNat)
  case atStart => exact ⟨0, by omega, rfl, Below.refl _ _⟩
  case round =>
    obtain ⟨k, hk, rfl, hb⟩ := hrel
    by_cases h : k < xs.length
    · obtain ⟨b, off, rfl, hbl, hc⟩ := hr.open_ (by omega)
      have h2 : k < ys.length := by have := HL.out; omega
      obtain ⟨b2, off2, rfl, hbl2, hc2⟩ := hs.open_ (by omega)
      obtain ⟨c0, c1, c2, c3⟩ := hc k _ (List.getElem?_eq_getElem h)
      obtain ⟨d0, d1, d2, d3⟩ := hc2 k _ (List.getElem?_eq_getElem h2)
      have hsm := HS.out k h h2
      have hrx := (hr.2 _ (List.getElem_mem h)).1
      have hry := (hs.2 _ (List.getElem_mem h2)).1
      have hfx := hft _ (List.getElem_mem h)
      have hfy := hgt _ (List.getElem_mem h2)
      have hold := (olds hb).1
      have hbw : b < wr.heap.size := Nat.lt_of_lt_of_le hbl hb.size
      have hbw2 : b2 < wr.heap.size := Nat.lt_of_lt_of_le hbl2 hb.size
      clear hc hc2
      generalize xs[k] = x at *
      generalize ys[k] = y at *
      have HSM := hid hsm
      clear hsm
      go_wp2
      refine wp_region_bw (fun _ _ v => v = .bool true) (by kernel_rfl) (by kernel_rfl) ?_
      repeat (refine wpND_step (fun K hK => ?_); go_simp; first | (refine hK _ ?_; clear hK K) | (refine nd_bw (fun wq hwq holdq => ?_); go_simp; (try go_bits); first | (refine hK _ ?_; clear hK K) | (refine ⟨(eqStep_ok x.s y.s x.A y.A x.c y.c wq ((hrx.below (hb.trans (hwq.mono hb.size)) (Nat.le_refl _)).more (Nat.le_trans hb.size hwq.size)) ((hry.below (hb.trans (hwq.mono hb.size)) (Nat.le_refl _)).more (Nat.le_trans hb.size hwq.size)) hfx hfy).mono (by rintro e w3 ⟨rfl, hb3⟩; exact ⟨_, rfl, by rw [HSM.out], hwq.trans (hb3.mono hwq.size)⟩), ?_⟩; refine hK _ ?_; clear hK K)))
      refine wpND_nil ?_
      intro w4 hb4
      have hB4 : Below w.heap.size w w4 := hb.trans (hb4.mono hb.size)
      go_wp2
      go_roundw
      case rel => exact ⟨k + 1, by omega, by go_num, hB4⟩
      case measure => simp [intOf]; omega
    · go_wp2
      go_ret
      exact ⟨rfl, hb⟩
def plV (A : Option Addr) (n c : Nat) : Value := .agg #[.slice A n c]
set_option maxRecDepth 20000 in
set_option maxHeartbeats 400000 in
theorem szPlan_ok (A : Option Addr) (c : Nat) (ds : List SD) (left : Int) (w : World) (hr : RdS w w.heap.size A ds) (hn : ds.length ≤ maxLen) (hl : 0 ≤ left ∧ left ≤ 1048576) :
    Calls Tryd.prog 13 #[plV A ds.length c, .int .i64 left] w fun e w' => ∃ x : Int, e = .returned (.int .i64 x) ∧ (x < 0 ∨ lessS left ds = x) ∧ Below w.heap.size w w' := by
  unfold plV
  go_enter Tryd.func13, Tryd.ntmps13
  go_wp2_with fail
  refine (szSteps_ok A c ds left _ ((hr.below (below_box w _) (Nat.le_refl _)).more (by rw [alloc_size]; omega)) hn hl).mono ?_
  rintro e w2 ⟨rfl, hb2⟩
  have hB2 : Below w.heap.size w w2 := (below_box w _).trans (hb2.mono (by rw [alloc_size]; omega))
  go_wp2
  all_goals
    go_ret
  · exact ⟨_, rfl, .inl (by omega), hB2⟩
  · exact ⟨_, rfl, .inr rfl, hB2⟩
theorem leftS_fits {ds : List SD} : ∀ {x : Int}, 0 ≤ leftS x ds → ∀ d ∈ ds, (d.s.tp.length : Int) ≤ x := by
  induction ds with
  | nil => intro x _ d hd; cases hd
  | cons a ds ih =>
    intro x hx d hd
    unfold leftS at hx
    by_cases h : x - a.s.tp.length < 0
    · rw [if_pos h] at hx; omega
    · rw [if_neg h] at hx
      rcases List.mem_cons.1 hd with e | e
      · subst e; omega
      · have := ih hx d e
        omega
theorem fits_of {ds : List SD} {left : Int} (hl : left ≤ 1048576) (h : 0 ≤ lessS left ds) : Fits ds := by
  unfold lessS at h
  by_cases h0 : left - ds.length < 0
  · rw [if_pos h0] at h; omega
  · rw [if_neg h0] at h
    refine ⟨by omega, fun d hd => ?_⟩
    have := leftS_fits h d hd
    omega
theorem planSize : (Tryd.prog.info? 38).map (·.size) = some 1 := by kernel_rfl
set_option maxRecDepth 20000 in
set_option maxHeartbeats 400000 in
theorem toPlan_ok (A : Option Addr) (c : Nat) (ds : List SD) (w : World) (hr : RdS w w.heap.size A ds) (hf : Fits ds) :
    Calls Tryd.prog 15 #[plV A ds.length c] w fun e w' => ∃ g es, e = .returned (plV (some ⟨g, 0, none⟩) ds.length ds.length) ∧ sts es = sts ds ∧ RdS w' w'.heap.size (some ⟨g, 0, none⟩) es ∧ Below w.heap.size w w' := by
  unfold plV
  go_enter Tryd.func15, Tryd.ntmps15
  go_wp2_with fail
  refine (toSteps_ok A c ds _ ((hr.below (below_box3 w _ _ _) (Nat.le_refl _)).more (by rw [size3]; omega)) hf).mono ?_
  rintro e w2 ⟨g, es, rfl, hes, hrs, hos, hgl, hb⟩
  have hB : Below w.heap.size w w2 := (below_box3 w _ _ _).trans (hb.mono (by rw [size3]; omega))
  have hk1 := ((Bk.new _ 38 #[.slice none 0 0]).below hb (by simp only [alloc_size]; omega))
  have hk2 := (((Bk.new (w.alloc (.cells #[.slice A ds.length c] 33)) 38 #[.slice none 0 0])).below ((below_box _ (.cells #[.slice none 0 0] 38))) (by simp only [alloc_size]; omega)).below hb (by simp only [alloc_size]; omega)
  rw [alloc_size, alloc_size] at hk1
  rw [alloc_size] at hk2
  rw [size3] at hgl
  have c0 := hk1.cell 0
  have f0 := hk1.frozen 0
  have d0 := hk2.cell 0
  have e0 := hk2.frozen 0
  simp at c0 d0
  have hl1 := hk1.lt
  have HES := hid hes
  clear hes
  go_wp2_with fail
  have hk3 := (hk2.far (p := ⟨w.heap.size + 1 + 1, 0, none⟩) (by show w.heap.size + 1 ≠ w.heap.size + 1 + 1; omega) (.slice (some ⟨g, 0, none⟩) ds.length ds.length)).set_ 0 (.slice (some ⟨g, 0, none⟩) ds.length ds.length)
  (try simp only [Exit.inBlock, Exit.then])
  refine ret_row rfl rfl hk3 Tryd.underlying38 rfl planSize rfl ?_
  refine ⟨g, es, rfl, HES.out, ?_, ?_⟩
  · rw [size_set, size_set]
    rw [size3] at hos
    exact (hrs.far hos (p := ⟨w.heap.size + 1 + 1, 0, none⟩) (by show w.heap.size + 1 + 1 < g; omega) (by show w.heap.size + 1 + 1 < w.heap.size + 3; omega) _).far hos (p := ⟨w.heap.size + 1, 0, none⟩) (by show w.heap.size + 1 < g; omega) (by show w.heap.size + 1 < w.heap.size + 3; omega) _
  · exact (hB.setCell (p := ⟨w.heap.size + 1 + 1, 0, none⟩) (by show w.heap.size ≤ w.heap.size + 1 + 1; omega) _).setCell (p := ⟨w.heap.size + 1, 0, none⟩) (by show w.heap.size ≤ w.heap.size + 1; omega) _
set_option maxRecDepth 20000 in
set_option maxHeartbeats 400000 in
theorem eqPlan_ok (A B : Option Addr) (c d n : Nat) (xs ys : List SD) (w : World) (hr : RdS w w.heap.size A xs) (hs : RdS w w.heap.size B ys) (hf : Fits xs) (hg : Fits ys) (he : sts xs = sts ys) (hx : xs.length = n) (hy : ys.length = n) :
    Calls Tryd.prog 17 #[plV A n c, plV B n d] w fun e w' => e = .returned (.bool true) ∧ Below w.heap.size w w' := by
  unfold plV
  go_enter Tryd.func17, Tryd.ntmps17
  go_wp2_with fail
  have hq := eqSteps_ok A B c d xs ys _ ((hr.below (below_box2 w (.cells #[.slice A n c] 38) (.cells #[.slice B n d] 38)) (Nat.le_refl _)).more (by rw [size2]; omega)) ((hs.below (below_box2 w _ _) (Nat.le_refl _)).more (by rw [size2]; omega)) hf hg he
  rw [hx, hy] at hq
  refine hq.mono ?_
  rintro e w2 ⟨rfl, hb2⟩
  have hB2 : Below w.heap.size w w2 := (below_box2 w _ _).trans (hb2.mono (by rw [size2]; omega))
  go_wp2
  go_ret
  exact ⟨rfl, hB2⟩
theorem fits_sts {xs ys : List SD} (h : Fits xs) (he : sts ys = sts xs) : Fits ys := by
  refine ⟨?_, fun d hd => ?_⟩
  · have := congrArg List.length he
    simp [sts] at this
    rw [this]; exact h.1
  · have h1 : d.s ∈ sts ys := List.mem_map_of_mem hd
    rw [he] at h1
    obtain ⟨e, h2, h3⟩ := List.mem_map.1 h1
    rw [← h3]
    exact h.2 e h2
end Go.Proofs.YtlafjmghfnlaoacDoor
