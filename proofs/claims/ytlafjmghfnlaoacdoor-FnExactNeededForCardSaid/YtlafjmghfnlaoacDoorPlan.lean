/-
  Contracts: valid plans in the reference and in the program.
-/
import Derived.Test.YtlafjmghfnlaoacDoorValJ
namespace Go.Proofs.YtlafjmghfnlaoacDoor
open Go.RowKit

def nthS (ds : List SD) (i : Nat) : St := (ds.map SD.s).getD i ⟨0, 0, 0, []⟩
theorem nthS_get {ds : List SD} {i : Nat} (h : i < ds.length) : nthS ds i = ds[i].s := by simp [nthS, h]
theorem nthS_sts {xs ys : List SD} (h : sts xs = sts ys) (i : Nat) : nthS xs i = nthS ys i := by
  unfold nthS
  have : xs.map SD.s = ys.map SD.s := h
  rw [this]
/-- all steps are valid -/
def vAll (ds : List SD) : Bool := !anyF ds.length (fun i => !valid (nthS ds i))
def vPlan (ds : List SD) : Bool := vAll ds && decide ((ds.length : Int) ≤ 8)
def PlI (ds : List SD) : Prop := ∀ d ∈ ds, I64' d.s.n
theorem len_sts {xs ys : List SD} (h : sts xs = sts ys) : xs.length = ys.length := by
  have := congrArg List.length h
  simpa [sts] using this
theorem vPlan_sts {xs ys : List SD} (h : sts xs = sts ys) : vPlan xs = vPlan ys := by
  unfold vPlan vAll
  rw [len_sts h, anyF_congr (fun i _ => by rw [nthS_sts h])]
theorem PlI.sts {xs ys : List SD} (h : PlI xs) (he : sts ys = sts xs) : PlI ys := by
  intro d hd
  have h1 : d.s ∈ Go.Proofs.YtlafjmghfnlaoacDoor.sts ys := List.mem_map_of_mem hd
  rw [he] at h1
  obtain ⟨e, h2, h3⟩ := List.mem_map.1 h1
  rw [← h3]
  exact h e h2
theorem leftS_neg {ds : List SD} : ∀ {x : Int}, 0 ≤ x → leftS x ds < 0 → leftS x ds = -1 := by
  induction ds with
  | nil => intro x h0 h; unfold leftS at h; omega
  | cons d ds ih =>
    intro x h0 h
    unfold leftS at h ⊢
    by_cases hc : x - d.s.tp.length < 0
    · rw [if_pos hc]
    · rw [if_neg hc] at h ⊢
      exact ih (by omega) h
theorem lessS_neg {ds : List SD} {x : Int} (h : lessS x ds < 0) : lessS x ds = -1 := by
  unfold lessS at h ⊢
  by_cases hc : x - ds.length < 0
  · rw [if_pos hc]
  · rw [if_neg hc] at h ⊢
    exact leftS_neg (by omega) h
set_option maxRecDepth 20000 in
set_option maxHeartbeats 400000 in
theorem szPlan_is (A : Option Addr) (c : Nat) (ds : List SD) (w : World) (hr : RdS w w.heap.size A ds) (hn : ds.length ≤ maxLen) :
    Calls Tryd.prog 13 #[plV A ds.length c, .int .i64 1048576] w fun e w' => e = .returned (.int .i64 (lessS 1048576 ds)) ∧ Below w.heap.size w w' := by
  unfold plV
  go_enter Tryd.func13, Tryd.ntmps13
  go_wp2_with fail
  refine (szSteps_ok A c ds 1048576 _ ((hr.below (below_box w _) (Nat.le_refl _)).more (by rw [alloc_size]; omega)) hn ⟨by omega, by omega⟩).mono ?_
  rintro e w2 ⟨rfl, hb2⟩
  have hB2 : Below w.heap.size w w2 := (below_box w _).trans (hb2.mono (by rw [alloc_size]; omega))
  go_wp2
  · have h : lessS 1048576 ds < 0 := by assumption
    go_ret
    exact ⟨ret_int (lessS_neg h).symm, hB2⟩
  · go_ret
    exact ⟨rfl, hB2⟩
set_option maxRecDepth 20000 in
set_option maxHeartbeats 400000 in
theorem l07Ok_ok (A : Option Addr) (c b : Nat) (ds : List SD) (w : World) (hc : w.cell? ⟨b, 0, none⟩ = some (.slice A ds.length c)) (hb : b < w.heap.size) (hr : RdS w w.heap.size A ds) (hf : Fits ds) (hI : PlI ds) :
    Calls Tryd.prog 31 #[.pointer (some ⟨b, 0, none⟩)] w fun e w' => e = .returned (.bool (vPlan ds)) ∧ Below w.heap.size w w' := by
  obtain ⟨hn, hft⟩ := hf
  go_enter Tryd.func31, Tryd.ntmps31
  go_wp2
  go_loopw [3] (fun i wr => ∃ k : Nat, k ≤ ds.length ∧ i = .int .i64 k ∧ (∀ j, j < k → valid (nthS ds j) = true) ∧ Below w.heap.size w wr) (fun i _ => ds.length - (intOf i).toNat)
  case atStart => exact ⟨0, by omega, rfl, fun j hj => by omega, Below.refl _ _⟩
  case round =>
    obtain ⟨k, hk, rfl, hall, hbel⟩ := hrel
    have Hall := hid hall
    clear hall
    have hold := (olds hbel).1
    have hbw := Nat.lt_of_lt_of_le hb hbel.size
    by_cases h : k < ds.length
    · obtain ⟨b2, off, rfl, hbl, hcs⟩ := hr.open_ (by omega)
      have hst := hcs k _ (List.getElem?_eq_getElem h)
      have hrd := (hr.2 _ (List.getElem_mem h)).1
      have hfd := hft _ (List.getElem_mem h)
      have hid' := hI _ (List.getElem_mem h)
      have hv : nthS ds k = ds[k].s := nthS_get h
      generalize ds[k] = d at *
      go_wp2_with fail
      refine (l07Step_ok d b2 (off + k * 4) wr (hst.below hbel hbl) (Nat.lt_of_lt_of_le hbl hbel.size) ((hrd.below hbel (Nat.le_refl _)).more hbel.size) hfd hid').mono ?_
      rintro e w2 ⟨rfl, hb2⟩
      have hB2 := hbel.trans (hb2.mono hbel.size)
      cases hvd : valid d.s with
      | false =>
        go_wp2
        go_ret
        refine ⟨ret_bool ?_, hB2⟩
        unfold vPlan vAll
        rw [anyF_true h (by rw [hv, hvd]; rfl)]
        rfl
      | true =>
        go_wp2
        go_roundw
        case rel =>
          refine ⟨k + 1, by omega, by go_num, fun j hj => ?_, hB2⟩
          by_cases e : j = k
          · subst e; rw [hv]; exact hvd
          · exact Hall.out j (by omega)
        case measure => simp [intOf]; omega
    · go_wp2
      go_ret
      refine ⟨ret_bool ?_, hbel⟩
      unfold vPlan vAll
      rw [anyF_false fun i hi => by rw [Hall.out i (by omega)]; rfl]
      simp
set_option maxRecDepth 20000 in
set_option maxHeartbeats 400000 in
theorem specPlan_ok (A : Option Addr) (c : Nat) (ds : List SD) (w : World) (hr : RdS w w.heap.size A ds) (hf : Fits ds) (hI : PlI ds) :
    Calls Tryd.prog 14 #[plV A ds.length c] w fun e w' => e = .returned (.bool (vPlan ds)) ∧ Below w.heap.size w w' := by
  have hx : Below w.heap.size w (w.alloc (.cells #[.slice A ds.length c] 38)) := below_box _ _
  unfold plV
  go_enter Tryd.func14, Tryd.ntmps14
  go_wp2_with fail
  refine (l07Ok_ok A c w.heap.size ds _ ((Bk.new w 38 #[.slice A ds.length c]).cell 0) (by rw [alloc_size]; omega) ((hr.below hx (Nat.le_refl _)).more hx.size) hf hI).mono ?_
  rintro e w2 ⟨rfl, hb2⟩
  go_wp2
  go_ret
  exact ⟨rfl, hx.trans (hb2.mono hx.size)⟩
set_option maxRecDepth 20000 in
set_option maxHeartbeats 400000 in
theorem validPlan1_ok (s : St) (A : Option Addr) (c bt ot ct : Nat) (w : World) (hF : Forms w bt ot ct) (hr : Rd w w.heap.size A (is64 s.tp)) (hn : s.tp.length ≤ 1048576) (hI : I64' s.n) :
    Calls Tryd.prog 34 #[stV s A c] w fun e w' => e = .returned (.bool (!valid s)) ∧ Below w.heap.size w w' := by
  have hx : Below w.heap.size w (w.alloc (.cells #[.int .i64 s.kd, .int .i64 s.n, .int .i64 s.k, .slice A s.tp.length c] 27)) := below_box _ _
  have hv := validStep_ok s A c bt ot ct _ (hF.below hx) ((hr.below hx (Nat.le_refl _)).more hx.size) hn hI
  unfold stV at hv ⊢
  go_enter Tryd.func34, Tryd.ntmps34
  go_wp2_with fail
  refine hv.mono ?_
  rintro e w2 ⟨rfl, hb2⟩
  go_wp2
  go_ret
  exact ⟨rfl, hx.trans (hb2.mono hx.size)⟩
theorem validPlan1_in : Enters 34 := enters_of Tryd.func34 (by kernel_rfl) (by kernel_rfl)
set_option maxRecDepth 20000 in
set_option maxHeartbeats 400000 in
theorem stepsIndex_ok (A : Option Addr) (c : Nat) (ds : List SD) (K : FuncId) (caps : Array Value) (w : World) (p : Nat → Bool) (hr : RdS w w.heap.size A ds) (hn : ds.length ≤ 1048576) (hK : Enters K)
    (hf : ∀ i d w', ds[i]? = some d → Below w.heap.size w w' → Calls Tryd.prog K (#[stV d.s d.A d.c] ++ caps) w' fun e w'' => e = .returned (.bool (p i)) ∧ Below w'.heap.size w' w'') :
    Calls Tryd.prog 52 #[.slice A ds.length c, .func (.func K) #[] caps] w fun e w' => ∃ r, e = .returned (.int .i64 r) ∧ FirstIs p ds.length r ∧ Below w.heap.size w w' := by
  unfold stV at hf
  have HF := hid hf
  clear hf
  unfold Enters at hK
  go_enter Tryd.func52, Tryd.ntmps52
  go_wp2_with fail
  go_loopw [8] (fun i wr => ∃ k : Nat, k ≤ ds.length ∧ i = .int .i64 k ∧ (∀ j, j < k → p j = false) ∧ Below w.heap.size w wr) (fun i _ => ds.length - (intOf i).toNat)
  case atStart => exact ⟨0, by omega, rfl, fun j hj => by omega, Below.refl _ _⟩
  case round =>
    obtain ⟨k, hk, rfl, hall, hb⟩ := hrel
    have Hall := hid hall
    clear hall
    by_cases h : k < ds.length
    · have hu : ds[k]? = some ds[k] := List.getElem?_eq_getElem h
      obtain ⟨b, off, rfl, hbl, hc⟩ := hr.open_ (by omega)
      obtain ⟨c0, c1, c2, c3⟩ := hc k _ hu
      have hold := (olds hb).1
      have HU := hid hu
      generalize ds[k] = u at *
      clear hc hu
      go_wp2_with ((with_reducible refine (HF.out k u _ HU.out hb).mono ?_); rintro e w2 ⟨rfl, hb2⟩)
      · have hp : p k = true := by assumption
        go_ret
        exact ⟨_, rfl, .inr ⟨k, h, rfl, hp, Hall.out⟩, hb.trans (hb2.mono hb.size)⟩
      · have hp : p k = false := by assumption
        refine ⟨?_, by simp [intOf]; omega⟩
        have hnext : ∀ j, j < k + 1 → p j = false := fun j hj => by
          by_cases e : j = k
          · subst e; exact hp
          · exact Hall.out j (by omega)
        first
          | exact ⟨k + 1, by omega, by go_num, hnext, hb.trans (hb2.mono hb.size)⟩
          | ((repeat apply Exists.intro); exact ⟨⟨k + 1, by omega, by go_num, hnext, hb.trans (hb2.mono hb.size)⟩, rfl⟩)
    · go_wp2
      go_ret
      exact ⟨_, rfl, .inl ⟨rfl, fun i hi => Hall.out i (by omega)⟩, hb⟩
set_option maxRecDepth 20000 in
set_option maxHeartbeats 400000 in
theorem stepsContains_ok (A : Option Addr) (c : Nat) (ds : List SD) (K : FuncId) (caps : Array Value) (w : World) (p : Nat → Bool) (hr : RdS w w.heap.size A ds) (hn : ds.length ≤ 1048576) (hK : Enters K)
    (hf : ∀ i d w', ds[i]? = some d → Below w.heap.size w w' → Calls Tryd.prog K (#[stV d.s d.A d.c] ++ caps) w' fun e w'' => e = .returned (.bool (p i)) ∧ Below w'.heap.size w' w'') :
    Calls Tryd.prog 33 #[.slice A ds.length c, .func (.func K) #[] caps] w fun e w' => e = .returned (.bool (anyF ds.length p)) ∧ Below w.heap.size w w' := by
  have HF := hid hf
  clear hf
  have HK := hid hK
  clear hK
  go_enter Tryd.func33, Tryd.ntmps33
  go_wp2_with (go_at_call 52; refine (stepsIndex_ok A c ds K caps w p hr hn HK.out HF.out).mono ?_; rintro e w2 ⟨r, rfl, hfi, hb⟩)
  go_ret
  exact ⟨ret_bool (FirstIs.any hfi), hb⟩
set_option maxRecDepth 20000 in
set_option maxHeartbeats 400000 in
theorem implPlan_ok (A : Option Addr) (c bt ot ct : Nat) (ds : List SD) (w : World) (hF : Forms w bt ot ct) (hr : RdS w w.heap.size A ds) (hf : Fits ds) (hI : PlI ds) :
    Calls Tryd.prog 16 #[plV A ds.length c] w fun e w' => e = .returned (.bool (vPlan ds)) ∧ Below w.heap.size w w' := by
  obtain ⟨hn, hft⟩ := hf
  have hx : Below w.heap.size w (w.alloc (.cells #[.slice A ds.length c] 38)) := below_box _ _
  have hr1 := (hr.below hx (Nat.le_refl _)).more hx.size
  have hF1 := hF.below hx
  have H := stepsContains_ok A c ds 34 #[] _ (fun i => !valid (nthS ds i)) hr1 hn validPlan1_in (fun i d w' hd hb => by
    have hi := (List.getElem?_eq_some_iff.1 hd).1
    have he : d = ds[i] := by rw [List.getElem?_eq_getElem hi] at hd; exact (Option.some.inj hd).symm
    have hv : nthS ds i = d.s := by rw [nthS_get hi, he]
    have hm : d ∈ ds := he ▸ List.getElem_mem hi
    rw [hv]
    exact validPlan1_ok d.s d.A d.c bt ot ct w' (hF1.below hb) (((hr1.2 d hm).1.below hb (Nat.le_refl _)).more hb.size) (hft d hm) (hI d hm))
  have hvp : vPlan ds = (!anyF ds.length (fun i => !valid (nthS ds i)) && decide ((ds.length : Int) ≤ 8)) := rfl
  generalize anyF ds.length (fun i => !valid (nthS ds i)) = b at H hvp
  rw [hvp]
  have HH := hid H
  clear H
  unfold plV
  go_enter Tryd.func16, Tryd.ntmps16
  go_wp2_with (go_at_call 33; refine HH.out.mono ?_; rintro e w2 ⟨rfl, hb2⟩)
  all_goals
    go_ret
    refine ⟨ret_bool ?_, by first | exact hx | exact hx.trans (Below.mono (by assumption) hx.size)⟩
    simp_all
end Go.Proofs.YtlafjmghfnlaoacDoor
