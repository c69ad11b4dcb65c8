/-
  Contracts: timeless plans.
-/
import Derived.Test.YtlafjmghfnlaoacDoorPlan
namespace Go.Proofs.YtlafjmghfnlaoacDoor
open Go.RowKit

def tl (s : St) : Bool := decide (s.kd = 1) || decide (s.kd = 11) || decide (s.kd = 12) || decide (s.kd = 13)
def tAll (ds : List SD) : Bool := !anyF ds.length (fun i => !tl (nthS ds i))
theorem tAll_sts {xs ys : List SD} (h : sts xs = sts ys) : tAll xs = tAll ys := by
  unfold tAll
  rw [len_sts h, anyF_congr (fun i _ => by rw [nthS_sts h])]
theorem tl_cases (kd : Int) : (kd = 1 ∨ kd = 11 ∨ kd = 12 ∨ kd = 13) ∨ ((kd == 1) = false ∧ (kd == 11) = false ∧ (kd == 12) = false ∧ (kd == 13) = false) := by
  simp only [beq_eq_false_iff_ne]
  omega
set_option maxRecDepth 20000 in
set_option maxHeartbeats 400000 in
theorem l07Timeless_ok (A : Option Addr) (c b : Nat) (ds : List SD) (w : World) (hc : w.cell? ⟨b, 0, none⟩ = some (.slice A ds.length c)) (hr : RdS w w.heap.size A ds) (hn : ds.length ≤ 1048576) :
    Calls Tryd.prog 36 #[.pointer (some ⟨b, 0, none⟩)] w fun e w' => e = .returned (.bool (tAll ds)) ∧ w = w' := by
  go_enter Tryd.func36, Tryd.ntmps36
  go_wp2
  go_loop [3] (fun i => ∃ k : Nat, k ≤ ds.length ∧ i = .int .i64 k ∧ ∀ j, j < k → tl (nthS ds j) = true) (fun i => ds.length - (intOf i).toNat)
  case atStart => exact ⟨0, by omega, rfl, fun j hj => by omega⟩
  case round =>
    obtain ⟨k, hk, rfl, hall⟩ := hrel
    have Hall := hid hall
    clear hall
    by_cases h : k < ds.length
    · obtain ⟨b2, off, rfl, hbl, hcs⟩ := hr.open_ (by omega)
      have hst := (hcs k _ (List.getElem?_eq_getElem h)).c0
      have hv : nthS ds k = ds[k].s := nthS_get h
      generalize ds[k] = d at *
      clear hcs
      have hnext : tl d.s = true → ∀ j, j < k + 1 → tl (nthS ds j) = true := fun ht j hj => by
        by_cases e : j = k
        · subst e; rw [hv]; exact ht
        · exact Hall.out j (by omega)
      rcases tl_cases d.s.kd with (e | e | e | e) | ⟨e1, e2, e3, e4⟩
      · have HN := hid (hnext (by unfold tl; rw [e]; rfl))
        rw [e] at hst
        clear hnext hv e
        go_wp2
        go_round
        case rel => exact ⟨k + 1, by omega, by go_num, HN.out⟩
        case measure => simp [intOf]; omega
      · have HN := hid (hnext (by unfold tl; rw [e]; rfl))
        rw [e] at hst
        clear hnext hv e
        go_wp2
        go_round
        case rel => exact ⟨k + 1, by omega, by go_num, HN.out⟩
        case measure => simp [intOf]; omega
      · have HN := hid (hnext (by unfold tl; rw [e]; rfl))
        rw [e] at hst
        clear hnext hv e
        go_wp2
        go_round
        case rel => exact ⟨k + 1, by omega, by go_num, HN.out⟩
        case measure => simp [intOf]; omega
      · have HN := hid (hnext (by unfold tl; rw [e]; rfl))
        rw [e] at hst
        clear hnext hv e
        go_wp2
        go_round
        case rel => exact ⟨k + 1, by omega, by go_num, HN.out⟩
        case measure => simp [intOf]; omega
      · have HF := hid (show tAll ds = false by
          unfold tAll
          rw [anyF_true h]
          · rfl
          · rw [hv]
            simp only [beq_eq_false_iff_ne] at e1 e2 e3 e4
            simp [tl, e1, e2, e3, e4])
        clear hnext hv
        go_wp2
        go_ret
        exact ⟨ret_bool HF.out.symm, rfl⟩
    · go_wp2
      go_ret
      refine ⟨ret_bool ?_, rfl⟩
      unfold tAll
      rw [anyF_false fun i hi => by rw [Hall.out i (by omega)]; rfl]
      rfl
/-- what IsTimeless answers -/
def tlRes (ds : List SD) : Bool × Int := if vPlan ds then (tAll ds, 0) else (false, 1)
theorem tlRes_sts {xs ys : List SD} (h : sts xs = sts ys) : tlRes xs = tlRes ys := by
  unfold tlRes
  rw [vPlan_sts h, tAll_sts h]
set_option maxRecDepth 20000 in
set_option maxHeartbeats 400000 in
theorem specTimeless_ok (A : Option Addr) (c : Nat) (ds : List SD) (w : World) (hr : RdS w w.heap.size A ds) (hf : Fits ds) (hI : PlI ds) (x : Bool) (y : Int) (hq : tlRes ds = (x, y)) :
    Calls Tryd.prog 18 #[plV A ds.length c] w fun e w' => e = .returned (.tuple #[.bool x, .int .i64 y]) ∧ Below w.heap.size w w' := by
  have hx : Below w.heap.size w (w.alloc (.cells #[.slice A ds.length c] 38)) := below_box _ _
  have hk := Bk.new w 38 #[.slice A ds.length c]
  have hr1 := (hr.below hx (Nat.le_refl _)).more hx.size
  have H := l07Ok_ok A c w.heap.size ds _ (hk.cell 0) (by rw [alloc_size]; omega) hr1 hf hI
  unfold tlRes at hq
  cases hv : vPlan ds with
  | false =>
    rw [hv] at hq H
    obtain ⟨rfl, rfl⟩ : false = x ∧ (1 : Int) = y := by simpa using hq
    have HH := hid H
    clear H hq
    unfold plV
    go_enter Tryd.func18, Tryd.ntmps18
    go_wp2_with fail
    refine HH.out.mono ?_
    rintro e w2 ⟨rfl, hb2⟩
    go_wp2
    go_ret2
    exact ⟨rfl, hx.trans (hb2.mono hx.size)⟩
  | true =>
    rw [hv] at hq H
    obtain ⟨rfl, rfl⟩ : tAll ds = x ∧ (0 : Int) = y := by simpa using hq
    have HH := hid H
    clear H hq
    unfold plV
    go_enter Tryd.func18, Tryd.ntmps18
    go_wp2_with fail
    refine HH.out.mono ?_
    rintro e w2 ⟨rfl, hb2⟩
    have hk2 := hk.below hb2 hk.lt
    go_wp2_with fail
    refine (l07Timeless_ok A c w.heap.size ds w2 (hk2.cell 0) ((hr1.below hb2 (Nat.le_refl _)).more hb2.size) hf.1).mono ?_
    rintro e w3 ⟨rfl, rfl⟩
    go_wp2
    go_ret2
    exact ⟨rfl, hx.trans (hb2.mono hx.size)⟩
set_option maxRecDepth 20000 in
set_option maxHeartbeats 400000 in
theorem timeless1_ok (s : St) (A : Option Addr) (c : Nat) (w : World) :
    Calls Tryd.prog 53 #[stV s A c] w fun e w' => e = .returned (.bool (!tl s)) ∧ Below w.heap.size w w' := by
  obtain ⟨kd, n, k, tp⟩ := s
  unfold stV
  dsimp only
  rcases tl_cases kd with (rfl | rfl | rfl | rfl) | ⟨e1, e2, e3, e4⟩
  · go_enter Tryd.func53, Tryd.ntmps53
    go_wp2
    go_ret
    exact ⟨rfl, below_box _ _⟩
  · go_enter Tryd.func53, Tryd.ntmps53
    go_wp2
    go_ret
    exact ⟨rfl, below_box _ _⟩
  · go_enter Tryd.func53, Tryd.ntmps53
    go_wp2
    go_ret
    exact ⟨rfl, below_box _ _⟩
  · go_enter Tryd.func53, Tryd.ntmps53
    go_wp2
    go_ret
    exact ⟨rfl, below_box _ _⟩
  · have n1 : (kd != 1) = true := by rw [bne, e1]; rfl
    have n2 : (kd != 11) = true := by rw [bne, e2]; rfl
    have n3 : (kd != 12) = true := by rw [bne, e3]; rfl
    have n4 : (kd != 13) = true := by rw [bne, e4]; rfl
    have ht : tl ⟨kd, n, k, tp⟩ = false := by
      simp only [beq_eq_false_iff_ne] at e1 e2 e3 e4
      simp [tl, e1, e2, e3, e4]
    rw [ht]
    clear ht e1 e2 e3 e4
    go_enter Tryd.func53, Tryd.ntmps53
    go_wp2
    go_ret
    exact ⟨rfl, below_box _ _⟩
theorem timeless1_in : Enters 53 := enters_of Tryd.func53 (by kernel_rfl) (by kernel_rfl)
set_option maxRecDepth 20000 in
set_option maxHeartbeats 400000 in
theorem timeless_ok (A : Option Addr) (c : Nat) (ds : List SD) (w : World) (hr : RdS w w.heap.size A ds) (hn : ds.length ≤ 1048576) :
    Calls Tryd.prog 37 #[plV A ds.length c] w fun e w' => e = .returned (.bool (tAll ds)) ∧ Below w.heap.size w w' := by
  have hx : Below w.heap.size w (w.alloc (.cells #[.slice A ds.length c] 38)) := below_box _ _
  have hr1 := (hr.below hx (Nat.le_refl _)).more hx.size
  have H := stepsContains_ok A c ds 53 #[] _ (fun i => !tl (nthS ds i)) hr1 hn timeless1_in (fun i d w' hd hb => by
    have hi := (List.getElem?_eq_some_iff.1 hd).1
    have he : d = ds[i] := by rw [List.getElem?_eq_getElem hi] at hd; exact (Option.some.inj hd).symm
    have hv : nthS ds i = d.s := by rw [nthS_get hi, he]
    rw [hv]
    exact timeless1_ok d.s d.A d.c w')
  have hvp : tAll ds = !anyF ds.length (fun i => !tl (nthS ds i)) := rfl
  generalize anyF ds.length (fun i => !tl (nthS ds i)) = b at H hvp
  rw [hvp]
  have HH := hid H
  clear H
  unfold plV
  go_enter Tryd.func37, Tryd.ntmps37
  go_wp2_with fail
  refine HH.out.mono ?_
  rintro e w2 ⟨rfl, hb2⟩
  go_wp2
  go_ret
  exact ⟨rfl, hx.trans (hb2.mono hx.size)⟩
set_option maxRecDepth 20000 in
set_option maxHeartbeats 400000 in
theorem implTimeless_ok (A : Option Addr) (c bt ot ct : Nat) (ds : List SD) (w : World) (hF : Forms w bt ot ct) (hr : RdS w w.heap.size A ds) (hf : Fits ds) (hI : PlI ds) (x : Bool) (y : Int) (hq : tlRes ds = (x, y)) :
    Calls Tryd.prog 19 #[plV A ds.length c] w fun e w' => e = .returned (.tuple #[.bool x, .int .i64 y]) ∧ Below w.heap.size w w' := by
  have hx : Below w.heap.size w (w.alloc (.cells #[.slice A ds.length c] 38)) := below_box _ _
  have hk := Bk.new w 38 #[.slice A ds.length c]
  have hr1 := (hr.below hx (Nat.le_refl _)).more hx.size
  have H := implPlan_ok A c bt ot ct ds _ (hF.below hx) hr1 hf hI
  unfold tlRes at hq
  unfold plV at H ⊢
  cases hv : vPlan ds with
  | false =>
    rw [hv] at hq H
    obtain ⟨rfl, rfl⟩ : false = x ∧ (1 : Int) = y := by simpa using hq
    have HH := hid H
    clear H hq
    go_enter Tryd.func19, Tryd.ntmps19
    go_wp2_with fail
    refine HH.out.mono ?_
    rintro e w2 ⟨rfl, hb2⟩
    go_wp2
    go_ret2
    exact ⟨rfl, hx.trans (hb2.mono hx.size)⟩
  | true =>
    rw [hv] at hq H
    obtain ⟨rfl, rfl⟩ : tAll ds = x ∧ (0 : Int) = y := by simpa using hq
    have HH := hid H
    clear H hq
    go_enter Tryd.func19, Tryd.ntmps19
    go_wp2_with fail
    refine HH.out.mono ?_
    rintro e w2 ⟨rfl, hb2⟩
    have hk2 := (hk.below hb2 hk.lt).cell 0
    simp only [List.getElem?_cons_zero] at hk2
    have T := timeless_ok A c ds w2 ((hr1.below hb2 (Nat.le_refl _)).more hb2.size) hf.1
    unfold plV at T
    have HT := hid T
    clear T
    go_wp2_with fail
    refine HT.out.mono ?_
    rintro e w3 ⟨rfl, hb3⟩
    go_wp2
    go_ret2
    exact ⟨rfl, hx.trans ((hb2.trans (hb3.mono hb2.size)).mono hx.size)⟩
end Go.Proofs.YtlafjmghfnlaoacDoor
