/-
  Contracts: how many numbers a plan makes.
-/
import Derived.Test.YtlafjmghfnlaoacDoorLen
namespace Go.Proofs.YtlafjmghfnlaoacDoor
open Go.RowKit

def firstNZ : List Int → Int
  | [] => 0
  | c :: cs => if c = 0 then firstNZ cs else c
theorem firstNZ_zero {cs : List Int} (h : ∀ j, j < cs.length → nthI cs j = 0) : firstNZ cs = 0 := by
  induction cs with
  | nil => rfl
  | cons c cs ih =>
    have h0 : c = 0 := h 0 (by simp)
    simp only [firstNZ, h0, if_true]
    exact ih fun j hj => by simpa [nthI] using h (j + 1) (by simpa using hj)
theorem firstNZ_at {cs : List Int} {k : Nat} (hk : k < cs.length) (h : ∀ j, j < k → nthI cs j = 0) (hc : nthI cs k ≠ 0) : firstNZ cs = nthI cs k := by
  induction cs generalizing k with
  | nil => simp at hk
  | cons c cs ih =>
    cases k with
    | zero =>
      have : c ≠ 0 := hc
      simp [firstNZ, this, nthI]
    | succ k =>
      have h0 : c = 0 := h 0 (by omega)
      simp only [firstNZ, h0, if_true]
      rw [ih (k := k) (by simpa using hk) (fun j hj => by simpa [nthI] using h (j + 1) (by omega)) (by simpa [nthI] using hc)]
      simp [nthI]
set_option maxRecDepth 20000 in
set_option maxHeartbeats 400000 in
theorem first_ok (A : Option Addr) (c : Nat) (cs : List Int) (w : World) (hr : Rd w w.heap.size A (is64 cs)) (hn : cs.length ≤ 1000) :
    Calls Tryd.prog 54 #[.slice A cs.length c] w fun e w' => e = .returned (.int .i64 (firstNZ cs)) ∧ w = w' := by
  go_enter Tryd.func54, Tryd.ntmps54
  go_wp2
  go_loop [7] (fun i => ∃ k : Nat, k ≤ cs.length ∧ i = .int .i64 k ∧ ∀ j, j < k → nthI cs j = 0) (fun i => cs.length - (intOf i).toNat)
  case atStart => exact ⟨0, by omega, rfl, fun j hj => by omega⟩
  case round =>
    obtain ⟨k, hk, rfl, hall⟩ := hrel
    have Hall := hid hall
    clear hall
    by_cases h : k < cs.length
    · obtain ⟨b, off, rfl, hbl, hc⟩ := hr.open_ (by rw [is64_length]; omega)
      have hc' := hc k _ (is64_get cs h)
      clear hc
      cases hz : (nthI cs k != 0) with
      | true =>
        have HN := hid hz
        go_wp2
        go_ret
        exact ⟨ret_int (firstNZ_at h Hall.out (by simpa using HN.out)).symm, rfl⟩
      | false =>
        have HN := hid hz
        go_wp2
        go_round
        case rel =>
          refine ⟨k + 1, by omega, by go_num, fun j hj => ?_⟩
          by_cases e : j = k
          · subst e; simpa using HN.out
          · exact Hall.out j (by omega)
        case measure => simp [intOf]; omega
    · go_wp2
      go_ret
      exact ⟨ret_int (firstNZ_zero fun j hj => Hall.out j (by omega)).symm, rfl⟩

theorem fnz_skip (y : Int) : firstNZ [0, y] = y := by
  unfold firstNZ
  rw [if_pos rfl]
  unfold firstNZ
  split
  · rename_i h; rw [h]; rfl
  · rfl
theorem fnz_head {x : Int} (h : x ≠ 0) (y : Int) : firstNZ [x, y] = x := by
  unfold firstNZ
  rw [if_neg h]

def cnt (ds : List SD) (n : Int) : Int := if vPlan ds then (if inZ n 0 1000000 then 0 else 2) else 1
theorem cnt_sts {xs ys : List SD} (h : sts xs = sts ys) (n : Int) : cnt xs n = cnt ys n := by
  unfold cnt
  rw [vPlan_sts h]
def lenF (n : Int) : List SD → Int × Int
  | [] => (n, 0)
  | d :: ds => if 1000000 < lenS d.s n then (0, 3) else lenF (lenS d.s n) ds
def lenRes (ds : List SD) (n : Int) : Int × Int := if cnt ds n = 0 then lenF n ds else (0, cnt ds n)
theorem lenF_sts : ∀ {xs ys : List SD} (_ : sts xs = sts ys) (n : Int), lenF n xs = lenF n ys
  | [], [], _, _ => rfl
  | [], _ :: _, h, _ => by simp [sts] at h
  | _ :: _, [], h, _ => by simp [sts] at h
  | x :: xs, y :: ys, h, n => by
    simp [sts] at h
    unfold lenF
    rw [h.1]
    split
    · rfl
    · exact lenF_sts h.2 _
theorem lenRes_sts {xs ys : List SD} (h : sts xs = sts ys) (n : Int) : lenRes xs n = lenRes ys n := by
  unfold lenRes
  rw [cnt_sts h, lenF_sts h]
theorem cnt_ok {ds : List SD} {n : Int} (h : cnt ds n = 0) : vPlan ds = true ∧ 0 ≤ n ∧ n ≤ 1000000 := by
  unfold cnt at h
  split at h
  · rename_i hv
    split at h
    · rename_i hi
      have : 0 ≤ n ∧ n ≤ 1000000 := by simpa [inZ] using hi
      exact ⟨hv, this⟩
    · omega
  · omega
theorem vPlan_all {ds : List SD} (h : vPlan ds = true) : ∀ d ∈ ds, Bnd d.s := by
  unfold vPlan vAll at h
  intro d hd
  obtain ⟨i, hi, rfl⟩ := List.getElem_of_mem hd
  apply bnd_valid
  cases hv : valid ds[i].s with
  | true => rfl
  | false =>
    rw [anyF_true hi (by rw [nthS_get hi, hv]; rfl)] at h
    simp at h
set_option maxRecDepth 20000 in
set_option maxHeartbeats 400000 in
theorem l07Counted_ok (A : Option Addr) (c b : Nat) (ds : List SD) (n : Int) (w : World) (hc : w.cell? ⟨b, 0, none⟩ = some (.slice A ds.length c)) (hb : b < w.heap.size) (hr : RdS w w.heap.size A ds) (hf : Fits ds) (hI : PlI ds) :
    Calls Tryd.prog 38 #[.pointer (some ⟨b, 0, none⟩), .int .i64 n] w fun e w' => e = .returned (.int .i64 (cnt ds n)) ∧ Below w.heap.size w w' := by
  have H := l07Ok_ok A c b ds w hc hb hr hf hI
  unfold cnt
  cases hv : vPlan ds with
  | false =>
    rw [hv] at H
    go_enter Tryd.func38, Tryd.ntmps38
    go_wp2_with fail
    refine H.mono ?_
    rintro e w2 ⟨rfl, hb2⟩
    go_wp2
    go_ret
    exact ⟨rfl, hb2⟩
  | true =>
    rw [hv] at H
    cases hi : inZ n 0 1000000 with
    | false =>
      go_enter Tryd.func38, Tryd.ntmps38
      go_wp2_with fail
      refine H.mono ?_
      rintro e w2 ⟨rfl, hb2⟩
      go_wp2_with fail
      refine (l00In_ok n 0 1000000 w2).mono ?_
      rintro e w3 ⟨rfl, rfl⟩
      rw [hi]
      go_wp2
      go_ret
      exact ⟨rfl, hb2⟩
    | true =>
      go_enter Tryd.func38, Tryd.ntmps38
      go_wp2_with fail
      refine H.mono ?_
      rintro e w2 ⟨rfl, hb2⟩
      go_wp2_with fail
      refine (l00In_ok n 0 1000000 w2).mono ?_
      rintro e w3 ⟨rfl, rfl⟩
      rw [hi]
      go_wp2
      go_ret
      exact ⟨rfl, hb2⟩
set_option maxRecDepth 20000 in
set_option maxHeartbeats 400000 in
theorem countCode_ok (A : Option Addr) (c bt ot ct : Nat) (ds : List SD) (n : Int) (w : World) (hF : Forms w bt ot ct) (hr : RdS w w.heap.size A ds) (hf : Fits ds) (hI : PlI ds) :
    Calls Tryd.prog 40 #[plV A ds.length c, .int .i64 n] w fun e w' => e = .returned (.int .i64 (cnt ds n)) ∧ Below w.heap.size w w' := by
  have hx : Below w.heap.size w (w.alloc (.cells #[.slice A ds.length c] 38)) := below_box _ _
  have H := implPlan_ok A c bt ot ct ds _ (hF.below hx) ((hr.below hx (Nat.le_refl _)).more hx.size) hf hI
  have hres : cnt ds n = firstNZ [code (!vPlan ds) 1, code (!inZ n 0 1000000) 2] := by
    unfold cnt code
    cases vPlan ds <;> cases inZ n 0 1000000 <;> rfl
  rw [hres]
  unfold plV at H ⊢
  have HH := hid H
  clear H hres
  generalize vPlan ds = v at *
  go_enter Tryd.func40, Tryd.ntmps40
  go_wp2_with fail
  refine HH.out.mono ?_
  rintro e w2 ⟨rfl, hb2⟩
  have hB2 := hx.trans (hb2.mono hx.size)
  go_wp2_with fail
  refine (unless_ok _ _ _).mono ?_
  rintro e w3 ⟨rfl, rfl⟩
  go_wp2_with fail
  refine (in_ok _ _ _ _).mono ?_
  rintro e w3 ⟨rfl, rfl⟩
  go_wp2_with fail
  refine (unless_ok _ _ _).mono ?_
  rintro e w3 ⟨rfl, rfl⟩
  go_wp2_with fail
  refine (first_ok _ _ [code (!v) 1, code (!inZ n 0 1000000) 2] _ (Bk.new w2 2 #[.int .i64 (code (!v) 1), .int .i64 (code (!inZ n 0 1000000) 2)]).rd (by simp)).mono ?_
  rintro e w3 ⟨rfl, rfl⟩
  go_wp2
  go_ret
  exact ⟨rfl, hB2.trans ((below_box _ _).mono hB2.size)⟩
set_option maxRecDepth 20000 in
set_option maxHeartbeats 400000 in
theorem specLength_ok (A : Option Addr) (c : Nat) (ds : List SD) (n : Int) (w : World) (hr : RdS w w.heap.size A ds) (hf : Fits ds) (hI : PlI ds) (x y : Int) (hq : lenRes ds n = (x, y)) :
    Calls Tryd.prog 20 #[plV A ds.length c, .int .i64 n] w fun e w' => e = .returned (.tuple #[.int .i64 x, .int .i64 y]) ∧ Below w.heap.size w w' := by
  have hx : Below w.heap.size w (w.alloc (.cells #[.slice A ds.length c] 38)) := below_box _ _
  have hk := Bk.new w 38 #[.slice A ds.length c]
  have hr1 := (hr.below hx (Nat.le_refl _)).more hx.size
  have hlt0 : w.heap.size < (w.alloc (.cells #[.slice A ds.length c] 38)).heap.size := by rw [alloc_size]; omega
  have H := l07Counted_ok A c w.heap.size ds n _ (hk.cell 0) hlt0 hr1 hf hI
  have hn := hf.1
  unfold lenRes at hq
  by_cases hc : cnt ds n = 0
  · rw [if_pos hc] at hq
    obtain ⟨hv, h0, h1⟩ := cnt_ok hc
    have hbnd := vPlan_all hv
    rw [hc] at H
    have HH := hid H
    have HQ := hid hq
    clear H hq hc hv
    unfold plV
    go_enter Tryd.func20, Tryd.ntmps20
    go_wp2_with fail
    generalize w.alloc (.cells #[.slice A ds.length c] 38) = W at *
    refine HH.out.mono ?_
    rintro e w2 ⟨rfl, hb2⟩
    have hB2 := hx.trans (hb2.mono hx.size)
    have hk2 := (hk.below hb2 hlt0).cell 0
    simp only [List.getElem?_cons_zero] at hk2
    have hlt2 := Nat.lt_of_lt_of_le hlt0 hb2.size
    have hr2 := (hr1.below hb2 (Nat.le_refl _)).more hb2.size
    clear HH hk hr1 hlt0
    go_wp2
    go_loopw [1, 7] (fun m i wr => ∃ (k : Nat) (z : Int), k ≤ ds.length ∧ i = .int .i64 k ∧ m = .int .i64 z ∧ 0 ≤ z ∧ z ≤ 1000000 ∧ lenF z (ds.drop k) = (x, y) ∧ ∃ n, wr = w2.drewN n) (fun _ i _ => ds.length - (intOf i).toNat)
    case atStart => exact ⟨0, n, by omega, rfl, rfl, h0, h1, HQ.out, 0, rfl⟩
    case round =>
      obtain ⟨k, z, hk, rfl, rfl, hz0, hz1, hz, m, rfl⟩ := hrel
      have HZ := hid hz
      clear hz
      by_cases h : k < ds.length
      · obtain ⟨b, off, rfl, hbl, hcs⟩ := hr2.open_ (by omega)
        have hst := hcs k _ (List.getElem?_eq_getElem h)
        have hbd := hbnd _ (List.getElem_mem h)
        have hdrop : ds.drop k = ds[k] :: ds.drop (k + 1) := List.drop_eq_getElem_cons h
        rw [hdrop] at HZ
        generalize ds[k] = d at *
        have hsb := lenS_bnd hbd hz0 hz1
        have HS := fun q => specLen_ok d z b (off + k * 4) (w2.drewN q) ⟨hst.1, hst.2, hst.3, hst.4⟩ hbd hz0 hz1
        have HHS := hid HS
        clear HS hst hcs
        go_wp2_with fail
        refine (HHS.out _).mono ?_
        rintro e w4 ⟨rfl, m2, rfl⟩
        obtain ⟨hs0, hs1⟩ := hsb
        by_cases hg : 1000000 < lenS d.s z
        · have hF : lenF z (d :: ds.drop (k + 1)) = (0, 3) := if_pos hg
          have HF := hid (hF.symm.trans HZ.out)
          clear hF
          go_wp2
          go_ret2
          obtain ⟨e1, e2⟩ : 0 = x ∧ (3 : Int) = y := by simpa using HF.out
          subst e1; subst e2
          exact ⟨rfl, hB2.drewN _⟩
        · have hF : lenF z (d :: ds.drop (k + 1)) = lenF (lenS d.s z) (ds.drop (k + 1)) := if_neg hg
          have HF := hid (hF.symm.trans HZ.out)
          clear hF
          go_wp2
          go_roundw
          case rel => exact ⟨k + 1, _, by omega, by go_num, rfl, hs0, by omega, HF.out, _, rfl⟩
          case measure => simp [intOf]; omega
      · have hkk : k = ds.length := by omega
        have hF : lenF z (ds.drop k) = (z, 0) := by rw [hkk, List.drop_length]; rfl
        have HF := hid (hF.symm.trans HZ.out)
        clear hF
        go_wp2
        go_ret2
        obtain ⟨e1, e2⟩ : z = x ∧ (0 : Int) = y := by simpa using HF.out
        subst e1; subst e2
        exact ⟨rfl, hB2.drewN _⟩
  · rw [if_neg hc] at hq
    obtain ⟨rfl, rfl⟩ : 0 = x ∧ cnt ds n = y := by simpa using hq
    have hc1 : (cnt ds n != 0) = true := by simpa using hc
    have HH := hid H
    clear H hq
    generalize cnt ds n = q at *
    unfold plV
    go_enter Tryd.func20, Tryd.ntmps20
    go_wp2_with fail
    refine HH.out.mono ?_
    rintro e w2 ⟨rfl, hb2⟩
    go_wp2
    go_ret2
    exact ⟨rfl, hx.trans (hb2.mono hx.size)⟩
end Go.Proofs.YtlafjmghfnlaoacDoor
