/-
  Contracts: of how many numbers a plan makes at least n.
-/
import Derived.Test.YtlafjmghfnlaoacDoorNeed
import Derived.Test.YtlafjmghfnlaoacDoorLenP
namespace Go.Proofs.YtlafjmghfnlaoacDoor
open Go.RowKit

def needK (ds : List SD) : Nat → Int → Option Int
  | 0, n => some n
  | k + 1, n => if 1000000 < nedS (nthS ds k) n then none else needK ds k (nedS (nthS ds k) n)
def needFin (ds : List SD) (m : Int) : Int × Int := if (lenRes ds m).2 = 0 then (m, 0) else (0, (lenRes ds m).2)
def needOut (ds : List SD) : Option Int → Int × Int
  | none => (0, 3)
  | some m => needFin ds m
def needRes (ds : List SD) (n : Int) : Int × Int := if cnt ds n = 0 then needOut ds (needK ds ds.length n) else (0, cnt ds n)
theorem needK_sts {xs ys : List SD} (h : sts xs = sts ys) : ∀ (k : Nat) (n : Int), needK xs k n = needK ys k n
  | 0, _ => rfl
  | k + 1, n => by
    unfold needK
    rw [nthS_sts h]
    split
    · rfl
    · exact needK_sts h k _
theorem needRes_sts {xs ys : List SD} (h : sts xs = sts ys) (n : Int) : needRes xs n = needRes ys n := by
  unfold needRes
  rw [cnt_sts h, len_sts h, needK_sts h]
  congr 1
  cases needK ys ys.length n with
  | none => rfl
  | some m => simp [needOut, needFin, lenRes_sts h]
theorem needFin_ok {ds : List SD} {m x : Int} (h : lenRes ds m = (x, 0)) : needFin ds m = (m, 0) := by simp [needFin, h]
theorem needFin_bad {ds : List SD} {m x y : Int} (h : lenRes ds m = (x, y)) (hy : y ≠ 0) : needFin ds m = (0, y) := by simp [needFin, h, hy]
set_option maxRecDepth 20000 in
set_option maxHeartbeats 400000 in
theorem specNeeded_ok (A : Option Addr) (c : Nat) (ds : List SD) (n : Int) (w : World) (hr : RdS w w.heap.size A ds) (hf : Fits ds) (hI : PlI ds) (x y : Int) (hq : needRes ds n = (x, y)) :
    Calls Tryd.prog 22 #[plV A ds.length c, .int .i64 n] w fun e w' => e = .returned (.tuple #[.int .i64 x, .int .i64 y]) ∧ Below w.heap.size w w' := by
  have hx : Below w.heap.size w (w.alloc (.cells #[.slice A ds.length c] 38)) := below_box _ _
  have hk := Bk.new w 38 #[.slice A ds.length c]
  have hr1 := (hr.below hx (Nat.le_refl _)).more hx.size
  have hlt0 : w.heap.size < (w.alloc (.cells #[.slice A ds.length c] 38)).heap.size := by rw [alloc_size]; omega
  have H := l07Counted_ok A c w.heap.size ds n _ (hk.cell 0) hlt0 hr1 hf hI
  have hn := hf.1
  unfold needRes at hq
  by_cases hc : cnt ds n = 0
  · rw [if_pos hc] at hq
    obtain ⟨hv, h0, h1⟩ := cnt_ok hc
    have hbnd := vPlan_all hv
    rw [hc] at H
    have HH := hid H
    have HQ := hid hq
    clear H hq hc hv
    unfold plV
    go_enter Tryd.func22, Tryd.ntmps22
    go_wp2_with fail
    generalize w.alloc (.cells #[.slice A ds.length c] 38) = W at *
    refine HH.out.mono ?_
    rintro e w2 ⟨rfl, hb2⟩
    have hB2 := hx.trans (hb2.mono hx.size)
    have hk2 := (hk.below hb2 hlt0).cell 0
    simp only [List.getElem?_cons_zero] at hk2
    have hlt2 := Nat.lt_of_lt_of_le hlt0 hb2.size
    have hr2 := (hr1.below hb2 (Nat.le_refl _)).more hb2.size
    clear HH hk hr1 hlt0
    go_wp2
    go_loopw [1, 7] (fun m i wr => ∃ (k : Nat) (q z : Int), k ≤ ds.length ∧ q = (k : Int) - 1 ∧ i = .int .i64 q ∧ m = .int .i64 z ∧ 0 ≤ z ∧ z ≤ 1000000 ∧ needOut ds (needK ds k z) = (x, y) ∧ ∃ n, wr = w2.drewN n) (fun _ i _ => (intOf i + 1).toNat)
    case atStart => exact ⟨ds.length, _, n, Nat.le_refl _, rfl, by first | rfl | go_num, rfl, h0, h1, HQ.out, 0, rfl⟩
    case round =>
      obtain ⟨k, q, z, hk, hq, rfl, rfl, hz0, hz1, hz, m, rfl⟩ := hrel
      have HZ := hid hz
      clear hz
      cases k with
      | succ k =>
        have h : k < ds.length := by omega
        obtain rfl : q = (k : Int) := by omega
        clear hq
        obtain ⟨b, off, rfl, hbl, hcs⟩ := hr2.open_ (by omega)
        have hst := hcs k _ (List.getElem?_eq_getElem h)
        have hbd := hbnd _ (List.getElem_mem h)
        have hE : nthS ds k = ds[k].s := nthS_get h
        have hsb := nedS_bnd hbd hz0 hz1
        have HS := fun q => specNed_ok ds[k] z b (off + k * 4) (w2.drewN q) ⟨hst.1, hst.2, hst.3, hst.4⟩ hbd hz0 hz1
        rw [← hE] at hsb HS
        have HK : needK ds (k + 1) z = if 1000000 < nedS (nthS ds k) z then none else needK ds k (nedS (nthS ds k) z) := rfl
        generalize nedS (nthS ds k) z = g at *
        have HHS := hid HS
        have HK := hid HK
        clear HS hst hcs hE
        go_wp2_with fail
        refine (HHS.out _).mono ?_
        rintro e w4 ⟨rfl, m2, rfl⟩
        obtain ⟨hs0, hs1⟩ := hsb
        by_cases hg : 1000000 < g
        · have hF : needOut ds (needK ds (k + 1) z) = (0, 3) := by rw [HK.out, if_pos hg]; rfl
          have HF := hid (hF.symm.trans HZ.out)
          clear hF
          go_wp2
          go_ret2
          obtain ⟨e1, e2⟩ : 0 = x ∧ (3 : Int) = y := by simpa using HF.out
          subst e1; subst e2
          exact ⟨rfl, hB2.drewN _⟩
        · have hF : needOut ds (needK ds (k + 1) z) = needOut ds (needK ds k g) := by rw [HK.out, if_neg hg]
          have HF := hid (hF.symm.trans HZ.out)
          clear hF
          go_wp2
          go_roundw
          case rel => exact ⟨k, _, _, by omega, rfl, by go_num, rfl, hs0, by omega, HF.out, _, rfl⟩
          case measure => simp [intOf]
      | zero =>
        obtain rfl : q = -1 := by omega
        clear hq
        have hF : needFin ds z = (x, y) := HZ.out
        have hb3 := (Below.refl w2.heap.size w2).drewN m
        have hr3 := (hr2.below hb3 (Nat.le_refl _)).more hb3.size
        clear HZ
        have HL := fun w => specLength_ok A c ds z w
        cases hlr : lenRes ds z with
        | mk x' y' =>
          by_cases hy : y' = 0
          · subst hy
            rw [needFin_ok hlr] at hF
            have HF := hid hF
            have HHL := hid HL
            clear hF HL
            go_wp2_with fail
            refine (HHL.out _ hr3 hf hI _ _ hlr).mono ?_
            rintro e w4 ⟨rfl, hb4⟩
            go_wp2
            go_ret2
            obtain ⟨e1, e2⟩ : z = x ∧ (0 : Int) = y := by simpa using HF.out
            subst e1; subst e2
            exact ⟨rfl, (hB2.drewN _).trans (hb4.mono (hB2.drewN _).size)⟩
          · rw [needFin_bad hlr hy] at hF
            have hy1 : (y' != 0) = true := by simpa using hy
            have HF := hid hF
            have HHL := hid HL
            clear hF HL hy
            go_wp2_with fail
            refine (HHL.out _ hr3 hf hI _ _ hlr).mono ?_
            rintro e w4 ⟨rfl, hb4⟩
            go_wp2
            go_ret2
            obtain ⟨e1, e2⟩ : 0 = x ∧ y' = y := by simpa using HF.out
            subst e1; subst e2
            exact ⟨rfl, (hB2.drewN _).trans (hb4.mono (hB2.drewN _).size)⟩
  · rw [if_neg hc] at hq
    obtain ⟨rfl, rfl⟩ : 0 = x ∧ cnt ds n = y := by simpa using hq
    have hc1 : (cnt ds n != 0) = true := by simpa using hc
    have HH := hid H
    clear H hq
    generalize cnt ds n = q at *
    unfold plV
    go_enter Tryd.func22, Tryd.ntmps22
    go_wp2_with fail
    refine HH.out.mono ?_
    rintro e w2 ⟨rfl, hb2⟩
    go_wp2
    go_ret2
    exact ⟨rfl, hx.trans (hb2.mono hx.size)⟩
end Go.Proofs.YtlafjmghfnlaoacDoor
