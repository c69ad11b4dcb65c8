/-
  Contracts: how many numbers a plan makes, in the program.
-/
import Derived.Test.YtlafjmghfnlaoacDoorLenP
namespace Go.Proofs.YtlafjmghfnlaoacDoor
open Go.RowKit

set_option maxRecDepth 20000 in
set_option maxHeartbeats 400000 in
theorem implLength_ok (A : Option Addr) (c bt ot ct : Nat) (ds : List SD) (n : Int) (w : World) (hF : Forms w bt ot ct) (hr : RdS w w.heap.size A ds) (hf : Fits ds) (hI : PlI ds) (x y : Int) (hq : lenRes ds n = (x, y)) :
    Calls Tryd.prog 21 #[plV A ds.length c, .int .i64 n] w fun e w' => e = .returned (.tuple #[.int .i64 x, .int .i64 y]) ∧ Below w.heap.size w w' := by
  have hx : Below w.heap.size w (w.alloc (.cells #[.slice A ds.length c] 38)) := below_box _ _
  have hk := Bk.new w 38 #[.slice A ds.length c]
  have hr1 := (hr.below hx (Nat.le_refl _)).more hx.size
  have hlt0 : w.heap.size < (w.alloc (.cells #[.slice A ds.length c] 38)).heap.size := by rw [alloc_size]; omega
  have H := countCode_ok A c bt ot ct ds n _ (hF.below hx) hr1 hf hI
  have hn := hf.1
  unfold plV at H
  unfold lenRes at hq
  by_cases hc : cnt ds n = 0
  · rw [if_pos hc] at hq
    obtain ⟨hv, h0, h1⟩ := cnt_ok hc
    have hbnd := vPlan_all hv
    rw [hc] at H
    have HH := hid H
    have HQ := hid hq
    clear H hq hc hv
    unfold plV
    go_enter Tryd.func21, Tryd.ntmps21
    go_wp2_with fail
    generalize w.alloc (.cells #[.slice A ds.length c] 38) = W at *
    refine HH.out.mono ?_
    rintro e w2 ⟨rfl, hb2⟩
    have hB2 := hx.trans (hb2.mono hx.size)
    have hk2 := (hk.below hb2 hlt0).cell 0
    simp only [List.getElem?_cons_zero] at hk2
    have hlt2 := Nat.lt_of_lt_of_le hlt0 hb2.size
    have hr2 := (hr1.below hb2 (Nat.le_refl _)).more hb2.size
    clear HH hk hr1 hlt0
    go_wp2
    go_loopw [1, 18] (fun m i wr => ∃ (k : Nat) (z : Int), k ≤ ds.length ∧ i = .int .i64 k ∧ m = .int .i64 z ∧ 0 ≤ z ∧ z ≤ 1000000 ∧ lenF z (ds.drop k) = (x, y) ∧ Below w2.heap.size w2 wr) (fun _ i _ => ds.length - (intOf i).toNat)
    case atStart => exact ⟨0, n, by omega, rfl, rfl, h0, h1, HQ.out, Below.refl _ _⟩
    case round =>
      obtain ⟨k, z, hk, rfl, rfl, hz0, hz1, hz, hbel⟩ := hrel
      have HZ := hid hz
      clear hz
      by_cases h : k < ds.length
      · obtain ⟨b, off, rfl, hbl, hcs⟩ := hr2.open_ (by omega)
        obtain ⟨c0, c1, c2, c3⟩ := hcs k _ (List.getElem?_eq_getElem h)
        have hbd := hbnd _ (List.getElem_mem h)
        have hdrop : ds.drop k = ds[k] :: ds.drop (k + 1) := List.drop_eq_getElem_cons h
        have hold := (olds hbel).1
        have hbw := Nat.lt_of_lt_of_le hbl hbel.size
        rw [hdrop] at HZ
        generalize ds[k] = d at *
        have hsb := lenS_bnd hbd hz0 hz1
        have hxx : Below wr.heap.size wr (wr.alloc (.cells #[.int .i64 d.s.kd, .int .i64 d.s.n, .int .i64 d.s.k, .slice d.A d.s.tp.length d.c] 27)) := below_box _ _
        have hB3 := hbel.trans (hxx.mono hbel.size)
        have HS := implLen_ok d.s d.A d.c z (wr.alloc (.cells #[.int .i64 d.s.kd, .int .i64 d.s.n, .int .i64 d.s.k, .slice d.A d.s.tp.length d.c] 27)) hbd hz0 hz1
        unfold stV at HS
        have HHS := hid HS
        clear HS hcs
        go_wp2_with fail
        refine HHS.out.mono ?_
        rintro e w4 ⟨rfl, hb4⟩
        have hB4 := hB3.trans (hb4.mono hB3.size)
        obtain ⟨hs0, hs1⟩ := hsb
        by_cases hg : 1000000 < lenS d.s z
        · have hF : lenF z (d :: ds.drop (k + 1)) = (0, 3) := if_pos hg
          have HF := hid (hF.symm.trans HZ.out)
          clear hF
          go_wp2
          go_ret2
          obtain ⟨e1, e2⟩ : 0 = x ∧ (3 : Int) = y := by simpa using HF.out
          subst e1; subst e2
          exact ⟨rfl, hB2.trans (hB4.mono hB2.size)⟩
        · have hF : lenF z (d :: ds.drop (k + 1)) = lenF (lenS d.s z) (ds.drop (k + 1)) := if_neg hg
          have HF := hid (hF.symm.trans HZ.out)
          clear hF
          go_wp2
          go_roundw
          case rel => exact ⟨k + 1, _, by omega, by go_num, rfl, hs0, by omega, HF.out, hB4⟩
          case measure => simp [intOf]; omega
      · have hkk : k = ds.length := by omega
        have hF : lenF z (ds.drop k) = (z, 0) := by rw [hkk, List.drop_length]; rfl
        have HF := hid (hF.symm.trans HZ.out)
        clear hF
        go_wp2
        go_ret2
        obtain ⟨e1, e2⟩ : z = x ∧ (0 : Int) = y := by simpa using HF.out
        subst e1; subst e2
        exact ⟨rfl, hB2.trans (hbel.mono hB2.size)⟩
  · rw [if_neg hc] at hq
    obtain ⟨rfl, rfl⟩ : 0 = x ∧ cnt ds n = y := by simpa using hq
    have hc1 : (cnt ds n != 0) = true := by simpa using hc
    have HH := hid H
    clear H hq
    generalize cnt ds n = q at *
    unfold plV
    go_enter Tryd.func21, Tryd.ntmps21
    go_wp2_with fail
    refine HH.out.mono ?_
    rintro e w2 ⟨rfl, hb2⟩
    go_wp2
    go_ret2
    exact ⟨rfl, hx.trans (hb2.mono hx.size)⟩
end Go.Proofs.YtlafjmghfnlaoacDoor
