/-
  Contracts: lists of int64s and steps in the laws' own helpers.
-/
import Derived.Test.YtlafjmghfnlaoacDoorRows
import Derived.Test.YtlafjmghfnlaoacDoorNd
import Derived.Test.YtlafjmghfnlaoacDoorMem
import Derived.WalkKit
import Derived.WalkSpells
import Derived.WalkLawsBesides
import Derived.Deep.Light
namespace Go.Proofs.YtlafjmghfnlaoacDoor
open Go.RowKit

def I64' (z : Int) : Prop := -9223372036854775808 ≤ z ∧ z ≤ 9223372036854775807
def is64 (zs : List Int) : List Value := zs.map (Value.int .i64)
def nthI (zs : List Int) (i : Nat) : Int := zs.getD i 0
theorem is64_length (zs : List Int) : (is64 zs).length = zs.length := by simp [is64]
theorem is64_get (zs : List Int) {i : Nat} (h : i < zs.length) : (is64 zs)[i]? = some (.int .i64 (nthI zs i)) := by simp [is64, nthI, h]
theorem is64_take (zs : List Int) {k : Nat} (h : k < zs.length) : is64 (zs.take (k + 1)) = is64 (zs.take k) ++ [.int .i64 (nthI zs k)] := by
  unfold is64
  rw [List.take_succ_eq_append_getElem h, List.map_append]
  simp [nthI, h]
theorem Rd.ints {w : World} {B : Nat} {A : Option Addr} {zs : List Int} (h : Rd w B A (is64 zs)) (hn : 0 < zs.length) : ∃ b off, A = some ⟨b, off, none⟩ ∧ b < B ∧ ∀ i, i < zs.length → w.cell? ⟨b, off + i, none⟩ = some (.int .i64 (nthI zs i)) := by
  obtain ⟨b, off, hA, hb, hc⟩ := h.open_ (by rw [is64_length]; exact hn)
  exact ⟨b, off, hA, hb, fun i hi => hc i _ (is64_get zs hi)⟩
structure St where
  kd : Int
  n : Int
  k : Int
  tp : List Int
def stV (s : St) (A : Option Addr) (c : Nat) : Value := .agg #[.int .i64 s.kd, .int .i64 s.n, .int .i64 s.k, .slice A s.tp.length c]
def lessI (left : Int) (n : Nat) : Int := if left - n < 0 then -1 else left - n
set_option maxRecDepth 20000 in
set_option maxHeartbeats 400000 in
theorem szInts_ok (A : Option Addr) (c n : Nat) (left : Int) (w : World) (hn : n ≤ maxLen) (hl : 0 ≤ left ∧ left ≤ 1048576) :
    Calls Tryd.prog 24 #[.slice A n c, .int .i64 left] w fun e w' => e = .returned (.int .i64 (lessI left n)) ∧ w = w' := by
  unfold maxLen at hn
  obtain ⟨hl0, hl1⟩ := hl
  go_enter Tryd.func24, Tryd.ntmps24
  go_wp2
  all_goals
    go_ret
    refine ⟨ret_int ?_, rfl⟩
    unfold lessI
    split <;> omega
theorem i64info0 : (Tryd.prog.info? 2).map (fun i => (i.zero, i.size, i.bytes)) = some (some (.int .i64 0), 1, 8) := by kernel_rfl
set_option maxRecDepth 20000 in
set_option maxHeartbeats 400000 in
theorem toInts_ok (A : Option Addr) (c : Nat) (zs : List Int) (w : World) (hr : Rd w w.heap.size A (is64 zs)) (hn : zs.length ≤ 1048576) :
    Calls Tryd.prog 26 #[.slice A zs.length c] w fun e w' => ∃ g, e = .returned (.slice (some ⟨g, 0, none⟩) zs.length zs.length) ∧ Bk w' g 2 (is64 zs) ∧ w.heap.size ≤ g ∧ Below w.heap.size w w' := by
  have hmk := fun W => run_make_one (P := Tryd.prog) 22 2 (.int .i64 0) 8 rfl Tryd.underlying22 i64info0 .i64 .i64 zs.length (by omega) (by omega) W
  go_enter Tryd.func26, Tryd.ntmps26
  go_wp2
  clear hmk
  go_loopw [4] (fun i wr => ∃ k : Nat, k ≤ zs.length ∧ i = .int .i64 k ∧ Bk wr w.heap.size 2 ((is64 (zs.take k)) ++ List.replicate (zs.length - k) (.int .i64 0)) ∧ Below w.heap.size w wr) (fun i _ => zs.length - (intOf i).toNat)
  case atStart => exact ⟨0, by omega, rfl, by simpa [is64] using Bk.new w 2 (List.replicate zs.length (.int .i64 0)).toArray, (Below.refl _ _).alloc (Nat.le_refl _) _⟩
  case round =>
    obtain ⟨k, hk, rfl, hb, hbel⟩ := hrel
    have hlt := hb.lt
    by_cases h : k < zs.length
    · obtain ⟨b, off, rfl, hbl, hc⟩ := hr.ints (by omega)
      have hc' := hc k h
      have hold := (olds hbel).1
      have hg : wr.cell? ⟨w.heap.size, k, none⟩ = some (.int .i64 0) := by
        rw [hb.cell]
        exact hole_get _ _ (by rw [is64_length]; simp; omega) h
      have hf := hb.frozen k
      go_wp2
      go_roundw
      case rel =>
        refine ⟨k + 1, by omega, by go_num, ?_, hbel.setCell (p := ⟨w.heap.size, k, none⟩) (Nat.le_refl _) _⟩
        have := hb.set_ k (.int .i64 (nthI zs k))
        rw [store_step _ _ _ (by rw [is64_length]; simp; omega) h, ← is64_take zs h] at this
        exact this
      case measure => simp [intOf]; omega
    · go_wp2
      go_ret
      refine ⟨w.heap.size, rfl, ?_, Nat.le_refl _, hbel⟩
      have : k = zs.length := by omega
      subst this
      simpa [is64] using hb
def eqI (xs ys : List Int) : Bool := decide (xs = ys)
theorem eqI_ne_len {xs ys : List Int} (h : ¬ xs.length = ys.length) : eqI xs ys = false := by
  unfold eqI
  rw [decide_eq_false_iff_not]
  intro e
  exact h (by rw [e])
theorem eqI_ne {xs ys : List Int} {k : Nat} (_ : k < xs.length) (h2 : k < ys.length) (h : nthI xs k ≠ nthI ys k) : eqI xs ys = false := by
  unfold eqI
  rw [decide_eq_false_iff_not]
  intro e
  subst e
  exact h rfl
theorem eqI_all {xs ys : List Int} (hl : xs.length = ys.length) (h : ∀ j, j < xs.length → nthI xs j = nthI ys j) : eqI xs ys = true := by
  unfold eqI
  rw [decide_eq_true_iff]
  apply List.ext_getElem hl
  intro i h1 h2
  have := h i h1
  simpa [nthI, h1, h2] using this
set_option maxRecDepth 20000 in
set_option maxHeartbeats 400000 in
theorem eqInts_ok (A B : Option Addr) (c d : Nat) (xs ys : List Int) (w : World) (hr : Rd w w.heap.size A (is64 xs)) (hs : Rd w w.heap.size B (is64 ys)) (hn : xs.length ≤ 1048576) (_ : ys.length ≤ 1048576) :
    Calls Tryd.prog 29 #[.slice A xs.length c, .slice B ys.length d] w fun e w' => e = .returned (.bool (eqI xs ys)) ∧ ∃ n, w.drewN n = w' := by
  by_cases hl : ¬ xs.length = ys.length
  · have hl' : ((xs.length : Int) != (ys.length : Int)) = true := by rw [bne_iff_ne]; omega
    go_enter Tryd.func29, Tryd.ntmps29
    go_wp2
    go_ret
    exact ⟨ret_bool (eqI_ne_len hl).symm, 0, rfl⟩
  rw [Decidable.not_not] at hl
  have hl' : ((xs.length : Int) != (ys.length : Int)) = false := by rw [bne_eq_false_iff_eq]; omega
  have HL := hid hl
  clear hl
  go_enter Tryd.func29, Tryd.ntmps29
  go_wp2
  go_loopw [5] (fun i wr => ∃ k : Nat, k ≤ xs.length ∧ i = .int .i64 k ∧ (∀ j, j < k → nthI xs j = nthI ys j) ∧ ∃ n, wr = w.drewN n) (fun i _ => xs.length - (intOf i).toNat)
  case atStart => exact ⟨0, by omega, rfl, fun j hj => by omega, 0, rfl⟩
  case round =>
    obtain ⟨k, hk, rfl, hall, n, rfl⟩ := hrel
    have Hall := hid hall
    clear hall
    by_cases h : k < xs.length
    · obtain ⟨b, off, rfl, hbl, hc⟩ := hr.ints (by omega)
      have := HL.out
      obtain ⟨b2, off2, rfl, hbl2, hc2⟩ := hs.ints (by omega)
      have hc' := hc k h
      have hc2' := hc2 k (by omega)
      have h2 : k < ys.length := by omega
      clear this hc hc2
      go_wp2
      refine wp_region_dr (fun _ _ _ => False) (by kernel_rfl) (by kernel_rfl) ?_
      repeat (refine wpND_step (fun K hK => ?_); go_simp; first | (refine hK _ ?_; clear hK K) | (refine nd_dr (fun m => ?_); go_simp; (try go_bits); first | (refine hK _ ?_; clear hK K) | (fail; refine hK _ ?_; clear hK K)))
      refine wpND_nil ?_
      intro m
      (try rw [World.drewN_drewN])
      go_wp2
      · have hs0 : (nthI xs k != nthI ys k) = true := by assumption
        have hs : nthI xs k ≠ nthI ys k := by simpa using hs0
        go_ret
        exact ⟨ret_bool (eqI_ne h h2 hs).symm, _, rfl⟩
      · have hs0 : (nthI xs k != nthI ys k) = false := by assumption
        have hs : nthI xs k = nthI ys k := by simpa using hs0
        refine ⟨?_, by simp [intOf]; omega⟩
        have hnext : ∀ j, j < k + 1 → nthI xs j = nthI ys j := fun j hj => by
          by_cases e : j = k
          · subst e; exact hs
          · exact Hall.out j (by omega)
        first
          | exact ⟨k + 1, by omega, by go_num, hnext, _, rfl⟩
          | ((repeat apply Exists.intro); exact ⟨⟨k + 1, by omega, by go_num, hnext, _, rfl⟩, rfl⟩)
    · go_wp2
      go_ret
      exact ⟨ret_bool (eqI_all HL.out (fun j hj => Hall.out j (by omega))).symm, _, rfl⟩
end Go.Proofs.YtlafjmghfnlaoacDoor
