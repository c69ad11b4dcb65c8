/-
  slices.Backward over a plan's steps: what its loop hands on, from the last to the first.
-/
import Derived.Test.YtlafjmghfnlaoacDoorNeedP
import Derived.RangeFuncNested
import Derived.RangeFuncBound
import Derived.RangeFuncCalls
import Derived.RangeFuncLeaves
import Derived.Shelf.Abstract
import Derived.Shelf.RegionOpen
import Derived.WalkKit
import Derived.OwnWalkIn
import Derived.TacticsInMore
import Derived.LoopNIn
import Derived.LoopIn
namespace Go.Proofs.YtlafjmghfnlaoacDoor
open Go.RowKit Go.Shelf

attribute [local go_sem] Oper.semAt_some

/-- what is no cells and turns leaves a block of ours as it is -/
theorem bk_own {X Y : World} {row : Option Nat} {g : Nat} {t : TypeId} {cs : List Value} (h : Bk X g t cs) (hg : X.grownBy Y row) (hr : ∀ r, row = some r → ∃ o : Obj, X.heap[r]? = some o ∧ o.isCells = false) : Bk Y g t cs := by
  refine (hg.block g h.lt ?_).trans h
  intro e
  obtain ⟨o, ho, hc⟩ := hr g e.symm
  rw [show X.heap[g]? = _ from h] at ho
  cases ho
  cases hc
theorem keepsFrom_below {B : Nat} {X Y : World} (h : Below X.heap.size X Y) : KeepsFrom B X Y :=
  ⟨h.size, fun k _ _ hk _ => (h.block k (Array.getElem?_eq_some_iff.1 hk).1).trans hk⟩
/-- what a round over a boxed slice keeps: what lay below n₀, and the slice's box -/
def KpB (n₀ Bs : Nat) (t : TypeId) (cs : List Value) (X Y : World) : Prop := Below n₀ X Y ∧ (Bk X Bs t cs → Bk Y Bs t cs)
theorem KpB.trans {n₀ Bs : Nat} {t : TypeId} {cs : List Value} {A B C : World} (h : KpB n₀ Bs t cs A B) (k : KpB n₀ Bs t cs B C) : KpB n₀ Bs t cs A C := ⟨h.1.trans k.1, fun x => k.2 (h.2 x)⟩
theorem KpB.putObj {n₀ Bs : Nat} {t : TypeId} {cs : List Value} {w : World} (hn : n₀ ≤ w.heap.size) (W : World) (l : Nat) (o o' : Obj) (hl : w.heap.size ≤ l) (h : W.heap[l]? = some o) (hc : o.isCells = false) (hw : o.isWalk = false) : KpB n₀ Bs t cs W (W.putObj l o') :=
  ⟨belowK_b hn W l o o' hl h hc hw, fun hb => bk_own hb (grownBy_putObj' W l o') (fun r e => by cases e; exact ⟨o, h, hc⟩)⟩

/-- the places from the k-th down to 0 -/
def downF (n : Nat) : Nat → List (Fin n)
  | 0 => []
  | k + 1 => if h : k < n then ⟨k, h⟩ :: downF n k else []
theorem downF_succ {n k : Nat} (h : k < n) : downF n (k + 1) = ⟨k, h⟩ :: downF n k := dif_pos h
theorem downF_len {n : Nat} : ∀ {k : Nat}, k ≤ n → (downF n k).length = k
  | 0, _ => rfl
  | k + 1, h => by rw [downF_succ (by omega), List.length_cons, downF_len (by omega)]
def backV (ds : List SD) (x : Fin ds.length) : Array Value := #[.int .i64 (x.1 : Int), stV ds[x.1].s ds[x.1].A ds[x.1].c]

set_option maxRecDepth 20000 in
set_option maxHeartbeats 400000 in
theorem back1_ok (n : Nat) (hn : 1 ≤ n) (l Bs n₀ c : Nat) (A : Option Addr) (ds : List SD) (hm : ds.length ≤ 1048576) (J Jx : List (Fin ds.length) → World → Prop)
    (hY : ∀ pre x W, J pre W → pre.length < ds.length → YieldAt Fence.wide (n - 1) Tryd.prog l (backV ds x) W fun e W' =>
      (e = .returned (.bool true) ∧ J (pre ++ [x]) W' ∧ KpB n₀ Bs 36 [.slice A ds.length c] W W') ∨ (e = .returned (.bool false) ∧ Jx (pre ++ [x]) W'))
    (W : World) (hB0 : Bk W Bs 36 [.slice A ds.length c]) (hr : RdS W n₀ A ds) (h0 : J [] W) :
    CallsIn Fence.wide n Tryd.prog 57 #[.func (.yield l) #[] #[], .pointer (some ⟨Bs, 0, none⟩)] W fun e W' => (∃ v, e = .returned v) ∧
      ((∃ ys, ys = downF ds.length ds.length ∧ J ys W') ∨ (∃ pre, pre <+: downF ds.length ds.length ∧ Jx pre W')) := by
  have hc1 := hB0.cell 0
  simp only [List.getElem?_cons_zero] at hc1
  refine callsIn_of_wp Tryd.func57 rfl trivial ?_ rfl
  simp only [Tryd.ntmps57, List.size_toArray, List.length_cons, List.length_nil, Nat.reduceAdd, Nat.reduceSub, Array.replicate_succ, Array.replicate_zero, List.push_toArray, List.append_toArray, List.nil_append, List.cons_append]
  gi_wp2
  gi_loopw [3] (fun i wr => ∃ (k : Nat) (q : Int) (pre : List (Fin ds.length)), k ≤ ds.length ∧ q = (k : Int) - 1 ∧ i = .int .i64 q ∧ pre ++ downF ds.length k = downF ds.length ds.length ∧ J pre wr ∧ KpB n₀ Bs 36 [.slice A ds.length c] W wr)
    (fun i _ => (intOf i + 1).toNat)
  case atStart => exact ⟨ds.length, _, [], Nat.le_refl _, rfl, by first | rfl | go_num, rfl, h0, Below.refl _ _, id⟩
  case round =>
    obtain ⟨k, q, pre, hk, hq, rfl, hpre, hJs, hnx⟩ := hrel
    have Hpre := hid hpre
    clear hpre
    cases k with
    | succ k =>
      have h : k < ds.length := by omega
      obtain rfl : q = (k : Int) := by omega
      clear hq
      have hlen : pre.length < ds.length := by
        have := congrArg List.length Hpre.out
        rw [List.length_append, downF_len (by omega), downF_len (Nat.le_refl _)] at this
        omega
      obtain ⟨b, off, rfl, hb, hcs⟩ := (hr.below hnx.1 (Nat.le_refl _)).open_ (by omega)
      obtain ⟨c0, c1, c2, c3⟩ := hcs k _ (List.getElem?_eq_getElem h)
      clear hcs
      have hc2 := (hnx.2 hB0).cell 0
      simp only [List.getElem?_cons_zero] at hc2
      obtain ⟨fn, tmps, assign, body, hy, hR⟩ := hY pre ⟨k, h⟩ wr hJs hlen
      unfold backV stV at hy
      dsimp only at hy
      generalize ds[k] = d at *
      gi_wp2
      refine hR.mono ?_
      rintro e W3 (⟨rfl, hJ3, hk3⟩ | ⟨rfl, hJx3⟩)
      · gi_wp2
        go_roundw
        case rel => exact ⟨k, _, pre ++ [⟨k, h⟩], by omega, rfl, by go_num, by rw [List.append_assoc, ← Hpre.out, downF_succ h]; rfl, hJ3, hnx.trans hk3⟩
        case measure => simp [intOf]
      · gi_wp2
        refine bodyPost_ret (results_none rfl _ _ _) rfl ?_
        exact ⟨⟨_, rfl⟩, .inr ⟨pre ++ [⟨k, h⟩], ⟨downF ds.length k, by rw [List.append_assoc, ← Hpre.out, downF_succ h]; rfl⟩, hJx3⟩⟩
    | zero =>
      obtain rfl : q = -1 := by omega
      clear hq
      gi_wp2
      go_end0
      exact ⟨⟨_, rfl⟩, .inl ⟨_, by rw [← Hpre.out]; simp [downF], hJs⟩⟩
end Go.Proofs.YtlafjmghfnlaoacDoor
