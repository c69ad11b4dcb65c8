/-
  Contracts: a step's size, its copy, its equality.
-/
import Derived.Test.YtlafjmghfnlaoacDoorSt
import Derived.Laws.Rows
namespace Go.Proofs.YtlafjmghfnlaoacDoor
open Go.RowKit

theorem below_box2 (w : World) (o p : Obj) : Below w.heap.size w ((w.alloc o).alloc p) := (below_box _ _).alloc (by simp only [alloc_size]; omega) _
theorem below_box3 (w : World) (o p q : Obj) : Below w.heap.size w (((w.alloc o).alloc p).alloc q) := (below_box2 _ _ _).alloc (by simp only [alloc_size]; omega) _
theorem size2 (w : World) (o p : Obj) : ((w.alloc o).alloc p).heap.size = w.heap.size + 2 := by simp only [alloc_size]
theorem size3 (w : World) (o p q : Obj) : (((w.alloc o).alloc p).alloc q).heap.size = w.heap.size + 3 := by simp only [alloc_size]
/-- a struct that is handed back out of its block -/
theorem ret_row {P : Program} {fn : Func} {R : Ending → World → Prop} {a : Act} {w : World} {p : Tmp} {ty t : TypeId} {g : Nat} {cs : List Value} {d : TypeDesc} (h : fn.results = #[.cell p ty]) (hp : a.tmps.getD p undef = .pointer (some ⟨g, 0, none⟩)) (hk : Bk w g t cs)
    (hu : P.underlying ty = some d) (hd : (match d with | .struct _ | .array _ _ => true | _ => false) = true) (hi : (P.info? ty).map (·.size) = some cs.length) (hdf : a.defers = []) (hR : R (.returned (.agg cs.toArray)) w) : bodyPost P fn R .ret a w :=
  bodyPost_ret_by (results_cell_row h a.tmps w g t cs.toArray (0, 0) d hp hk hu hd (by rw [hi]; simp)) hdf hR
theorem stepSize : (Tryd.prog.info? 27).map (·.size) = some 4 := by kernel_rfl
set_option maxRecDepth 20000 in
set_option maxHeartbeats 400000 in
theorem szStep_ok (s : St) (A : Option Addr) (c : Nat) (left : Int) (w : World) (hn : s.tp.length ≤ maxLen) (hl : 0 ≤ left ∧ left ≤ 1048576) :
    Calls Tryd.prog 8 #[stV s A c, .int .i64 left] w fun e w' => e = .returned (.int .i64 (lessI left s.tp.length)) ∧ Below w.heap.size w w' := by
  unfold stV
  go_enter Tryd.func8, Tryd.ntmps8
  go_wp2_with fail
  refine (szInts_ok A c s.tp.length left _ hn hl).mono ?_
  rintro e w2 ⟨rfl, rfl⟩
  unfold maxLen at hn
  obtain ⟨hl0, hl1⟩ := hl
  go_wp2
  · have h : lessI left s.tp.length < 0 := by assumption
    go_ret
    refine ⟨ret_int ?_, below_box _ _⟩
    unfold lessI at h ⊢
    split <;> rename_i h2
    · rfl
    · rw [if_neg h2] at h; omega
  · go_ret
    exact ⟨rfl, below_box _ _⟩
set_option maxRecDepth 20000 in
set_option maxHeartbeats 400000 in
theorem toStep_ok (s : St) (A : Option Addr) (c : Nat) (w : World) (hr : Rd w w.heap.size A (is64 s.tp)) (hn : s.tp.length ≤ 1048576) :
    Calls Tryd.prog 10 #[stV s A c] w fun e w' => ∃ g, e = .returned (stV s (some ⟨g, 0, none⟩) s.tp.length) ∧ Bk w' g 2 (is64 s.tp) ∧ w.heap.size ≤ g ∧ Below w.heap.size w w' := by
  unfold stV
  go_enter Tryd.func10, Tryd.ntmps10
  go_wp2_with fail
  refine (toInts_ok A c s.tp _ ((hr.below (below_box3 w _ _ _) (Nat.le_refl _)).more (by rw [size3]; omega)) hn).mono ?_
  rintro e w2 ⟨g, rfl, hg, hgl, hb⟩
  have hB : Below w.heap.size w w2 := (below_box3 w _ _ _).trans (hb.mono (by rw [size3]; omega))
  have hk1 := ((Bk.new _ 27 #[.int .i64 s.kd, .int .i64 s.n, .int .i64 s.k, .slice none 0 0]).below hb (by simp only [alloc_size]; omega))
  have hk2 := (((Bk.new (w.alloc (.cells #[.int .i64 s.kd, .int .i64 s.n, .int .i64 s.k, .slice A s.tp.length c] 24)) 27 #[.int .i64 0, .int .i64 0, .int .i64 0, .slice none 0 0])).below ((below_box _ (.cells #[.int .i64 s.kd, .int .i64 s.n, .int .i64 s.k, .slice none 0 0] 27))) (by simp only [alloc_size]; omega)).below hb (by simp only [alloc_size]; omega)
  rw [alloc_size, alloc_size] at hk1
  rw [alloc_size] at hk2
  rw [size3] at hgl
  have c0 := hk1.cell 0
  have c1 := hk1.cell 1
  have c2 := hk1.cell 2
  have c3 := hk1.cell 3
  have f3 := hk1.frozen 3
  have d0 := hk2.cell 0
  have d1 := hk2.cell 1
  have d2 := hk2.cell 2
  have d3 := hk2.cell 3
  have e0 := hk2.frozen 0
  have e1 := hk2.frozen 1
  have e2 := hk2.frozen 2
  have e3 := hk2.frozen 3
  simp at c0 c1 c2 c3 d0 d1 d2 d3
  have hl1 := hk1.lt
  go_wp2_with fail
  have hk3 := ((((hk2.far (p := ⟨w.heap.size + 1 + 1, 3, none⟩) (by show w.heap.size + 1 ≠ w.heap.size + 1 + 1; omega) (.slice (some ⟨g, 0, none⟩) s.tp.length s.tp.length)).set_ 0 (.int .i64 s.kd)).set_ 1 (.int .i64 s.n)).set_ 2 (.int .i64 s.k)).set_ 3 (.slice (some ⟨g, 0, none⟩) s.tp.length s.tp.length)
  (try simp only [Exit.inBlock, Exit.then])
  refine ret_row rfl rfl hk3 Tryd.underlying27 rfl stepSize rfl ?_
  refine ⟨g, rfl, ((((hg.far (by show g ≠ w.heap.size + 1 + 1; omega) _).far (by show g ≠ w.heap.size + 1; omega) _).far (by show g ≠ w.heap.size + 1; omega) _).far (by show g ≠ w.heap.size + 1; omega) _).far (by show g ≠ w.heap.size + 1; omega) _, by omega, ?_⟩
  exact ((((hB.setCell (p := ⟨w.heap.size + 1 + 1, 3, none⟩) (by show w.heap.size ≤ w.heap.size + 1 + 1; omega) _).setCell (p := ⟨w.heap.size + 1, 0, none⟩) (by show w.heap.size ≤ w.heap.size + 1; omega) _).setCell (p := ⟨w.heap.size + 1, 1, none⟩) (by show w.heap.size ≤ w.heap.size + 1; omega) _).setCell (p := ⟨w.heap.size + 1, 2, none⟩) (by show w.heap.size ≤ w.heap.size + 1; omega) _).setCell (p := ⟨w.heap.size + 1, 3, none⟩) (by show w.heap.size ≤ w.heap.size + 1; omega) _
def sameSt (s t : St) : Bool := decide (s.kd = t.kd) && decide (s.n = t.n) && decide (s.k = t.k) && eqI s.tp t.tp
set_option maxRecDepth 20000 in
set_option maxHeartbeats 400000 in
theorem eqStep_ok (s t : St) (A B : Option Addr) (c d : Nat) (w : World) (hr : Rd w w.heap.size A (is64 s.tp)) (hs : Rd w w.heap.size B (is64 t.tp)) (hn : s.tp.length ≤ 1048576) (hm : t.tp.length ≤ 1048576) :
    Calls Tryd.prog 12 #[stV s A c, stV t B d] w fun e w' => e = .returned (.bool (sameSt s t)) ∧ Below w.heap.size w w' := by
  unfold stV
  go_enter Tryd.func12, Tryd.ntmps12
  go_wp2_with (go_at_call 29; refine (eqInts_ok A B c d s.tp t.tp _ ((hr.below (below_box2 w _ _) (Nat.le_refl _)).more (by rw [size2]; omega)) ((hs.below (below_box2 w _ _) (Nat.le_refl _)).more (by rw [size2]; omega)) hn hm).mono ?_; rintro e w2 ⟨rfl, n, rfl⟩)
  all_goals
    (try simp only [bne_iff_ne, bne_eq_false_iff_eq, ne_eq] at *)
    go_ret
    refine ⟨ret_bool ?_, by first | exact below_box2 w _ _ | exact (below_box2 w _ _).drewN _⟩
    unfold sameSt
    simp_all
end Go.Proofs.YtlafjmghfnlaoacDoor
