/-
  Contracts: limits of lists, first codes, math.Abs, math.Floor.
-/
import Derived.Test.YtlafjmghfnlaoaaC2
namespace Go.Proofs.Ytlafjmghfnlaoaa
open Go.RowKit

theorem enters_of {f : FuncId} {fn : Func} (hf : Try.prog.funcs[f]? = some fn) (hname : (fn.name == "runtime.NumGoroutine") = false) (hb : fn.body.isNone = false) : Enters f := by
  intro args w
  have h1 : fn.name ≠ "runtime.NumGoroutine" := by simpa using hname
  have h2 : fn.body ≠ none := by
    intro h
    rw [h] at hb
    cases hb
  simp [callFunc, hf, h1, h2]
def ints (ns : List Int) : List Value := ns.map (Value.int .i64)
theorem ints_length (ns : List Int) : (ints ns).length = ns.length := by simp [ints]
def nthZ (ns : List Int) (i : Nat) : Int := ns.getD i 0
theorem ints_get {ns : List Int} {i : Nat} {u : Value} (h : (ints ns)[i]? = some u) : u = .int .i64 (nthZ ns i) := by
  simp [ints] at h
  obtain ⟨a, ha, rfl⟩ := h
  simp [nthZ, ha]
theorem ints_get' (ns : List Int) {i : Nat} (h : i < ns.length) : (ints ns)[i]? = some (.int .i64 (nthZ ns i)) := by
  simp [ints, nthZ, h]
set_option maxRecDepth 20000 in
set_option maxHeartbeats 400000 in
theorem limit1_ok (x : Int) (w : World) :
    Calls Try.prog 93 #[.int .i64 x] w fun e w' => e = .returned (.bool (decide (256 < x))) ∧ w = w' := by
  go_enter Try.func93, Try.ntmps93
  go_wp2
  go_ret
  exact ⟨rfl, rfl⟩
theorem limit1_in : Enters 93 := enters_of Try.func93 (by kernel_rfl) (by kernel_rfl)
set_option maxRecDepth 20000 in
set_option maxHeartbeats 400000 in
theorem limit_ok (A : Option Addr) (c : Nat) (ns : List Int) (w : World) (hr : Rd w w.heap.size A (ints ns)) (hn : ns.length ≤ 1000) :
    Calls Try.prog 59 #[.slice A ns.length c] w fun e w' => e = .returned (.int .i64 (code (anyF ns.length (fun i => decide (256 < nthZ ns i))) 3)) ∧ Below w.heap.size w w' := by
  have H := hid (intsContains_ok A c (ints ns) 93 #[] w (fun i => decide (256 < nthZ ns i)) hr (by rw [ints_length]; omega) limit1_in (fun i u w' hu _ => by
    rw [ints_get hu]
    exact (limit1_ok _ _).mono fun e w'' ⟨he, hw⟩ => ⟨he, hw ▸ Below.refl _ _⟩))
  rw [ints_length] at H
  generalize anyF ns.length (fun i => decide (256 < nthZ ns i)) = b at H ⊢
  go_enter Try.func59, Try.ntmps59
  go_wp2_with (first | (go_at_call 92; refine H.out.mono ?_; rintro e w2 ⟨rfl, hb⟩) | (go_at_call 60; refine (unless_ok _ _ _).mono ?_; rintro e w2 ⟨rfl, rfl⟩))
  go_ret
  exact ⟨ret_int (by first | rfl | rw [Bool.not_not]), hb⟩
set_option maxRecDepth 20000 in
set_option maxHeartbeats 400000 in
theorem realLimit_ok (A : Option Addr) (n c : Nat) (w : World) :
    Calls Try.prog 52 #[.slice A n c] w fun e w' => e = .returned (.int .i64 (code (decide (256 < n)) 3)) ∧ Below w.heap.size w w' := by
  go_enter Try.func52, Try.ntmps52
  have hb0 : Below w.heap.size w (w.alloc (Obj.cells #[Value.int IntKind.i64 n] 3)) := (Below.refl _ _).alloc (Nat.le_refl _) _
  have hrd : Rd (w.alloc (Obj.cells #[Value.int IntKind.i64 n] 3)) (w.alloc (Obj.cells #[Value.int IntKind.i64 n] 3)).heap.size (some ⟨w.heap.size, 0, none⟩) (ints [(n : Int)]) := (Bk.new w 3 #[.int .i64 n]).rd
  go_wp2_with (go_at_call 59; refine (limit_ok _ 1 [(n : Int)] _ hrd (by simp)).mono ?_; rintro e w2 ⟨rfl, hb⟩)
  go_ret
  refine ⟨ret_int ?_, hb0.trans (hb.mono hb0.size)⟩
  simp only [anyF, nthZ, List.getD_cons_zero, Bool.false_or]
  congr 1
  simp
  omega
theorem realLimit_long (A : Option Addr) (n c : Nat) (w : World) (h : 256 < n) :
    Calls Try.prog 52 #[.slice A n c] w fun e w' => e = .returned (.int .i64 3) ∧ Below w.heap.size w w' := by
  have H := realLimit_ok A n c w
  rw [decide_eq_true h, code_true] at H
  exact H
theorem realLimit_short (A : Option Addr) (n c : Nat) (w : World) (h : ¬ 256 < n) :
    Calls Try.prog 52 #[.slice A n c] w fun e w' => e = .returned (.int .i64 0) ∧ Below w.heap.size w w' := by
  have H := realLimit_ok A n c w
  rw [decide_eq_false h, code_false] at H
  exact H
theorem bits_run (b : Nat) (w : World) : Sem.run Try.prog (callFunc 91 #[.float .f64 b]) w = .ok (.value (.int .u64 (b : Int))) w := by
  rw [run_callFunc_extern (e := Extern.MathFloatBits.float64bits) Try.func91 (by kernel_rfl) (by kernel_rfl) (by kernel_rfl) (by kernel_rfl) #[.float .f64 b] w]
  rfl
theorem frombits_run (n : Int) (w : World) : Sem.run Try.prog (callFunc 90 #[.int .u64 n]) w = .ok (.value (.float .f64 n.toNat)) w := by
  rw [run_callFunc_extern (e := Extern.MathFloatBits.float64frombits) Try.func90 (by kernel_rfl) (by kernel_rfl) (by kernel_rfl) (by kernel_rfl) #[.int .u64 n] w]
  rfl
set_option maxRecDepth 20000 in
set_option maxHeartbeats 400000 in
theorem abs_ok (a : Nat) (w : World) (ha : Wf a) :
    Calls Try.prog 57 #[.float .f64 a] w fun e w' => e = .returned (.float .f64 (absB a)) ∧ w = w' := by
  have h1 := bits_run
  have h2 := frombits_run
  go_enter Try.func57, Try.ntmps57
  go_wp2
  go_ret
  refine ⟨?_, rfl⟩
  show Ending.returned (.float .f64 (bits .andNot .u64 (a : Int) 9223372036854775808).toNat) = _
  rw [abs_bits a ha]
  rfl
set_option maxRecDepth 20000 in
set_option maxHeartbeats 400000 in
theorem floor_ok (a : Nat) (w : World) (ha : Wf a) :
    Calls Try.prog 63 #[.float .f64 a] w fun e w' => ∃ r n, e = .returned (.float .f64 r) ∧ V r = floorF (V a) ∧ Wf r ∧ w.drewN n = w' := by
  obtain ⟨r, n, h1, h2, h3⟩ := run_floor (P := Try.prog) "math.archFloor" a ha w
  have h4 := run_callFunc_extern (e := Extern.MathFloor.toIntegral "math.archFloor" .down) Try.func94 (by kernel_rfl) (by kernel_rfl) (by kernel_rfl) (by kernel_rfl) #[.float .f64 a] w
  rw [h1, Result.andThen_ok] at h4
  have H2 := hid h2
  clear h1 h2
  go_enter Try.func63, Try.ntmps63
  go_wp2
  go_ret
  exact ⟨_, _, rfl, H2.out, h3, rfl⟩

def firstNZ : List Int → Int
  | [] => 0
  | c :: cs => if c = 0 then firstNZ cs else c
theorem firstNZ_zero {cs : List Int} (h : ∀ j, j < cs.length → nthZ cs j = 0) : firstNZ cs = 0 := by
  induction cs with
  | nil => rfl
  | cons c cs ih =>
    have h0 : c = 0 := h 0 (by simp)
    simp only [firstNZ, h0, if_true]
    exact ih fun j hj => by simpa [nthZ] using h (j + 1) (by simpa using hj)
theorem firstNZ_at {cs : List Int} {k : Nat} (hk : k < cs.length) (h : ∀ j, j < k → nthZ cs j = 0) (hc : nthZ cs k ≠ 0) : firstNZ cs = nthZ cs k := by
  induction cs generalizing k with
  | nil => simp at hk
  | cons c cs ih =>
    cases k with
    | zero =>
      have : c ≠ 0 := hc
      simp [firstNZ, this, nthZ]
    | succ k =>
      have h0 : c = 0 := h 0 (by omega)
      simp only [firstNZ, h0, if_true]
      rw [ih (k := k) (by simpa using hk) (fun j hj => by simpa [nthZ] using h (j + 1) (by omega)) (by simpa [nthZ] using hc)]
      simp [nthZ]
set_option maxRecDepth 20000 in
set_option maxHeartbeats 400000 in
theorem first_ok (A : Option Addr) (c : Nat) (cs : List Int) (w : World) (hr : Rd w w.heap.size A (ints cs)) (hn : cs.length ≤ 1000) :
    Calls Try.prog 58 #[.slice A cs.length c] w fun e w' => e = .returned (.int .i64 (firstNZ cs)) ∧ w = w' := by
  go_enter Try.func58, Try.ntmps58
  go_wp2
  go_loop [7] (fun i => ∃ k : Nat, k ≤ cs.length ∧ i = .int .i64 k ∧ ∀ j, j < k → nthZ cs j = 0) (fun i => cs.length - (intOf i).toNat)
  case atStart => exact ⟨0, by omega, rfl, fun j hj => by omega⟩
  case round =>
    obtain ⟨k, hk, rfl, hall⟩ := hrel
    have Hall := hid hall
    clear hall
    by_cases h : k < cs.length
    · obtain ⟨b, off, rfl, hbl, hc⟩ := hr.open_ (by rw [ints_length]; omega)
      have hc' := hc k _ (ints_get' cs h)
      clear hc
      cases hz : (nthZ cs k != 0) with
      | true =>
        have HN := hid hz
        go_wp2
        go_ret
        exact ⟨ret_int (firstNZ_at h Hall.out (by simpa using HN.out)).symm, rfl⟩
      | false =>
        have HN := hid hz
        go_wp2
        go_round
        case rel =>
          refine ⟨k + 1, by omega, by go_num, fun j hj => ?_⟩
          by_cases e : j = k
          · subst e; simpa using HN.out
          · exact Hall.out j (by omega)
        case measure => simp [intOf]; omega
    · go_wp2
      go_ret
      exact ⟨ret_int (firstNZ_zero fun j hj => Hall.out j (by omega)).symm, rfl⟩

theorem first2_ok (x y : Int) (w : World) :
    Calls Try.prog 58 #[.slice (some ⟨w.heap.size, 0, none⟩) 2 2] (w.alloc (.cells #[.int .i64 x, .int .i64 y] 2)) fun e w' => e = .returned (.int .i64 (firstNZ [x, y])) ∧ Below w.heap.size w w' := by
  refine (first_ok _ 2 [x, y] _ (Bk.new w 2 #[.int .i64 x, .int .i64 y]).rd (by simp)).mono ?_
  rintro e w' ⟨rfl, rfl⟩
  exact ⟨rfl, below_box _ _⟩
theorem limit2_ok (x y : Int) (w : World) :
    Calls Try.prog 59 #[.slice (some ⟨w.heap.size, 0, none⟩) 2 2] (w.alloc (.cells #[.int .i64 x, .int .i64 y] 3)) fun e w' => e = .returned (.int .i64 (code (decide (256 < x) || decide (256 < y)) 3)) ∧ Below w.heap.size w w' := by
  refine (limit_ok _ 2 [x, y] _ (Bk.new w 3 #[.int .i64 x, .int .i64 y]).rd (by simp)).mono ?_
  rintro e w' ⟨rfl, hb⟩
  exact ⟨ret_int (by simp only [anyF, nthZ, List.length_cons, List.length_nil, Bool.false_or]; rfl), (below_box _ _).trans (hb.mono (below_box _ _).size)⟩
theorem fnz_skip (y : Int) : firstNZ [0, y] = y := by
  unfold firstNZ
  rw [if_pos rfl]
  unfold firstNZ
  split
  · rename_i h; rw [h]; rfl
  · rfl
theorem fnz_head {x : Int} (h : x ≠ 0) (y : Int) : firstNZ [x, y] = x := by
  unfold firstNZ
  rw [if_neg h]
end Go.Proofs.Ytlafjmghfnlaoaa
