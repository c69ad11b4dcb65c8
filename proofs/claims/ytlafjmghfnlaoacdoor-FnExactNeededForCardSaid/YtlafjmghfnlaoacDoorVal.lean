/-
  Contracts: bounds, codes, searches, pieces; what a valid step is.
-/
import Derived.Test.YtlafjmghfnlaoacDoorSt4
namespace Go.Proofs.YtlafjmghfnlaoacDoor
open Go.RowKit

def Enters (K : FuncId) : Prop := ∀ (args : Array Value) (w : World), Sem.run Tryd.prog (callFunc K args) w = .ok (.enter K args) w
def FirstIs (p : Nat → Bool) (n : Nat) (r : Int) : Prop := (r = -1 ∧ ∀ i, i < n → p i = false) ∨ ∃ k : Nat, k < n ∧ r = (k : Int) ∧ p k = true ∧ ∀ i, i < k → p i = false
def anyF : Nat → (Nat → Bool) → Bool
  | 0, _ => false
  | n + 1, p => anyF n p || p n
theorem anyF_false {n : Nat} {p : Nat → Bool} (h : ∀ i, i < n → p i = false) : anyF n p = false := by
  induction n with
  | zero => rfl
  | succ n ih => simp [anyF, ih (fun i hi => h i (by omega)), h n (by omega)]
theorem anyF_true {n : Nat} {p : Nat → Bool} {k : Nat} (hk : k < n) (h : p k = true) : anyF n p = true := by
  induction n with
  | zero => omega
  | succ n ih =>
    by_cases e : k = n
    · subst e; simp [anyF, h]
    · simp [anyF, ih (by omega)]
theorem anyF_congr {n : Nat} {p q : Nat → Bool} (h : ∀ i, i < n → p i = q i) : anyF n p = anyF n q := by
  induction n with
  | zero => rfl
  | succ n ih => simp [anyF, ih (fun i hi => h i (by omega)), h n (by omega)]
theorem FirstIs.any {p : Nat → Bool} {n : Nat} {r : Int} (h : FirstIs p n r) : decide (0 ≤ r) = anyF n p := by
  rcases h with ⟨rfl, h⟩ | ⟨k, hk, rfl, hp, _⟩
  · rw [anyF_false h]; rfl
  · rw [anyF_true hk hp]; simp

/-- the code c where something is so, else OK -/
def code (b : Bool) (c : Int) : Int := if b then c else 0
theorem code_true (c : Int) : code true c = c := rfl
theorem code_false (c : Int) : code false c = 0 := rfl
set_option maxRecDepth 20000 in
set_option maxHeartbeats 400000 in
theorem unless_ok (so : Bool) (c : Int) (w : World) :
    Calls Tryd.prog 55 #[.bool so, .int .i64 c] w fun e w' => e = .returned (.int .i64 (code (!so) c)) ∧ w = w' := by
  cases so
  all_goals
    go_enter Tryd.func55, Tryd.ntmps55
    go_wp2
    go_ret
    exact ⟨rfl, rfl⟩
def inZ (x lo hi : Int) : Bool := decide (lo ≤ x ∧ x ≤ hi)
set_option maxRecDepth 20000 in
set_option maxHeartbeats 400000 in
theorem in_ok (x lo hi : Int) (w : World) :
    Calls Tryd.prog 27 #[.int .i64 x, .int .i64 lo, .int .i64 hi] w fun e w' => e = .returned (.bool (inZ x lo hi)) ∧ w = w' := by
  go_enter Tryd.func27, Tryd.ntmps27
  go_wp2
  all_goals
    go_ret
    go_light
    exact ⟨ret_bool (by simp [inZ]; try omega), rfl⟩
set_option maxRecDepth 20000 in
set_option maxHeartbeats 400000 in
theorem l00In_ok (x lo hi : Int) (w : World) :
    Calls Tryd.prog 45 #[.int .i64 x, .int .i64 lo, .int .i64 hi] w fun e w' => e = .returned (.bool (inZ x lo hi)) ∧ w = w' := by
  go_enter Tryd.func45, Tryd.ntmps45
  go_wp2
  all_goals
    go_ret
    go_light
    exact ⟨ret_bool (by simp [inZ]; try omega), rfl⟩

theorem enters_of {f : FuncId} {fn : Func} (hf : Tryd.prog.funcs[f]? = some fn) (hname : (fn.name == "runtime.NumGoroutine") = false) (hb : fn.body.isNone = false) : Enters f := by
  intro args w
  have h1 : fn.name ≠ "runtime.NumGoroutine" := by simpa using hname
  have h2 : fn.body ≠ none := by
    intro h
    rw [h] at hb
    cases hb
  simp [callFunc, hf, h1, h2]
set_option maxRecDepth 20000 in
set_option maxHeartbeats 400000 in
theorem i64sIndex_ok (A : Option Addr) (c : Nat) (vs : List Value) (K : FuncId) (caps : Array Value) (w : World) (p : Nat → Bool) (hr : Rd w w.heap.size A vs) (hn : vs.length ≤ 1048576) (hK : Enters K)
    (hf : ∀ i u w', vs[i]? = some u → Below w.heap.size w w' → Calls Tryd.prog K (#[u] ++ caps) w' fun e w'' => e = .returned (.bool (p i)) ∧ Below w'.heap.size w' w'') :
    Calls Tryd.prog 58 #[.slice A vs.length c, .func (.func K) #[] caps] w fun e w' => ∃ r, e = .returned (.int .i64 r) ∧ FirstIs p vs.length r ∧ Below w.heap.size w w' := by
  have HF := hid hf
  clear hf
  unfold Enters at hK
  go_enter Tryd.func58, Tryd.ntmps58
  go_wp2_with fail
  go_loopw [8] (fun i wr => ∃ k : Nat, k ≤ vs.length ∧ i = .int .i64 k ∧ (∀ j, j < k → p j = false) ∧ Below w.heap.size w wr) (fun i _ => vs.length - (intOf i).toNat)
  case atStart => exact ⟨0, by omega, rfl, fun j hj => by omega, Below.refl _ _⟩
  case round =>
    obtain ⟨k, hk, rfl, hall, hb⟩ := hrel
    have Hall := hid hall
    clear hall
    by_cases h : k < vs.length
    · have hu : vs[k]? = some vs[k] := List.getElem?_eq_getElem h
      obtain ⟨b, off, rfl, hbl, hc⟩ := hr.open_ (by omega)
      have hc' := hc k _ hu
      have hold := (olds hb).1
      have HU := hid hu
      generalize vs[k] = u at *
      clear hc hu
      go_wp2_with ((with_reducible refine (HF.out k u _ HU.out hb).mono ?_); rintro e w2 ⟨rfl, hb2⟩)
      · have hp : p k = true := by assumption
        go_ret
        exact ⟨_, rfl, .inr ⟨k, h, rfl, hp, Hall.out⟩, hb.trans (hb2.mono hb.size)⟩
      · have hp : p k = false := by assumption
        refine ⟨?_, by simp [intOf]; omega⟩
        have hnext : ∀ j, j < k + 1 → p j = false := fun j hj => by
          by_cases e : j = k
          · subst e; exact hp
          · exact Hall.out j (by omega)
        first
          | exact ⟨k + 1, by omega, by go_num, hnext, hb.trans (hb2.mono hb.size)⟩
          | ((repeat apply Exists.intro); exact ⟨⟨k + 1, by omega, by go_num, hnext, hb.trans (hb2.mono hb.size)⟩, rfl⟩)
    · go_wp2
      go_ret
      exact ⟨_, rfl, .inl ⟨rfl, fun i hi => Hall.out i (by omega)⟩, hb⟩

set_option maxRecDepth 20000 in
set_option maxHeartbeats 400000 in
theorem i64sContains_ok (A : Option Addr) (c : Nat) (vs : List Value) (K : FuncId) (caps : Array Value) (w : World) (p : Nat → Bool) (hr : Rd w w.heap.size A vs) (hn : vs.length ≤ 1048576) (hK : Enters K)
    (hf : ∀ i u w', vs[i]? = some u → Below w.heap.size w w' → Calls Tryd.prog K (#[u] ++ caps) w' fun e w'' => e = .returned (.bool (p i)) ∧ Below w'.heap.size w' w'') :
    Calls Tryd.prog 50 #[.slice A vs.length c, .func (.func K) #[] caps] w fun e w' => e = .returned (.bool (anyF vs.length p)) ∧ Below w.heap.size w w' := by
  have HF := hid hf
  clear hf
  have HK := hid hK
  clear hK
  go_enter Tryd.func50, Tryd.ntmps50
  go_wp2_with (go_at_call 58; refine (i64sIndex_ok A c vs K caps w p hr hn HK.out HF.out).mono ?_; rintro e w2 ⟨r, rfl, hfi, hb⟩)
  go_ret
  exact ⟨ret_bool (FirstIs.any hfi), hb⟩


def isP (z : Int) : Bool := inZ z (-256) 256
set_option maxRecDepth 20000 in
set_option maxHeartbeats 400000 in
theorem isPiece_ok (x : Int) (w : World) : Calls Tryd.prog 49 #[.int .i64 x] w fun e w' => e = .returned (.bool (isP x)) ∧ w = w' := by
  go_enter Tryd.func49, Tryd.ntmps49
  go_wp2_with fail
  refine (in_ok x (-256) 256 w).mono ?_
  rintro e w2 ⟨rfl, rfl⟩
  go_wp2
  go_ret
  exact ⟨rfl, rfl⟩
def allP (zs : List Int) : Bool := !anyF zs.length (fun i => !isP (nthI zs i))
set_option maxRecDepth 20000 in
set_option maxHeartbeats 400000 in
theorem l07Parts_ok (A : Option Addr) (c : Nat) (zs : List Int) (w : World) (hr : Rd w w.heap.size A (is64 zs)) (hn : zs.length ≤ 1048576) :
    Calls Tryd.prog 47 #[.slice A zs.length c] w fun e w' => e = .returned (.bool (allP zs)) ∧ w = w' := by
  go_enter Tryd.func47, Tryd.ntmps47
  go_wp2
  go_loop [3] (fun i => ∃ k : Nat, k ≤ zs.length ∧ i = .int .i64 k ∧ ∀ j, j < k → isP (nthI zs j) = true) (fun i => zs.length - (intOf i).toNat)
  case atStart => exact ⟨0, by omega, rfl, fun j hj => by omega⟩
  case round =>
    obtain ⟨k, hk, rfl, hall⟩ := hrel
    have Hall := hid hall
    clear hall
    by_cases h : k < zs.length
    · obtain ⟨b, off, rfl, hbl, hc⟩ := hr.ints (by omega)
      have hc' := hc k h
      clear hc
      go_wp2_with fail
      refine (l00In_ok (nthI zs k) (-256) 256 w).mono ?_
      rintro e w2 ⟨rfl, rfl⟩
      have hfold : inZ (nthI zs k) (-256) 256 = isP (nthI zs k) := rfl
      rw [hfold]
      cases hp : isP (nthI zs k) with
      | false =>
        go_wp2
        go_ret
        exact ⟨ret_bool (by unfold allP; rw [anyF_true h (by rw [hp]; rfl)]; rfl), rfl⟩
      | true =>
        go_wp2
        go_round
        case rel =>
          refine ⟨k + 1, by omega, by go_num, fun j hj => ?_⟩
          by_cases e : j = k
          · subst e; exact hp
          · exact Hall.out j (by omega)
        case measure => simp [intOf]; omega
    · go_wp2
      go_ret
      refine ⟨ret_bool ?_, rfl⟩
      unfold allP
      rw [anyF_false fun i hi => by rw [Hall.out i (by omega)]; rfl]
      rfl
def turnOk (n k : Int) : Bool := inZ n 1 1024 && inZ k 0 (n - 1)
set_option maxRecDepth 20000 in
set_option maxHeartbeats 400000 in
theorem turnCode_ok (n k : Int) (w : World) (hn : I64' n) : Calls Tryd.prog 48 #[.int .i64 n, .int .i64 k] w fun e w' => e = .returned (.int .i64 (code (!turnOk n k) 2)) ∧ w = w' := by
  unfold I64' at hn
  obtain ⟨hn1, hn2⟩ := hn
  by_cases h : inZ n 1 1024 = true
  · have h1 : 1 ≤ n ∧ n ≤ 1024 := by simpa [inZ] using h
    obtain ⟨h1, h2⟩ := h1
    have hres : turnOk n k = inZ k 0 (n - 1) := by unfold turnOk; rw [h]; rfl
    rw [hres]
    cases hk : inZ k 0 (n - 1)
    all_goals
      go_enter Tryd.func48, Tryd.ntmps48
      go_wp2_with fail
      refine (l00In_ok n 1 1024 w).mono ?_
      rintro e w2 ⟨rfl, rfl⟩
      rw [h]
      go_wp2_with fail
      refine (l00In_ok k 0 (n - 1) w).mono ?_
      rintro e w2 ⟨rfl, rfl⟩
      rw [hk]
      go_wp2
      go_ret
      exact ⟨rfl, rfl⟩
  · have h' : inZ n 1 1024 = false := by simpa using h
    have hres : turnOk n k = false := by unfold turnOk; rw [h']; rfl
    rw [hres]
    go_enter Tryd.func48, Tryd.ntmps48
    go_wp2_with fail
    refine (l00In_ok n 1 1024 w).mono ?_
    rintro e w2 ⟨rfl, rfl⟩
    rw [h']
    go_wp2
    go_ret
    exact ⟨rfl, rfl⟩
set_option maxRecDepth 20000 in
set_option maxHeartbeats 400000 in
theorem numbersOk1_ok (x : Int) (w : World) : Calls Tryd.prog 51 #[.int .i64 x] w fun e w' => e = .returned (.bool (!isP x)) ∧ w = w' := by
  go_enter Tryd.func51, Tryd.ntmps51
  go_wp2_with fail
  refine (isPiece_ok x w).mono ?_
  rintro e w2 ⟨rfl, rfl⟩
  go_wp2
  go_ret
  exact ⟨rfl, rfl⟩
theorem numbersOk1_in : Enters 51 := enters_of Tryd.func51 (by kernel_rfl) (by kernel_rfl)
theorem wrongTaps_ok (A : Option Addr) (c : Nat) (zs : List Int) (w : World) (hr : Rd w w.heap.size A (is64 zs)) (hn : zs.length ≤ 1048576) :
    Calls Tryd.prog 50 #[.slice A zs.length c, .func (.func 51) #[] #[]] w fun e w' => e = .returned (.bool (!allP zs)) ∧ Below w.heap.size w w' := by
  have H := i64sContains_ok A c (is64 zs) 51 #[] w (fun i => !isP (nthI zs i)) hr (by rw [is64_length]; exact hn) numbersOk1_in (fun i u w' hu _ => by
    have hi : i < zs.length := by
      have := (List.getElem?_eq_some_iff.1 hu).1
      rwa [is64_length] at this
    rw [is64_get zs hi] at hu
    cases hu
    exact (numbersOk1_ok _ _).mono fun e w'' ⟨he, hw⟩ => ⟨he, hw ▸ Below.refl _ _⟩)
  rw [is64_length] at H
  unfold allP
  rw [Bool.not_not]
  exact H
end Go.Proofs.YtlafjmghfnlaoacDoor
