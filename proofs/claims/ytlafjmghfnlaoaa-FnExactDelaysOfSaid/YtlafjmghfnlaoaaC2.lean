/-
  Contracts: codes, limits, searches by a function value.
-/
import Derived.Test.YtlafjmghfnlaoaaC1
namespace Go.Proofs.Ytlafjmghfnlaoaa
open Go.RowKit

def FirstIs (p : Nat → Bool) (n : Nat) (r : Int) : Prop := (r = -1 ∧ ∀ i, i < n → p i = false) ∨ ∃ k : Nat, k < n ∧ r = (k : Int) ∧ p k = true ∧ ∀ i, i < k → p i = false
def anyF : Nat → (Nat → Bool) → Bool
  | 0, _ => false
  | n + 1, p => anyF n p || p n
theorem anyF_false {n : Nat} {p : Nat → Bool} (h : ∀ i, i < n → p i = false) : anyF n p = false := by
  induction n with
  | zero => rfl
  | succ n ih => simp [anyF, ih (fun i hi => h i (by omega)), h n (by omega)]
theorem anyF_true {n : Nat} {p : Nat → Bool} {k : Nat} (hk : k < n) (h : p k = true) : anyF n p = true := by
  induction n with
  | zero => omega
  | succ n ih =>
    by_cases e : k = n
    · subst e; simp [anyF, h]
    · simp [anyF, ih (by omega)]
theorem anyF_congr {n : Nat} {p q : Nat → Bool} (h : ∀ i, i < n → p i = q i) : anyF n p = anyF n q := by
  induction n with
  | zero => rfl
  | succ n ih => simp [anyF, ih (fun i hi => h i (by omega)), h n (by omega)]
theorem FirstIs.any {p : Nat → Bool} {n : Nat} {r : Int} (h : FirstIs p n r) : decide (0 ≤ r) = anyF n p := by
  rcases h with ⟨rfl, h⟩ | ⟨k, hk, rfl, hp, _⟩
  · rw [anyF_false h]; rfl
  · rw [anyF_true hk hp]; simp

/-- the code c where something is so, else OK -/
def code (b : Bool) (c : Int) : Int := if b then c else 0
theorem code_true (c : Int) : code true c = c := rfl
theorem code_false (c : Int) : code false c = 0 := rfl
set_option maxRecDepth 20000 in
set_option maxHeartbeats 400000 in
theorem unless_ok (so : Bool) (c : Int) (w : World) :
    Calls Try.prog 60 #[.bool so, .int .i64 c] w fun e w' => e = .returned (.int .i64 (code (!so) c)) ∧ w = w' := by
  cases so
  all_goals
    go_enter Try.func60, Try.ntmps60
    go_wp2
    go_ret
    exact ⟨rfl, rfl⟩
def inZ (x lo hi : Int) : Bool := decide (lo ≤ x ∧ x ≤ hi)
set_option maxRecDepth 20000 in
set_option maxHeartbeats 400000 in
theorem in_ok (x lo hi : Int) (w : World) :
    Calls Try.prog 66 #[.int .i64 x, .int .i64 lo, .int .i64 hi] w fun e w' => e = .returned (.bool (inZ x lo hi)) ∧ w = w' := by
  go_enter Try.func66, Try.ntmps66
  go_wp2
  all_goals
    go_ret
    go_light
    exact ⟨ret_bool (by simp [inZ]; try omega), rfl⟩
set_option maxRecDepth 20000 in
set_option maxHeartbeats 400000 in
theorem l00In_ok (x lo hi : Int) (w : World) :
    Calls Try.prog 65 #[.int .i64 x, .int .i64 lo, .int .i64 hi] w fun e w' => e = .returned (.bool (inZ x lo hi)) ∧ w = w' := by
  go_enter Try.func65, Try.ntmps65
  go_wp2
  all_goals
    go_ret
    go_light
    exact ⟨ret_bool (by simp [inZ]; try omega), rfl⟩

set_option maxRecDepth 20000 in
set_option maxHeartbeats 400000 in
theorem intsIndex_ok (A : Option Addr) (c : Nat) (vs : List Value) (K : FuncId) (caps : Array Value) (w : World) (p : Nat → Bool) (hr : Rd w w.heap.size A vs) (hn : vs.length ≤ 1048576) (hK : Enters K)
    (hf : ∀ i u w', vs[i]? = some u → Below w.heap.size w w' → Calls Try.prog K (#[u] ++ caps) w' fun e w'' => e = .returned (.bool (p i)) ∧ Below w'.heap.size w' w'') :
    Calls Try.prog 106 #[.slice A vs.length c, .func (.func K) #[] caps] w fun e w' => ∃ r, e = .returned (.int .i64 r) ∧ FirstIs p vs.length r ∧ Below w.heap.size w w' := by
  have HF := hid hf
  clear hf
  unfold Enters at hK
  go_enter Try.func106, Try.ntmps106
  go_wp2_with fail
  go_loopw [8] (fun i wr => ∃ k : Nat, k ≤ vs.length ∧ i = .int .i64 k ∧ (∀ j, j < k → p j = false) ∧ Below w.heap.size w wr) (fun i _ => vs.length - (intOf i).toNat)
  case atStart => exact ⟨0, by omega, rfl, fun j hj => by omega, Below.refl _ _⟩
  case round =>
    obtain ⟨k, hk, rfl, hall, hb⟩ := hrel
    have Hall := hid hall
    clear hall
    by_cases h : k < vs.length
    · have hu : vs[k]? = some vs[k] := List.getElem?_eq_getElem h
      obtain ⟨b, off, rfl, hbl, hc⟩ := hr.open_ (by omega)
      have hc' := hc k _ hu
      have hold := (olds hb).1
      have HU := hid hu
      generalize vs[k] = u at *
      clear hc hu
      go_wp2_with ((with_reducible refine (HF.out k u _ HU.out hb).mono ?_); rintro e w2 ⟨rfl, hb2⟩)
      · have hp : p k = true := by assumption
        go_ret
        exact ⟨_, rfl, .inr ⟨k, h, rfl, hp, Hall.out⟩, hb.trans (hb2.mono hb.size)⟩
      · have hp : p k = false := by assumption
        refine ⟨?_, by simp [intOf]; omega⟩
        have hnext : ∀ j, j < k + 1 → p j = false := fun j hj => by
          by_cases e : j = k
          · subst e; exact hp
          · exact Hall.out j (by omega)
        first
          | exact ⟨k + 1, by omega, by go_num, hnext, hb.trans (hb2.mono hb.size)⟩
          | ((repeat apply Exists.intro); exact ⟨⟨k + 1, by omega, by go_num, hnext, hb.trans (hb2.mono hb.size)⟩, rfl⟩)
    · go_wp2
      go_ret
      exact ⟨_, rfl, .inl ⟨rfl, fun i hi => Hall.out i (by omega)⟩, hb⟩

set_option maxRecDepth 20000 in
set_option maxHeartbeats 400000 in
theorem intsContains_ok (A : Option Addr) (c : Nat) (vs : List Value) (K : FuncId) (caps : Array Value) (w : World) (p : Nat → Bool) (hr : Rd w w.heap.size A vs) (hn : vs.length ≤ 1048576) (hK : Enters K)
    (hf : ∀ i u w', vs[i]? = some u → Below w.heap.size w w' → Calls Try.prog K (#[u] ++ caps) w' fun e w'' => e = .returned (.bool (p i)) ∧ Below w'.heap.size w' w'') :
    Calls Try.prog 92 #[.slice A vs.length c, .func (.func K) #[] caps] w fun e w' => e = .returned (.bool (anyF vs.length p)) ∧ Below w.heap.size w w' := by
  have HF := hid hf
  clear hf
  have HK := hid hK
  clear hK
  go_enter Try.func92, Try.ntmps92
  go_wp2_with (go_at_call 106; refine (intsIndex_ok A c vs K caps w p hr hn HK.out HF.out).mono ?_; rintro e w2 ⟨r, rfl, hfi, hb⟩)
  go_ret
  exact ⟨ret_bool (FirstIs.any hfi), hb⟩

end Go.Proofs.Ytlafjmghfnlaoaa
