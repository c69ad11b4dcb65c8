/-
  Contracts: the same numbers, equal numbers, finite numbers; bytes that are too many.
-/
import Derived.Test.YtlafjmghfnlaoabSrc3
namespace Go.Proofs.Ytlafjmghfnlaoab
open Go.RowKit

def eqV (x y : F) : Bool := ford x y == some .eq
def signB (a : Nat) : Bool := decide (wrap64 (a : Int) < 0)
def sameR (a b : Nat) : Bool := (eqV (V a) (V b) && (signB a == signB b)) || (!eqV (V a) (V a) && !eqV (V b) (V b))
set_option maxRecDepth 20000 in
set_option maxHeartbeats 400000 in
theorem signbit_ok (a : Nat) (w : World) : Calls Try.prog 194 #[.float .f64 a] w fun e w' => e = .returned (.bool (signB a)) ∧ w = w' := by
  have h1 := bits_run
  go_enter Try.func194, Try.ntmps194
  go_wp2
  go_ret
  exact ⟨rfl, rfl⟩
set_option maxRecDepth 20000 in
set_option maxHeartbeats 400000 in
theorem a2Long_ok (A B : Option Addr) (n c m d : Nat) (w : World) : Calls Try.prog 15 #[.slice A n c, .slice B m d] w fun e w' => e = .returned (.bool (decide (3000 < (n : Int)) || decide (3000 < (m : Int)))) ∧ w = w' := by
  go_enter Try.func15, Try.ntmps15
  go_wp2
  all_goals go_ret
  all_goals refine ⟨ret_bool ?_, rfl⟩
  all_goals simp_all
set_option maxRecDepth 20000 in
set_option maxHeartbeats 400000 in
theorem isEqual_ok (a b x y : Nat) (w : World) : Calls Try.prog 19 #[.complex .f64 a b, .complex .f64 x y] w fun e w' => e = .returned (.bool (eqV (V a) (V x) && eqV (V b) (V y))) ∧ w = w' := by
  go_enter Try.func19, Try.ntmps19
  go_wp2
  all_goals go_ret
  all_goals refine ⟨ret_bool ?_, rfl⟩
  all_goals unfold eqV
  all_goals rfl
end Go.Proofs.Ytlafjmghfnlaoab
