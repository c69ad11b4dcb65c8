/-
  Contracts: WrapPhase, the program's and the reference's.
-/
import Derived.Test.YtlafjmghfnlaoaaC3
namespace Go.Proofs.Ytlafjmghfnlaoaa
open Go.RowKit

def finF (x : F) : Bool := eqF (fop .sub x x) (V 0)
def halfF : F := V 4602678819172646912
def wrapF (x : F) : F := if finF x then fop .sub x (floorF (fop .add x halfF)) else x
theorem wrapF_fin {x : F} (h : finF x = true) : wrapF x = fop .sub x (floorF (fop .add x halfF)) := by simp [wrapF, h]
theorem wrapF_inf {x : F} (h : finF x = false) : wrapF x = x := by simp [wrapF, h]
theorem fin_self {a : Nat} (h : finF (V a) = true) : eqF (V a) (V a) = true := by
  by_cases hn : V a = none
  · rw [hn] at h; simp [finF, eqF, fop, fopk, ford, fordk] at h
  · unfold eqF; rw [ford_V_self hn]; rfl
def RetFl (w : World) (x : F) (e : Ending) (w' : World) : Prop := ∃ r n, e = .returned (.float .f64 r) ∧ V r = x ∧ Wf r ∧ w.drewN n = w'

set_option maxRecDepth 20000 in
set_option maxHeartbeats 400000 in
theorem l01Finite_ok (a : Nat) (w : World) :
    Calls Try.prog 83 #[.float .f64 a] w fun e w' => ∃ n, e = .returned (.bool (finF (V a))) ∧ w.drewN n = w' := by
  by_cases h : finF (V a) = true
  · have h1 : (!!eqF (V a) (V a)) = true := by rw [fin_self h]; rfl
    have h2 : (ford (fop .sub (V a) (V a)) (V 0) == some .eq) = true := h
    rw [h]
    go_enter Try.func83, Try.ntmps83
    go_wp2_with (go_at_call 51; refine (l01NaN_ok _ _).mono ?_; rintro e w2 ⟨rfl, rfl⟩)
    go_ret
    exact ⟨_, rfl, rfl⟩
  · have h' : finF (V a) = false := by simpa using h
    have h2 : (ford (fop .sub (V a) (V a)) (V 0) == some .eq) = false := h'
    rw [h']
    clear h h'
    cases h1 : eqF (V a) (V a)
    all_goals
      go_enter Try.func83, Try.ntmps83
      go_wp2_with (go_at_call 51; refine (l01NaN_ok _ _).mono ?_; rintro e w2 ⟨rfl, rfl⟩)
      all_goals
        go_ret
        first | exact ⟨_, rfl, rfl⟩ | exact ⟨0, rfl, rfl⟩
set_option maxRecDepth 20000 in
set_option maxHeartbeats 400000 in
theorem l06Wrap_ok (a : Nat) (w : World) (ha : Wf a) : Calls Try.prog 62 #[.float .f64 a] w (RetFl w (wrapF (V a))) := by
  by_cases h : finF (V a) = true
  · rw [wrapF_fin h]
    go_enter Try.func62, Try.ntmps62
    go_wp2_with (first | (go_at_call 83; refine (l01Finite_ok _ _).mono ?_; rintro e w2 ⟨n2, rfl, rfl⟩) | (go_at_call 63; refine (floor_ok _ _ (Wf_fres _ _ _ _)).mono ?_; rintro e w3 ⟨r, n3, rfl, hr, hwr, rfl⟩))
    go_ret
    exact ⟨_, _, rfl, by rw [V_fres, hr, V_fres]; rfl, Wf_fres _ _ _ _, rfl⟩
  · have h' : finF (V a) = false := by simpa using h
    rw [wrapF_inf h']
    clear h
    go_enter Try.func62, Try.ntmps62
    go_wp2_with (first | (go_at_call 83; refine (l01Finite_ok _ _).mono ?_; rintro e w2 ⟨n2, rfl, rfl⟩))
    go_ret
    exact ⟨_, _, rfl, rfl, ha, rfl⟩
set_option maxRecDepth 20000 in
set_option maxHeartbeats 400000 in
theorem specWrap_ok (a : Nat) (w : World) (ha : Wf a) : Calls Try.prog 22 #[.float .f64 a] w (RetFl w (wrapF (V a))) := by
  go_enter Try.func22, Try.ntmps22
  go_wp2_with (go_at_call 62; refine (l06Wrap_ok _ _ ha).mono ?_; rintro e w3 ⟨r, n3, rfl, hr, hwr, rfl⟩)
  go_ret
  exact ⟨_, _, rfl, hr, hwr, rfl⟩
set_option maxRecDepth 20000 in
set_option maxHeartbeats 400000 in
theorem implWrap_ok (a : Nat) (w : World) (ha : Wf a) : Calls Try.prog 23 #[.float .f64 a] w (RetFl w (wrapF (V a))) := by
  by_cases h : finF (V a) = true
  · have h2 : (ford (fop .sub (V a) (V a)) (V 0) != some .eq) = false := by
      have h3 : (ford (fop .sub (V a) (V a)) (V 0) == some .eq) = true := h
      rw [bne, h3]; rfl
    rw [wrapF_fin h]
    clear h
    go_enter Try.func23, Try.ntmps23
    go_wp2_with (go_at_call 63; refine (floor_ok _ _ (Wf_fres _ _ _ _)).mono ?_; rintro e w3 ⟨r, n3, rfl, hr, hwr, rfl⟩)
    go_ret
    exact ⟨_, _, rfl, by rw [V_fres, hr, V_fres]; rfl, Wf_fres _ _ _ _, rfl⟩
  · have h' : finF (V a) = false := by simpa using h
    have h2 : (ford (fop .sub (V a) (V a)) (V 0) != some .eq) = true := by
      have h3 : (ford (fop .sub (V a) (V a)) (V 0) == some .eq) = false := h'
      rw [bne, h3]; rfl
    rw [wrapF_inf h']
    clear h h'
    go_enter Try.func23, Try.ntmps23
    go_wp2
    go_ret
    exact ⟨_, _, rfl, rfl, ha, rfl⟩
end Go.Proofs.Ytlafjmghfnlaoaa
