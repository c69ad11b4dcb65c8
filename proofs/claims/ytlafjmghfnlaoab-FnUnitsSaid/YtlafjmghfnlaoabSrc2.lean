/-
  Contracts: drawn floats and complex numbers.
-/
import Derived.Test.YtlafjmghfnlaoabSrc
namespace Go.Proofs.Ytlafjmghfnlaoab
open Go.RowKit

theorem bits_run (b : Nat) (w : World) : Sem.run Try.prog (callFunc 114 #[.float .f64 b]) w = .ok (.value (.int .u64 (b : Int))) w := by
  rw [run_callFunc_extern (e := Extern.MathFloatBits.float64bits) Try.func114 (by kernel_rfl) (by kernel_rfl) (by kernel_rfl) (by kernel_rfl) #[.float .f64 b] w]
  rfl
theorem frombits_run (n : Int) (w : World) : Sem.run Try.prog (callFunc 197 #[.int .u64 n]) w = .ok (.value (.float .f64 n.toNat)) w := by
  rw [run_callFunc_extern (e := Extern.MathFloatBits.float64frombits) Try.func197 (by kernel_rfl) (by kernel_rfl) (by kernel_rfl) (by kernel_rfl) #[.int .u64 n] w]
  rfl
theorem wf_or {x y : Int} (hx : 0 ≤ x ∧ x < 18446744073709551616) (hy : 0 ≤ y ∧ y < 18446744073709551616) : Wf (bits .or .u64 x y).toNat := by
  obtain ⟨m, rfl⟩ := Int.eq_ofNat_of_zero_le hx.1
  obtain ⟨n, rfl⟩ := Int.eq_ofNat_of_zero_le hy.1
  rw [bits_or_u64_nat m n (by omega) (by omega), Int.toNat_natCast]
  exact Nat.or_lt_two_pow (n := 64) (by omega) (by omega)
theorem run_neg {P : Program} (b : Nat) (w : World) : Sem.run P (Op.unary .neg (.float .f64 b)) w = .ok (.float .f64 (Op.negFloat .f64 b)) w := rfl
theorem wf_neg {b : Nat} (h : Wf b) : Wf (Op.negFloat .f64 b) := by
  unfold Wf at h ⊢
  unfold Op.negFloat
  exact Nat.xor_lt_two_pow (n := 64) h (by decide)
set_option maxRecDepth 20000 in
set_option maxHeartbeats 400000 in
theorem inf_ok (s : Int) (w : World) : Calls Try.prog 118 #[.int .i64 s] w fun e w' => ∃ r, e = .returned (.float .f64 r) ∧ Wf r ∧ w = w' := by
  have h2 := frombits_run
  go_enter Try.func118, Try.ntmps118
  go_wp2
  all_goals
    go_ret
    exact ⟨_, rfl, by unfold Wf; decide, rfl⟩
set_option maxRecDepth 20000 in
set_option maxHeartbeats 400000 in
theorem nan_ok (w : World) : Calls Try.prog 195 #[] w fun e w' => ∃ r, e = .returned (.float .f64 r) ∧ Wf r ∧ w = w' := by
  have h2 := frombits_run
  go_enter Try.func195, Try.ntmps195
  go_wp2
  go_ret
  exact ⟨_, rfl, by unfold Wf; decide, rfl⟩
set_option maxRecDepth 20000 in
set_option maxHeartbeats 400000 in
theorem copysign_ok (w : World) : Calls Try.prog 196 #[.float .f64 0, .float .f64 13830554455654793216] w fun e w' => ∃ r, e = .returned (.float .f64 r) ∧ Wf r ∧ w = w' := by
  have h1 := bits_run
  have h2 := frombits_run
  go_enter Try.func196, Try.ntmps196
  go_wp2
  go_ret
  exact ⟨_, rfl, by unfold Wf; decide +kernel, rfl⟩
set_option maxRecDepth 20000 in
set_option maxHeartbeats 2000000 in
theorem float_ok (g k0 : Nat) (w : World) (h : SrcOK w g k0) (hk0 : k0 + 10 ≤ 1000000000) :
    Calls Try.prog 112 #[.pointer (some ⟨g, 0, none⟩)] w fun e w' => ∃ r, e = .returned (.float .f64 r) ∧ Wf r ∧ SrcOK w' g (k0 + 10) ∧ w.grownBy w' (some g) := by
  go_enter Try.func112, Try.ntmps112
  go_wp2_with fail
  refine (pick_ok g k0 16 w h (by omega) (by omega)).mono ?_
  rintro e w2 ⟨z, rfl, hz0, hz1, hs2, hg2⟩
  have hfb := frombits_run
  have hng := fun b => run_neg (P := Try.prog) b
  go_wp2_with (first | (go_at_call 118; refine (inf_ok _ _).mono ?_; rintro e w3 ⟨r, rfl, hrw, rfl⟩) | (go_at_call 195; refine (nan_ok _).mono ?_; rintro e w3 ⟨r, rfl, hrw, rfl⟩) | (go_at_call 196; refine (copysign_ok _).mono ?_; rintro e w3 ⟨r, rfl, hrw, rfl⟩) | (go_at_call 144; refine (pick_ok g _ _ _ (by assumption) (by omega) (by omega)).mono ?_; rintro e w3 ⟨y, rfl, hy0, hy1, hs3, hg3⟩; have hG := grown_trans (a := w) (by assumption) hg3) | (go_at_call 193; refine (plain_ok g _ _ (by assumption) (by omega)).mono ?_; rintro e w3 ⟨r, rfl, hrw, hs3, hg3⟩; have hG := grown_trans (a := w) (by assumption) hg3))
  all_goals go_ret
  all_goals refine ⟨_, rfl, ?_, ?_, ?_⟩
  all_goals first
    | exact hrw
    | exact Wf_fres _ _ _ _
    | exact SrcOK.mono (by assumption) (by omega)
    | exact SrcOK.mono (SrcOK.drewN (by assumption) _) (by omega)
    | assumption
    | exact grown_drewN (by assumption) _
    | exact wf_or ⟨by omega, by omega⟩ ⟨by omega, by omega⟩
    | exact wf_neg (wf_or ⟨by omega, by omega⟩ ⟨by omega, by omega⟩)
    | (unfold Wf; omega)
    | (unfold Wf; decide)
set_option maxRecDepth 20000 in
set_option maxHeartbeats 400000 in
theorem any_ok (g k0 : Nat) (w : World) (h : SrcOK w g k0) (hk0 : k0 + 30 ≤ 1000000000) :
    Calls Try.prog 106 #[.pointer (some ⟨g, 0, none⟩)] w fun e w' => ∃ r i, e = .returned (.complex .f64 r i) ∧ Wf r ∧ Wf i ∧ SrcOK w' g (k0 + 30) ∧ w.grownBy w' (some g) := by
  go_enter Try.func106, Try.ntmps106
  go_wp2_with fail
  refine (one_ok g k0 3 w h (by omega) (by omega)).mono ?_
  rintro e w2 ⟨b, rfl, hs2, hg2⟩
  cases b with
  | true =>
    go_wp2_with fail
    refine (plain_ok g _ w2 hs2 (by omega)).mono ?_
    rintro e w3 ⟨r, rfl, hr, hs3, hg3⟩
    go_wp2_with fail
    refine (plain_ok g _ w3 hs3 (by omega)).mono ?_
    rintro e w4 ⟨i, rfl, hi, hs4, hg4⟩
    go_wp2
    go_ret
    exact ⟨_, _, rfl, hr, hi, hs4.mono (by omega), grown_trans (grown_trans hg2 hg3) hg4⟩
  | false =>
    go_wp2_with fail
    refine (float_ok g _ w2 hs2 (by omega)).mono ?_
    rintro e w3 ⟨r, rfl, hr, hs3, hg3⟩
    go_wp2_with fail
    refine (float_ok g _ w3 hs3 (by omega)).mono ?_
    rintro e w4 ⟨i, rfl, hi, hs4, hg4⟩
    go_wp2
    go_ret
    exact ⟨_, _, rfl, hr, hi, hs4.mono (by omega), grown_trans (grown_trans hg2 hg3) hg4⟩
end Go.Proofs.Ytlafjmghfnlaoab
