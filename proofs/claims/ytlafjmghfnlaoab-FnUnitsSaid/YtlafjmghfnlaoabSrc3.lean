/-
  Contracts: a source over bytes; any complex number of bytes.
-/
import Derived.Test.YtlafjmghfnlaoabSrc2
import Derived.Test.YtlafjmghfnlaoabEndB
namespace Go.Proofs.Ytlafjmghfnlaoab
open Go.RowKit

set_option maxRecDepth 20000 in
set_option maxHeartbeats 400000 in
theorem from_ok (A : Option Addr) (c : Nat) (zs : List Int) (w : World) (hr : Rd w w.heap.size A (bs zs)) (hz : Bytes zs) (hn : zs.length ≤ 1048576) :
    Calls Try.prog 105 #[.slice A zs.length c] w fun e w' => ∃ g, e = .returned (.pointer (some ⟨g, 0, none⟩)) ∧ SrcOK w' g 0 ∧ w.heap.size ≤ g ∧ Below w.heap.size w w' := by
  go_enter Try.func105, Try.ntmps105
  go_wp2
  go_ret
  refine ⟨_, rfl, ⟨A, zs, c, 0, 0, ⟨?_, ?_, ?_, ?_, ?_, ?_⟩, hr.below (below_box w _) (Nat.le_refl _), hz, hn, by omega, by omega, by omega, by omega⟩, Nat.le_refl _, below_box w _⟩
  all_goals go_simp
set_option maxRecDepth 20000 in
set_option maxHeartbeats 400000 in
theorem a2any_ok (A : Option Addr) (c : Nat) (zs : List Int) (w : World) (hr : Rd w w.heap.size A (bs zs)) (hz : Bytes zs) (hn : zs.length ≤ 1048576) :
    Calls Try.prog 16 #[.slice A zs.length c, .int .i64 0] w fun e w' => ∃ r i, e = .returned (.complex .f64 r i) ∧ Wf r ∧ Wf i ∧ Below w.heap.size w w' := by
  go_enter Try.func16, Try.ntmps16
  go_wp2_with fail
  refine (from_ok A c zs w hr hz hn).mono ?_
  rintro e w2 ⟨g, rfl, hs2, hg, hb2⟩
  go_wp2_with fail
  refine (any_ok g 0 w2 hs2 (by omega)).mono ?_
  rintro e w3 ⟨r, i, rfl, hrw, hiw, hs3, hg3⟩
  have hb3 : Below w.heap.size w w3 := hb2.grown hg3 hb2.size (fun k hk => by cases hk; exact hg)
  go_wp2_with fail
  go_loopw [6, 7] (fun x k wr => x = .complex .f64 r i ∧ k = .int .i64 0 ∧ wr = w3) (fun _ _ _ => 0)
  case atStart => exact ⟨rfl, rfl, rfl⟩
  case round =>
    obtain ⟨rfl, rfl, rfl⟩ := hrel
    go_wp2
    go_ret
    exact ⟨r, i, rfl, hrw, hiw, hb3⟩
end Go.Proofs.Ytlafjmghfnlaoab
