/-
  Contracts: marks that the laws set in results, and find again.
-/
import Derived.Test.YtlafjmghfnlaoaaC3
namespace Go.Proofs.Ytlafjmghfnlaoaa
open Go.RowKit

theorem ofInt_real (i : Int) : V (floatOfInt .f64 i) ≠ none := by
  unfold floatOfInt FloatKind.nearest
  rw [V_encode _ rfl]
  simp
theorem ofInt_ne (i : Int) : (ford (V (floatOfInt .f64 i)) (V (floatOfInt .f64 i)) != some .eq) = false := by
  rw [ford_V_self (ofInt_real i)]
  rfl
theorem f64info : (Try.prog.info? 23).map (fun i => (i.zero, i.size, i.bytes)) = some (some (.float .f64 0), 1, 8) := by kernel_rfl
def f64mark (k : Int) : Value := .float .f64 (floatOfInt .f64 k)
def f64marks (k : Int) (n : Nat) : List Value := (List.range n).map fun i : Nat => f64mark (k + (i : Int))
theorem f64marks_succ (k : Int) (n : Nat) : f64marks k (n + 1) = f64marks k n ++ [f64mark (k + n)] := by
  unfold f64marks
  rw [List.range_succ, List.map_append]
  rfl
theorem f64marks_length (k : Int) (n : Nat) : (f64marks k n).length = n := by simp [f64marks]
theorem f64marks_get (k : Int) {n i : Nat} (h : i < n) : (f64marks k n)[i]? = some (f64mark (k + i)) := by simp [f64marks, h]
set_option maxRecDepth 20000 in
set_option maxHeartbeats 400000 in
theorem markf64_ok (v : Value) (n base : Nat) (xs : List Value) (k : Int) (w : World) (h : w.ownsRow base 23 1 v n xs) (hn : n ≤ 1048576) (hk : 0 ≤ k ∧ k ≤ 1073741824) :
    Calls Try.prog 28 #[v, .int .i64 k] w fun e w' => e = .returned (.int .i64 (k + n)) ∧ w'.ownsRow base 23 1 v n (f64marks k n) ∧ w.grownBy w' v.ownBlock := by
  obtain ⟨hk0, hk1⟩ := hk
  by_cases hz : n = 0
  · subst hz
    have hxs : xs = [] := List.eq_nil_of_length_eq_zero (by simpa using h.1)
    subst hxs
    have hv : ∃ A c, v = .slice A 0 c := by
      rcases h.2 with ⟨rfl, _⟩ | ⟨g, cap, cur, rfl, _⟩
      · exact ⟨_, _, rfl⟩
      · exact ⟨_, _, rfl⟩
    obtain ⟨A, c, hv⟩ := hv
    have H := hid h
    clear h
    subst hv
    go_enter Try.func28, Try.ntmps28
    go_wp2
    go_loop [1, 5] (fun q i => q = .int .i64 k ∧ i = .int .i64 0) (fun _ _ => 0)
    case atStart => exact ⟨rfl, rfl⟩
    case round =>
      obtain ⟨rfl, rfl⟩ := hrel
      go_wp2
      go_ret
      exact ⟨ret_int (by simp), H.out, World.grownBy.refl w _⟩
  · obtain ⟨g, cap, hv⟩ : ∃ g cap, v = .slice (some ⟨g, 0, none⟩) n cap := by
      rcases h.2 with ⟨_, h0⟩ | ⟨g, cap, cur, rfl, _⟩
      · exact absurd h0 hz
      · exact ⟨_, _, rfl⟩
    subst hv
    have hlen : xs.length = n := by simpa using h.1
    have HL := hid hlen
    have HO := hid h
    clear h hlen
    go_enter Try.func28, Try.ntmps28
    go_wp2
    go_loopw [1, 5] (fun q i wr => ∃ j : Nat, j ≤ n ∧ i = .int .i64 j ∧ q = .int .i64 (k + j) ∧ wr.ownsRow base 23 1 (.slice (some ⟨g, 0, none⟩) n cap) n (f64marks k j ++ xs.drop j) ∧ w.grownBy wr (some g)) (fun _ i _ => n - (intOf i).toNat)
    case atStart => exact ⟨0, by omega, rfl, by simp, by simpa [f64marks] using HO.out, World.grownBy.refl w _⟩
    case round =>
      obtain ⟨j, hj, rfl, rfl, ho, hg⟩ := hrel
      by_cases hlt : j < n
      · have hc := ho.cellAt j (by omega)
        have hf := ho.frozenAt j
        have hx : (f64marks k j ++ xs.drop j)[j]? = some (xs[j]'(by rw [HL.out]; exact hlt)) := by
          rw [List.getElem?_append_right (by rw [f64marks_length]; omega), f64marks_length, Nat.sub_self, List.getElem?_drop, Nat.add_zero, List.getElem?_eq_getElem]
        rw [hx] at hc
        clear hx
        have hset := ho.stored j (f64mark (k + j))
        have hsz := (ho.lt g rfl).2
        have hmk : f64mark (k + j) = .float .f64 (floatOfInt .f64 (k + j)) := rfl
        rw [hmk] at hset
        clear hmk
        generalize xs[j]'(by rw [HL.out]; exact hlt) = old at *
        have HS := hid hset
        clear hset
        skip
        go_wp2
        go_roundw
        case rel =>
          refine ⟨j + 1, by omega, by go_num, by go_num, ?_, ?_⟩
          · have h2 := HS.out
            have e : (f64marks k j ++ xs.drop j).set j (.float .f64 (floatOfInt .f64 (k + j))) = f64marks k (j + 1) ++ xs.drop (j + 1) := by
              have hlt' : j < xs.length := by rw [HL.out]; exact hlt
              rw [f64marks_succ, List.drop_eq_getElem_cons hlt', List.set_append_right _ _ (by rw [f64marks_length]; omega), f64marks_length, Nat.sub_self, List.set_cons_zero, List.append_assoc]
              rfl
            rw [e] at h2
            exact h2.1
          · exact ⟨hg.os, hg.tape, hg.output, by simpa [World.setCell] using hg.size, fun b hb hne => (Below.heap_setCell wr ⟨g, j, none⟩ _ b (fun e => hne (by rw [e]))).trans (hg.block b hb hne)⟩
        case measure => simp [intOf]; omega
      · go_wp2
        go_ret
        have hjn : j = n := by omega
        refine ⟨ret_int (by omega), ?_, hg⟩
        subst hjn
        have hd : xs.drop j = [] := List.drop_eq_nil_of_le (by rw [HL.out]; exact Nat.le_refl _)
        rw [hd, List.append_nil] at ho
        exact ho
set_option maxRecDepth 20000 in
set_option maxHeartbeats 400000 in
theorem heldf64_ok (v : Value) (n base : Nat) (k : Int) (w : World) (h : w.ownsRow base 23 1 v n (f64marks k n)) (hn : n ≤ 1048576) (hk : 0 ≤ k ∧ k ≤ 1073741824) :
    Calls Try.prog 29 #[v, .int .i64 k] w fun e w' => e = .returned (.int .i64 (k + n)) ∧ w = w' := by
  obtain ⟨hk0, hk1⟩ := hk
  have hv : ∃ A c, v = .slice A n c ∧ (0 < n → ∃ g, A = some ⟨g, 0, none⟩) := by
    rcases h.2 with ⟨rfl, rfl⟩ | ⟨g, cap, cur, rfl, _⟩
    · exact ⟨_, _, rfl, fun h => by omega⟩
    · exact ⟨_, _, rfl, fun _ => ⟨_, rfl⟩⟩
  obtain ⟨A, c, rfl, hA⟩ := hv
  have HA := hid hA
  clear hA
  go_enter Try.func29, Try.ntmps29
  go_wp2
  go_loop [1, 5] (fun q i => ∃ j : Nat, j ≤ n ∧ i = .int .i64 j ∧ q = .int .i64 (k + j)) (fun _ i => n - (intOf i).toNat)
  case atStart => exact ⟨0, by omega, rfl, by simp⟩
  case round =>
    obtain ⟨j, hj, rfl, rfl⟩ := hrel
    by_cases hlt : j < n
    · obtain ⟨g, rfl⟩ := HA.out (by omega)
      have hc := h.cellAt j (by omega)
      rw [f64marks_get k hlt] at hc
      have hmk : f64mark (k + j) = .float .f64 (floatOfInt .f64 (k + j)) := rfl
      rw [hmk] at hc
      clear hmk
      skip
      have hne := ofInt_ne (k + j)
      go_wp2
      go_round
      case rel => exact ⟨j + 1, by omega, by go_num, by go_num⟩
      case measure => simp [intOf]; omega
    · go_wp2
      go_ret
      exact ⟨ret_int (by omega), rfl⟩

theorem i64info : (Try.prog.info? 2).map (fun i => (i.zero, i.size, i.bytes)) = some (some (.int .i64 0), 1, 8) := by kernel_rfl
def i64mark (k : Int) : Value := .int .i64 k
def i64marks (k : Int) (n : Nat) : List Value := (List.range n).map fun i : Nat => i64mark (k + (i : Int))
theorem i64marks_succ (k : Int) (n : Nat) : i64marks k (n + 1) = i64marks k n ++ [i64mark (k + n)] := by
  unfold i64marks
  rw [List.range_succ, List.map_append]
  rfl
theorem i64marks_length (k : Int) (n : Nat) : (i64marks k n).length = n := by simp [i64marks]
theorem i64marks_get (k : Int) {n i : Nat} (h : i < n) : (i64marks k n)[i]? = some (i64mark (k + i)) := by simp [i64marks, h]
set_option maxRecDepth 20000 in
set_option maxHeartbeats 400000 in
theorem marki64_ok (v : Value) (n base : Nat) (xs : List Value) (k : Int) (w : World) (h : w.ownsRow base 2 1 v n xs) (hn : n ≤ 1048576) (hk : 0 ≤ k ∧ k ≤ 1073741824) :
    Calls Try.prog 33 #[v, .int .i64 k] w fun e w' => e = .returned (.int .i64 (k + n)) ∧ w'.ownsRow base 2 1 v n (i64marks k n) ∧ w.grownBy w' v.ownBlock := by
  obtain ⟨hk0, hk1⟩ := hk
  by_cases hz : n = 0
  · subst hz
    have hxs : xs = [] := List.eq_nil_of_length_eq_zero (by simpa using h.1)
    subst hxs
    have hv : ∃ A c, v = .slice A 0 c := by
      rcases h.2 with ⟨rfl, _⟩ | ⟨g, cap, cur, rfl, _⟩
      · exact ⟨_, _, rfl⟩
      · exact ⟨_, _, rfl⟩
    obtain ⟨A, c, hv⟩ := hv
    have H := hid h
    clear h
    subst hv
    go_enter Try.func33, Try.ntmps33
    go_wp2
    go_loop [1, 5] (fun q i => q = .int .i64 k ∧ i = .int .i64 0) (fun _ _ => 0)
    case atStart => exact ⟨rfl, rfl⟩
    case round =>
      obtain ⟨rfl, rfl⟩ := hrel
      go_wp2
      go_ret
      exact ⟨ret_int (by simp), H.out, World.grownBy.refl w _⟩
  · obtain ⟨g, cap, hv⟩ : ∃ g cap, v = .slice (some ⟨g, 0, none⟩) n cap := by
      rcases h.2 with ⟨_, h0⟩ | ⟨g, cap, cur, rfl, _⟩
      · exact absurd h0 hz
      · exact ⟨_, _, rfl⟩
    subst hv
    have hlen : xs.length = n := by simpa using h.1
    have HL := hid hlen
    have HO := hid h
    clear h hlen
    go_enter Try.func33, Try.ntmps33
    go_wp2
    go_loopw [1, 5] (fun q i wr => ∃ j : Nat, j ≤ n ∧ i = .int .i64 j ∧ q = .int .i64 (k + j) ∧ wr.ownsRow base 2 1 (.slice (some ⟨g, 0, none⟩) n cap) n (i64marks k j ++ xs.drop j) ∧ w.grownBy wr (some g)) (fun _ i _ => n - (intOf i).toNat)
    case atStart => exact ⟨0, by omega, rfl, by simp, by simpa [i64marks] using HO.out, World.grownBy.refl w _⟩
    case round =>
      obtain ⟨j, hj, rfl, rfl, ho, hg⟩ := hrel
      by_cases hlt : j < n
      · have hc := ho.cellAt j (by omega)
        have hf := ho.frozenAt j
        have hx : (i64marks k j ++ xs.drop j)[j]? = some (xs[j]'(by rw [HL.out]; exact hlt)) := by
          rw [List.getElem?_append_right (by rw [i64marks_length]; omega), i64marks_length, Nat.sub_self, List.getElem?_drop, Nat.add_zero, List.getElem?_eq_getElem]
        rw [hx] at hc
        clear hx
        have hset := ho.stored j (i64mark (k + j))
        have hsz := (ho.lt g rfl).2
        have hmk : i64mark (k + j) = .int .i64 (k + j) := rfl
        rw [hmk] at hset
        clear hmk
        generalize xs[j]'(by rw [HL.out]; exact hlt) = old at *
        have HS := hid hset
        clear hset
        skip
        go_wp2
        go_roundw
        case rel =>
          refine ⟨j + 1, by omega, by go_num, by go_num, ?_, ?_⟩
          · have h2 := HS.out
            have e : (i64marks k j ++ xs.drop j).set j (.int .i64 (k + j)) = i64marks k (j + 1) ++ xs.drop (j + 1) := by
              have hlt' : j < xs.length := by rw [HL.out]; exact hlt
              rw [i64marks_succ, List.drop_eq_getElem_cons hlt', List.set_append_right _ _ (by rw [i64marks_length]; omega), i64marks_length, Nat.sub_self, List.set_cons_zero, List.append_assoc]
              rfl
            rw [e] at h2
            exact h2.1
          · exact ⟨hg.os, hg.tape, hg.output, by simpa [World.setCell] using hg.size, fun b hb hne => (Below.heap_setCell wr ⟨g, j, none⟩ _ b (fun e => hne (by rw [e]))).trans (hg.block b hb hne)⟩
        case measure => simp [intOf]; omega
      · go_wp2
        go_ret
        have hjn : j = n := by omega
        refine ⟨ret_int (by omega), ?_, hg⟩
        subst hjn
        have hd : xs.drop j = [] := List.drop_eq_nil_of_le (by rw [HL.out]; exact Nat.le_refl _)
        rw [hd, List.append_nil] at ho
        exact ho
set_option maxRecDepth 20000 in
set_option maxHeartbeats 400000 in
theorem heldi64_ok (v : Value) (n base : Nat) (k : Int) (w : World) (h : w.ownsRow base 2 1 v n (i64marks k n)) (hn : n ≤ 1048576) (hk : 0 ≤ k ∧ k ≤ 1073741824) :
    Calls Try.prog 34 #[v, .int .i64 k] w fun e w' => e = .returned (.int .i64 (k + n)) ∧ w = w' := by
  obtain ⟨hk0, hk1⟩ := hk
  have hv : ∃ A c, v = .slice A n c ∧ (0 < n → ∃ g, A = some ⟨g, 0, none⟩) := by
    rcases h.2 with ⟨rfl, rfl⟩ | ⟨g, cap, cur, rfl, _⟩
    · exact ⟨_, _, rfl, fun h => by omega⟩
    · exact ⟨_, _, rfl, fun _ => ⟨_, rfl⟩⟩
  obtain ⟨A, c, rfl, hA⟩ := hv
  have HA := hid hA
  clear hA
  go_enter Try.func34, Try.ntmps34
  go_wp2
  go_loop [1, 5] (fun q i => ∃ j : Nat, j ≤ n ∧ i = .int .i64 j ∧ q = .int .i64 (k + j)) (fun _ i => n - (intOf i).toNat)
  case atStart => exact ⟨0, by omega, rfl, by simp⟩
  case round =>
    obtain ⟨j, hj, rfl, rfl⟩ := hrel
    by_cases hlt : j < n
    · obtain ⟨g, rfl⟩ := HA.out (by omega)
      have hc := h.cellAt j (by omega)
      rw [i64marks_get k hlt] at hc
      have hmk : i64mark (k + j) = .int .i64 (k + j) := rfl
      rw [hmk] at hc
      clear hmk
      skip
      skip
      go_wp2
      go_round
      case rel => exact ⟨j + 1, by omega, by go_num, by go_num⟩
      case measure => simp [intOf]; omega
    · go_wp2
      go_ret
      exact ⟨ret_int (by omega), rfl⟩

end Go.Proofs.Ytlafjmghfnlaoaa
