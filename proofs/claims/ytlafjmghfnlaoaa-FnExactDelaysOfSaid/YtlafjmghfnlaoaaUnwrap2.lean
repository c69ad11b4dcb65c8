/-
  Contracts: phases that do not jump, the program's; UnwrapPhases of both.
-/
import Derived.Test.YtlafjmghfnlaoaaUnwrap
import Derived.Test.YtlafjmghfnlaoaaNt
import Derived.Test.YtlafjmghfnlaoaaTail
namespace Go.Proofs.Ytlafjmghfnlaoaa
open Go.RowKit
attribute [local irreducible] wpND

theorem fl_set (us ds : List Nat) (d y : Nat) : (fl (us ++ d :: ds)).set us.length (.float .f64 y) = fl ((us ++ [y]) ++ ds) := by
  simp [fl]
theorem nth_left {us ds : List Nat} {j : Nat} (h : j < us.length) : nth (us ++ ds) j = nth us j := by
  unfold nth
  simp [List.getD_eq_getElem?_getD, List.getElem?_append_left h]
theorem nth_mid {us rs : List Nat} {k : Nat} (h : us.length = k) : nth (us ++ rs.drop k) k = nth rs k := by
  unfold nth
  simp [List.getD_eq_getElem?_getD, List.getElem?_append_right (Nat.le_of_eq h), h]
theorem eql_nil (A : Option Addr) (n c : Nat) (w : World) : (binOp .eql 22 (.slice A n c) (.slice none 0 0)).run Try.prog w = .ok (.bool A.isNone) w := by
  cases A <;> rfl
set_option maxRecDepth 20000 in
set_option maxHeartbeats 400000 in
theorem clone_ok (A : Option Addr) (c : Nat) (rs : List Nat) (w : World) (hr : Rd w w.heap.size A (fl rs)) (hn : rs.length ≤ 1048576) :
    Calls Try.prog 74 #[.slice A rs.length c] w fun e w' => ∃ v, e = .returned v ∧ w'.ownsRow w.heap.size 23 1 v rs.length (fl rs) ∧ Below w.heap.size w w' := by
  cases A with
  | none =>
    have hz : rs = [] := by
      cases rs with
      | nil => rfl
      | cons r rs =>
        obtain ⟨b, off, e, _⟩ := hr.floats (by simp)
        cases e
    subst hz
    have heq := eql_nil none 0 c
    go_enter Try.func74, Try.ntmps74
    go_wp2
    go_ret
    exact ⟨_, rfl, ⟨by simp [fl], .inl ⟨rfl, rfl⟩⟩, Below.refl _ _⟩
  | some ad =>
    have hnews : ∀ j u, (fl rs)[j]? = some u → (w.alloc (.cells #[] 23)).cell? (ad.add j) = some u := by
      intro j u hj
      have hr2 := hr.below (below_box w (.cells #[] 23)) (Nat.le_refl _)
      obtain ⟨b, off, e, hb, hc⟩ := hr2.open_ (by have := (List.getElem?_eq_some_iff.1 hj).1; omega)
      cases e
      have h := hc j u hj
      have e2 : (⟨b, off, none⟩ : Addr).add j = ⟨b, off + j, none⟩ := by
        unfold Addr.add
        by_cases h0 : j = 0
        · simp [h0]
        · simp [h0]
      rw [e2]
      exact h
    obtain ⟨i, hi, h1, h2, h3⟩ : ∃ i, Try.prog.info? 23 = some i ∧ i.zero = some (.float .f64 0) ∧ i.size = 1 ∧ i.bytes = 8 := by
      have h := f64info
      cases hx : Try.prog.info? 23 with
      | none => rw [hx] at h; cases h
      | some i =>
        rw [hx] at h
        have h' : (i.zero, i.size, i.bytes) = (some (.float .f64 0), 1, 8) := by simpa using h
        exact ⟨i, rfl, by simpa using h'⟩
    have HN := hid hnews
    have heq := eql_nil (some ad) rs.length c
    clear hnews hr
    go_enter Try.func74, Try.ntmps74
    go_wp2_with (at_builtin; refine wpList_append_own _ rfl _ _ 22 rfl w.heap.size 23 i (.float .f64 0) 1 8 Try.underlying22 hi h1 h2 h3 rfl (by decide) _ _ _ rfl (own_empty w _) ad rs.length c (fl rs) rfl (by simp [fl]) HN.out (fun x hx => by obtain ⟨r, _, rfl⟩ := List.mem_map.1 hx; rfl) (by unfold maxLen; omega) (by omega) (by simp) ?_; intro v' w3 ho3 hg3 hv3)
    go_ret
    exact ⟨_, rfl, by simpa using ho3, (below_box _ _).grown hg3 (by simp) (fun k hk => by cases hk; exact Nat.le_refl _)⟩
set_option maxRecDepth 20000 in
set_option maxHeartbeats 400000 in
theorem unwrapped_ok (A : Option Addr) (c : Nat) (rs : List Nat) (w : World) (hr : Rd w w.heap.size A (fl rs)) (hw : Wfs rs) (hn : rs.length ≤ 1048576) :
    Calls Try.prog 78 #[.slice A rs.length c] w fun e w' => ∃ v xs, e = .returned v ∧ w'.ownsRow w.heap.size 23 1 v rs.length (fl xs) ∧ IsL xs rs.length (unw rs) ∧ Below w.heap.size w w' := by
  by_cases hz : rs.length = 0
  · have hz' : rs = [] := List.eq_nil_of_length_eq_zero hz
    subst hz'
    go_enter Try.func78, Try.ntmps78
    go_wp2_with (go_at_call 74; refine (clone_ok A c [] w hr (by simp)).mono ?_; rintro e w2 ⟨v2, rfl, ho2, hb2⟩)
    go_loopw [4] (fun i wr => i = .int .i64 1 ∧ wr = w2) (fun _ _ => 0)
    case atStart => exact ⟨rfl, rfl⟩
    case round =>
      obtain ⟨rfl, rfl⟩ := hrel
      go_wp2
      go_ret
      exact ⟨_, [], rfl, ho2, IsL.nil _, hb2⟩
  · obtain ⟨b, off, rfl, hbl, _⟩ := hr.floats (by omega)
    have HR := hid hr
    clear hr
    go_enter Try.func78, Try.ntmps78
    go_wp2_with (go_at_call 74; refine (clone_ok _ c rs w HR.out hn).mono ?_; rintro e w2 ⟨v2, rfl, ho2, hb2⟩)
    obtain ⟨g, cap, rfl⟩ : ∃ g cap, v2 = .slice (some ⟨g, 0, none⟩) rs.length cap := by
      rcases ho2.2 with ⟨_, h0⟩ | ⟨g, cap, cur, rfl, _⟩
      · exact absurd h0 hz
      · exact ⟨_, _, rfl⟩
    have hbg := (ho2.lt g rfl).1
    go_loopw [4] (fun i wr => ∃ (k : Nat) (us : List Nat), 1 ≤ k ∧ k ≤ rs.length ∧ i = .int .i64 k ∧ wr.ownsRow w.heap.size 23 1 (.slice (some ⟨g, 0, none⟩) rs.length cap) rs.length (fl (us ++ rs.drop k)) ∧ IsL us k (unw rs) ∧ Below w.heap.size w wr) (fun i _ => rs.length - (intOf i).toNat)
    case atStart =>
      refine ⟨1, [nth rs 0], by omega, by omega, rfl, ?_, (IsL.nil (unw rs)).snoc rfl (hw.get (by omega)), hb2⟩
      have e : [nth rs 0] ++ rs.drop 1 = rs := by
        cases rs with
        | nil => simp at hz
        | cons r rs => rfl
      rw [e]
      exact ho2
    case round =>
      obtain ⟨k, us, hk1, hk2, rfl, ho, hl, hbel⟩ := hrel
      have HO := hid ho
      have HL := hid hl
      by_cases hlt : k < rs.length
      · obtain ⟨j, rfl⟩ : ∃ j, k = j + 1 := ⟨k - 1, by omega⟩
        obtain ⟨b', off', e', _, hc⟩ := (HR.out.below hbel (Nat.le_refl _)).floats (by omega)
        obtain ⟨rfl, rfl⟩ : b = b' ∧ off = off' := by simpa using e'
        have hul : us.length = j + 1 := hl.1
        have hck := hc (j + 1) hlt
        have hcj := hc j (by omega)
        have hcu : wr.cell? ⟨g, j, none⟩ = some (.float .f64 (nth us j)) := by
          rw [ho.cellAt j (by omega), fl_get _ (by simp [hul]; omega), nth_left (by omega)]
        have hco : wr.cell? ⟨g, j + 1, none⟩ = some (.float .f64 (nth rs (j + 1))) := by
          rw [ho.cellAt (j + 1) (by omega), fl_get _ (by simp [hul]; omega), nth_mid hul]
        have hfz := ho.frozenAt (j + 1)
        have hgl := (ho.lt g rfl).2
        have hwk := hw.get hlt
        have hj0 : (0 : Int) ≤ (j : Int) + 1 := by omega
        have hjr : (j : Int) < (rs.length : Int) := by omega
        clear hc e' ho hl ho2 hb2
        go_wp2
        refine wp_region_tdr 20 (fun _ args v => ∃ x r, args = #[.float .f64 x] ∧ v = .float .f64 r ∧ V r = wrapF (V x) ∧ Wf r) (by kernel_rfl) (by kernel_rfl) rfl rfl ?_
        repeat (refine wpND_step (fun K hK => ?_); go_simp; first | (refine hK _ ?_; clear hK K) | (refine nd_dr (fun m => ?_); go_simp; (try go_bits); first | (refine hK _ ?_; clear hK K) | (refine ⟨(implWrap_ok _ _ (Wf_fres _ _ _ _)).mono (by rintro e w2 ⟨r, n, rfl, hr, hwr, rfl⟩; exact ⟨_, rfl, ⟨r, rfl, by rw [hr, V_fres], hwr⟩, by go_simp⟩), fun v r hv hrV hrW => ?_⟩; subst hv; refine hK _ ?_; clear hK K)))
        refine wpND_nil ?_
        intro m
        (try rw [World.drewN_drewN])
        have hst := fun y => ((own_drewN HO.out m).stored (j + 1) (.float .f64 y)).1
        have HST := hid hst
        clear hst
        have hmod : ∀ wx, V (fres .add .f64 (nth us j) r wx) = unw rs (j + 1) := fun wx => by
          rw [V_fres, hrV, HL.out.2.2 j (by omega)]
          rfl
        have HM := hid hmod
        clear hmod hrV
        go_wp2
        have hset : ∀ y, (fl (us ++ rs.drop (j + 1))).set (j + 1) (.float .f64 y) = fl ((us ++ [y]) ++ rs.drop (j + 1 + 1)) := fun y => by
          have h := fl_set us (rs.drop (j + 1 + 1)) (rs[j + 1]'hlt) y
          rw [hul] at h
          rw [← h, List.drop_eq_getElem_cons hlt]
        have hB : ∀ y, Below w.heap.size w ((wr.drewN m).setCell ⟨g, j + 1, none⟩ y) := fun y => (hbel.drewN m).setCell (p := ⟨g, j + 1, none⟩) hbg y
        have hO : ∀ y, ((wr.drewN m).setCell ⟨g, j + 1, none⟩ (.float .f64 y)).ownsRow w.heap.size 23 1 (.slice (some ⟨g, 0, none⟩) rs.length cap) rs.length (fl ((us ++ [y]) ++ rs.drop (j + 1 + 1))) := fun y => by rw [← hset]; exact HST.out y
        refine ⟨?_, by simp [intOf]; omega⟩
        first
          | exact ⟨j + 1 + 1, _, by omega, by omega, by go_num, hO _, HL.out.snoc (HM.out _) (Wf_fres _ _ _ _), hB _⟩
          | ((repeat apply Exists.intro); exact ⟨⟨j + 1 + 1, _, by omega, by omega, by go_num, hO _, HL.out.snoc (HM.out _) (Wf_fres _ _ _ _), hB _⟩, rfl⟩)
      · obtain rfl : k = rs.length := by omega
        go_wp2
        go_ret
        refine ⟨_, us, rfl, ?_, HL.out, hbel⟩
        have h := HO.out
        rwa [List.drop_length, List.append_nil] at h
def unCode (n : Nat) : Int := code (decide (256 < n)) 3
set_option maxRecDepth 20000 in
set_option maxHeartbeats 400000 in
theorem specUnwrap_ok (A : Option Addr) (c : Nat) (rs : List Nat) (w : World) (hr : Rd w w.heap.size A (fl rs)) (hw : Wfs rs) (hn : rs.length ≤ 1048576) (q : Int) (hq : unCode rs.length = q) :
    Calls Try.prog 37 #[.slice A rs.length c] w (RetFS w (lenIf rs.length q) (unw rs) q) := by
  by_cases hl : 256 < rs.length
  · have hq3 : q = 3 := by rw [← hq, unCode, decide_eq_true hl, code_true]
    subst hq3
    go_enter Try.func37, Try.ntmps37
    go_wp2
    go_ret2
    exact retFS_empty w _ _ (by omega)
  · have hq0 : q = 0 := by rw [← hq, unCode, decide_eq_false hl, code_false]
    subst hq0
    rw [lenIf_zero]
    go_enter Try.func37, Try.ntmps37
    go_wp2_with (go_at_call 77; refine (l06Unwrap_ok A c rs w hr hw hn).mono ?_; rintro e w2 ⟨v, xs, rfl, ho, hx, hb⟩)
    go_ret2
    exact ⟨v, xs, rfl, ho, hx, hb⟩
set_option maxRecDepth 20000 in
set_option maxHeartbeats 400000 in
theorem implUnwrap_ok (A : Option Addr) (c : Nat) (rs : List Nat) (w : World) (hr : Rd w w.heap.size A (fl rs)) (hw : Wfs rs) (hn : rs.length ≤ 1048576) (q : Int) (hq : unCode rs.length = q) :
    Calls Try.prog 38 #[.slice A rs.length c] w (RetFS w (lenIf rs.length q) (unw rs) q) := by
  by_cases hl : 256 < rs.length
  · have hq3 : q = 3 := by rw [← hq, unCode, decide_eq_true hl, code_true]
    subst hq3
    go_enter Try.func38, Try.ntmps38
    go_wp2_with (go_at_call 52; refine (realLimit_long _ _ _ _ hl).mono ?_; rintro e w2 ⟨rfl, hb2⟩)
    go_ret2
    exact ⟨_, [], rfl, ⟨rfl, .inl ⟨rfl, rfl⟩⟩, IsL.nil _, hb2⟩
  · have hq0 : q = 0 := by rw [← hq, unCode, decide_eq_false hl, code_false]
    subst hq0
    rw [lenIf_zero]
    go_enter Try.func38, Try.ntmps38
    go_wp2_with (first | (go_at_call 52; refine (realLimit_short _ _ _ _ hl).mono ?_; rintro e w2 ⟨rfl, hb2⟩) | (go_at_call 78; refine (unwrapped_ok A c rs w2 ((hr.below hb2 (Nat.le_refl _)).more hb2.size) hw hn).mono ?_; rintro e w3 ⟨v, xs, rfl, ho, hx, hb3⟩))
    go_ret2
    exact ⟨v, xs, rfl, ho_to_base ho hb2, hx, hb2.trans (hb3.mono hb2.size)⟩
end Go.Proofs.Ytlafjmghfnlaoaa
