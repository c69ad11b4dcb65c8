/-
  Contracts: a valid step in the program, kind by kind.
-/
import Derived.Test.YtlafjmghfnlaoacDoorValT
namespace Go.Proofs.YtlafjmghfnlaoacDoor
open Go.RowKit

set_option maxRecDepth 20000 in
set_option maxHeartbeats 400000 in
theorem specNo_ok (kd n k : Int) (tp : List Int) (A : Option Addr) (c b o : Nat) (w : World) (hc : StAt w b o ⟨⟨kd, n, k, tp⟩, A, c⟩) (hz : inZ kd 1 13 = false) :
    Calls Tryd.prog 25 #[.pointer (some ⟨b, o, none⟩)] w fun e w' => e = .returned (.bool (valid ⟨kd, n, k, tp⟩)) ∧ Below w.heap.size w w' := by
  obtain ⟨c0, c1, c2, c3⟩ := hc
  dsimp only at c0 c1 c2 c3
  have hv : valid ⟨kd, n, k, tp⟩ = false := by unfold valid; rw [hz]; rfl
  go_enter Tryd.func25, Tryd.ntmps25
  go_wp2_with fail
  refine (l00In_ok _ _ _ _).mono ?_
  rintro e w2 ⟨rfl, rfl⟩
  rw [hz]
  go_wp2
  go_ret
  exact ⟨ret_bool hv.symm, Below.refl _ _⟩
theorem l07Step_ok (d : SD) (b o : Nat) (w : World) (hc : StAt w b o d) (hb : b < w.heap.size) (hr : Rd w w.heap.size d.A (is64 d.s.tp)) (hn : d.s.tp.length ≤ 1048576) (hI : I64' d.s.n) :
    Calls Tryd.prog 25 #[.pointer (some ⟨b, o, none⟩)] w fun e w' => e = .returned (.bool (valid d.s)) ∧ Below w.heap.size w w' := by
  obtain ⟨⟨kd, n, k, tp⟩, A, c⟩ := d
  by_cases hz : inZ kd 1 13 = true
  · have h1 : 1 ≤ kd ∧ kd ≤ 13 := by simpa [inZ] using hz
    have h2 : kd = 1 ∨ kd = 2 ∨ kd = 3 ∨ kd = 4 ∨ kd = 5 ∨ kd = 6 ∨ kd = 7 ∨ kd = 8 ∨ kd = 9 ∨ kd = 10 ∨ kd = 11 ∨ kd = 12 ∨ kd = 13 := by omega
    rcases h2 with rfl | rfl | rfl | rfl | rfl | rfl | rfl | rfl | rfl | rfl | rfl | rfl | rfl
    · exact spec1_ok n k tp A c b o w hc hb hr hn
    · exact spec2_ok n k tp A c b o w hc hb hr hn
    · exact spec3_ok n k tp A c b o w hc hb hr hn
    · exact spec4_ok n k tp A c b o w hc hb hr hn hI
    · exact spec5_ok n k tp A c b o w hc hb hr hn
    · exact spec6_ok n k tp A c b o w hc hb hr hn
    · exact spec7_ok n k tp A c b o w hc hb hr hn
    · exact spec8_ok n k tp A c b o w hc hb hr hn
    · exact spec9_ok n k tp A c b o w hc hb hr hn
    · exact spec10_ok n k tp A c b o w hc hb hr hn
    · exact spec11_ok n k tp A c b o w hc hb hr hn
    · exact spec12_ok n k tp A c b o w hc hb hr hn
    · exact spec13_ok n k tp A c b o w hc hb hr hn
  · have hz' : inZ kd 1 13 = false := by simpa using hz
    exact specNo_ok kd n k tp A c b o w hc hz'
/-- the table of the forms of steps, as its initialiser lays it -/
structure Forms (w : World) (bt ot ct : Nat) : Prop where
  c : w.cell? ⟨0, 0, none⟩ = some (.slice (some ⟨bt, ot, none⟩) 14 ct)
  pos : 0 < w.heap.size
  lt : bt < w.heap.size
  at_ : ∀ K, K < 14 → w.cell? ⟨bt, ot + K * 4, none⟩ = wordsV[K]? ∧ w.cell? ⟨bt, ot + K * 4 + 1, none⟩ = some (.bool (fN K)) ∧ w.cell? ⟨bt, ot + K * 4 + 2, none⟩ = some (.bool (fK K)) ∧ w.cell? ⟨bt, ot + K * 4 + 3, none⟩ = some (.bool (fT K))
theorem Forms.below {w w' : World} {bt ot ct : Nat} (h : Forms w bt ot ct) (hb : Below w.heap.size w w') : Forms w' bt ot ct := by
  have e : ∀ g o, g < w.heap.size → w'.cell? ⟨g, o, none⟩ = w.cell? ⟨g, o, none⟩ := fun g o hg => hb.cell (p := ⟨g, o, none⟩) hg
  refine ⟨(e _ _ h.pos).trans h.c, Nat.lt_of_lt_of_le h.pos hb.size, Nat.lt_of_lt_of_le h.lt hb.size, fun K hK => ?_⟩
  obtain ⟨h0, h1, h2, h3⟩ := h.at_ K hK
  exact ⟨(e _ _ h.lt).trans h0, (e _ _ h.lt).trans h1, (e _ _ h.lt).trans h2, (e _ _ h.lt).trans h3⟩
theorem wrap_pred {n : Int} (h : inZ n 1 1024 = true) : wrap64 (n - 1) = n - 1 := by
  have : 1 ≤ n ∧ n ≤ 1024 := by simpa [inZ] using h
  unfold wrap64
  omega
theorem okN1 (n k : Int) (tp : List Int) : okN ⟨1, n, k, tp⟩ = (isP n && isP k) := rfl
set_option maxRecDepth 20000 in
set_option maxHeartbeats 400000 in
theorem numbers1_ok (n k : Int) (tp : List Int) (A : Option Addr) (c : Nat) (w : World) (hr : Rd w w.heap.size A (is64 tp)) (_ : tp.length ≤ 1048576) (hI : I64' n) :
    Calls Tryd.prog 28 #[stV ⟨1, n, k, tp⟩ A c] w fun e w' => e = .returned (.bool (okN ⟨1, n, k, tp⟩)) ∧ Below w.heap.size w w' := by
  unfold stV
  dsimp only
  obtain ⟨hI1, hI2⟩ := hI
  have hr1 := (hr.below (below_box w (.cells #[.int .i64 1, .int .i64 n, .int .i64 k, .slice A tp.length c] 27)) (Nat.le_refl _)).more (below_box w (.cells #[.int .i64 1, .int .i64 n, .int .i64 k, .slice A tp.length c] 27)).size
  go_enter Tryd.func28, Tryd.ntmps28
  go_wp2_with (first
    | (go_at_call 27; refine (in_ok _ _ _ _).mono ?_; rintro e w2 ⟨rfl, rfl⟩)
    | (go_at_call 49; refine (isPiece_ok _ _).mono ?_; rintro e w2 ⟨rfl, rfl⟩)
    | (go_at_call 50; refine (wrongTaps_ok _ _ _ _ hr1 hn).mono ?_; rintro e w2 ⟨rfl, hb2⟩; have hbk := (Bk.new w 27 #[.int .i64 1, .int .i64 n, .int .i64 k, .slice A tp.length c]).below hb2 (Bk.new w 27 #[.int .i64 1, .int .i64 n, .int .i64 k, .slice A tp.length c]).lt; have q3 := hbk.cell 3; simp only [List.getElem?_cons_succ, List.getElem?_cons_zero] at q3))
  all_goals
    go_ret
    refine ⟨ret_bool ?_, by first | exact below_box w _ | exact (below_box w _).trans (Below.mono (by assumption) (below_box w _).size)⟩
    first | (rw [okN1]; done) | (rw [okN1]; first | rfl | (simp_all; done) | (simp_all [turnOk, wrap_pred]; done))
theorem okN2 (n k : Int) (tp : List Int) : okN ⟨2, n, k, tp⟩ = (inZ n 0 300) := rfl
set_option maxRecDepth 20000 in
set_option maxHeartbeats 400000 in
theorem numbers2_ok (n k : Int) (tp : List Int) (A : Option Addr) (c : Nat) (w : World) (hr : Rd w w.heap.size A (is64 tp)) (_ : tp.length ≤ 1048576) (hI : I64' n) :
    Calls Tryd.prog 28 #[stV ⟨2, n, k, tp⟩ A c] w fun e w' => e = .returned (.bool (okN ⟨2, n, k, tp⟩)) ∧ Below w.heap.size w w' := by
  unfold stV
  dsimp only
  obtain ⟨hI1, hI2⟩ := hI
  have hr1 := (hr.below (below_box w (.cells #[.int .i64 2, .int .i64 n, .int .i64 k, .slice A tp.length c] 27)) (Nat.le_refl _)).more (below_box w (.cells #[.int .i64 2, .int .i64 n, .int .i64 k, .slice A tp.length c] 27)).size
  go_enter Tryd.func28, Tryd.ntmps28
  go_wp2_with (first
    | (go_at_call 27; refine (in_ok _ _ _ _).mono ?_; rintro e w2 ⟨rfl, rfl⟩)
    | (go_at_call 49; refine (isPiece_ok _ _).mono ?_; rintro e w2 ⟨rfl, rfl⟩)
    | (go_at_call 50; refine (wrongTaps_ok _ _ _ _ hr1 hn).mono ?_; rintro e w2 ⟨rfl, hb2⟩; have hbk := (Bk.new w 27 #[.int .i64 2, .int .i64 n, .int .i64 k, .slice A tp.length c]).below hb2 (Bk.new w 27 #[.int .i64 2, .int .i64 n, .int .i64 k, .slice A tp.length c]).lt; have q3 := hbk.cell 3; simp only [List.getElem?_cons_succ, List.getElem?_cons_zero] at q3))
  all_goals
    go_ret
    refine ⟨ret_bool ?_, by first | exact below_box w _ | exact (below_box w _).trans (Below.mono (by assumption) (below_box w _).size)⟩
    first | (rw [okN2]; done) | (rw [okN2]; first | rfl | (simp_all; done) | (simp_all [turnOk, wrap_pred]; done))
theorem okN3 (n k : Int) (tp : List Int) : okN ⟨3, n, k, tp⟩ = (inZ tp.length 1 8 && allP tp) := rfl
set_option maxRecDepth 20000 in
set_option maxHeartbeats 400000 in
theorem numbers3_ok (n k : Int) (tp : List Int) (A : Option Addr) (c : Nat) (w : World) (hr : Rd w w.heap.size A (is64 tp)) (hn : tp.length ≤ 1048576) (hI : I64' n) :
    Calls Tryd.prog 28 #[stV ⟨3, n, k, tp⟩ A c] w fun e w' => e = .returned (.bool (okN ⟨3, n, k, tp⟩)) ∧ Below w.heap.size w w' := by
  unfold stV
  dsimp only
  obtain ⟨hI1, hI2⟩ := hI
  have hr1 := (hr.below (below_box w (.cells #[.int .i64 3, .int .i64 n, .int .i64 k, .slice A tp.length c] 27)) (Nat.le_refl _)).more (below_box w (.cells #[.int .i64 3, .int .i64 n, .int .i64 k, .slice A tp.length c] 27)).size
  go_enter Tryd.func28, Tryd.ntmps28
  go_wp2_with (first
    | (go_at_call 27; refine (in_ok _ _ _ _).mono ?_; rintro e w2 ⟨rfl, rfl⟩)
    | (go_at_call 49; refine (isPiece_ok _ _).mono ?_; rintro e w2 ⟨rfl, rfl⟩)
    | (go_at_call 50; refine (wrongTaps_ok _ _ _ _ hr1 hn).mono ?_; rintro e w2 ⟨rfl, hb2⟩; have hbk := (Bk.new w 27 #[.int .i64 3, .int .i64 n, .int .i64 k, .slice A tp.length c]).below hb2 (Bk.new w 27 #[.int .i64 3, .int .i64 n, .int .i64 k, .slice A tp.length c]).lt; have q3 := hbk.cell 3; simp only [List.getElem?_cons_succ, List.getElem?_cons_zero] at q3))
  all_goals
    go_ret
    refine ⟨ret_bool ?_, by first | exact below_box w _ | exact (below_box w _).trans (Below.mono (by assumption) (below_box w _).size)⟩
    first | (rw [okN3]; done) | (rw [okN3]; first | rfl | (simp_all; done) | (simp_all [turnOk, wrap_pred]; done))
theorem okN4 (n k : Int) (tp : List Int) : okN ⟨4, n, k, tp⟩ = (turnOk n k) := rfl
set_option maxRecDepth 20000 in
set_option maxHeartbeats 400000 in
theorem numbers4_ok (n k : Int) (tp : List Int) (A : Option Addr) (c : Nat) (w : World) (hr : Rd w w.heap.size A (is64 tp)) (_ : tp.length ≤ 1048576) (hI : I64' n) :
    Calls Tryd.prog 28 #[stV ⟨4, n, k, tp⟩ A c] w fun e w' => e = .returned (.bool (okN ⟨4, n, k, tp⟩)) ∧ Below w.heap.size w w' := by
  unfold stV
  dsimp only
  obtain ⟨hI1, hI2⟩ := hI
  have hr1 := (hr.below (below_box w (.cells #[.int .i64 4, .int .i64 n, .int .i64 k, .slice A tp.length c] 27)) (Nat.le_refl _)).more (below_box w (.cells #[.int .i64 4, .int .i64 n, .int .i64 k, .slice A tp.length c] 27)).size
  go_enter Tryd.func28, Tryd.ntmps28
  go_wp2_with (first
    | (go_at_call 27; refine (in_ok _ _ _ _).mono ?_; rintro e w2 ⟨rfl, rfl⟩)
    | (go_at_call 49; refine (isPiece_ok _ _).mono ?_; rintro e w2 ⟨rfl, rfl⟩)
    | (go_at_call 50; refine (wrongTaps_ok _ _ _ _ hr1 hn).mono ?_; rintro e w2 ⟨rfl, hb2⟩; have hbk := (Bk.new w 27 #[.int .i64 4, .int .i64 n, .int .i64 k, .slice A tp.length c]).below hb2 (Bk.new w 27 #[.int .i64 4, .int .i64 n, .int .i64 k, .slice A tp.length c]).lt; have q3 := hbk.cell 3; simp only [List.getElem?_cons_succ, List.getElem?_cons_zero] at q3))
  all_goals
    go_ret
    refine ⟨ret_bool ?_, by first | exact below_box w _ | exact (below_box w _).trans (Below.mono (by assumption) (below_box w _).size)⟩
    first | (rw [okN4]; done) | (rw [okN4]; first | rfl | (simp_all; done) | (simp_all [turnOk, wrap_pred]; done))
theorem okN5 (n k : Int) (tp : List Int) : okN ⟨5, n, k, tp⟩ = (inZ n 1 64) := rfl
set_option maxRecDepth 20000 in
set_option maxHeartbeats 400000 in
theorem numbers5_ok (n k : Int) (tp : List Int) (A : Option Addr) (c : Nat) (w : World) (hr : Rd w w.heap.size A (is64 tp)) (_ : tp.length ≤ 1048576) (hI : I64' n) :
    Calls Tryd.prog 28 #[stV ⟨5, n, k, tp⟩ A c] w fun e w' => e = .returned (.bool (okN ⟨5, n, k, tp⟩)) ∧ Below w.heap.size w w' := by
  unfold stV
  dsimp only
  obtain ⟨hI1, hI2⟩ := hI
  have hr1 := (hr.below (below_box w (.cells #[.int .i64 5, .int .i64 n, .int .i64 k, .slice A tp.length c] 27)) (Nat.le_refl _)).more (below_box w (.cells #[.int .i64 5, .int .i64 n, .int .i64 k, .slice A tp.length c] 27)).size
  go_enter Tryd.func28, Tryd.ntmps28
  go_wp2_with (first
    | (go_at_call 27; refine (in_ok _ _ _ _).mono ?_; rintro e w2 ⟨rfl, rfl⟩)
    | (go_at_call 49; refine (isPiece_ok _ _).mono ?_; rintro e w2 ⟨rfl, rfl⟩)
    | (go_at_call 50; refine (wrongTaps_ok _ _ _ _ hr1 hn).mono ?_; rintro e w2 ⟨rfl, hb2⟩; have hbk := (Bk.new w 27 #[.int .i64 5, .int .i64 n, .int .i64 k, .slice A tp.length c]).below hb2 (Bk.new w 27 #[.int .i64 5, .int .i64 n, .int .i64 k, .slice A tp.length c]).lt; have q3 := hbk.cell 3; simp only [List.getElem?_cons_succ, List.getElem?_cons_zero] at q3))
  all_goals
    go_ret
    refine ⟨ret_bool ?_, by first | exact below_box w _ | exact (below_box w _).trans (Below.mono (by assumption) (below_box w _).size)⟩
    first | (rw [okN5]; done) | (rw [okN5]; first | rfl | (simp_all; done) | (simp_all [turnOk, wrap_pred]; done))
theorem okN6 (n k : Int) (tp : List Int) : okN ⟨6, n, k, tp⟩ = (inZ n 1 64) := rfl
set_option maxRecDepth 20000 in
set_option maxHeartbeats 400000 in
theorem numbers6_ok (n k : Int) (tp : List Int) (A : Option Addr) (c : Nat) (w : World) (hr : Rd w w.heap.size A (is64 tp)) (_ : tp.length ≤ 1048576) (hI : I64' n) :
    Calls Tryd.prog 28 #[stV ⟨6, n, k, tp⟩ A c] w fun e w' => e = .returned (.bool (okN ⟨6, n, k, tp⟩)) ∧ Below w.heap.size w w' := by
  unfold stV
  dsimp only
  obtain ⟨hI1, hI2⟩ := hI
  have hr1 := (hr.below (below_box w (.cells #[.int .i64 6, .int .i64 n, .int .i64 k, .slice A tp.length c] 27)) (Nat.le_refl _)).more (below_box w (.cells #[.int .i64 6, .int .i64 n, .int .i64 k, .slice A tp.length c] 27)).size
  go_enter Tryd.func28, Tryd.ntmps28
  go_wp2_with (first
    | (go_at_call 27; refine (in_ok _ _ _ _).mono ?_; rintro e w2 ⟨rfl, rfl⟩)
    | (go_at_call 49; refine (isPiece_ok _ _).mono ?_; rintro e w2 ⟨rfl, rfl⟩)
    | (go_at_call 50; refine (wrongTaps_ok _ _ _ _ hr1 hn).mono ?_; rintro e w2 ⟨rfl, hb2⟩; have hbk := (Bk.new w 27 #[.int .i64 6, .int .i64 n, .int .i64 k, .slice A tp.length c]).below hb2 (Bk.new w 27 #[.int .i64 6, .int .i64 n, .int .i64 k, .slice A tp.length c]).lt; have q3 := hbk.cell 3; simp only [List.getElem?_cons_succ, List.getElem?_cons_zero] at q3))
  all_goals
    go_ret
    refine ⟨ret_bool ?_, by first | exact below_box w _ | exact (below_box w _).trans (Below.mono (by assumption) (below_box w _).size)⟩
    first | (rw [okN6]; done) | (rw [okN6]; first | rfl | (simp_all; done) | (simp_all [turnOk, wrap_pred]; done))
theorem okN7 (n k : Int) (tp : List Int) : okN ⟨7, n, k, tp⟩ = (inZ n 1 16) := rfl
set_option maxRecDepth 20000 in
set_option maxHeartbeats 400000 in
theorem numbers7_ok (n k : Int) (tp : List Int) (A : Option Addr) (c : Nat) (w : World) (hr : Rd w w.heap.size A (is64 tp)) (_ : tp.length ≤ 1048576) (hI : I64' n) :
    Calls Tryd.prog 28 #[stV ⟨7, n, k, tp⟩ A c] w fun e w' => e = .returned (.bool (okN ⟨7, n, k, tp⟩)) ∧ Below w.heap.size w w' := by
  unfold stV
  dsimp only
  obtain ⟨hI1, hI2⟩ := hI
  have hr1 := (hr.below (below_box w (.cells #[.int .i64 7, .int .i64 n, .int .i64 k, .slice A tp.length c] 27)) (Nat.le_refl _)).more (below_box w (.cells #[.int .i64 7, .int .i64 n, .int .i64 k, .slice A tp.length c] 27)).size
  go_enter Tryd.func28, Tryd.ntmps28
  go_wp2_with (first
    | (go_at_call 27; refine (in_ok _ _ _ _).mono ?_; rintro e w2 ⟨rfl, rfl⟩)
    | (go_at_call 49; refine (isPiece_ok _ _).mono ?_; rintro e w2 ⟨rfl, rfl⟩)
    | (go_at_call 50; refine (wrongTaps_ok _ _ _ _ hr1 hn).mono ?_; rintro e w2 ⟨rfl, hb2⟩; have hbk := (Bk.new w 27 #[.int .i64 7, .int .i64 n, .int .i64 k, .slice A tp.length c]).below hb2 (Bk.new w 27 #[.int .i64 7, .int .i64 n, .int .i64 k, .slice A tp.length c]).lt; have q3 := hbk.cell 3; simp only [List.getElem?_cons_succ, List.getElem?_cons_zero] at q3))
  all_goals
    go_ret
    refine ⟨ret_bool ?_, by first | exact below_box w _ | exact (below_box w _).trans (Below.mono (by assumption) (below_box w _).size)⟩
    first | (rw [okN7]; done) | (rw [okN7]; first | rfl | (simp_all; done) | (simp_all [turnOk, wrap_pred]; done))
theorem okN8 (n k : Int) (tp : List Int) : okN ⟨8, n, k, tp⟩ = (inZ n 1 16) := rfl
set_option maxRecDepth 20000 in
set_option maxHeartbeats 400000 in
theorem numbers8_ok (n k : Int) (tp : List Int) (A : Option Addr) (c : Nat) (w : World) (hr : Rd w w.heap.size A (is64 tp)) (_ : tp.length ≤ 1048576) (hI : I64' n) :
    Calls Tryd.prog 28 #[stV ⟨8, n, k, tp⟩ A c] w fun e w' => e = .returned (.bool (okN ⟨8, n, k, tp⟩)) ∧ Below w.heap.size w w' := by
  unfold stV
  dsimp only
  obtain ⟨hI1, hI2⟩ := hI
  have hr1 := (hr.below (below_box w (.cells #[.int .i64 8, .int .i64 n, .int .i64 k, .slice A tp.length c] 27)) (Nat.le_refl _)).more (below_box w (.cells #[.int .i64 8, .int .i64 n, .int .i64 k, .slice A tp.length c] 27)).size
  go_enter Tryd.func28, Tryd.ntmps28
  go_wp2_with (first
    | (go_at_call 27; refine (in_ok _ _ _ _).mono ?_; rintro e w2 ⟨rfl, rfl⟩)
    | (go_at_call 49; refine (isPiece_ok _ _).mono ?_; rintro e w2 ⟨rfl, rfl⟩)
    | (go_at_call 50; refine (wrongTaps_ok _ _ _ _ hr1 hn).mono ?_; rintro e w2 ⟨rfl, hb2⟩; have hbk := (Bk.new w 27 #[.int .i64 8, .int .i64 n, .int .i64 k, .slice A tp.length c]).below hb2 (Bk.new w 27 #[.int .i64 8, .int .i64 n, .int .i64 k, .slice A tp.length c]).lt; have q3 := hbk.cell 3; simp only [List.getElem?_cons_succ, List.getElem?_cons_zero] at q3))
  all_goals
    go_ret
    refine ⟨ret_bool ?_, by first | exact below_box w _ | exact (below_box w _).trans (Below.mono (by assumption) (below_box w _).size)⟩
    first | (rw [okN8]; done) | (rw [okN8]; first | rfl | (simp_all; done) | (simp_all [turnOk, wrap_pred]; done))
theorem okN9 (n k : Int) (tp : List Int) : okN ⟨9, n, k, tp⟩ = (inZ n 1 16) := rfl
set_option maxRecDepth 20000 in
set_option maxHeartbeats 400000 in
theorem numbers9_ok (n k : Int) (tp : List Int) (A : Option Addr) (c : Nat) (w : World) (hr : Rd w w.heap.size A (is64 tp)) (_ : tp.length ≤ 1048576) (hI : I64' n) :
    Calls Tryd.prog 28 #[stV ⟨9, n, k, tp⟩ A c] w fun e w' => e = .returned (.bool (okN ⟨9, n, k, tp⟩)) ∧ Below w.heap.size w w' := by
  unfold stV
  dsimp only
  obtain ⟨hI1, hI2⟩ := hI
  have hr1 := (hr.below (below_box w (.cells #[.int .i64 9, .int .i64 n, .int .i64 k, .slice A tp.length c] 27)) (Nat.le_refl _)).more (below_box w (.cells #[.int .i64 9, .int .i64 n, .int .i64 k, .slice A tp.length c] 27)).size
  go_enter Tryd.func28, Tryd.ntmps28
  go_wp2_with (first
    | (go_at_call 27; refine (in_ok _ _ _ _).mono ?_; rintro e w2 ⟨rfl, rfl⟩)
    | (go_at_call 49; refine (isPiece_ok _ _).mono ?_; rintro e w2 ⟨rfl, rfl⟩)
    | (go_at_call 50; refine (wrongTaps_ok _ _ _ _ hr1 hn).mono ?_; rintro e w2 ⟨rfl, hb2⟩; have hbk := (Bk.new w 27 #[.int .i64 9, .int .i64 n, .int .i64 k, .slice A tp.length c]).below hb2 (Bk.new w 27 #[.int .i64 9, .int .i64 n, .int .i64 k, .slice A tp.length c]).lt; have q3 := hbk.cell 3; simp only [List.getElem?_cons_succ, List.getElem?_cons_zero] at q3))
  all_goals
    go_ret
    refine ⟨ret_bool ?_, by first | exact below_box w _ | exact (below_box w _).trans (Below.mono (by assumption) (below_box w _).size)⟩
    first | (rw [okN9]; done) | (rw [okN9]; first | rfl | (simp_all; done) | (simp_all [turnOk, wrap_pred]; done))
theorem okN10 (n k : Int) (tp : List Int) : okN ⟨10, n, k, tp⟩ = (inZ n 1 16) := rfl
set_option maxRecDepth 20000 in
set_option maxHeartbeats 400000 in
theorem numbers10_ok (n k : Int) (tp : List Int) (A : Option Addr) (c : Nat) (w : World) (hr : Rd w w.heap.size A (is64 tp)) (_ : tp.length ≤ 1048576) (hI : I64' n) :
    Calls Tryd.prog 28 #[stV ⟨10, n, k, tp⟩ A c] w fun e w' => e = .returned (.bool (okN ⟨10, n, k, tp⟩)) ∧ Below w.heap.size w w' := by
  unfold stV
  dsimp only
  obtain ⟨hI1, hI2⟩ := hI
  have hr1 := (hr.below (below_box w (.cells #[.int .i64 10, .int .i64 n, .int .i64 k, .slice A tp.length c] 27)) (Nat.le_refl _)).more (below_box w (.cells #[.int .i64 10, .int .i64 n, .int .i64 k, .slice A tp.length c] 27)).size
  go_enter Tryd.func28, Tryd.ntmps28
  go_wp2_with (first
    | (go_at_call 27; refine (in_ok _ _ _ _).mono ?_; rintro e w2 ⟨rfl, rfl⟩)
    | (go_at_call 49; refine (isPiece_ok _ _).mono ?_; rintro e w2 ⟨rfl, rfl⟩)
    | (go_at_call 50; refine (wrongTaps_ok _ _ _ _ hr1 hn).mono ?_; rintro e w2 ⟨rfl, hb2⟩; have hbk := (Bk.new w 27 #[.int .i64 10, .int .i64 n, .int .i64 k, .slice A tp.length c]).below hb2 (Bk.new w 27 #[.int .i64 10, .int .i64 n, .int .i64 k, .slice A tp.length c]).lt; have q3 := hbk.cell 3; simp only [List.getElem?_cons_succ, List.getElem?_cons_zero] at q3))
  all_goals
    go_ret
    refine ⟨ret_bool ?_, by first | exact below_box w _ | exact (below_box w _).trans (Below.mono (by assumption) (below_box w _).size)⟩
    first | (rw [okN10]; done) | (rw [okN10]; first | rfl | (simp_all; done) | (simp_all [turnOk, wrap_pred]; done))
theorem okN11 (n k : Int) (tp : List Int) : okN ⟨11, n, k, tp⟩ = (true) := rfl
set_option maxRecDepth 20000 in
set_option maxHeartbeats 400000 in
theorem numbers11_ok (n k : Int) (tp : List Int) (A : Option Addr) (c : Nat) (w : World) (hr : Rd w w.heap.size A (is64 tp)) (_ : tp.length ≤ 1048576) (hI : I64' n) :
    Calls Tryd.prog 28 #[stV ⟨11, n, k, tp⟩ A c] w fun e w' => e = .returned (.bool (okN ⟨11, n, k, tp⟩)) ∧ Below w.heap.size w w' := by
  unfold stV
  dsimp only
  obtain ⟨hI1, hI2⟩ := hI
  have hr1 := (hr.below (below_box w (.cells #[.int .i64 11, .int .i64 n, .int .i64 k, .slice A tp.length c] 27)) (Nat.le_refl _)).more (below_box w (.cells #[.int .i64 11, .int .i64 n, .int .i64 k, .slice A tp.length c] 27)).size
  go_enter Tryd.func28, Tryd.ntmps28
  go_wp2_with (first
    | (go_at_call 27; refine (in_ok _ _ _ _).mono ?_; rintro e w2 ⟨rfl, rfl⟩)
    | (go_at_call 49; refine (isPiece_ok _ _).mono ?_; rintro e w2 ⟨rfl, rfl⟩)
    | (go_at_call 50; refine (wrongTaps_ok _ _ _ _ hr1 hn).mono ?_; rintro e w2 ⟨rfl, hb2⟩; have hbk := (Bk.new w 27 #[.int .i64 11, .int .i64 n, .int .i64 k, .slice A tp.length c]).below hb2 (Bk.new w 27 #[.int .i64 11, .int .i64 n, .int .i64 k, .slice A tp.length c]).lt; have q3 := hbk.cell 3; simp only [List.getElem?_cons_succ, List.getElem?_cons_zero] at q3))
  all_goals
    go_ret
    refine ⟨ret_bool ?_, by first | exact below_box w _ | exact (below_box w _).trans (Below.mono (by assumption) (below_box w _).size)⟩
    first | (rw [okN11]; done) | (rw [okN11]; first | rfl | (simp_all; done) | (simp_all [turnOk, wrap_pred]; done))
theorem okN12 (n k : Int) (tp : List Int) : okN ⟨12, n, k, tp⟩ = (true) := rfl
set_option maxRecDepth 20000 in
set_option maxHeartbeats 400000 in
theorem numbers12_ok (n k : Int) (tp : List Int) (A : Option Addr) (c : Nat) (w : World) (hr : Rd w w.heap.size A (is64 tp)) (_ : tp.length ≤ 1048576) (hI : I64' n) :
    Calls Tryd.prog 28 #[stV ⟨12, n, k, tp⟩ A c] w fun e w' => e = .returned (.bool (okN ⟨12, n, k, tp⟩)) ∧ Below w.heap.size w w' := by
  unfold stV
  dsimp only
  obtain ⟨hI1, hI2⟩ := hI
  have hr1 := (hr.below (below_box w (.cells #[.int .i64 12, .int .i64 n, .int .i64 k, .slice A tp.length c] 27)) (Nat.le_refl _)).more (below_box w (.cells #[.int .i64 12, .int .i64 n, .int .i64 k, .slice A tp.length c] 27)).size
  go_enter Tryd.func28, Tryd.ntmps28
  go_wp2_with (first
    | (go_at_call 27; refine (in_ok _ _ _ _).mono ?_; rintro e w2 ⟨rfl, rfl⟩)
    | (go_at_call 49; refine (isPiece_ok _ _).mono ?_; rintro e w2 ⟨rfl, rfl⟩)
    | (go_at_call 50; refine (wrongTaps_ok _ _ _ _ hr1 hn).mono ?_; rintro e w2 ⟨rfl, hb2⟩; have hbk := (Bk.new w 27 #[.int .i64 12, .int .i64 n, .int .i64 k, .slice A tp.length c]).below hb2 (Bk.new w 27 #[.int .i64 12, .int .i64 n, .int .i64 k, .slice A tp.length c]).lt; have q3 := hbk.cell 3; simp only [List.getElem?_cons_succ, List.getElem?_cons_zero] at q3))
  all_goals
    go_ret
    refine ⟨ret_bool ?_, by first | exact below_box w _ | exact (below_box w _).trans (Below.mono (by assumption) (below_box w _).size)⟩
    first | (rw [okN12]; done) | (rw [okN12]; first | rfl | (simp_all; done) | (simp_all [turnOk, wrap_pred]; done))
theorem okN13 (n k : Int) (tp : List Int) : okN ⟨13, n, k, tp⟩ = (true) := rfl
set_option maxRecDepth 20000 in
set_option maxHeartbeats 400000 in
theorem numbers13_ok (n k : Int) (tp : List Int) (A : Option Addr) (c : Nat) (w : World) (hr : Rd w w.heap.size A (is64 tp)) (_ : tp.length ≤ 1048576) (hI : I64' n) :
    Calls Tryd.prog 28 #[stV ⟨13, n, k, tp⟩ A c] w fun e w' => e = .returned (.bool (okN ⟨13, n, k, tp⟩)) ∧ Below w.heap.size w w' := by
  unfold stV
  dsimp only
  obtain ⟨hI1, hI2⟩ := hI
  have hr1 := (hr.below (below_box w (.cells #[.int .i64 13, .int .i64 n, .int .i64 k, .slice A tp.length c] 27)) (Nat.le_refl _)).more (below_box w (.cells #[.int .i64 13, .int .i64 n, .int .i64 k, .slice A tp.length c] 27)).size
  go_enter Tryd.func28, Tryd.ntmps28
  go_wp2_with (first
    | (go_at_call 27; refine (in_ok _ _ _ _).mono ?_; rintro e w2 ⟨rfl, rfl⟩)
    | (go_at_call 49; refine (isPiece_ok _ _).mono ?_; rintro e w2 ⟨rfl, rfl⟩)
    | (go_at_call 50; refine (wrongTaps_ok _ _ _ _ hr1 hn).mono ?_; rintro e w2 ⟨rfl, hb2⟩; have hbk := (Bk.new w 27 #[.int .i64 13, .int .i64 n, .int .i64 k, .slice A tp.length c]).below hb2 (Bk.new w 27 #[.int .i64 13, .int .i64 n, .int .i64 k, .slice A tp.length c]).lt; have q3 := hbk.cell 3; simp only [List.getElem?_cons_succ, List.getElem?_cons_zero] at q3))
  all_goals
    go_ret
    refine ⟨ret_bool ?_, by first | exact below_box w _ | exact (below_box w _).trans (Below.mono (by assumption) (below_box w _).size)⟩
    first | (rw [okN13]; done) | (rw [okN13]; first | rfl | (simp_all; done) | (simp_all [turnOk, wrap_pred]; done))
end Go.Proofs.YtlafjmghfnlaoacDoor
