/-
  Contracts: a valid step in the reference, kind by kind.
-/
import Derived.Test.YtlafjmghfnlaoacDoorVal
import Derived.Test.YtlafjmghfnlaoacDoorNg
namespace Go.Proofs.YtlafjmghfnlaoacDoor
open Go.RowKit

def fN (k : Int) : Bool := decide (k = 1) || decide (k = 2) || decide (k = 4) || decide (k = 5) || decide (k = 6) || decide (k = 7) || decide (k = 8) || decide (k = 9) || decide (k = 10)
def fK (k : Int) : Bool := decide (k = 1) || decide (k = 4)
def fT (k : Int) : Bool := decide (k = 3)
def okN (s : St) : Bool :=
  if s.kd = 1 then isP s.n && isP s.k else
  if s.kd = 2 then inZ s.n 0 300 else
  if s.kd = 3 then inZ s.tp.length 1 8 && allP s.tp else
  if s.kd = 4 then turnOk s.n s.k else
  if s.kd = 5 ∨ s.kd = 6 then inZ s.n 1 64 else
  if s.kd = 7 ∨ s.kd = 8 ∨ s.kd = 9 ∨ s.kd = 10 then inZ s.n 1 16 else true
def valid (s : St) : Bool := inZ s.kd 1 13 && ((fN s.kd || decide (s.n = 0)) && ((fK s.kd || decide (s.k = 0)) && ((fT s.kd || decide (s.tp.length = 0)) && okN s)))
theorem allP2 (x y : Int) : allP [x, y] = (isP x && isP y) := by
  simp [allP, anyF, nthI, Bool.not_or]
def told : List Int := [0, 2, 1, -1, 2, 1, 1, 1, 1, 1, 1, 0, 0, 0]
def wordsV : List Value := [.string ⟨#[]⟩, .string ⟨#[103, 97, 105, 110]⟩, .string ⟨#[100, 101, 108, 97, 121]⟩, .string ⟨#[102, 105, 108, 116, 101, 114]⟩, .string ⟨#[116, 117, 114, 110]⟩, .string ⟨#[107, 101, 101, 112]⟩, .string ⟨#[115, 116, 117, 102, 102]⟩, .string ⟨#[98, 108, 111, 99, 107]⟩,
  .string ⟨#[98, 97, 99, 107]⟩, .string ⟨#[102, 108, 105, 112]⟩, .string ⟨#[115, 117, 109]⟩, .string ⟨#[110, 97, 114, 114, 111, 119]⟩, .string ⟨#[109, 105, 114, 114, 111, 114]⟩, .string ⟨#[115, 113, 117, 97, 114, 101]⟩]
set_option maxRecDepth 20000 in
set_option maxHeartbeats 400000 in
theorem words_ok (w : World) : Calls Tryd.prog 46 #[] w fun e w' => e = .returned (.tuple #[.slice (some ⟨w.heap.size, 0, none⟩) 14 14, .slice (some ⟨w.heap.size + 1, 0, none⟩) 14 14]) ∧ Bk w' w.heap.size 9 wordsV ∧ Bk w' (w.heap.size + 1) 3 (is64 told) ∧ Below w.heap.size w w' := by
  go_enter Tryd.func46, Tryd.ntmps46
  go_wp2
  go_ret2
  refine ⟨rfl, ?_, ?_, below_box2 _ _ _⟩
  · exact (Bk.new w 9 wordsV.toArray).below (below_box (w.alloc (.cells wordsV.toArray 9)) (.cells (is64 told).toArray 3)) (by rw [alloc_size]; omega)
  · have := Bk.new (w.alloc (.cells wordsV.toArray 9)) 3 (is64 told).toArray
    rw [alloc_size] at this
    exact this
theorem valid1 (n k : Int) (tp : List Int) : valid ⟨1, n, k, tp⟩ = (decide (tp.length = 0) && (isP n && isP k)) := by
  unfold valid fN fK fT okN
  simp [show inZ 1 1 13 = true from rfl]
theorem valid2 (n k : Int) (tp : List Int) : valid ⟨2, n, k, tp⟩ = (decide (k = 0) && (decide (tp.length = 0) && inZ n 0 300)) := by
  unfold valid fN fK fT okN
  simp [show inZ 2 1 13 = true from rfl]
theorem valid3 (n k : Int) (tp : List Int) : valid ⟨3, n, k, tp⟩ = (decide (n = 0) && (decide (k = 0) && (inZ tp.length 1 8 && allP tp))) := by
  unfold valid fN fK fT okN
  simp [show inZ 3 1 13 = true from rfl]
theorem valid4 (n k : Int) (tp : List Int) : valid ⟨4, n, k, tp⟩ = (decide (tp.length = 0) && turnOk n k) := by
  unfold valid fN fK fT okN
  simp [show inZ 4 1 13 = true from rfl]
theorem valid5 (n k : Int) (tp : List Int) : valid ⟨5, n, k, tp⟩ = (decide (k = 0) && (decide (tp.length = 0) && inZ n 1 64)) := by
  unfold valid fN fK fT okN
  simp [show inZ 5 1 13 = true from rfl]
theorem valid6 (n k : Int) (tp : List Int) : valid ⟨6, n, k, tp⟩ = (decide (k = 0) && (decide (tp.length = 0) && inZ n 1 64)) := by
  unfold valid fN fK fT okN
  simp [show inZ 6 1 13 = true from rfl]
theorem valid7 (n k : Int) (tp : List Int) : valid ⟨7, n, k, tp⟩ = (decide (k = 0) && (decide (tp.length = 0) && inZ n 1 16)) := by
  unfold valid fN fK fT okN
  simp [show inZ 7 1 13 = true from rfl]
theorem valid8 (n k : Int) (tp : List Int) : valid ⟨8, n, k, tp⟩ = (decide (k = 0) && (decide (tp.length = 0) && inZ n 1 16)) := by
  unfold valid fN fK fT okN
  simp [show inZ 8 1 13 = true from rfl]
theorem valid9 (n k : Int) (tp : List Int) : valid ⟨9, n, k, tp⟩ = (decide (k = 0) && (decide (tp.length = 0) && inZ n 1 16)) := by
  unfold valid fN fK fT okN
  simp [show inZ 9 1 13 = true from rfl]
theorem valid10 (n k : Int) (tp : List Int) : valid ⟨10, n, k, tp⟩ = (decide (k = 0) && (decide (tp.length = 0) && inZ n 1 16)) := by
  unfold valid fN fK fT okN
  simp [show inZ 10 1 13 = true from rfl]
theorem valid11 (n k : Int) (tp : List Int) : valid ⟨11, n, k, tp⟩ = (decide (n = 0) && (decide (k = 0) && decide (tp.length = 0))) := by
  unfold valid fN fK fT okN
  simp [show inZ 11 1 13 = true from rfl]
theorem valid12 (n k : Int) (tp : List Int) : valid ⟨12, n, k, tp⟩ = (decide (n = 0) && (decide (k = 0) && decide (tp.length = 0))) := by
  unfold valid fN fK fT okN
  simp [show inZ 12 1 13 = true from rfl]
theorem valid13 (n k : Int) (tp : List Int) : valid ⟨13, n, k, tp⟩ = (decide (n = 0) && (decide (k = 0) && decide (tp.length = 0))) := by
  unfold valid fN fK fT okN
  simp [show inZ 13 1 13 = true from rfl]
set_option maxRecDepth 20000 in
set_option maxHeartbeats 400000 in
theorem spec2_ok (n k : Int) (tp : List Int) (A : Option Addr) (c b o : Nat) (w : World) (hc : StAt w b o ⟨⟨2, n, k, tp⟩, A, c⟩) (hb : b < w.heap.size) (hr : Rd w w.heap.size A (is64 tp)) (_ : tp.length ≤ 1048576) :
    Calls Tryd.prog 25 #[.pointer (some ⟨b, o, none⟩)] w fun e w' => e = .returned (.bool (valid ⟨2, n, k, tp⟩)) ∧ Below w.heap.size w w' := by
  obtain ⟨c0, c1, c2, c3⟩ := hc
  dsimp only at c0 c1 c2 c3
  have hv := valid2 n k tp
  have hz : inZ 2 1 13 = true := rfl
  go_enter Tryd.func25, Tryd.ntmps25
  go_wp2_with (first
    | (go_at_call 45; refine (l00In_ok _ _ _ _).mono ?_; rintro e w2 ⟨rfl, rfl⟩)
    | (go_at_call 46; refine (words_ok w).mono ?_; rintro e w3 ⟨rfl, _, hkw, hb3⟩; have hk0 := hkw.cell 2; simp only [is64, told, List.map_cons, List.map_nil, List.getElem?_cons_succ, List.getElem?_cons_zero] at hk0; have hold := (olds hb3).1; have hr3 := (hr.below hb3 (Nat.le_refl _)).more hb3.size)
    | (go_at_call 47; refine (l07Parts_ok _ _ _ _ (by assumption) (by assumption)).mono ?_; rintro e w2 ⟨rfl, rfl⟩))
  all_goals
    go_ret
    refine ⟨ret_bool ?_, by first | exact Below.refl _ _ | assumption⟩
    rw [hv]
    first | (simp_all; done) | (simp_all [List.length_pos_iff]; done)
set_option maxRecDepth 20000 in
set_option maxHeartbeats 400000 in
theorem spec3_ok (n k : Int) (tp : List Int) (A : Option Addr) (c b o : Nat) (w : World) (hc : StAt w b o ⟨⟨3, n, k, tp⟩, A, c⟩) (hb : b < w.heap.size) (hr : Rd w w.heap.size A (is64 tp)) (hn : tp.length ≤ 1048576) :
    Calls Tryd.prog 25 #[.pointer (some ⟨b, o, none⟩)] w fun e w' => e = .returned (.bool (valid ⟨3, n, k, tp⟩)) ∧ Below w.heap.size w w' := by
  obtain ⟨c0, c1, c2, c3⟩ := hc
  dsimp only at c0 c1 c2 c3
  have hv := valid3 n k tp
  have hz : inZ 3 1 13 = true := rfl
  go_enter Tryd.func25, Tryd.ntmps25
  go_wp2_with (first
    | (go_at_call 45; refine (l00In_ok _ _ _ _).mono ?_; rintro e w2 ⟨rfl, rfl⟩)
    | (go_at_call 46; refine (words_ok w).mono ?_; rintro e w3 ⟨rfl, _, hkw, hb3⟩; have hk0 := hkw.cell 3; simp only [is64, told, List.map_cons, List.map_nil, List.getElem?_cons_succ, List.getElem?_cons_zero] at hk0; have hold := (olds hb3).1; have hr3 := (hr.below hb3 (Nat.le_refl _)).more hb3.size)
    | (go_at_call 47; refine (l07Parts_ok _ _ _ _ (by assumption) (by assumption)).mono ?_; rintro e w2 ⟨rfl, rfl⟩))
  all_goals
    go_ret
    refine ⟨ret_bool ?_, by first | exact Below.refl _ _ | assumption⟩
    rw [hv]
    first | (simp_all; done) | (simp_all [List.length_pos_iff]; done)
set_option maxRecDepth 20000 in
set_option maxHeartbeats 400000 in
theorem spec5_ok (n k : Int) (tp : List Int) (A : Option Addr) (c b o : Nat) (w : World) (hc : StAt w b o ⟨⟨5, n, k, tp⟩, A, c⟩) (hb : b < w.heap.size) (hr : Rd w w.heap.size A (is64 tp)) (_ : tp.length ≤ 1048576) :
    Calls Tryd.prog 25 #[.pointer (some ⟨b, o, none⟩)] w fun e w' => e = .returned (.bool (valid ⟨5, n, k, tp⟩)) ∧ Below w.heap.size w w' := by
  obtain ⟨c0, c1, c2, c3⟩ := hc
  dsimp only at c0 c1 c2 c3
  have hv := valid5 n k tp
  have hz : inZ 5 1 13 = true := rfl
  go_enter Tryd.func25, Tryd.ntmps25
  go_wp2_with (first
    | (go_at_call 45; refine (l00In_ok _ _ _ _).mono ?_; rintro e w2 ⟨rfl, rfl⟩)
    | (go_at_call 46; refine (words_ok w).mono ?_; rintro e w3 ⟨rfl, _, hkw, hb3⟩; have hk0 := hkw.cell 5; simp only [is64, told, List.map_cons, List.map_nil, List.getElem?_cons_succ, List.getElem?_cons_zero] at hk0; have hold := (olds hb3).1; have hr3 := (hr.below hb3 (Nat.le_refl _)).more hb3.size)
    | (go_at_call 47; refine (l07Parts_ok _ _ _ _ (by assumption) (by assumption)).mono ?_; rintro e w2 ⟨rfl, rfl⟩))
  all_goals
    go_ret
    refine ⟨ret_bool ?_, by first | exact Below.refl _ _ | assumption⟩
    rw [hv]
    first | (simp_all; done) | (simp_all [List.length_pos_iff]; done)
set_option maxRecDepth 20000 in
set_option maxHeartbeats 400000 in
theorem spec6_ok (n k : Int) (tp : List Int) (A : Option Addr) (c b o : Nat) (w : World) (hc : StAt w b o ⟨⟨6, n, k, tp⟩, A, c⟩) (hb : b < w.heap.size) (hr : Rd w w.heap.size A (is64 tp)) (_ : tp.length ≤ 1048576) :
    Calls Tryd.prog 25 #[.pointer (some ⟨b, o, none⟩)] w fun e w' => e = .returned (.bool (valid ⟨6, n, k, tp⟩)) ∧ Below w.heap.size w w' := by
  obtain ⟨c0, c1, c2, c3⟩ := hc
  dsimp only at c0 c1 c2 c3
  have hv := valid6 n k tp
  have hz : inZ 6 1 13 = true := rfl
  go_enter Tryd.func25, Tryd.ntmps25
  go_wp2_with (first
    | (go_at_call 45; refine (l00In_ok _ _ _ _).mono ?_; rintro e w2 ⟨rfl, rfl⟩)
    | (go_at_call 46; refine (words_ok w).mono ?_; rintro e w3 ⟨rfl, _, hkw, hb3⟩; have hk0 := hkw.cell 6; simp only [is64, told, List.map_cons, List.map_nil, List.getElem?_cons_succ, List.getElem?_cons_zero] at hk0; have hold := (olds hb3).1; have hr3 := (hr.below hb3 (Nat.le_refl _)).more hb3.size)
    | (go_at_call 47; refine (l07Parts_ok _ _ _ _ (by assumption) (by assumption)).mono ?_; rintro e w2 ⟨rfl, rfl⟩))
  all_goals
    go_ret
    refine ⟨ret_bool ?_, by first | exact Below.refl _ _ | assumption⟩
    rw [hv]
    first | (simp_all; done) | (simp_all [List.length_pos_iff]; done)
set_option maxRecDepth 20000 in
set_option maxHeartbeats 400000 in
theorem spec7_ok (n k : Int) (tp : List Int) (A : Option Addr) (c b o : Nat) (w : World) (hc : StAt w b o ⟨⟨7, n, k, tp⟩, A, c⟩) (hb : b < w.heap.size) (hr : Rd w w.heap.size A (is64 tp)) (_ : tp.length ≤ 1048576) :
    Calls Tryd.prog 25 #[.pointer (some ⟨b, o, none⟩)] w fun e w' => e = .returned (.bool (valid ⟨7, n, k, tp⟩)) ∧ Below w.heap.size w w' := by
  obtain ⟨c0, c1, c2, c3⟩ := hc
  dsimp only at c0 c1 c2 c3
  have hv := valid7 n k tp
  have hz : inZ 7 1 13 = true := rfl
  go_enter Tryd.func25, Tryd.ntmps25
  go_wp2_with (first
    | (go_at_call 45; refine (l00In_ok _ _ _ _).mono ?_; rintro e w2 ⟨rfl, rfl⟩)
    | (go_at_call 46; refine (words_ok w).mono ?_; rintro e w3 ⟨rfl, _, hkw, hb3⟩; have hk0 := hkw.cell 7; simp only [is64, told, List.map_cons, List.map_nil, List.getElem?_cons_succ, List.getElem?_cons_zero] at hk0; have hold := (olds hb3).1; have hr3 := (hr.below hb3 (Nat.le_refl _)).more hb3.size)
    | (go_at_call 47; refine (l07Parts_ok _ _ _ _ (by assumption) (by assumption)).mono ?_; rintro e w2 ⟨rfl, rfl⟩))
  all_goals
    go_ret
    refine ⟨ret_bool ?_, by first | exact Below.refl _ _ | assumption⟩
    rw [hv]
    first | (simp_all; done) | (simp_all [List.length_pos_iff]; done)
set_option maxRecDepth 20000 in
set_option maxHeartbeats 400000 in
theorem spec8_ok (n k : Int) (tp : List Int) (A : Option Addr) (c b o : Nat) (w : World) (hc : StAt w b o ⟨⟨8, n, k, tp⟩, A, c⟩) (hb : b < w.heap.size) (hr : Rd w w.heap.size A (is64 tp)) (_ : tp.length ≤ 1048576) :
    Calls Tryd.prog 25 #[.pointer (some ⟨b, o, none⟩)] w fun e w' => e = .returned (.bool (valid ⟨8, n, k, tp⟩)) ∧ Below w.heap.size w w' := by
  obtain ⟨c0, c1, c2, c3⟩ := hc
  dsimp only at c0 c1 c2 c3
  have hv := valid8 n k tp
  have hz : inZ 8 1 13 = true := rfl
  go_enter Tryd.func25, Tryd.ntmps25
  go_wp2_with (first
    | (go_at_call 45; refine (l00In_ok _ _ _ _).mono ?_; rintro e w2 ⟨rfl, rfl⟩)
    | (go_at_call 46; refine (words_ok w).mono ?_; rintro e w3 ⟨rfl, _, hkw, hb3⟩; have hk0 := hkw.cell 8; simp only [is64, told, List.map_cons, List.map_nil, List.getElem?_cons_succ, List.getElem?_cons_zero] at hk0; have hold := (olds hb3).1; have hr3 := (hr.below hb3 (Nat.le_refl _)).more hb3.size)
    | (go_at_call 47; refine (l07Parts_ok _ _ _ _ (by assumption) (by assumption)).mono ?_; rintro e w2 ⟨rfl, rfl⟩))
  all_goals
    go_ret
    refine ⟨ret_bool ?_, by first | exact Below.refl _ _ | assumption⟩
    rw [hv]
    first | (simp_all; done) | (simp_all [List.length_pos_iff]; done)
set_option maxRecDepth 20000 in
set_option maxHeartbeats 400000 in
theorem spec9_ok (n k : Int) (tp : List Int) (A : Option Addr) (c b o : Nat) (w : World) (hc : StAt w b o ⟨⟨9, n, k, tp⟩, A, c⟩) (hb : b < w.heap.size) (hr : Rd w w.heap.size A (is64 tp)) (_ : tp.length ≤ 1048576) :
    Calls Tryd.prog 25 #[.pointer (some ⟨b, o, none⟩)] w fun e w' => e = .returned (.bool (valid ⟨9, n, k, tp⟩)) ∧ Below w.heap.size w w' := by
  obtain ⟨c0, c1, c2, c3⟩ := hc
  dsimp only at c0 c1 c2 c3
  have hv := valid9 n k tp
  have hz : inZ 9 1 13 = true := rfl
  go_enter Tryd.func25, Tryd.ntmps25
  go_wp2_with (first
    | (go_at_call 45; refine (l00In_ok _ _ _ _).mono ?_; rintro e w2 ⟨rfl, rfl⟩)
    | (go_at_call 46; refine (words_ok w).mono ?_; rintro e w3 ⟨rfl, _, hkw, hb3⟩; have hk0 := hkw.cell 9; simp only [is64, told, List.map_cons, List.map_nil, List.getElem?_cons_succ, List.getElem?_cons_zero] at hk0; have hold := (olds hb3).1; have hr3 := (hr.below hb3 (Nat.le_refl _)).more hb3.size)
    | (go_at_call 47; refine (l07Parts_ok _ _ _ _ (by assumption) (by assumption)).mono ?_; rintro e w2 ⟨rfl, rfl⟩))
  all_goals
    go_ret
    refine ⟨ret_bool ?_, by first | exact Below.refl _ _ | assumption⟩
    rw [hv]
    first | (simp_all; done) | (simp_all [List.length_pos_iff]; done)
set_option maxRecDepth 20000 in
set_option maxHeartbeats 400000 in
theorem spec10_ok (n k : Int) (tp : List Int) (A : Option Addr) (c b o : Nat) (w : World) (hc : StAt w b o ⟨⟨10, n, k, tp⟩, A, c⟩) (hb : b < w.heap.size) (hr : Rd w w.heap.size A (is64 tp)) (_ : tp.length ≤ 1048576) :
    Calls Tryd.prog 25 #[.pointer (some ⟨b, o, none⟩)] w fun e w' => e = .returned (.bool (valid ⟨10, n, k, tp⟩)) ∧ Below w.heap.size w w' := by
  obtain ⟨c0, c1, c2, c3⟩ := hc
  dsimp only at c0 c1 c2 c3
  have hv := valid10 n k tp
  have hz : inZ 10 1 13 = true := rfl
  go_enter Tryd.func25, Tryd.ntmps25
  go_wp2_with (first
    | (go_at_call 45; refine (l00In_ok _ _ _ _).mono ?_; rintro e w2 ⟨rfl, rfl⟩)
    | (go_at_call 46; refine (words_ok w).mono ?_; rintro e w3 ⟨rfl, _, hkw, hb3⟩; have hk0 := hkw.cell 10; simp only [is64, told, List.map_cons, List.map_nil, List.getElem?_cons_succ, List.getElem?_cons_zero] at hk0; have hold := (olds hb3).1; have hr3 := (hr.below hb3 (Nat.le_refl _)).more hb3.size)
    | (go_at_call 47; refine (l07Parts_ok _ _ _ _ (by assumption) (by assumption)).mono ?_; rintro e w2 ⟨rfl, rfl⟩))
  all_goals
    go_ret
    refine ⟨ret_bool ?_, by first | exact Below.refl _ _ | assumption⟩
    rw [hv]
    first | (simp_all; done) | (simp_all [List.length_pos_iff]; done)
set_option maxRecDepth 20000 in
set_option maxHeartbeats 400000 in
theorem spec11_ok (n k : Int) (tp : List Int) (A : Option Addr) (c b o : Nat) (w : World) (hc : StAt w b o ⟨⟨11, n, k, tp⟩, A, c⟩) (hb : b < w.heap.size) (hr : Rd w w.heap.size A (is64 tp)) (_ : tp.length ≤ 1048576) :
    Calls Tryd.prog 25 #[.pointer (some ⟨b, o, none⟩)] w fun e w' => e = .returned (.bool (valid ⟨11, n, k, tp⟩)) ∧ Below w.heap.size w w' := by
  obtain ⟨c0, c1, c2, c3⟩ := hc
  dsimp only at c0 c1 c2 c3
  have hv := valid11 n k tp
  have hz : inZ 11 1 13 = true := rfl
  go_enter Tryd.func25, Tryd.ntmps25
  go_wp2_with (first
    | (go_at_call 45; refine (l00In_ok _ _ _ _).mono ?_; rintro e w2 ⟨rfl, rfl⟩)
    | (go_at_call 46; refine (words_ok w).mono ?_; rintro e w3 ⟨rfl, _, hkw, hb3⟩; have hk0 := hkw.cell 11; simp only [is64, told, List.map_cons, List.map_nil, List.getElem?_cons_succ, List.getElem?_cons_zero] at hk0; have hold := (olds hb3).1; have hr3 := (hr.below hb3 (Nat.le_refl _)).more hb3.size)
    | (go_at_call 47; refine (l07Parts_ok _ _ _ _ (by assumption) (by assumption)).mono ?_; rintro e w2 ⟨rfl, rfl⟩))
  all_goals
    go_ret
    refine ⟨ret_bool ?_, by first | exact Below.refl _ _ | assumption⟩
    rw [hv]
    first | (simp_all; done) | (simp_all [List.length_pos_iff]; done)
set_option maxRecDepth 20000 in
set_option maxHeartbeats 400000 in
theorem spec12_ok (n k : Int) (tp : List Int) (A : Option Addr) (c b o : Nat) (w : World) (hc : StAt w b o ⟨⟨12, n, k, tp⟩, A, c⟩) (hb : b < w.heap.size) (hr : Rd w w.heap.size A (is64 tp)) (_ : tp.length ≤ 1048576) :
    Calls Tryd.prog 25 #[.pointer (some ⟨b, o, none⟩)] w fun e w' => e = .returned (.bool (valid ⟨12, n, k, tp⟩)) ∧ Below w.heap.size w w' := by
  obtain ⟨c0, c1, c2, c3⟩ := hc
  dsimp only at c0 c1 c2 c3
  have hv := valid12 n k tp
  have hz : inZ 12 1 13 = true := rfl
  go_enter Tryd.func25, Tryd.ntmps25
  go_wp2_with (first
    | (go_at_call 45; refine (l00In_ok _ _ _ _).mono ?_; rintro e w2 ⟨rfl, rfl⟩)
    | (go_at_call 46; refine (words_ok w).mono ?_; rintro e w3 ⟨rfl, _, hkw, hb3⟩; have hk0 := hkw.cell 12; simp only [is64, told, List.map_cons, List.map_nil, List.getElem?_cons_succ, List.getElem?_cons_zero] at hk0; have hold := (olds hb3).1; have hr3 := (hr.below hb3 (Nat.le_refl _)).more hb3.size)
    | (go_at_call 47; refine (l07Parts_ok _ _ _ _ (by assumption) (by assumption)).mono ?_; rintro e w2 ⟨rfl, rfl⟩))
  all_goals
    go_ret
    refine ⟨ret_bool ?_, by first | exact Below.refl _ _ | assumption⟩
    rw [hv]
    first | (simp_all; done) | (simp_all [List.length_pos_iff]; done)
set_option maxRecDepth 20000 in
set_option maxHeartbeats 400000 in
theorem spec13_ok (n k : Int) (tp : List Int) (A : Option Addr) (c b o : Nat) (w : World) (hc : StAt w b o ⟨⟨13, n, k, tp⟩, A, c⟩) (hb : b < w.heap.size) (hr : Rd w w.heap.size A (is64 tp)) (_ : tp.length ≤ 1048576) :
    Calls Tryd.prog 25 #[.pointer (some ⟨b, o, none⟩)] w fun e w' => e = .returned (.bool (valid ⟨13, n, k, tp⟩)) ∧ Below w.heap.size w w' := by
  obtain ⟨c0, c1, c2, c3⟩ := hc
  dsimp only at c0 c1 c2 c3
  have hv := valid13 n k tp
  have hz : inZ 13 1 13 = true := rfl
  go_enter Tryd.func25, Tryd.ntmps25
  go_wp2_with (first
    | (go_at_call 45; refine (l00In_ok _ _ _ _).mono ?_; rintro e w2 ⟨rfl, rfl⟩)
    | (go_at_call 46; refine (words_ok w).mono ?_; rintro e w3 ⟨rfl, _, hkw, hb3⟩; have hk0 := hkw.cell 13; simp only [is64, told, List.map_cons, List.map_nil, List.getElem?_cons_succ, List.getElem?_cons_zero] at hk0; have hold := (olds hb3).1; have hr3 := (hr.below hb3 (Nat.le_refl _)).more hb3.size)
    | (go_at_call 47; refine (l07Parts_ok _ _ _ _ (by assumption) (by assumption)).mono ?_; rintro e w2 ⟨rfl, rfl⟩))
  all_goals
    go_ret
    refine ⟨ret_bool ?_, by first | exact Below.refl _ _ | assumption⟩
    rw [hv]
    first | (simp_all; done) | (simp_all [List.length_pos_iff]; done)
end Go.Proofs.YtlafjmghfnlaoacDoor
