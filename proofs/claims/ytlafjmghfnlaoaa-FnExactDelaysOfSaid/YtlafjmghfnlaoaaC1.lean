/-
  Contracts.
-/
import Derived.Test.YtlafjmghfnlaoaaRows
import Derived.Test.YtlafjmghfnlaoaaNd
import Derived.Test.YtlafjmghfnlaoaaMem
import Derived.WalkKit
import Derived.WalkSpells
import Derived.WalkLawsBesides
import Derived.Deep.Light
namespace Go.Proofs.Ytlafjmghfnlaoaa
open Go.RowKit

def eqF (x y : F) : Bool := ford x y == some .eq
def ltF (x y : F) : Bool := ford x y == some .lt
def gtF (x y : F) : Bool := ford x y == some .gt
def sameF (x y : F) : Bool :=
  if !eqF x x || !eqF y y then !eqF x x && !eqF y y
  else if eqF x (V 0) && eqF y (V 0) then gtF (fop .quo (V 4607182418800017408) x) (V 0) == gtF (fop .quo (V 4607182418800017408) y) (V 0)
  else eqF x y

set_option maxRecDepth 20000 in
set_option maxHeartbeats 400000 in
theorem l01NaN_ok (a : Nat) (w : World) :
    Calls Try.prog 51 #[.float .f64 a] w fun e w' => e = .returned (.bool (!eqF (V a) (V a))) ∧ w = w' := by
  go_enter Try.func51, Try.ntmps51
  go_wp2
  go_ret
  exact ⟨rfl, rfl⟩
set_option maxRecDepth 20000 in
set_option maxHeartbeats 400000 in
theorem mul_ok (a b : Nat) (w : World) :
    Calls Try.prog 56 #[.float .f64 a, .float .f64 b] w fun e w' => ∃ r n, e = .returned (.float .f64 r) ∧ V r = fop .mul (V a) (V b) ∧ Wf r ∧ w.drewN n = w' := by
  go_enter Try.func56, Try.ntmps56
  go_wp2
  go_ret
  exact ⟨_, _, rfl, V_fres _ _ _ _, Wf_fres _ _ _ _, rfl⟩
set_option maxRecDepth 20000 in
set_option maxHeartbeats 400000 in
theorem sameFloat_ok (a b : Nat) (w : World) :
    Calls Try.prog 18 #[.float .f64 a, .float .f64 b] w fun e w' => e = .returned (.bool (sameF (V a) (V b))) ∧ ∃ n, w.drewN n = w' := by
  go_enter Try.func18, Try.ntmps18
  go_wp2
  all_goals
    go_ret
    go_light
    refine ⟨ret_bool ?_, by first | exact ⟨_, rfl⟩ | exact ⟨0, rfl⟩⟩
    (try simp only [beq_iff_eq, bne_iff_ne, bne_eq_false_iff_eq, beq_eq_false_iff_ne] at *)
    simp [sameF, eqF, gtF, bne, *]
def totalF (g : Nat → F) : Nat → F
  | 0 => V 0
  | 1 => g 0
  | n + 2 => fop .add (totalF g (n + 1)) (g (n + 1))
theorem totalF_step (g : Nat → F) (k : Nat) (h : 1 ≤ k) : totalF g (k + 1) = fop .add (totalF g k) (g k) := by
  obtain ⟨m, rfl⟩ : ∃ m, k = m + 1 := ⟨k - 1, by omega⟩
  rfl
def Enters (K : FuncId) : Prop := ∀ (args : Array Value) (w : World), Sem.run Try.prog (callFunc K args) w = .ok (.enter K args) w
set_option maxRecDepth 20000 in
set_option maxHeartbeats 400000 in
theorem total_ok (n : Nat) (K : FuncId) (caps : Array Value) (w : World) (g : Nat → F) (hn : n ≤ 1073741824) (hK : Enters K)
    (hf : ∀ (i : Int) w', 0 ≤ i → i < n → Below w.heap.size w w' → Calls Try.prog K (#[.int .i64 i] ++ caps) w' fun e w'' => ∃ r, e = .returned (.float .f64 r) ∧ V r = g i.toNat ∧ Wf r ∧ Below w'.heap.size w' w'') :
    Calls Try.prog 53 #[.int .i64 n, .func (.func K) #[] caps] w fun e w' => ∃ r, e = .returned (.float .f64 r) ∧ V r = totalF g n ∧ Wf r ∧ Below w.heap.size w w' := by
  have HF := hid hf
  clear hf
  unfold Enters at hK
  by_cases h0 : n = 0
  · subst h0
    go_enter Try.func53, Try.ntmps53
    go_wp2
    go_ret
    exact ⟨_, rfl, rfl, by unfold Wf; omega, Below.refl _ _⟩
  have h0' : ((n : Int) == 0) = false := by rw [beq_eq_false_iff_ne]; omega
  go_enter Try.func53, Try.ntmps53
  go_wp2_with (with_reducible refine (HF.out 0 w (by omega) (by omega) (Below.refl _ _)).mono ?_; rintro e w1 ⟨r1, rfl, hr1, hwf1, hb1⟩)
  have Hr1 := hid hr1
  clear hr1
  go_loopw [5, 6] (fun s i wr => ∃ (k : Nat) (r : Nat), 1 ≤ k ∧ k ≤ n ∧ i = .int .i64 k ∧ s = .float .f64 r ∧ V r = totalF g k ∧ Wf r ∧ Below w.heap.size w wr) (fun _ i _ => n - (intOf i).toNat)
  case atStart => exact ⟨1, r1, by omega, by omega, rfl, rfl, Hr1.out, hwf1, hb1⟩
  case round =>
    obtain ⟨k, r, hk1, hk2, rfl, rfl, hr, hwf, hb⟩ := hrel
    have Hr := hid hr
    clear hr
    by_cases hlt : k < n
    · go_wp2_with (with_reducible refine (HF.out k wr (by omega) (by omega) hb).mono ?_; rintro e w2 ⟨r2, rfl, hr2, hwf2, hb2⟩)
      go_roundw
      case rel => exact ⟨k + 1, _, by omega, by omega, by go_num, rfl, by rw [V_fres, Hr.out, hr2]; exact (totalF_step g k hk1).symm, Wf_fres _ _ _ _, ((hb.trans (hb2.mono hb.size)).drewN _)⟩
      case measure => simp [intOf]; omega
    · go_wp2
      go_ret
      exact ⟨_, rfl, by rw [Hr.out]; congr 1; omega, hwf, hb⟩


theorem f64info0 : (Try.prog.info? 23).map (fun i => (i.zero, i.size, i.bytes)) = some (some (.float .f64 0), 1, 8) := by kernel_rfl
set_option maxRecDepth 20000 in
set_option maxHeartbeats 400000 in
theorem toFloat64S_ok (A : Option Addr) (c : Nat) (rs : List Nat) (w : World) (hr : Rd w w.heap.size A (fl rs)) (hn : rs.length ≤ 1048576) :
    Calls Try.prog 16 #[.slice A rs.length c] w fun e w' => ∃ g, e = .returned (.slice (some ⟨g, 0, none⟩) rs.length rs.length) ∧ Bk w' g 23 (fl rs) ∧ w.heap.size ≤ g ∧ Below w.heap.size w w' := by
  have hmk := fun W => run_make_one (P := Try.prog) 22 23 (.float .f64 0) 8 rfl Try.underlying22 f64info0 .i64 .i64 rs.length (by omega) (by omega) W
  go_enter Try.func16, Try.ntmps16
  go_wp2
  clear hmk
  go_loopw [4] (fun i wr => ∃ k : Nat, k ≤ rs.length ∧ i = .int .i64 k ∧ Bk wr w.heap.size 23 ((fl (rs.take k)) ++ List.replicate (rs.length - k) (.float .f64 0)) ∧ Below w.heap.size w wr) (fun i _ => rs.length - (intOf i).toNat)
  case atStart => exact ⟨0, by omega, rfl, by simpa [fl] using Bk.new w 23 (List.replicate rs.length (.float .f64 0)).toArray, (Below.refl _ _).alloc (Nat.le_refl _) _⟩
  case round =>
    obtain ⟨k, hk, rfl, hb, hbel⟩ := hrel
    have hlt := hb.lt
    by_cases h : k < rs.length
    · obtain ⟨b, off, rfl, hbl, hc⟩ := hr.floats (by omega)
      have hc' := hc k h
      have hold := (olds hbel).1
      have hg : wr.cell? ⟨w.heap.size, k, none⟩ = some (.float .f64 0) := by
        rw [hb.cell]
        exact hole_get _ _ (by rw [fl_length]; simp; omega) h
      have hf := hb.frozen k
      go_wp2
      go_roundw
      case rel =>
        refine ⟨k + 1, by omega, by go_num, ?_, hbel.setCell (p := ⟨w.heap.size, k, none⟩) (Nat.le_refl _) _⟩
        have := hb.set_ k (.float .f64 (nth rs k))
        rw [store_step _ _ _ (by rw [fl_length]; simp; omega) h, ← fl_take rs h] at this
        exact this
      case measure => simp [intOf]; omega
    · go_wp2
      go_ret
      refine ⟨w.heap.size, rfl, ?_, Nat.le_refl _, hbel⟩
      have : k = rs.length := by omega
      subst this
      simpa [fl] using hb

def allF : Nat → (Nat → Bool) → Bool
  | 0, _ => true
  | n + 1, p => allF n p && p n
theorem allF_true {n : Nat} {p : Nat → Bool} (h : ∀ i, i < n → p i = true) : allF n p = true := by
  induction n with
  | zero => rfl
  | succ n ih => simp [allF, ih (fun i hi => h i (by omega)), h n (by omega)]
theorem allF_false {n : Nat} {p : Nat → Bool} {k : Nat} (hk : k < n) (h : p k = false) : allF n p = false := by
  induction n with
  | zero => omega
  | succ n ih =>
    by_cases e : k = n
    · subst e; simp [allF, h]
    · simp [allF, ih (by omega)]
def eqsF (xs ys : List F) : Bool := xs.length == ys.length && allF xs.length (fun i => sameF (nthF xs i) (nthF ys i))
set_option maxRecDepth 20000 in
set_option maxHeartbeats 400000 in
theorem eqFloat64S_ok (A B : Option Addr) (c d : Nat) (rs ss : List Nat) (w : World) (hr : Rd w w.heap.size A (fl rs)) (hs : Rd w w.heap.size B (fl ss)) (hn : rs.length ≤ 1048576) (_ : ss.length ≤ 1048576) :
    Calls Try.prog 19 #[.slice A rs.length c, .slice B ss.length d] w fun e w' => e = .returned (.bool (eqsF (rs.map V) (ss.map V))) ∧ ∃ n, w.drewN n = w' := by
  by_cases hl : ¬ rs.length = ss.length
  · have hl' : ((rs.length : Int) != (ss.length : Int)) = true := by rw [bne_iff_ne]; omega
    go_enter Try.func19, Try.ntmps19
    go_wp2
    go_ret
    exact ⟨ret_bool (by simp [eqsF, hl]), ⟨0, rfl⟩⟩
  rw [Decidable.not_not] at hl
  have hl' : ((rs.length : Int) != (ss.length : Int)) = false := by rw [bne_eq_false_iff_eq]; omega
  have HL := hid hl
  clear hl
  go_enter Try.func19, Try.ntmps19
  go_wp2
  go_loopw [5] (fun i wr => ∃ k : Nat, k ≤ rs.length ∧ i = .int .i64 k ∧ (∀ j, j < k → sameF (V (nth rs j)) (V (nth ss j)) = true) ∧ ∃ n, wr = w.drewN n) (fun i _ => rs.length - (intOf i).toNat)
  case atStart => exact ⟨0, by omega, rfl, fun j hj => by omega, 0, rfl⟩
  case round =>
    obtain ⟨k, hk, rfl, hall, n, rfl⟩ := hrel
    have Hall := hid hall
    clear hall
    by_cases h : k < rs.length
    · obtain ⟨b, off, rfl, hbl, hc⟩ := hr.floats (by omega)
      have := HL.out
      obtain ⟨b2, off2, rfl, hbl2, hc2⟩ := hs.floats (by omega)
      have hc' := hc k h
      have hc2' := hc2 k (by omega)
      have h2 : k < ss.length := by omega
      clear this hc hc2
      go_wp2
      refine wp_region_nd (Dr (w.drewN n)) (fun _ args v => ∃ a b, args = #[.float .f64 a, .float .f64 b] ∧ v = .bool (sameF (V a) (V b))) (by kernel_rfl) (by kernel_rfl) ⟨1, rfl⟩ ?_
      repeat (refine wpND_step (fun K hK => ?_); go_simp; first | (refine hK _ ?_; clear hK K) | (refine nd_dr (fun m => ?_); go_simp; first | (refine hK _ ?_; clear hK K) | (refine ⟨(sameFloat_ok _ _ _).mono (by rintro e w2 ⟨rfl, m2, rfl⟩; exact ⟨_, rfl, ⟨_, _, ⟨rfl, rfl⟩, rfl⟩, by go_simp⟩), ?_⟩; refine hK _ ?_; clear hK K)))
      refine wpND_nil ?_
      rintro _ ⟨m, rfl⟩
      rw [World.drewN_drewN]
      go_wp2
      · have hs : (!sameF (V (nth rs k)) (V (nth ss k))) = true := by assumption
        go_ret
        refine ⟨ret_bool ?_, _, rfl⟩
        unfold eqsF
        rw [allF_false (k := k) (by simpa using h) (by rw [← V_get rs h, ← V_get ss h2]; simpa using hs), Bool.and_false]
      · have hs : (!sameF (V (nth rs k)) (V (nth ss k))) = false := by assumption
        refine ⟨?_, by simp [intOf]; omega⟩
        have hnext : ∀ j, j < k + 1 → sameF (V (nth rs j)) (V (nth ss j)) = true := fun j hj => by
          by_cases e : j = k
          · subst e; simpa using hs
          · exact Hall.out j (by omega)
        first
          | exact ⟨k + 1, by omega, by go_num, hnext, _, rfl⟩
          | ((repeat apply Exists.intro); exact ⟨⟨k + 1, by omega, by go_num, hnext, _, rfl⟩, rfl⟩)
    · go_wp2
      go_ret
      refine ⟨ret_bool ?_, _, rfl⟩
      have hl := HL.out
      have hk' : k = rs.length := by omega
      unfold eqsF
      rw [allF_true (fun i hi => ?_)]
      · simp [hl]
      · have hi' : i < rs.length := by simpa using hi
        rw [← V_get rs hi', ← V_get ss (by omega)]
        exact Hall.out i (by omega)

/-! ### a value is the same as itself -/
theorem order_self (d : Ieee.Datum) (h : d.isNaN = false) : d.order d = some .eq := by
  cases d with
  | number s m i => simp [Ieee.Datum.order]
  | infinity s => simp [Ieee.Datum.order]
  | nan s t => simp [Ieee.Datum.isNaN] at h
theorem eqF_none_l (y : F) : eqF none y = false := rfl
theorem ford_self (b : Nat) (h : nanB .f64 b = false) : ford (some b) (some b) = some .eq := order_self _ h
theorem ford_V_self {x : Nat} (h : V x ≠ none) : ford (V x) (V x) = some .eq := by
  unfold V Vk at h ⊢
  by_cases hn : nanB .f64 x = true
  · simp [hn] at h
  · simp only [hn]
    exact ford_self x (by simpa using hn)
theorem sameF_of_eq {a b : Nat} (h : V a = V b) : sameF (V a) (V b) = true := by
  rw [← h]
  unfold sameF
  by_cases hn : V a = none
  · rw [hn]; rfl
  · have h1 : eqF (V a) (V a) = true := by unfold eqF; rw [ford_V_self hn]; rfl
    simp [h1]
theorem eqsF_of_eq {rs ss : List Nat} (h : rs.map V = ss.map V) : eqsF (rs.map V) (ss.map V) = true := by
  unfold eqsF
  rw [h, allF_true (fun i hi => ?_)]
  · simp
  · have hi' : i < ss.length := by simpa using hi
    rw [← V_get ss hi']
    exact sameF_of_eq rfl
theorem eqsF_refl (rs : List Nat) : eqsF (rs.map V) (rs.map V) = true := eqsF_of_eq rfl

theorem fop_clean {op : BinOp} {x y : F} {r : Nat} (h : fop op x y = some r) : nanB .f64 r = false := by
  unfold fop fopk at h
  cases x with
  | none => simp at h
  | some a =>
    cases y with
    | none => simp at h
    | some b => exact floatBits_V h
theorem ford_fop_self {op : BinOp} {x y : F} (h : fop op x y ≠ none) : ford (fop op x y) (fop op x y) = some .eq := by
  cases hf : fop op x y with
  | none => exact absurd hf h
  | some r => exact ford_self r (fop_clean hf)
theorem fop_none_r (op : BinOp) (x : F) : fop op x none = none := by
  unfold fop fopk
  cases x <;> rfl
theorem fop_none_l (op : BinOp) (y : F) : fop op none y = none := rfl
theorem ford_none_l (y : F) : ford none y = none := rfl
theorem ford_none_r (x : F) : ford x none = none := by
  unfold ford fordk
  cases x <;> rfl
end Go.Proofs.Ytlafjmghfnlaoaa
