/-
  Floats as values apart from the bits of a NaN: 'V b' is the word b, or 'none' where it is a NaN. What each operation on floats does to such values; laws for the walk that hold for NaNs too. No program is named here.
-/
import Derived.Laws.FloatArith
import Derived.Laws.ComplexArith
import Derived.Deep.Draws
import Derived.Below
import Derived.Laws.BitsAllLaws
namespace Go.Proofs.Ytlafjmghfnlaoab
open Go

theorem hid {p : Prop} (h : p) : RowKit.Hid p := h
abbrev F := Option Nat
def nanB (k : FloatKind) (b : Nat) : Bool := (k.decode b).isNaN
def Vk (k : FloatKind) (b : Nat) : F := if nanB k b then none else some b
def V (b : Nat) : F := Vk .f64 b
def V32 (b : Nat) : F := Vk .f32 b
def Wf (b : Nat) : Prop := b < 18446744073709551616
theorem Wf0 : Wf 0 := by unfold Wf; omega
def Wf32 (b : Nat) : Prop := b < 4294967296
def fopk (k : FloatKind) (op : BinOp) (x y : F) : F := x.bind fun a => y.bind fun b => floatBits op k a b
def fop (op : BinOp) (x y : F) : F := fopk .f64 op x y
def fordk (k : FloatKind) (x y : F) : Option Ordering := x.bind fun a => y.bind fun b => k.format.order a b
def ford (x y : F) : Option Ordering := fordk .f64 x y

def fres (op : BinOp) (k : FloatKind) (x y : Nat) (w : World) : Nat :=
  match floatBits op k x y with
  | some r => r
  | none => (Question.nanBits k x y).cut (w.tape w.drawn (.nanBits k x y))
def fdrew (op : BinOp) (k : FloatKind) (x y : Nat) : Nat := if (floatBits op k x y).isSome then 0 else 1

theorem read_word (f : Ieee.Format) (neg : Bool) (rung : Nat) (h : rung ≤ f.infRung) : (f.read (f.word neg rung)).isNaN = false := by
  have h1 := f.infRung_lt
  have hm : f.word neg rung % f.signWeight = rung := by
    unfold Ieee.Format.word
    split
    · rw [Nat.add_mod_left]; exact Nat.mod_eq_of_lt (by omega)
    · exact Nat.mod_eq_of_lt (by omega)
  unfold Ieee.Format.read
  simp only [hm]
  split
  · rfl
  · split
    · rfl
    · rw [if_pos (by omega)]; rfl

theorem write_not_nan (f : Ieee.Format) (d : Ieee.Datum) (h : d.isNaN = false) : (f.read (f.write d)).isNaN = false := by
  cases d with
  | number neg mag place =>
    unfold Ieee.Format.write Ieee.Format.nearest
    dsimp only
    split
    · exact read_word f neg 0 (by omega)
    · exact read_word f neg _ (Nat.min_le_right _ _)
  | infinity neg => exact read_word f neg _ (Nat.le_refl _)
  | nan neg t => simp [Ieee.Datum.isNaN] at h

theorem sum_nan_l {d e : Ieee.Datum} (h : d.isNaN = true) : d.sum e = none := by
  cases d <;> simp [Ieee.Datum.isNaN] at h
  cases e <;> rfl
theorem sum_nan_r {d e : Ieee.Datum} (h : e.isNaN = true) : d.sum e = none := by
  cases e <;> simp [Ieee.Datum.isNaN] at h
  cases d <;> rfl
theorem product_nan_l {d e : Ieee.Datum} (h : d.isNaN = true) : d.product e = none := by
  cases d <;> simp [Ieee.Datum.isNaN] at h
  cases e <;> rfl
theorem product_nan_r {d e : Ieee.Datum} (h : e.isNaN = true) : d.product e = none := by
  cases e <;> simp [Ieee.Datum.isNaN] at h
  cases d <;> rfl
theorem quotient_nan_l {n : Nat} {d e : Ieee.Datum} (h : d.isNaN = true) : d.quotient n e = none := by
  cases d <;> simp [Ieee.Datum.isNaN] at h
  cases e <;> rfl
theorem quotient_nan_r {n : Nat} {d e : Ieee.Datum} (h : e.isNaN = true) : d.quotient n e = none := by
  cases e <;> simp [Ieee.Datum.isNaN] at h
  cases d <;> rfl
theorem opposite_nan (d : Ieee.Datum) : d.opposite.isNaN = d.isNaN := by cases d <;> rfl
theorem order_nan_l {d e : Ieee.Datum} (h : d.isNaN = true) : d.order e = none := by
  cases d <;> simp [Ieee.Datum.isNaN] at h
  cases e <;> rfl
theorem order_nan_r {d e : Ieee.Datum} (h : e.isNaN = true) : d.order e = none := by
  cases e <;> simp [Ieee.Datum.isNaN] at h
  cases d <;> rfl

theorem floatBits_nan_l {op : BinOp} {k : FloatKind} {x y : Nat} (h : nanB k x = true) : floatBits op k x y = none := by
  unfold nanB FloatKind.decode at h
  unfold floatBits
  cases op <;> simp only [Ieee.Format.add, Ieee.Format.sub, Ieee.Format.mul, Ieee.Format.div, sum_nan_l h, product_nan_l h, quotient_nan_l h, Option.map_none]
theorem floatBits_nan_r {op : BinOp} {k : FloatKind} {x y : Nat} (h : nanB k y = true) : floatBits op k x y = none := by
  unfold nanB FloatKind.decode at h
  have h' := (opposite_nan (k.format.read y)).trans h
  unfold floatBits
  cases op <;> simp only [Ieee.Format.add, Ieee.Format.sub, Ieee.Format.mul, Ieee.Format.div, sum_nan_r h, sum_nan_r h', product_nan_r h, quotient_nan_r h, Option.map_none]
theorem order_nan_left {k : FloatKind} {x y : Nat} (h : nanB k x = true) : k.format.order x y = none := order_nan_l h
theorem order_nan_right {k : FloatKind} {x y : Nat} (h : nanB k y = true) : k.format.order x y = none := order_nan_r h

theorem fopk_V (k : FloatKind) (op : BinOp) (x y : Nat) : fopk k op (Vk k x) (Vk k y) = floatBits op k x y := by
  unfold fopk Vk
  by_cases hx : nanB k x = true
  · simp [hx, floatBits_nan_l hx]
  · by_cases hy : nanB k y = true
    · simp [hx, hy, floatBits_nan_r hy]
    · simp [hx, hy]
theorem fordk_V (k : FloatKind) (x y : Nat) : k.format.order x y = fordk k (Vk k x) (Vk k y) := by
  unfold fordk Vk
  by_cases hx : nanB k x = true
  · simp [hx, order_nan_left hx]
  · by_cases hy : nanB k y = true
    · simp [hx, hy, order_nan_right hy]
    · simp [hx, hy]
@[go_sem] theorem order_V (x y : Nat) : FloatKind.f64.format.order x y = ford (V x) (V y) := fordk_V .f64 x y

theorem map_write_V (k : FloatKind) {d : Option Ieee.Datum} {r : Nat} (hd : ∀ x, d = some x → x.isNaN = false) (h : d.map k.format.write = some r) : nanB k r = false := by
  cases d with
  | none => cases h
  | some x => cases h; exact write_not_nan _ _ (hd x rfl)
theorem sum_some {d e x : Ieee.Datum} (h : d.sum e = some x) : x.isNaN = false := by
  cases d <;> cases e <;> simp only [Ieee.Datum.sum] at h <;> (try split at h) <;> (try cases h) <;> rfl
theorem product_some {d e x : Ieee.Datum} (h : d.product e = some x) : x.isNaN = false := by
  cases d <;> cases e <;> simp only [Ieee.Datum.product] at h <;> (try split at h) <;> (try cases h) <;> rfl
theorem quotient_some {n : Nat} {d e x : Ieee.Datum} (h : d.quotient n e = some x) : x.isNaN = false := by
  cases d <;> cases e <;> simp only [Ieee.Datum.quotient] at h <;> (try split at h) <;> (try split at h) <;> (try cases h) <;> rfl
theorem root_some {n : Nat} {d x : Ieee.Datum} (h : d.root n = some x) : x.isNaN = false := by
  cases d <;> simp only [Ieee.Datum.root] at h <;> (try split at h) <;> (try split at h) <;> (try cases h) <;> rfl
theorem floatBits_V {op : BinOp} {k : FloatKind} {x y r : Nat} (h : floatBits op k x y = some r) : nanB k r = false := by
  unfold floatBits at h
  split at h
  · exact map_write_V k (fun _ => sum_some) h
  · exact map_write_V k (fun _ => sum_some) h
  · exact map_write_V k (fun _ => product_some) h
  · exact map_write_V k (fun _ => quotient_some) h
  · cases h

theorem read_nan64 (t : Nat) (h : 9218868437227405312 < t % 9223372036854775808) : nanB .f64 t = true := by
  have e1 : Ieee.double.signWeight = 9223372036854775808 := by decide
  have e2 : Ieee.double.binade = 4503599627370496 := by decide
  have e3 : Ieee.double.infRung = 9218868437227405312 := by decide
  unfold nanB FloatKind.decode FloatKind.format Ieee.Format.read
  simp only [e1, e2, e3]
  rw [if_neg (by omega), if_neg (by omega), if_neg (by omega)]
  rfl
theorem read_nan32 (t : Nat) (h : 2139095040 < t % 2147483648) : nanB .f32 t = true := by
  have e1 : Ieee.single.signWeight = 2147483648 := by decide
  have e2 : Ieee.single.binade = 8388608 := by decide
  have e3 : Ieee.single.infRung = 2139095040 := by decide
  unfold nanB FloatKind.decode FloatKind.format Ieee.Format.read
  simp only [e1, e2, e3]
  rw [if_neg (by omega), if_neg (by omega), if_neg (by omega)]
  rfl
theorem cut64 (t : Nat) : nanB .f64 ((t % 2) * 2 ^ 63 + 0x7ff0000000000000 + 1 + (t / 2) % (2 ^ 52 - 1)) = true ∧ (t % 2) * 2 ^ 63 + 0x7ff0000000000000 + 1 + (t / 2) % (2 ^ 52 - 1) < 18446744073709551616 := by
  have h2 : t / 2 % (2 ^ 52 - 1) < 2 ^ 52 - 1 := Nat.mod_lt _ (by omega)
  generalize t / 2 % (2 ^ 52 - 1) = m at *
  rcases Nat.mod_two_eq_zero_or_one t with h | h <;> rw [h] <;> exact ⟨read_nan64 _ (by omega), by omega⟩
theorem cut32 (t : Nat) : nanB .f32 ((t % 2) * 2 ^ 31 + 0x7f800000 + 1 + (t / 2) % (2 ^ 23 - 1)) = true ∧ (t % 2) * 2 ^ 31 + 0x7f800000 + 1 + (t / 2) % (2 ^ 23 - 1) < 4294967296 := by
  have h2 : t / 2 % (2 ^ 23 - 1) < 2 ^ 23 - 1 := Nat.mod_lt _ (by omega)
  generalize t / 2 % (2 ^ 23 - 1) = m at *
  rcases Nat.mod_two_eq_zero_or_one t with h | h <;> rw [h] <;> exact ⟨read_nan32 _ (by omega), by omega⟩
theorem cut_nanBits (k : FloatKind) (x y t : Nat) : nanB k ((Question.nanBits k x y).cut t) = true := by
  cases k
  · exact (cut32 t).1
  · exact (cut64 t).1
theorem cut_nanBits_lt (x y t : Nat) : Wf ((Question.nanBits .f64 x y).cut t) := (cut64 t).2
theorem cut_nanBits_lt32 (x y t : Nat) : Wf32 ((Question.nanBits .f32 x y).cut t) := (cut32 t).2

theorem Vk_fres (op : BinOp) (k : FloatKind) (x y : Nat) (w : World) : Vk k (fres op k x y w) = fopk k op (Vk k x) (Vk k y) := by
  rw [fopk_V]
  unfold fres
  cases h : floatBits op k x y with
  | some r => simp [Vk, floatBits_V h]
  | none => simp [Vk, cut_nanBits]
@[simp, go_sem] theorem V_fres (op : BinOp) (x y : Nat) (w : World) : V (fres op .f64 x y w) = fop op (V x) (V y) := Vk_fres op .f64 x y w
@[simp, go_sem] theorem V32_fres (op : BinOp) (x y : Nat) (w : World) : V32 (fres op .f32 x y w) = fopk .f32 op (V32 x) (V32 y) := Vk_fres op .f32 x y w
theorem Wf_fres (op : BinOp) (x y : Nat) (w : World) : Wf (fres op .f64 x y w) := by
  unfold fres
  cases h : floatBits op .f64 x y with
  | some r =>
    have := floatBits_wf h
    simpa [Lit.wf, Wf] using this
  | none => exact cut_nanBits_lt _ _ _
theorem Wf32_fres (op : BinOp) (x y : Nat) (w : World) : Wf32 (fres op .f32 x y w) := by
  unfold fres
  cases h : floatBits op .f32 x y with
  | some r =>
    have := floatBits_wf h
    simpa [Lit.wf, Wf32] using this
  | none => exact cut_nanBits_lt32 _ _ _

section
variable {P : Program} (w : World)
theorem run_choose_nan (k : FloatKind) (x y : Nat) (f : Nat → Value) : (do pure (f (← choose (.nanBits k x y))) : Sem Value).run P w = .ok (f ((Question.nanBits k x y).cut (w.tape w.drawn (.nanBits k x y)))) (w.drewN 1) := by
  rfl
theorem run_floatArith_any {op : BinOp} (hop : op = .add ∨ op = .sub ∨ op = .mul ∨ op = .quo) (k : FloatKind) (x y : Nat) :
    (Op.floatArith op k x y).run P w = .ok (.float k (fres op k x y w)) (w.drewN (fdrew op k x y)) := by
  unfold fres fdrew
  cases h : floatBits op k x y with
  | some r =>
    rw [run_floatArith w h]
    rfl
  | none =>
    unfold floatBits at h
    rcases hop with rfl | rfl | rfl | rfl <;> simp only at h <;> simp only [Op.floatArith, pure_bind, h] <;> rfl
@[go_sem] theorem run_fadd (t : TypeId) (k : FloatKind) (x y : Nat) : (binOp .add t (.float k x) (.float k y)).run P w = .ok (.float k (fres .add k x y w)) (w.drewN (fdrew .add k x y)) := by simp only [binOp, ne_eq, not_true_eq_false, if_false]; exact run_floatArith_any w (.inl rfl) k x y
@[go_sem] theorem run_fsub (t : TypeId) (k : FloatKind) (x y : Nat) : (binOp .sub t (.float k x) (.float k y)).run P w = .ok (.float k (fres .sub k x y w)) (w.drewN (fdrew .sub k x y)) := by simp only [binOp, ne_eq, not_true_eq_false, if_false]; exact run_floatArith_any w (.inr (.inl rfl)) k x y
@[go_sem] theorem run_fmul (t : TypeId) (k : FloatKind) (x y : Nat) : (binOp .mul t (.float k x) (.float k y)).run P w = .ok (.float k (fres .mul k x y w)) (w.drewN (fdrew .mul k x y)) := by simp only [binOp, ne_eq, not_true_eq_false, if_false]; exact run_floatArith_any w (.inr (.inr (.inl rfl))) k x y
@[go_sem] theorem run_fquo (t : TypeId) (k : FloatKind) (x y : Nat) : (binOp .quo t (.float k x) (.float k y)).run P w = .ok (.float k (fres .quo k x y w)) (w.drewN (fdrew .quo k x y)) := by simp only [binOp, ne_eq, not_true_eq_false, if_false]; exact run_floatArith_any w (.inr (.inr (.inr rfl))) k x y
end

/-! ### the absolute value, whole numbers -/
def absB (b : Nat) : Nat := b % 9223372036854775808
def absF (x : F) : F := x.map absB
theorem Wf_absB (b : Nat) : Wf (absB b) := by unfold Wf absB; omega
theorem nan_abs (b : Nat) : nanB .f64 (absB b) = nanB .f64 b := by
  have e1 : Ieee.double.signWeight = 9223372036854775808 := by decide
  have e2 : Ieee.double.binade = 4503599627370496 := by decide
  have e3 : Ieee.double.infRung = 9218868437227405312 := by decide
  unfold nanB FloatKind.decode FloatKind.format Ieee.Format.read absB
  simp only [e1, e2, e3]
  rw [Nat.mod_mod]
  split
  · rfl
  · split
    · rfl
    · split <;> rfl
@[simp] theorem V_absB (b : Nat) : V (absB b) = absF (V b) := by
  unfold V Vk absF
  rw [nan_abs]
  split <;> rfl
theorem abs_bits (a : Nat) (ha : Wf a) : bits .andNot .u64 (a : Int) 9223372036854775808 = ((absB a : Nat) : Int) := by
  have h := u64_andNot_nat a 9223372036854775808 ha (by omega)
  have e : a &&& (18446744073709551615 - 9223372036854775808) = absB a := by
    unfold absB
    rw [show 18446744073709551615 - 9223372036854775808 = 2 ^ 63 - 1 from rfl, Nat.and_two_pow_sub_one_eq_mod]
  rw [e] at h
  exact h

def floorF (x : F) : F := x.map fun b => FloatKind.f64.encode ((FloatKind.f64.decode b).integral .down)
theorem integral_not_nan (way : Ieee.Toward) (d : Ieee.Datum) (h : d.isNaN = false) : (d.integral way).isNaN = false := by
  cases d <;> simp_all [Ieee.Datum.isNaN, Ieee.Datum.integral]
theorem V_encode (d : Ieee.Datum) (h : d.isNaN = false) : V (FloatKind.f64.encode d) = some (FloatKind.f64.encode d) := by
  unfold V Vk
  have : nanB .f64 (FloatKind.f64.encode d) = false := write_not_nan _ _ h
  rw [this]
  rfl
theorem Wf_encode (d : Ieee.Datum) : Wf (FloatKind.f64.encode d) := by
  have := FloatKind.f64.format.write_lt d
  exact this
theorem V_some {b : Nat} (h : nanB .f64 b = false) : V b = some b := by simp [V, Vk, h]
theorem V_none {b : Nat} (h : nanB .f64 b = true) : V b = none := by simp [V, Vk, h]
theorem nan_quiet (s : Bool) (t : Nat) : nanB .f64 (FloatKind.f64.encode (.nan s (FloatKind.f64.format.quiet t))) = true := by
  have e3 : Ieee.double.infRung = 9218868437227405312 := by decide
  have e2 : Ieee.double.binade = 4503599627370496 := by decide
  have e1 : Ieee.double.signWeight = 9223372036854775808 := by decide
  have hq : FloatKind.f64.format.quiet t % 4503599627370496 ≠ 0 := by
    show (t ||| 2 ^ 51) % 2 ^ 52 ≠ 0
    intro h
    have h1 : (t ||| 2 ^ 51).testBit 51 = true := by rw [Nat.testBit_or, Nat.testBit_two_pow_self, Bool.or_true]
    have h2 : ((t ||| 2 ^ 51) % 2 ^ 52).testBit 51 = true := by rw [Nat.testBit_mod_two_pow]; simp [h1]
    rw [h] at h2
    simp at h2
  have hlt : FloatKind.f64.format.quiet t % 4503599627370496 < 4503599627370496 := Nat.mod_lt _ (by omega)
  refine read_nan64 _ ?_
  show _ < (Ieee.double.word s (Ieee.double.infRung + FloatKind.f64.format.quiet t % Ieee.double.binade)) % _
  unfold Ieee.Format.word
  rw [e1, e2, e3]
  split <;> omega
theorem run_floor {P : Program} (name : String) (x : Nat) (hx : Wf x) (w : World) : ∃ r n, (Extern.MathFloor.toIntegral name .down #[.float .f64 x]).run P w = .ok (.float .f64 r) (w.drewN n) ∧ V r = floorF (V x) ∧ Wf r := by
  have e0 : Extern.MathFloor.toIntegral name .down #[.float .f64 x] = (match FloatKind.f64.decode x with
    | .nan s t => if FloatKind.f64.format.quiet t = t then pure (.float .f64 x) else do
      let kept ← choose (.extern "math.Floor,Ceil,Trunc,RoundToEven.signallingNaN kept" 2)
      pure (.float .f64 (if kept == 1 then x else FloatKind.f64.encode (.nan s (FloatKind.f64.format.quiet t))))
    | d => pure (.float .f64 (FloatKind.f64.encode (d.integral .down)))) := rfl
  rw [e0]
  clear e0
  cases hd : FloatKind.f64.decode x with
  | nan s t =>
    have hn : nanB .f64 x = true := by unfold nanB; rw [hd]; rfl
    simp only []
    by_cases hq : FloatKind.f64.format.quiet t = t
    · rw [if_pos hq]
      exact ⟨x, 0, rfl, by rw [V_none hn]; rfl, hx⟩
    · rw [if_neg hq]
      refine ⟨_, 1, rfl, ?_, ?_⟩
      · rw [V_none hn]
        split
        · exact V_none hn
        · exact V_none (nan_quiet s t)
      · split
        · exact hx
        · exact Wf_encode _
  | number s m e =>
    have hn : nanB .f64 x = false := by unfold nanB; rw [hd]; rfl
    exact ⟨_, 0, rfl, by rw [V_encode _ (integral_not_nan _ _ rfl), V_some hn]; simp only [floorF, Option.map_some, hd], Wf_encode _⟩
  | infinity s =>
    have hn : nanB .f64 x = false := by unfold nanB; rw [hd]; rfl
    exact ⟨_, 0, rfl, by rw [V_encode _ (integral_not_nan _ _ rfl), V_some hn]; simp only [floorF, Option.map_some, hd], Wf_encode _⟩
end Go.Proofs.Ytlafjmghfnlaoab
