/-
  Conversions between the two widths, with their draws; sums of complex numbers; what is the same at the level of values. No program is named here.
-/
import Derived.Test.YtlafjmghfnlaoabFl
namespace Go.Proofs.Ytlafjmghfnlaoab
open Go

def wres (s : FloatKind) (b : Nat) (k : FloatKind) (w : World) : Nat :=
  if s = k then b else
  match s.decode b with
  | .nan _ _ => (Question.nanConv k b).cut (w.tape w.drawn (.nanConv k b))
  | .infinity sg => k.encode (.infinity sg)
  | .number sg m e => if (k.decode (k.encode (.number sg m e))).isInfinity then (Question.floatToFloat b).cut (w.tape w.drawn (.floatToFloat b)) else k.encode (.number sg m e)
def wdrew (s : FloatKind) (b : Nat) (k : FloatKind) : Nat :=
  if s = k then 0 else
  match s.decode b with
  | .nan _ _ => 1
  | .infinity _ => 0
  | .number sg m e => if (k.decode (k.encode (.number sg m e))).isInfinity then 1 else 0
section
variable {P : Program} (w : World)
theorem run_ftof (s k : FloatKind) (b : Nat) : (Conv.floatToFloat s b k).run P w = .ok (.float k (wres s b k w)) (w.drewN (wdrew s b k)) := by
  unfold Conv.floatToFloat wres wdrew
  by_cases h : s = k
  · simp only [h, if_true]; rfl
  · simp only [h, if_false]
    cases hd : s.decode b with
    | nan sg t => rfl
    | infinity sg => rfl
    | number sg m e =>
      dsimp only
      by_cases hi : (k.decode (k.encode (.number sg m e))).isInfinity = true
      · simp only [hi, if_true]; rfl
      · simp only [hi]; rfl
@[go_sem] theorem run_convert_ff (src dst : TypeId) (s k : FloatKind) (b : Nat) (hs : (P.underlying src).isSome = true) (hd : P.underlying dst = some (.float k)) :
    (convert src dst (.float s b)).run P w = .ok (.float k (wres s b k w)) (w.drewN (wdrew s b k)) := by
  obtain ⟨u, hs'⟩ := Option.isSome_iff_exists.1 hs
  cases u <;> simp [convert, run_underlying hs', run_underlying hd, run_ftof]
@[go_sem] theorem run_convert_cc (src dst : TypeId) (s k : FloatKind) (a b : Nat) (hs : (P.underlying src).isSome = true) (hd : P.underlying dst = some (.complex k)) :
    (convert src dst (.complex s a b)).run P w = .ok (.complex k (wres s a k w) (wres s b k (w.drewN (wdrew s a k)))) (w.drewN (wdrew s a k + wdrew s b k)) := by
  obtain ⟨u, hs'⟩ := Option.isSome_iff_exists.1 hs
  cases u <;> simp [convert, run_underlying hs', run_underlying hd, Conv.complexToComplex, run_ftof, World.drewN_drewN]
theorem run_carith_any {op : BinOp} (hop : op = .add ∨ op = .sub ∨ op = .mul ∨ op = .quo) (k : FloatKind) (x y : Nat) :
    (Op.Complex.arith op k x y).run P w = .ok (fres op k x y w) (w.drewN (fdrew op k x y)) := by
  simp [Op.Complex.arith, run_floatArith_any w hop]
@[go_sem] theorem run_cadd (t : TypeId) (k : FloatKind) (a b c d : Nat) : (binOp .add t (.complex k a b) (.complex k c d)).run P w = .ok (.complex k (fres .add k a c w) (fres .add k b d (w.drewN (fdrew .add k a c)))) (w.drewN (fdrew .add k a c + fdrew .add k b d)) := by
  simp [binOp, Op.complexOp, run_carith_any, World.drewN_drewN]
@[go_sem] theorem run_csub (t : TypeId) (k : FloatKind) (a b c d : Nat) : (binOp .sub t (.complex k a b) (.complex k c d)).run P w = .ok (.complex k (fres .sub k a c w) (fres .sub k b d (w.drewN (fdrew .sub k a c)))) (w.drewN (fdrew .sub k a c + fdrew .sub k b d)) := by
  simp [binOp, Op.complexOp, run_carith_any, World.drewN_drewN]
end
theorem wres_wf {s k : FloatKind} {b : Nat} (w : World) (hb : (Lit.float s b).wf = true) : (Lit.float k (wres s b k w)).wf = true := by
  unfold wres
  split
  · rename_i h; subst h; exact hb
  · split
    · cases k
      · exact wf_of_lt _ _ (cut32 (w.tape w.drawn (.nanConv .f32 b))).2
      · exact wf_of_lt _ _ (cut64 (w.tape w.drawn (.nanConv .f64 b))).2
    · exact encode_wf ..
    · split
      · have h : (Question.floatToFloat b).cut (w.tape w.drawn (.floatToFloat b)) < 2 ^ 32 := Nat.mod_lt _ (by omega)
        cases k
        · exact wf_of_lt _ _ h
        · exact wf_of_lt _ _ (Nat.lt_of_lt_of_le h (by decide))
      · exact encode_wf ..
theorem Wf_wide {b : Nat} (w : World) (hb : Wf32 b) : Wf (wres .f32 b .f64 w) := by
  have := wres_wf (k := .f64) w (s := .f32) (b := b) (by simpa [Lit.wf, Wf32] using hb)
  simpa [Lit.wf, Wf] using this
theorem Wf_narrow {b : Nat} (w : World) (hb : Wf b) : Wf32 (wres .f64 b .f32 w) := by
  have := wres_wf (k := .f32) w (s := .f64) (b := b) (by simpa [Lit.wf, Wf] using hb)
  simpa [Lit.wf, Wf32] using this

/-! ### widening is exact in kind: never an infinity of a number -/
theorem single_parts (b : Nat) (_ : Wf32 b) {s : Bool} {m : Nat} {e : Int} (h : FloatKind.f32.decode b = .number s m e) : m < 16777216 ∧ -149 ≤ e ∧ e ≤ 104 := by
  have e1 : Ieee.single.signWeight = 2147483648 := by decide
  have e2 : Ieee.single.binade = 8388608 := by decide
  have e3 : Ieee.single.infRung = 2139095040 := by decide
  have e4 : Ieee.single.leastPlace = -149 := by decide
  unfold FloatKind.decode FloatKind.format Ieee.Format.read at h
  simp only [e1, e2, e3, e4] at h
  split at h
  · cases h; omega
  · split at h
    · cases h
      refine ⟨by omega, by omega, ?_⟩
      rename_i h1 h2
      omega
    · split at h <;> cases h
theorem small_fits {p k : Nat} (hp : p ≤ 1149) (hk : k < 9007199254740992) : min (p * 4503599627370496 + k) 9218868437227405312 < 9218868437227405312 := by omega
theorem double_fits (s : Bool) (m : Nat) (e : Int) (hm : m < 16777216) (h1 : -149 ≤ e) (h2 : e ≤ 104) : (FloatKind.f64.decode (FloatKind.f64.encode (.number s m e))).isInfinity = false := by
  have f1 : Ieee.double.signWeight = 9223372036854775808 := by decide
  have f2 : Ieee.double.binade = 4503599627370496 := by decide
  have f3 : Ieee.double.infRung = 9218868437227405312 := by decide
  have f4 : Ieee.double.leastPlace = -1074 := by decide
  have f5 : Ieee.double.fractionBits = 52 := by decide
  have key : ∀ r, r < 9218868437227405312 → (Ieee.double.read (Ieee.double.word s r)).isInfinity = false := by
    intro r hr
    have hmod : Ieee.double.word s r % Ieee.double.signWeight = r := by
      unfold Ieee.Format.word
      rw [f1]
      split <;> omega
    unfold Ieee.Format.read
    simp only [hmod, f2, f3]
    by_cases h : r < 4503599627370496
    · rw [if_pos h]; rfl
    · rw [if_neg h, if_pos hr]; rfl
  show (Ieee.double.read (Ieee.double.nearest s m e)).isInfinity = false
  unfold Ieee.Format.nearest
  split
  · exact key 0 (by omega)
  · rename_i hm0
    have hl : m.log2 < 24 := (Nat.log2_lt hm0).2 hm
    simp only [f2, f3, f4, f5]
    have hlast : max (e + (m.log2 : Int) - ((52 : Nat) : Int)) (-1074) = e + (m.log2 : Int) - 52 := by omega
    rw [hlast]
    have hd : (e + (m.log2 : Int) - 52 - e).toNat = 0 := by omega
    have hu : (e - (e + (m.log2 : Int) - 52)).toNat = 52 - m.log2 := by omega
    rw [hd, hu]
    have hk : Ieee.Toward.even.cut s (m <<< (52 - m.log2)) 0 = m <<< (52 - m.log2) := by
      unfold Ieee.Toward.cut
      simp [Nat.mod_one]
    rw [hk]
    have hb : m <<< (52 - m.log2) < 9007199254740992 := by
      rw [Nat.shiftLeft_eq]
      have h3 : m < 2 ^ (m.log2 + 1) := Nat.lt_log2_self
      have h4 : 2 ^ (m.log2 + 1) * 2 ^ (52 - m.log2) = 2 ^ 53 := by rw [← Nat.pow_add]; congr 1; omega
      have h5 : 0 < 2 ^ (52 - m.log2) := Nat.two_pow_pos _
      have h6 := Nat.mul_lt_mul_of_pos_right h3 h5
      rw [h4] at h6
      omega
    have hp : (e + (m.log2 : Int) - 52 - -1074).toNat ≤ 1149 := by omega
    exact key _ (small_fits hp hb)
def wideF (x : F) : F := x.map fun b => match FloatKind.f32.decode b with
  | .number s m e => FloatKind.f64.encode (.number s m e)
  | .infinity s => FloatKind.f64.encode (.infinity s)
  | .nan _ _ => 0
theorem nan_nanConv (b t : Nat) : nanB .f64 ((Question.nanConv .f64 b).cut t) = true := (cut64 t).1
theorem V32_some {b : Nat} (h : nanB .f32 b = false) : V32 b = some b := by simp [V32, Vk, h]
theorem V32_none {b : Nat} (h : nanB .f32 b = true) : V32 b = none := by simp [V32, Vk, h]
theorem V_wide (b : Nat) (w : World) (hb : Wf32 b) : V (wres .f32 b .f64 w) = wideF (V32 b) := by
  have e : wres .f32 b .f64 w = (match FloatKind.f32.decode b with
  | .nan _ _ => (Question.nanConv .f64 b).cut (w.tape w.drawn (.nanConv .f64 b))
  | .infinity sg => FloatKind.f64.encode (.infinity sg)
  | .number sg m e => if (FloatKind.f64.decode (FloatKind.f64.encode (.number sg m e))).isInfinity then (Question.floatToFloat b).cut (w.tape w.drawn (.floatToFloat b)) else FloatKind.f64.encode (.number sg m e)) := by
    unfold wres
    rw [if_neg (by decide)]
  rw [e]
  clear e
  cases hd : FloatKind.f32.decode b with
  | nan s t =>
    have hn : nanB .f32 b = true := by unfold nanB; rw [hd]; rfl
    rw [V32_none hn]
    dsimp only
    rw [V_none (nan_nanConv _ _)]
    rfl
  | infinity s =>
    have hn : nanB .f32 b = false := by unfold nanB; rw [hd]; rfl
    rw [V32_some hn]
    dsimp only
    rw [V_encode _ rfl]
    unfold wideF
    rw [Option.map_some, hd]
  | number s m e =>
    have hn : nanB .f32 b = false := by unfold nanB; rw [hd]; rfl
    obtain ⟨h1, h2, h3⟩ := single_parts b hb hd
    rw [V32_some hn]
    dsimp only
    rw [double_fits s m e h1 h2 h3, if_neg (by decide), V_encode _ rfl]
    unfold wideF
    rw [Option.map_some, hd]
end Go.Proofs.Ytlafjmghfnlaoab
