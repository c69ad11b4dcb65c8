/-
  Contracts: the same plans in the program.
-/
import Derived.Test.YtlafjmghfnlaoacSameR
namespace Go.Proofs.Ytlafjmghfnlaoac
open Go.RowKit

def Enters (K : FuncId) : Prop := ∀ (args : Array Value) (w : World), Sem.run Try.prog (callFunc K args) w = .ok (.enter K args) w
theorem enters_of {f : FuncId} {fn : Func} (hf : Try.prog.funcs[f]? = some fn) (hname : (fn.name == "runtime.NumGoroutine") = false) (hb : fn.body.isNone = false) : Enters f := by
  intro args w
  have h1 : fn.name ≠ "runtime.NumGoroutine" := by simpa using hname
  have h2 : fn.body ≠ none := by
    intro h
    rw [h] at hb
    cases hb
  simp [callFunc, hf, h1, h2]
set_option maxRecDepth 20000 in
set_option maxHeartbeats 400000 in
theorem sameStep_ok (s t : St) (A B : Option Addr) (c d : Nat) (w : World) (hr : Rd w w.heap.size A (is64 s.tp)) (hs : Rd w w.heap.size B (is64 t.tp)) (hn : s.tp.length ≤ 1048576) (hm : t.tp.length ≤ 1048576) :
    Calls Try.prog 69 #[stV s A c, stV t B d] w fun e w' => e = .returned (.bool (sameSt s t)) ∧ Below w.heap.size w w' := by
  have hx : Below w.heap.size w ((w.alloc (.cells #[.int .i64 s.kd, .int .i64 s.n, .int .i64 s.k, .slice A s.tp.length c] 94)).alloc (.cells #[.int .i64 t.kd, .int .i64 t.n, .int .i64 t.k, .slice B t.tp.length d] 94)) := below_box2 _ _ _
  have H := equalInts_ok A B c d s.tp t.tp _ ((hr.below hx (Nat.le_refl _)).more hx.size) ((hs.below hx (Nat.le_refl _)).more hx.size) hn hm
  have HH := hid H
  clear H
  unfold stV
  cases h1 : (s.kd == t.kd) with
  | false =>
    have HR := hid (sameSt_1 h1)
    rw [HR.out]
    go_enter Try.func69, Try.ntmps69
    go_wp2
    go_ret
    exact ⟨rfl, hx⟩
  | true =>
    cases h2 : (s.n == t.n) with
    | false =>
      have HR := hid (sameSt_2 h2)
      rw [HR.out]
      go_enter Try.func69, Try.ntmps69
      go_wp2
      go_ret
      exact ⟨rfl, hx⟩
    | true =>
      cases h3 : (s.k == t.k) with
      | false =>
        have HR := hid (sameSt_3 h3)
        rw [HR.out]
        go_enter Try.func69, Try.ntmps69
        go_wp2
        go_ret
        exact ⟨rfl, hx⟩
      | true =>
        have HR := hid (sameSt_4 h1 h2 h3)
        rw [HR.out]
        go_enter Try.func69, Try.ntmps69
        go_wp2_with fail
        refine HH.out.mono ?_
        rintro e w2 ⟨rfl, n, rfl⟩
        go_wp2
        go_ret
        exact ⟨rfl, hx.drewN _⟩
theorem sameStep_in : Enters 69 := enters_of Try.func69 (by kernel_rfl) (by kernel_rfl)
set_option maxRecDepth 20000 in
set_option maxHeartbeats 400000 in
theorem equalSteps_ok (A B : Option Addr) (c d : Nat) (xs ys : List SD) (w : World) (hr : RdS w w.heap.size A xs) (hs : RdS w w.heap.size B ys) (hf : Fits xs) (hg : Fits ys) :
    Calls Try.prog 68 #[.slice A xs.length c, .slice B ys.length d, .func (.func 69) #[] #[]] w fun e w' => e = .returned (.bool (sAll xs ys)) ∧ Below w.heap.size w w' := by
  obtain ⟨hn, hft⟩ := hf
  obtain ⟨hm, hgt⟩ := hg
  have hK := sameStep_in
  unfold Enters at hK
  by_cases hl : ¬ xs.length = ys.length
  · have hl' : ((xs.length : Int) != (ys.length : Int)) = true := by rw [bne_iff_ne]; omega
    go_enter Try.func68, Try.ntmps68
    go_wp2
    go_ret
    exact ⟨ret_bool (sAll_len hl).symm, Below.refl _ _⟩
  rw [Decidable.not_not] at hl
  have hl' : ((xs.length : Int) != (ys.length : Int)) = false := by rw [bne_eq_false_iff_eq]; omega
  have HL := hid hl
  clear hl
  go_enter Try.func68, Try.ntmps68
  go_wp2
  go_loopw [17] (fun i wr => ∃ k : Nat, k ≤ xs.length ∧ i = .int .i64 k ∧ (∀ j, j < k → sameSt (nthS xs j) (nthS ys j) = true) ∧ Below w.heap.size w wr) (fun i _ => xs.length - (intOf i).toNat)
  case atStart => exact ⟨0, by omega, rfl, fun j hj => by omega, Below.refl _ _⟩
  case round =>
    obtain ⟨k, hk, rfl, hall, hb⟩ := hrel
    have Hall := hid hall
    clear hall
    by_cases h : k < xs.length
    · obtain ⟨b, off, rfl, hbl, hc⟩ := hr.open_ (by omega)
      have h2 : k < ys.length := by have := HL.out; omega
      obtain ⟨b2, off2, rfl, hbl2, hc2⟩ := hs.open_ (by omega)
      obtain ⟨c0, c1, c2, c3⟩ := hc k _ (List.getElem?_eq_getElem h)
      obtain ⟨d0, d1, d2, d3⟩ := hc2 k _ (List.getElem?_eq_getElem h2)
      have hrx := (hr.2 _ (List.getElem_mem h)).1
      have hry := (hs.2 _ (List.getElem_mem h2)).1
      have hfx := hft _ (List.getElem_mem h)
      have hfy := hgt _ (List.getElem_mem h2)
      have hvx : nthS xs k = xs[k].s := nthS_get h
      have hvy : nthS ys k = ys[k].s := nthS_get h2
      have hold := (olds hb).1
      have hbw : b < wr.heap.size := Nat.lt_of_lt_of_le hbl hb.size
      have hbw2 : b2 < wr.heap.size := Nat.lt_of_lt_of_le hbl2 hb.size
      clear hc hc2
      generalize xs[k] = x at *
      generalize ys[k] = y at *
      have hx : Below wr.heap.size wr ((wr.alloc (.cells #[.int .i64 x.s.kd, .int .i64 x.s.n, .int .i64 x.s.k, .slice x.A x.s.tp.length x.c] 94)).alloc (.cells #[.int .i64 y.s.kd, .int .i64 y.s.n, .int .i64 y.s.k, .slice y.A y.s.tp.length y.c] 94)) := below_box2 _ _ _
      have hB := hb.trans (hx.mono hb.size)
      have H := sameStep_ok x.s y.s x.A y.A x.c y.c _ ((hrx.below hB (Nat.le_refl _)).more hB.size) ((hry.below hB (Nat.le_refl _)).more hB.size) hfx hfy
      rw [← hvx, ← hvy] at H
      unfold stV at H
      rw [hvx, hvy] at H
      have HH := hid H
      clear H
      cases hq : sameSt x.s y.s with
      | false =>
        have HR := hid (sAll_ne h (show sameSt (nthS xs k) (nthS ys k) = false by rw [hvx, hvy]; exact hq))
        rw [hq] at HH
        clear hvx hvy hq
        go_wp2_with fail
        refine HH.out.mono ?_
        rintro e w2 ⟨rfl, hb2⟩
        go_wp2
        go_ret
        exact ⟨ret_bool HR.out.symm, hB.trans (hb2.mono hB.size)⟩
      | true =>
        have HR := hid (show ∀ j, j < k + 1 → sameSt (nthS xs j) (nthS ys j) = true from fun j hj => by
          by_cases e : j = k
          · subst e; rw [hvx, hvy]; exact hq
          · exact Hall.out j (by omega))
        rw [hq] at HH
        clear hvx hvy hq
        go_wp2_with fail
        refine HH.out.mono ?_
        rintro e w2 ⟨rfl, hb2⟩
        have hB2 := hB.trans (hb2.mono hB.size)
        go_wp2
        go_roundw
        case rel => exact ⟨k + 1, by omega, by go_num, HR.out, hB2⟩
        case measure => simp [intOf]; omega
    · go_wp2
      go_ret
      exact ⟨ret_bool (sAll_all HL.out (fun j hj => Hall.out j (by omega))).symm, hb⟩
set_option maxRecDepth 20000 in
set_option maxHeartbeats 400000 in
theorem implSame_ok (A B : Option Addr) (c d : Nat) (xs ys : List SD) (w : World) (hr : RdS w w.heap.size A xs) (hs : RdS w w.heap.size B ys) (hf : Fits xs) (hg : Fits ys) :
    Calls Try.prog 31 #[plV A xs.length c, plV B ys.length d] w fun e w' => e = .returned (.bool (sAll xs ys)) ∧ Below w.heap.size w w' := by
  have hx : Below w.heap.size w ((w.alloc (.cells #[.slice A xs.length c] 57)).alloc (.cells #[.slice B ys.length d] 57)) := below_box2 _ _ _
  have HH := hid (equalSteps_ok A B c d xs ys _ ((hr.below hx (Nat.le_refl _)).more hx.size) ((hs.below hx (Nat.le_refl _)).more hx.size) hf hg)
  unfold plV
  go_enter Try.func31, Try.ntmps31
  go_wp2_with fail
  refine HH.out.mono ?_
  rintro e w2 ⟨rfl, hb2⟩
  go_wp2
  go_ret
  exact ⟨rfl, hx.trans (hb2.mono hx.size)⟩
end Go.Proofs.Ytlafjmghfnlaoac
