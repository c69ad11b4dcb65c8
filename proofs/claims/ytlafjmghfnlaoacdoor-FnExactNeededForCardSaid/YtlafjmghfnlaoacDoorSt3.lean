/-
  Contracts: slices of steps: their size, their copies, their equality.
-/
import Derived.Test.YtlafjmghfnlaoacDoorSt2
namespace Go.Proofs.YtlafjmghfnlaoacDoor
open Go.RowKit

/-- a step with the place of its taps -/
structure SD where
  s : St
  A : Option Addr
  c : Nat
def SD.v (d : SD) : Value := stV d.s d.A d.c
/-- cells of a step at an address -/
structure StAt (w : World) (b o : Nat) (d : SD) : Prop where
  c0 : w.cell? ⟨b, o, none⟩ = some (.int .i64 d.s.kd)
  c1 : w.cell? ⟨b, o + 1, none⟩ = some (.int .i64 d.s.n)
  c2 : w.cell? ⟨b, o + 2, none⟩ = some (.int .i64 d.s.k)
  c3 : w.cell? ⟨b, o + 3, none⟩ = some (.slice d.A d.s.tp.length d.c)
/-- a slice of steps at A, below block B -/
def RdS (w : World) (B : Nat) (A : Option Addr) (ds : List SD) : Prop :=
  (ds = [] ∨ ∃ b off, A = some ⟨b, off, none⟩ ∧ b < B ∧ ∀ i d, ds[i]? = some d → StAt w b (off + i * 4) d) ∧ ∀ d ∈ ds, Rd w B d.A (is64 d.s.tp) ∧ d.s.tp.length ≤ maxLen
theorem StAt.below {w w' : World} {b o B : Nat} {d : SD} (h : StAt w b o d) (hb : Below B w w') (hB : b < B) : StAt w' b o d :=
  ⟨(hb.cell (p := ⟨b, o, none⟩) hB).trans h.c0, (hb.cell (p := ⟨b, o + 1, none⟩) hB).trans h.c1, (hb.cell (p := ⟨b, o + 2, none⟩) hB).trans h.c2, (hb.cell (p := ⟨b, o + 3, none⟩) hB).trans h.c3⟩
theorem RdS.below {w w' : World} {B : Nat} {A : Option Addr} {ds : List SD} (h : RdS w B A ds) {C : Nat} (hb : Below C w w') (hC : B ≤ C) : RdS w' B A ds := by
  refine ⟨?_, fun d hd => ⟨(h.2 d hd).1.below hb hC, (h.2 d hd).2⟩⟩
  rcases h.1 with h0 | ⟨b, off, hA, hlt, hc⟩
  · exact .inl h0
  · exact .inr ⟨b, off, hA, hlt, fun i d hd => (hc i d hd).below hb (by omega)⟩
theorem RdS.more {w : World} {B B' : Nat} {A : Option Addr} {ds : List SD} (h : RdS w B A ds) (hB : B ≤ B') : RdS w B' A ds := by
  refine ⟨?_, fun d hd => ⟨(h.2 d hd).1.more hB, (h.2 d hd).2⟩⟩
  rcases h.1 with h0 | ⟨b, off, hA, hlt, hc⟩
  · exact .inl h0
  · exact .inr ⟨b, off, hA, by omega, hc⟩
theorem RdS.open_ {w : World} {B : Nat} {A : Option Addr} {ds : List SD} (h : RdS w B A ds) (hn : 0 < ds.length) : ∃ b off, A = some ⟨b, off, none⟩ ∧ b < B ∧ ∀ i d, ds[i]? = some d → StAt w b (off + i * 4) d := by
  rcases h.1 with h | h
  · subst h; simp at hn
  · exact h
/-- what is left of a size -/
def leftS (left : Int) : List SD → Int
  | [] => left
  | d :: ds => if left - d.s.tp.length < 0 then -1 else leftS (left - d.s.tp.length) ds
def lessS (left : Int) (ds : List SD) : Int := if left - ds.length < 0 then -1 else leftS (left - ds.length) ds
set_option maxRecDepth 20000 in
set_option maxHeartbeats 400000 in
theorem szSteps_ok (A : Option Addr) (c : Nat) (ds : List SD) (left : Int) (w : World) (hr : RdS w w.heap.size A ds) (hn : ds.length ≤ maxLen) (hl : 0 ≤ left ∧ left ≤ 1048576) :
    Calls Tryd.prog 30 #[.slice A ds.length c, .int .i64 left] w fun e w' => e = .returned (.int .i64 (lessS left ds)) ∧ Below w.heap.size w w' := by
  unfold maxLen at hn
  obtain ⟨hl0, hl1⟩ := hl
  by_cases h0 : left - ds.length < 0
  · have hres : lessS left ds = -1 := if_pos h0
    go_enter Tryd.func30, Tryd.ntmps30
    go_wp2
    go_ret
    exact ⟨ret_int hres.symm, Below.refl _ _⟩
  have hres : lessS left ds = leftS (left - ds.length) ds := if_neg h0
  rw [hres]
  go_enter Tryd.func30, Tryd.ntmps30
  go_wp2
  go_loopw [1, 5] (fun l i wr => ∃ (k : Nat) (x : Int), k ≤ ds.length ∧ i = .int .i64 k ∧ l = .int .i64 x ∧ 0 ≤ x ∧ x ≤ 1048576 ∧ leftS x (ds.drop k) = leftS (left - ds.length) ds ∧ Below w.heap.size w wr) (fun _ i _ => ds.length - (intOf i).toNat)
  case atStart => exact ⟨0, _, by omega, rfl, rfl, by omega, by omega, rfl, Below.refl _ _⟩
  case round =>
    obtain ⟨k, x, hk, rfl, rfl, hx0, hx1, hlx, hb⟩ := hrel
    have HLX := hid hlx
    clear hlx
    by_cases h : k < ds.length
    · obtain ⟨b, off, rfl, hbl, hc⟩ := hr.open_ (by omega)
      have hget : ds[k]? = some ds[k] := List.getElem?_eq_getElem h
      obtain ⟨c0, c1, c2, c3⟩ := hc k _ hget
      have hold := (olds hb).1
      have hdrop : ds.drop k = ds[k] :: ds.drop (k + 1) := List.drop_eq_getElem_cons h
      have htl := (hr.2 _ (List.getElem_mem h)).2
      rw [hdrop] at HLX
      generalize ds[k] = d at *
      have hlt : x - d.s.tp.length < 0 ∨ 0 ≤ x - d.s.tp.length := by omega
      go_wp2_with fail
      refine (szStep_ok d.s d.A d.c x wr htl ⟨hx0, hx1⟩).mono ?_
      rintro e w2 ⟨rfl, hb2⟩
      have hB2 := hb.trans (hb2.mono hb.size)
      rcases hlt with hlt | hlt
      · have hlz : lessI x d.s.tp.length = -1 := if_pos hlt
        have hz : leftS (left - ds.length) ds = -1 := by rw [← HLX.out]; exact if_pos hlt
        rw [hlz]
        go_wp2
        go_ret
        exact ⟨ret_int hz.symm, hB2⟩
      · have hlz : lessI x d.s.tp.length = x - d.s.tp.length := if_neg (by omega)
        have hz : leftS (x - d.s.tp.length) (ds.drop (k + 1)) = leftS (left - ds.length) ds := by rw [← HLX.out]; exact (if_neg (by omega)).symm
        rw [hlz]
        have hpos : decide (x - (d.s.tp.length : Int) < 0) = false := decide_eq_false (by omega)
        go_wp2
        go_roundw
        case rel => exact ⟨k + 1, _, by omega, by go_num, rfl, by omega, by omega, hz, hB2⟩
        case measure => simp [intOf]; omega
    · have hkk : k = ds.length := by omega
      have hz : leftS (left - ds.length) ds = x := by rw [← HLX.out, hkk, List.drop_length]; rfl
      go_wp2
      go_ret
      exact ⟨ret_int hz.symm, hb⟩

/-- make([]T, n), an element of several cells -/
theorem run_make_many {P : Program} (t e : TypeId) (z : Value) (sz by_ : Nat) (ht : P.underlying t = some (.slice e)) (hi : (P.info? e).map (fun i => (i.zero, i.size, i.bytes)) = some (some z, sz, by_))
    (kl kc : IntKind) (n : Nat) (hb : by_ * n ≤ 281474976710656) (h63 : n ≤ 9223372036854775807) (w : World) :
    (Instr.makeSlice t (.int kl (n : Int)) (.int kc (n : Int))).run P w = .ok (.slice (some ⟨w.heap.size, 0, none⟩) n n) (w.alloc (.cells (madeCells z.cells (n * sz)) e)) := by
  obtain ⟨i, h1, h2, h3, h4⟩ := info_parts hi
  have hb' : (i.bytes : Int) * (n : Int) ≤ 281474976710656 := by
    rw [h4]
    have : ((by_ * n : Nat) : Int) ≤ 281474976710656 := by omega
    rwa [Int.natCast_mul] at this
  have hr := run_make (P := P) w t e i z ht h1 h2 kl kc n n (by omega) (by omega) hb' (by omega)
  simp only [Int.toNat_natCast, h3] at hr
  rw [hr]
/-- the cells of a row of steps, as far as it is filled -/
structure Fill (n : Nat) (cs : List Value) (ds : List SD) : Prop where
  len : cs.length = n * 4
  at_ : ∀ i d, ds[i]? = some d → cs[i * 4]? = some (.int .i64 d.s.kd) ∧ cs[i * 4 + 1]? = some (.int .i64 d.s.n) ∧ cs[i * 4 + 2]? = some (.int .i64 d.s.k) ∧ cs[i * 4 + 3]? = some (.slice d.A d.s.tp.length d.c)
theorem Fill.next {n k : Nat} {cs : List Value} {ds : List SD} (h : Fill n cs ds) (hk : ds.length = k) (hlt : k < n) (d : SD) :
    Fill n ((((cs.set (k * 4) (.int .i64 d.s.kd)).set (k * 4 + 1) (.int .i64 d.s.n)).set (k * 4 + 2) (.int .i64 d.s.k)).set (k * 4 + 3) (.slice d.A d.s.tp.length d.c)) (ds ++ [d]) := by
  have hl := h.len
  refine ⟨by simp [hl], fun i e he => ?_⟩
  by_cases hi : i < k
  · rw [List.getElem?_append_left (by omega)] at he
    have := h.at_ i e he
    refine ⟨?_, ?_, ?_, ?_⟩
    · rw [List.getElem?_set_ne (by omega), List.getElem?_set_ne (by omega), List.getElem?_set_ne (by omega), List.getElem?_set_ne (by omega)]; exact this.1
    · rw [List.getElem?_set_ne (by omega), List.getElem?_set_ne (by omega), List.getElem?_set_ne (by omega), List.getElem?_set_ne (by omega)]; exact this.2.1
    · rw [List.getElem?_set_ne (by omega), List.getElem?_set_ne (by omega), List.getElem?_set_ne (by omega), List.getElem?_set_ne (by omega)]; exact this.2.2.1
    · rw [List.getElem?_set_ne (by omega), List.getElem?_set_ne (by omega), List.getElem?_set_ne (by omega), List.getElem?_set_ne (by omega)]; exact this.2.2.2
  · have hik : i = k := by
      have := (List.getElem?_eq_some_iff.1 he).1
      simp at this
      omega
    subst hik
    rw [List.getElem?_append_right (by omega), hk, Nat.sub_self] at he
    simp at he
    subst he
    refine ⟨?_, ?_, ?_, ?_⟩
    · rw [List.getElem?_set_ne (by omega), List.getElem?_set_ne (by omega), List.getElem?_set_ne (by omega), List.getElem?_set_self (by omega)]
    · rw [List.getElem?_set_ne (by omega), List.getElem?_set_ne (by omega), List.getElem?_set_self (by simp; omega)]
    · rw [List.getElem?_set_ne (by omega), List.getElem?_set_self (by simp; omega)]
    · rw [List.getElem?_set_self (by simp; omega)]
theorem Fill.rdS {n : Nat} {cs : List Value} {ds : List SD} {w : World} {g : Nat} {t : TypeId} (h : Fill n cs ds) (hk : Bk w g t cs) (ht : ∀ d ∈ ds, Rd w w.heap.size d.A (is64 d.s.tp) ∧ d.s.tp.length ≤ maxLen) : RdS w w.heap.size (some ⟨g, 0, none⟩) ds := by
  refine ⟨.inr ⟨g, 0, rfl, hk.lt, fun i d hd => ?_⟩, ht⟩
  obtain ⟨h0, h1, h2, h3⟩ := h.at_ i d hd
  refine ⟨?_, ?_, ?_, ?_⟩
  · rw [hk.cell, Nat.zero_add]; exact h0
  · rw [hk.cell, Nat.zero_add]; exact h1
  · rw [hk.cell, Nat.zero_add]; exact h2
  · rw [hk.cell, Nat.zero_add]; exact h3
theorem Rd.far {w : World} {B g : Nat} {vs : List Value} (h : Rd w B (some ⟨g, 0, none⟩) vs) {p : Addr} (hp : g ≠ p.block) (u : Value) : Rd (w.setCell p u) B (some ⟨g, 0, none⟩) vs := by
  rcases h with h | ⟨b, off, hA, hb, hc⟩
  · exact .inl h
  · cases hA
    refine .inr ⟨g, 0, rfl, hb, fun i v hv => ?_⟩
    rw [World.cell?_of_block (w := w) (w' := w.setCell p u) (a := ⟨g, 0 + i, none⟩) (Below.heap_setCell w p u g hp)]
    exact hc i v hv
theorem size_set (w : World) (p : Addr) (u : Value) : (w.setCell p u).heap.size = w.heap.size := by simp [World.setCell]
theorem size_set4 (w : World) (p q r s : Addr) (u v x y : Value) : ((((w.setCell p u).setCell q v).setCell r x).setCell s y).heap.size = w.heap.size := by rw [size_set, size_set, size_set, size_set]
/-- all taps lie in blocks from B on -/
def OwnS (B : Nat) (ds : List SD) : Prop := ∀ d ∈ ds, ∃ g, d.A = some ⟨g, 0, none⟩ ∧ B ≤ g
theorem RdS.far {w : World} {B g C : Nat} {ds : List SD} (h : RdS w B (some ⟨g, 0, none⟩) ds) (ho : OwnS C ds) {p : Addr} (hp : p.block < g) (hC : p.block < C) (u : Value) : RdS (w.setCell p u) B (some ⟨g, 0, none⟩) ds := by
  refine ⟨?_, fun d hd => ⟨?_, (h.2 d hd).2⟩⟩
  · rcases h.1 with h0 | ⟨b, off, hA, hlt, hc⟩
    · exact .inl h0
    · cases hA
      refine .inr ⟨g, 0, rfl, hlt, fun i d hd => ?_⟩
      obtain ⟨c0, c1, c2, c3⟩ := hc i d hd
      have e : ∀ o, (w.setCell p u).cell? ⟨g, o, none⟩ = w.cell? ⟨g, o, none⟩ := fun o => World.cell?_of_block (w := w) (w' := w.setCell p u) (a := ⟨g, o, none⟩) (Below.heap_setCell w p u g (by omega))
      exact ⟨(e _).trans c0, (e _).trans c1, (e _).trans c2, (e _).trans c3⟩
  · obtain ⟨g', hA, hg⟩ := ho d hd
    have := (h.2 d hd).1
    rw [hA] at this ⊢
    exact this.far (by omega) u
def sts (ds : List SD) : List St := ds.map SD.s
/-- taps that fit -/
def Fits (ds : List SD) : Prop := ds.length ≤ 1048576 ∧ ∀ d ∈ ds, d.s.tp.length ≤ 1048576
theorem stepInfo0 : (Tryd.prog.info? 27).map (fun i => (i.zero, i.size, i.bytes)) = some (some (.agg #[.int .i64 0, .int .i64 0, .int .i64 0, .slice none 0 0]), 4, 48) := by kernel_rfl
set_option maxRecDepth 20000 in
set_option maxHeartbeats 400000 in
theorem toSteps_ok (A : Option Addr) (c : Nat) (ds : List SD) (w : World) (hr : RdS w w.heap.size A ds) (hf : Fits ds) :
    Calls Tryd.prog 32 #[.slice A ds.length c] w fun e w' => ∃ g es, e = .returned (.slice (some ⟨g, 0, none⟩) ds.length ds.length) ∧ sts es = sts ds ∧ RdS w' w'.heap.size (some ⟨g, 0, none⟩) es ∧ OwnS w.heap.size es ∧ w.heap.size ≤ g ∧ Below w.heap.size w w' := by
  obtain ⟨hn, hft⟩ := hf
  have hmk := fun W => run_make_many (P := Tryd.prog) 36 27 (.agg #[.int .i64 0, .int .i64 0, .int .i64 0, .slice none 0 0]) 4 48 Tryd.underlying36 stepInfo0 .i64 .i64 ds.length (by omega) (by omega) W
  go_enter Tryd.func32, Tryd.ntmps32
  go_wp2
  clear hmk
  go_loopw [4] (fun i wr => ∃ (k : Nat) (cs : List Value) (es : List SD), k ≤ ds.length ∧ i = .int .i64 k ∧ es.length = k ∧ sts es = sts (ds.take k) ∧ Fill ds.length cs es ∧ Bk wr w.heap.size 27 cs ∧ (∀ d ∈ es, Rd wr wr.heap.size d.A (is64 d.s.tp) ∧ d.s.tp.length ≤ maxLen ∧ ∃ g, d.A = some ⟨g, 0, none⟩ ∧ w.heap.size < g) ∧ Below w.heap.size w wr) (fun i _ => ds.length - (intOf i).toNat)
  case atStart =>
    refine ⟨0, _, [], by omega, rfl, rfl, rfl, ⟨?_, fun i d hd => by simp at hd⟩, Bk.new w 27 _, fun d hd => (by cases hd), below_box w _⟩
    simp [size_madeCells]
  case round =>
    obtain ⟨k, cs, es, hk, rfl, hel, hes, hfill, hb, htaps, hbel⟩ := hrel
    have hlt := hb.lt
    have HES := hid hes
    have HEL := hid hel
    clear hes hel
    by_cases h : k < ds.length
    · obtain ⟨b, off, rfl, hbl, hc⟩ := hr.open_ (by omega)
      have hget : ds[k]? = some ds[k] := List.getElem?_eq_getElem h
      obtain ⟨c0, c1, c2, c3⟩ := hc k _ hget
      have hold := (olds hbel).1
      have htk : ds.take (k + 1) = ds.take k ++ [ds[k]] := List.take_succ_eq_append_getElem h
      have hrd := (hr.2 _ (List.getElem_mem h)).1
      have hfd := hft _ (List.getElem_mem h)
      have HTK := hid htk
      clear htk
      generalize ds[k] = d at *
      go_wp2_with fail
      refine (toStep_ok d.s d.A d.c wr ((hrd.below hbel (Nat.le_refl _)).more hbel.size) hfd).mono ?_
      rintro e w2 ⟨g, rfl, hg, hgl, hb2⟩
      have hB2 := hbel.trans (hb2.mono hbel.size)
      have hb3 := hb.below hb2 hlt
      have hlen := hfill.len
      obtain ⟨z0, hz0⟩ : ∃ z, cs[k * 4]? = some z := ⟨_, List.getElem?_eq_getElem (by omega)⟩
      obtain ⟨z1, hz1⟩ : ∃ z, cs[k * 4 + 1]? = some z := ⟨_, List.getElem?_eq_getElem (by omega)⟩
      obtain ⟨z2, hz2⟩ : ∃ z, cs[k * 4 + 2]? = some z := ⟨_, List.getElem?_eq_getElem (by omega)⟩
      obtain ⟨z3, hz3⟩ : ∃ z, cs[k * 4 + 3]? = some z := ⟨_, List.getElem?_eq_getElem (by omega)⟩
      have d0 := (hb3.cell _).trans hz0
      have d1 := (hb3.cell _).trans hz1
      have d2 := (hb3.cell _).trans hz2
      have d3 := (hb3.cell _).trans hz3
      have f0 := hb3.frozen (k * 4)
      have f1 := hb3.frozen (k * 4 + 1)
      have f2 := hb3.frozen (k * 4 + 2)
      have f3 := hb3.frozen (k * 4 + 3)
      unfold stV
      go_wp2
      go_roundw
      case rel =>
        have hlt2 : w.heap.size < g := Nat.lt_of_lt_of_le hlt hgl
        refine ⟨k + 1, _, es ++ [⟨d.s, some ⟨g, 0, none⟩, d.s.tp.length⟩], by omega, by go_num, by simp [HEL.out], ?_, hfill.next HEL.out h ⟨d.s, some ⟨g, 0, none⟩, d.s.tp.length⟩, (((hb3.set_ _ _).set_ _ _).set_ _ _).set_ _ _, ?_, ?_⟩
        · rw [HTK.out]
          unfold sts at HES ⊢
          rw [List.map_append, List.map_append, HES.out]
          rfl
        · intro e he
          rw [size_set4]
          have key : Rd w2 w2.heap.size e.A (is64 e.s.tp) ∧ e.s.tp.length ≤ maxLen ∧ ∃ g, e.A = some ⟨g, 0, none⟩ ∧ w.heap.size < g := by
            rcases List.mem_append.1 he with he | he
            · obtain ⟨h1, h2, h3⟩ := htaps e he
              exact ⟨(h1.below hb2 (Nat.le_refl _)).more hb2.size, h2, h3⟩
            · simp at he
              subst he
              exact ⟨hg.rd, by show d.s.tp.length ≤ maxLen; unfold maxLen; omega, g, rfl, hlt2⟩
          obtain ⟨h1, h2, g', h3, h4⟩ := key
          refine ⟨?_, h2, g', h3, h4⟩
          rw [h3] at h1 ⊢
          exact (((h1.far (by show g' ≠ w.heap.size; omega) _).far (by show g' ≠ w.heap.size; omega) _).far (by show g' ≠ w.heap.size; omega) _).far (by show g' ≠ w.heap.size; omega) _
        · exact (((hB2.setCell (p := ⟨w.heap.size, k * 4, none⟩) (Nat.le_refl _) _).setCell (p := ⟨w.heap.size, k * 4 + 1, none⟩) (Nat.le_refl _) _).setCell (p := ⟨w.heap.size, k * 4 + 2, none⟩) (Nat.le_refl _) _).setCell (p := ⟨w.heap.size, k * 4 + 3, none⟩) (Nat.le_refl _) _
      case measure => simp [intOf]; omega
    · go_wp2
      go_ret
      have hkk : k = ds.length := by omega
      refine ⟨w.heap.size, es, rfl, ?_, hfill.rdS hb (fun d hd => ⟨(htaps d hd).1, (htaps d hd).2.1⟩), fun d hd => (htaps d hd).2.2.imp (fun _ h => ⟨h.1, Nat.le_of_lt h.2⟩), Nat.le_refl _, hbel⟩
      rw [HES.out, hkk, List.take_length]
end Go.Proofs.YtlafjmghfnlaoacDoor
