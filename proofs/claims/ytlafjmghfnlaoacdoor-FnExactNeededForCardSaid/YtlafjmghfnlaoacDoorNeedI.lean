/-
  Contracts: of how many numbers a plan makes at least n, in the program.
-/
import Derived.Test.YtlafjmghfnlaoacDoorIter
import Derived.Test.YtlafjmghfnlaoacDoorLenI
namespace Go.Proofs.YtlafjmghfnlaoacDoor
open Go.RowKit Go.Shelf

attribute [local go_sem] Oper.semAt_some

def nedL (ds : List SD) : List (Fin ds.length) → Int → Option Int
  | [], n => some n
  | x :: xs, n => if 1000000 < nedS ds[x.1].s n then none else nedL ds xs (nedS ds[x.1].s n)
theorem nedL_append (ds : List SD) (xs ys : List (Fin ds.length)) (n : Int) : nedL ds (xs ++ ys) n = (nedL ds xs n).bind (nedL ds ys) := by
  induction xs generalizing n with
  | nil => rfl
  | cons x xs ih =>
    simp only [List.cons_append, nedL]
    split
    · rfl
    · exact ih _
theorem nedL_one_big {ds : List SD} {pre : List (Fin ds.length)} {n z : Int} {x : Fin ds.length} (h : nedL ds pre n = some z) (hg : 1000000 < nedS ds[x.1].s z) : nedL ds (pre ++ [x]) n = none := by
  rw [nedL_append, h]
  show nedL ds [x] z = none
  simp only [nedL]
  rw [if_pos hg]
theorem nedL_one {ds : List SD} {pre : List (Fin ds.length)} {n z : Int} {x : Fin ds.length} (h : nedL ds pre n = some z) (hg : ¬ 1000000 < nedS ds[x.1].s z) : nedL ds (pre ++ [x]) n = some (nedS ds[x.1].s z) := by
  rw [nedL_append, h]
  show nedL ds [x] z = some _
  simp only [nedL]
  rw [if_neg hg]
theorem nedL_pre {ds : List SD} {pre xs : List (Fin ds.length)} {n : Int} (hp : pre <+: xs) (h : nedL ds pre n = none) : nedL ds xs n = none := by
  obtain ⟨ys, rfl⟩ := hp
  rw [nedL_append, h]
  rfl
theorem nedL_down (ds : List SD) : ∀ (k : Nat) (n : Int), k ≤ ds.length → nedL ds (downF ds.length k) n = needK ds k n
  | 0, _, _ => rfl
  | k + 1, n, h => by
    rw [downF_succ (by omega)]
    simp only [nedL, needK]
    rw [nthS_get (by omega : k < ds.length)]
    split
    · rfl
    · exact nedL_down ds k _ (by omega)
set_option maxRecDepth 20000 in
set_option maxHeartbeats 400000 in
theorem backward_ok (A : Option Addr) (m c : Nat) (w : World) :
    Calls Tryd.prog 43 #[.slice A m c] w fun e w' => e = .returned (.func (.func 57) #[] #[.pointer (some ⟨w.heap.size, 0, none⟩)]) ∧ w.alloc (.cells #[.slice A m c] 36) = w' := by
  go_enter Tryd.func43, Tryd.ntmps43
  go_wp2
  go_ret
  exact ⟨rfl, rfl⟩
/-- the boxes of the program's own: the plan, the number, the two results -/
structure Nb (W : World) (B g0 g1 g2 g3 : Nat) (v : Value) (z r0 r1 : Int) : Prop where
  b0 : Bk W g0 38 [v]
  b1 : Bk W g1 2 [.int .i64 z]
  b2 : Bk W g2 2 [.int .i64 r0]
  b3 : Bk W g3 2 [.int .i64 r1]
  l0 : B ≤ g0
  l1 : g0 < g1
  l2 : g1 < g2
  l3 : g2 < g3
theorem Nb.below {W W' : World} {B g0 g1 g2 g3 : Nat} {v : Value} {z r0 r1 : Int} (h : Nb W B g0 g1 g2 g3 v z r0 r1) (hb : Below W.heap.size W W') : Nb W' B g0 g1 g2 g3 v z r0 r1 :=
  ⟨h.b0.below hb h.b0.lt, h.b1.below hb h.b1.lt, h.b2.below hb h.b2.lt, h.b3.below hb h.b3.lt, h.l0, h.l1, h.l2, h.l3⟩
theorem Nb.own {W W' : World} {row : Option Nat} {B g0 g1 g2 g3 : Nat} {v : Value} {z r0 r1 : Int} (h : Nb W B g0 g1 g2 g3 v z r0 r1) (hg : W.grownBy W' row) (hr : ∀ r, row = some r → ∃ o : Obj, W.heap[r]? = some o ∧ o.isCells = false) : Nb W' B g0 g1 g2 g3 v z r0 r1 :=
  ⟨bk_own h.b0 hg hr, bk_own h.b1 hg hr, bk_own h.b2 hg hr, bk_own h.b3 hg hr, h.l0, h.l1, h.l2, h.l3⟩
theorem Nb.set1 {W : World} {B g0 g1 g2 g3 : Nat} {v : Value} {z r0 r1 : Int} (h : Nb W B g0 g1 g2 g3 v z r0 r1) (z' : Int) : Nb (W.setCell ⟨g1, 0, none⟩ (.int .i64 z')) B g0 g1 g2 g3 v z' r0 r1 := by
  have h1 := h.l1
  have h2 := h.l2
  have h3 := h.l3
  exact ⟨h.b0.far (by show g0 ≠ g1; omega) _, h.b1.set_ 0 _, h.b2.far (by show g2 ≠ g1; omega) _, h.b3.far (by show g3 ≠ g1; omega) _, h.l0, h1, h2, h3⟩
theorem Nb.set23 {W : World} {B g0 g1 g2 g3 : Nat} {v : Value} {z r0 r1 : Int} (h : Nb W B g0 g1 g2 g3 v z r0 r1) (x y : Int) : Nb ((W.setCell ⟨g2, 0, none⟩ (.int .i64 x)).setCell ⟨g3, 0, none⟩ (.int .i64 y)) B g0 g1 g2 g3 v z x y := by
  have h1 := h.l1
  have h2 := h.l2
  have h3 := h.l3
  exact ⟨(h.b0.far (by show g0 ≠ g2; omega) _).far (by show g0 ≠ g3; omega) _, (h.b1.far (by show g1 ≠ g2; omega) _).far (by show g1 ≠ g3; omega) _, (h.b2.set_ 0 _).far (by show g2 ≠ g3; omega) _, (h.b3.far (by show g3 ≠ g2; omega) _).set_ 0 _, h.l0, h1, h2, h3⟩
theorem below_set23 {w W : World} {g2 g3 : Nat} (h : Below w.heap.size w W) (l2 : w.heap.size ≤ g2) (l3 : w.heap.size ≤ g3) (x y : Value) : Below w.heap.size w ((W.setCell ⟨g2, 0, none⟩ x).setCell ⟨g3, 0, none⟩ y) :=
  (h.setCell (p := ⟨g2, 0, none⟩) l2 _).setCell (p := ⟨g3, 0, none⟩) l3 _
theorem keeps_set23 (B : Nat) (W : World) (g2 g3 : Nat) (x y : Value) : KeepsFrom B W ((W.setCell ⟨g2, 0, none⟩ x).setCell ⟨g3, 0, none⟩ y) :=
  ((KeepsOthers.setCell _ _ _).trans (KeepsOthers.setCell _ _ _)).from _
set_option maxRecDepth 20000 in
set_option maxHeartbeats 400000 in
theorem implNeeded_ok (A : Option Addr) (c bt ot ct : Nat) (ds : List SD) (n : Int) (w : World) (hF : Forms w bt ot ct) (hr : RdS w w.heap.size A ds) (hf : Fits ds) (hI : PlI ds) (x y : Int) (hq : needRes ds n = (x, y)) :
    Calls Tryd.prog 23 #[plV A ds.length c, .int .i64 n] w fun e w' => e = .returned (.tuple #[.int .i64 x, .int .i64 y]) ∧ Below w.heap.size w w' := by
  have hn := hf.1
  unfold needRes at hq
  obtain ⟨W1, hW1⟩ : ∃ W1, (((w.alloc (.cells #[.slice A ds.length c] 38)).alloc (.cells #[.int .i64 n] 2)).alloc (.cells #[.int .i64 0] 2)).alloc (.cells #[.int .i64 0] 2) = W1 := ⟨_, rfl⟩
  have hNb : Nb W1 w.heap.size w.heap.size (w.heap.size + 1) (w.heap.size + 1 + 1) (w.heap.size + 1 + 1 + 1) (.slice A ds.length c) n 0 0 := by
    have k0 := Bk.new w 38 #[.slice A ds.length c]
    have k1 := Bk.new (w.alloc (.cells #[.slice A ds.length c] 38)) 2 #[.int .i64 n]
    have k2 := Bk.new ((w.alloc (.cells #[.slice A ds.length c] 38)).alloc (.cells #[.int .i64 n] 2)) 2 #[.int .i64 0]
    have k3 := Bk.new (((w.alloc (.cells #[.slice A ds.length c] 38)).alloc (.cells #[.int .i64 n] 2)).alloc (.cells #[.int .i64 0] 2)) 2 #[.int .i64 0]
    have up := fun {W : World} {g : Nat} {t : TypeId} {cs : List Value} (h : Bk W g t cs) (o : Obj) => h.below (below_box W o) h.lt
    rw [alloc_size] at k1
    rw [alloc_size, alloc_size] at k2
    rw [alloc_size, alloc_size, alloc_size] at k3
    rw [← hW1]
    exact ⟨up (up (up k0 _) _) _, up (up k1 _) _, up k2 _, k3, Nat.le_refl _, by omega, by omega, by omega⟩
  have hB1 : Below w.heap.size w W1 := by
    rw [← hW1]
    exact (below_box3 _ _ _ _).alloc (by rw [size3]; omega) _
  have H := countCode_ok A c bt ot ct ds n W1 (hF.below hB1) ((hr.below hB1 (Nat.le_refl _)).more hB1.size) hf hI
  unfold plV at H ⊢
  have HW1 := hid hW1
  clear hW1
  by_cases hc : cnt ds n = 0
  · rw [if_pos hc] at hq
    obtain ⟨hv, h0, h1⟩ := cnt_ok hc
    have hbnd := vPlan_all hv
    rw [hc] at H
    have HH := hid H
    have HQ := hid hq
    clear H hq hc hv
    refine (callsIn_wide (n := 8)).1 ?_
    refine callsIn_of_wp_marks Tryd.func23 rfl trivial ?_ rfl
    simp only [Tryd.ntmps23, List.size_toArray, List.length_cons, List.length_nil, Nat.reduceAdd, Nat.reduceSub, Array.replicate_succ, Array.replicate_zero, List.push_toArray, List.append_toArray, List.nil_append, List.cons_append]
    gi_wp2_with fail
    rw [HW1.out]
    clear HW1
    generalize hg3 : w.heap.size + 1 + 1 + 1 = g3 at *
    generalize hg2 : w.heap.size + 1 + 1 = g2 at *
    generalize hg1 : w.heap.size + 1 = g1 at *
    clear hg1 hg2 hg3
    refine ⟨trivial, (callsIn_wide.2 HH.out).mono ?_⟩
    rintro e w2 ⟨rfl, hb2⟩
    have hN2 := hNb.below hb2
    have hB2 := hB1.trans (hb2.mono hB1.size)
    have e0 := hN2.b0.cell 0
    simp only [List.getElem?_cons_zero] at e0
    clear HH hNb hB1 hb2
    gi_wp2_with fail
    refine ⟨trivial, (callsIn_wide.2 (backward_ok A ds.length c w2)).mono ?_⟩
    rintro e w3 ⟨rfl, rfl⟩
    have hN3 := hN2.below (below_box w2 (.cells #[.slice A ds.length c] 36))
    have bS := Bk.new w2 36 #[.slice A ds.length c]
    have hB3 := hB2.trans ((below_box w2 (.cells #[.slice A ds.length c] 36)).mono hB2.size)
    have hlS : g3 < w2.heap.size := hN2.b3.lt
    generalize w2.alloc (.cells #[.slice A ds.length c] 36) = W0 at *
    generalize w2.heap.size = gs at *
    clear hN2 e0 hB2 w2
    gi_wp2_with fail
    have hlt0 := hN3.b0.lt
    have hltS := bS.lt
    have hl0 := hN3.l1
    have hl1 := hN3.l2
    have hl2 := hN3.l3
    have hwW := hB3.size
    have hr3 : RdS W0 w.heap.size A ds := hr.below hB3 (Nat.le_refl _)
    refine wpIn_rangeFunc_ownH rfl (by omega) (gf := 57) (lb := #[.pointer (some ⟨gs, 0, none⟩)]) rfl trivial (enters_of Tryd.func57 (by kernel_rfl) rfl)
      (encs := backV ds) (Kp := KpB w.heap.size gs 36 [.slice A ds.length c]) (S := fun ys => ys = downF ds.length ds.length) (Sp := fun pre => pre <+: downF ds.length ds.length) (N := ds.length) (w0 := W0)
      (fun l J Jx W hW _ _ hY hj => back1_ok (8 - 1) (by omega) l gs w.heap.size c A ds hn J Jx hY W (bS.below hW hltS) (hr3.below hW hwW) hj)
      KpB.trans (KpB.putObj hwW) (Below.refl _ _) (fun _ => rfl)
      (fun pre W => ∃ z, nedL ds pre n = some z ∧ 0 ≤ z ∧ z ≤ 1000000 ∧ Nb W w.heap.size w.heap.size g1 g2 g3 (.slice A ds.length c) z 0 0 ∧ Bk W gs 36 [.slice A ds.length c] ∧ Below w.heap.size w W)
      (fun c' pre W => c' = .ret ∧ nedL ds pre n = none ∧ (∃ z, Nb W w.heap.size w.heap.size g1 g2 g3 (.slice A ds.length c) z 0 3) ∧ Below w.heap.size w W)
      (fun pre X Y row hs hg hrow => by
        obtain ⟨z, e1, e2, e3, e4, e5, e6⟩ := hs
        exact ⟨z, e1, e2, e3, e4.own hg (fun r e => (hrow r e).2), bk_own e5 hg (fun r e => (hrow r e).2), ownFrom_below (β := Unit) (B := W0.heap.size) (Nat.le_refl _) hwW () X Y row e6 hg hrow⟩)
      (fun c' pre X Y row hs hg hrow => by
        obtain ⟨e1, e2, ⟨z, e3⟩, e4⟩ := hs
        exact ⟨e1, e2, ⟨z, e3.own hg (fun r e => (hrow r e).2)⟩, ownFrom_below (β := Unit) (B := W0.heap.size) (Nat.le_refl _) hwW () X Y row e4 hg hrow⟩)
      ⟨n, rfl, h0, h1, hN3, bS, hB3⟩
      (fun x a' W => ∃ Bx, gs < Bx ∧ Bk W Bx 27 [.int .i64 ds[x.1].s.kd, .int .i64 ds[x.1].s.n, .int .i64 ds[x.1].s.k, .slice ds[x.1].A ds[x.1].s.tp.length ds[x.1].c] ∧ a' = { tmps := #[.agg #[.slice A ds.length c], .int .i64 n, .pointer (some ⟨w.heap.size, 0, none⟩), .pointer (some ⟨g1, 0, none⟩), .pointer (some ⟨g2, 0, none⟩), .pointer (some ⟨g3, 0, none⟩), .int .i64 0, undef, .pointer (some ⟨Bx, 0, none⟩), undef, undef, .agg #[.slice A ds.length c], .int .i64 n, .int .i64 0, .int .i64 0, .bool false, undef, .pointer (some ⟨w.heap.size, 0, none⟩), .slice A ds.length c, .func (.func 57) #[] #[.pointer (some ⟨gs, 0, none⟩)], .int .i64 (x.1 : Int), stV ds[x.1].s ds[x.1].A ds[x.1].c, undef, undef, undef, undef, undef, undef, undef, undef, undef, undef, undef, undef, undef, undef, undef], defers := [] })
      (fun x a' _ X Y row hs hg hrow => by
        obtain ⟨Bx, e1, e2, e3⟩ := hs
        exact ⟨Bx, e1, bk_own e2 hg (fun r e => (hrow r e).2), e3⟩)
      ?assign ?body ?done ?stop
    case assign =>
      rintro l pre x W K ⟨z, e1, e2, e3, e4, e5, e6⟩ hK
      unfold backV stV
      unfold stV at hK
      generalize ds[x.1] = d at *
      gi_wp2
      exact hK _ _ ((KeepsOthers.alloc _ _).from _) ⟨(Below.refl _ W).alloc e6.size _, fun b => b.below (below_box W _) b.lt⟩ ⟨z, e1, e2, e3, e4.below (below_box _ _), e5.below (below_box _ _) e5.lt, e6.alloc e6.size _⟩ ⟨W.heap.size, e5.lt, Bk.new W _ _, rfl⟩
    case body =>
      rintro l pre x a' W hl ⟨r, hr⟩ ⟨z, e1, e2, e3, e4, e5, e6⟩ ⟨Bx, hBx, bX, rfl⟩ hlt
      have c0 := bX.cell 0
      have c1 := bX.cell 1
      have c2 := bX.cell 2
      have c3 := bX.cell 3
      have d1 := e4.b1.cell 0
      simp only [List.getElem?_cons_zero, List.getElem?_cons_succ] at c0 c1 c2 c3 d1
      have hbd := hbnd _ (List.getElem_mem x.2)
      have hsb := nedS_bnd hbd e2 e3
      have HS := implNed_ok ds[x.1].s ds[x.1].A ds[x.1].c z W hbd e2 e3
      unfold stV at HS
      unfold stV
      generalize hd : ds[x.1] = d at *
      have HHS := hid HS
      have Hd := hid hd
      have HE := hid e1
      have HbX := hid bX
      clear HS hd e1 bX
      gi_wp2_with fail
      refine ⟨trivial, (CallsIn.inRound l (callsIn_wide.2 HHS.out)).mono ?_⟩
      rintro e W4 ⟨rfl, hb4⟩
      have n4 := e4.below hb4
      have s4 := e5.below hb4 e5.lt
      have hB4 := e6.trans (hb4.mono e6.size)
      have P1 : 1000000 < nedS d.s z → nedL ds (pre ++ [x]) n = none := by
        rw [← Hd.out]
        exact nedL_one_big HE.out
      have P2 : ¬ 1000000 < nedS d.s z → nedL ds (pre ++ [x]) n = some (nedS d.s z) := by
        rw [← Hd.out]
        exact nedL_one HE.out
      clear HHS HE Hd c0 c1 c2 c3 d1 HbX
      generalize nedS d.s z = q at *
      have HP1 := hid P1
      have HP2 := hid P2
      clear P1 P2
      have c1 := n4.b1.cell 0
      have c2 := n4.b2.cell 0
      have c3 := n4.b3.cell 0
      have f1 := n4.b1.frozen 0
      have f2 := n4.b2.frozen 0
      have f3 := n4.b3.frozen 0
      simp only [List.getElem?_cons_zero] at c1 c2 c3
      have hne21 : g2 ≠ g1 := by omega
      have hne31 : g3 ≠ g1 := by omega
      have hne32 : g3 ≠ g2 := by omega
      have hk1 : KeepsFrom W0.heap.size W (W4.setCell ⟨g1, 0, none⟩ (.int .i64 q)) := (keepsFrom_below hb4).trans ((KeepsOthers.setCell _ _ _).from _)
      have hB5 : Below w.heap.size w (W4.setCell ⟨g1, 0, none⟩ (.int .i64 q)) := hB4.setCell (p := ⟨g1, 0, none⟩) (by show w.heap.size ≤ g1; omega) _
      by_cases hg : 1000000 < q
      · gi_wp2
        exact ⟨hk1.trans (keeps_set23 _ _ _ _ _ _), rfl, HP1.out hg, ⟨q, (n4.set1 q).set23 0 3⟩, below_set23 hB5 (by omega) (by omega) _ _⟩
      · gi_wp2
        exact ⟨hk1, ⟨(hb4.mono e6.size).setCell (p := ⟨g1, 0, none⟩) (by show w.heap.size ≤ g1; omega) _, fun b => (b.below hb4 b.lt).far (by show gs ≠ g1; omega) _⟩, q, HP2.out hg, hsb.1, by omega, n4.set1 q, s4.far (by show gs ≠ g1; omega) _, hB5⟩
    case done =>
      rintro D ys W hD rfl ⟨z, e1, e2, e3, e4, e5, e6⟩ hK
      have hQ := HQ.out
      rw [nedL_down ds _ _ (Nat.le_refl _)] at e1
      rw [e1] at hQ
      have hQ : needFin ds z = (x, y) := hQ
      have c0 := e4.b0.cell 0
      have c1 := e4.b1.cell 0
      simp only [List.getElem?_cons_zero] at c0 c1
      have hrW := (hr.below e6 (Nat.le_refl _)).more e6.size
      cases hlr : lenRes ds z with
      | mk x' y' =>
        have HS := implLength_ok A c bt ot ct ds z W (hF.below e6) hrW hf hI _ _ hlr
        unfold plV at HS
        have HHS := hid HS
        have HR := hid hlr
        have HQ2 := hid hQ
        have HK := hid hK
        clear HS hlr hQ hK e1
        by_cases hy : y' = 0
        · subst hy
          gi_wp2_with fail
          refine ⟨trivial, (callsIn_wide.2 HHS.out).mono ?_⟩
          rintro e W4 ⟨rfl, hb4⟩
          have hN := e4.below hb4
          have hB4 := e6.trans (hb4.mono e6.size)
          have hK4 := (hb4.block D (Array.getElem?_eq_some_iff.1 HK.out).1).trans HK.out
          have HK4 := hid hK4
          clear hK4
          have d1 := hN.b1.cell 0
          have d2 := hN.b2.cell 0
          have d3 := hN.b3.cell 0
          have f2 := hN.b2.frozen 0
          have f3 := hN.b3.frozen 0
          simp only [List.getElem?_cons_zero] at d1 d2 d3
          have hne32 : g3 ≠ g2 := by omega
          gi_wp2
          obtain ⟨rfl, rfl⟩ : z = x ∧ 0 = y := by
            have h1 := HQ2.out
            rw [needFin_ok HR.out] at h1
            simpa using h1
          refine ⟨by simp, .inl ⟨_, _, rfl, run_takeDeferred (((KeepsOthers.setCell _ _ _).trans (KeepsOthers.setCell _ _ _)).same D _ HK4.out rfl), ?_⟩⟩
          have hNe := (hN.set23 z 0).own (grownBy_putObj' _ D (.deferred none)) (fun r e => by cases e; exact ⟨_, (((KeepsOthers.setCell _ _ _).trans (KeepsOthers.setCell _ _ _)).same D _ HK4.out rfl), rfl⟩)
          have ec := hNe.b2.cell 0
          have ed := hNe.b3.cell 0
          simp only [List.getElem?_cons_zero] at ec ed
          refine ⟨.tuple #[.int .i64 z, .int .i64 0], ?_, rfl, (below_set23 hB4 (by omega) (by omega) _ _).trans (belowK_b (w := w) (Nat.le_refl _) _ D _ _ (by omega) (((KeepsOthers.setCell _ _ _).trans (KeepsOthers.setCell _ _ _)).same D _ HK4.out rfl) rfl rfl)⟩
          simp [results, Tryd.f23, go_sem, ec, ed]
        · have hy1 : (y' != 0) = true := by simpa using hy
          have HY := hid hy
          clear hy
          gi_wp2_with fail
          refine ⟨trivial, (callsIn_wide.2 HHS.out).mono ?_⟩
          rintro e W4 ⟨rfl, hb4⟩
          have hN := e4.below hb4
          have hB4 := e6.trans (hb4.mono e6.size)
          have hK4 := (hb4.block D (Array.getElem?_eq_some_iff.1 HK.out).1).trans HK.out
          have HK4 := hid hK4
          clear hK4
          have d2 := hN.b2.cell 0
          have d3 := hN.b3.cell 0
          have f2 := hN.b2.frozen 0
          have f3 := hN.b3.frozen 0
          simp only [List.getElem?_cons_zero] at d2 d3
          have hne32 : g3 ≠ g2 := by omega
          gi_wp2
          obtain ⟨rfl, rfl⟩ : 0 = x ∧ y' = y := by
            have h1 := HQ2.out
            rw [needFin_bad HR.out HY.out] at h1
            simpa using h1
          refine ⟨by simp, .inl ⟨_, _, rfl, run_takeDeferred (((KeepsOthers.setCell _ _ _).trans (KeepsOthers.setCell _ _ _)).same D _ HK4.out rfl), ?_⟩⟩
          have hNe := (hN.set23 0 y').own (grownBy_putObj' _ D (.deferred none)) (fun r e => by cases e; exact ⟨_, (((KeepsOthers.setCell _ _ _).trans (KeepsOthers.setCell _ _ _)).same D _ HK4.out rfl), rfl⟩)
          have ec := hNe.b2.cell 0
          have ed := hNe.b3.cell 0
          simp only [List.getElem?_cons_zero] at ec ed
          refine ⟨.tuple #[.int .i64 0, .int .i64 y'], ?_, rfl, (below_set23 hB4 (by omega) (by omega) _ _).trans (belowK_b (w := w) (Nat.le_refl _) _ D _ _ (by omega) (((KeepsOthers.setCell _ _ _).trans (KeepsOthers.setCell _ _ _)).same D _ HK4.out rfl) rfl rfl)⟩
          simp [results, Tryd.f23, go_sem, ec, ed]
    case stop =>
      rintro D c' pre W hD hpre ⟨rfl, e2, ⟨z, e3⟩, e4⟩ hK
      have hQ := HQ.out
      have e1 := nedL_pre hpre e2
      rw [nedL_down ds _ _ (Nat.le_refl _)] at e1
      rw [e1] at hQ
      obtain ⟨rfl, rfl⟩ : 0 = x ∧ 3 = y := by simpa [needOut] using hQ
      have HK := hid hK
      clear hK
      gi_wp2
      refine ⟨by simp, .inl ⟨_, _, rfl, run_takeDeferred HK.out, ?_⟩⟩
      have hNe := (e3).own (grownBy_putObj' _ D (.deferred none)) (fun r e => by cases e; exact ⟨_, HK.out, rfl⟩)
      have ec := hNe.b2.cell 0
      have ed := hNe.b3.cell 0
      simp only [List.getElem?_cons_zero] at ec ed
      refine ⟨.tuple #[.int .i64 0, .int .i64 3], ?_, rfl, (e4).trans (belowK_b (w := w) (Nat.le_refl _) _ D _ _ (by omega) HK.out rfl rfl)⟩
      simp [results, Tryd.f23, go_sem, ec, ed]
  · rw [if_neg hc] at hq
    obtain ⟨rfl, rfl⟩ : 0 = x ∧ cnt ds n = y := by simpa using hq
    have hc1 : (cnt ds n != 0) = true := by simpa using hc
    have HH := hid H
    clear H hq
    generalize cnt ds n = q at *
    refine (callsIn_wide (n := 8)).1 ?_
    refine callsIn_of_wp_marks Tryd.func23 rfl trivial ?_ rfl
    simp only [Tryd.ntmps23, List.size_toArray, List.length_cons, List.length_nil, Nat.reduceAdd, Nat.reduceSub, Array.replicate_succ, Array.replicate_zero, List.push_toArray, List.append_toArray, List.nil_append, List.cons_append]
    gi_wp2_with fail
    rw [HW1.out]
    clear HW1
    generalize hg3 : w.heap.size + 1 + 1 + 1 = g3 at *
    generalize hg2 : w.heap.size + 1 + 1 = g2 at *
    generalize hg1 : w.heap.size + 1 = g1 at *
    clear hg1 hg2 hg3
    refine ⟨trivial, (callsIn_wide.2 HH.out).mono ?_⟩
    rintro e w2 ⟨rfl, hb2⟩
    have hN2 := hNb.below hb2
    have hB2 := hB1.trans (hb2.mono hB1.size)
    have e2 := hN2.b2.cell 0
    have e3 := hN2.b3.cell 0
    have f2 := hN2.b2.frozen 0
    have f3 := hN2.b3.frozen 0
    simp only [List.getElem?_cons_zero] at e2 e3
    have hne : g3 ≠ g2 := by have := hN2.l3; omega
    gi_wp2
    have hN4 := hN2.set23 0 q
    have e4 := hN4.b2.cell 0
    have e5 := hN4.b3.cell 0
    simp only [List.getElem?_cons_zero] at e4 e5
    refine ⟨.tuple #[.int .i64 0, .int .i64 q], ?_, rfl, below_set23 hB2 (by have := hN2.l0; have := hN2.l1; have := hN2.l2; omega) (by have := hN2.l0; have := hN2.l1; have := hN2.l2; have := hN2.l3; omega) _ _⟩
    simp [results, Tryd.f23, go_sem, e4, e5]
end Go.Proofs.YtlafjmghfnlaoacDoor
