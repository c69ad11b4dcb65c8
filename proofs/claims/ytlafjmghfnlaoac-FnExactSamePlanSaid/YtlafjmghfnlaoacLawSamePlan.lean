/-
  For every two plans: FnExactSamePlan returns true, and the plans read behind the call as they read before. No condition.
-/
import Derived.Test.YtlafjmghfnlaoacSameI
import Derived.Test.YtlafjmghfnlaoacEndPC
import Derived.Test.YtlafjmghfnlaoacNgc
import Derived.Test.YtlafjmghfnlaoacEnd
namespace Go.Proofs.Ytlafjmghfnlaoac.lawSamePlan
open Go.Proofs.Ytlafjmghfnlaoac Go.ChangeShapes Go.WideShapes Go.RowKit

/-- a copy of a plan in memory of its own -/
def PlC (ds : List SD) (v : Value) (w : World) : Prop := ∃ g es, v = plV (some ⟨g, 0, none⟩) ds.length ds.length ∧ sts es = sts ds ∧ RdS w w.heap.size (some ⟨g, 0, none⟩) es
theorem PlC.gr {ds : List SD} {v : Value} {w w' : World} (h : PlC ds v w) (hg : Gr w w') : PlC ds v w' := by
  obtain ⟨g, es, e, hs, hk⟩ := h
  exact ⟨g, es, e, hs, (hk.below hg (Nat.le_refl _)).more (Below.size hg)⟩
theorem rd_unique {w : World} {B : Nat} {A : Option Addr} {xs ys : List Int} (h : Rd w B A (is64 xs)) (k : Rd w B A (is64 ys)) (hl : xs.length = ys.length) : xs = ys := by
  apply List.ext_getElem hl
  intro i h1 h2
  obtain ⟨b, off, rfl, _, hc⟩ := h.ints (by omega)
  obtain ⟨b2, off2, e, _, hc2⟩ := k.ints (by omega)
  cases e
  have e1 := hc i h1
  rw [hc2 i h2] at e1
  have e2 : nthI ys i = nthI xs i := by simpa using e1
  simp [nthI, h1, h2] at e2
  exact e2.symm
theorem rdS_unique {w : World} {B : Nat} {A : Option Addr} {xs ys : List SD} (h : RdS w B A xs) (k : RdS w B A ys) (hl : xs.length = ys.length) : sts xs = sts ys := by
  unfold sts
  apply List.ext_getElem (by simpa using hl)
  intro i h1 h2
  have h1' : i < xs.length := by simpa using h1
  have h2' : i < ys.length := by simpa using h2
  obtain ⟨b, off, rfl, _, hc⟩ := h.open_ (by omega)
  obtain ⟨b2, off2, e, _, hc2⟩ := k.open_ (by omega)
  cases e
  obtain ⟨a0, a1, a2, a3⟩ := hc i _ (List.getElem?_eq_getElem h1')
  obtain ⟨b0, b1, b2, b3⟩ := hc2 i _ (List.getElem?_eq_getElem h2')
  have hx := (h.2 _ (List.getElem_mem h1')).1
  have hy := (k.2 _ (List.getElem_mem h2')).1
  simp only [List.getElem_map]
  generalize xs[i] = x at *
  generalize ys[i] = y at *
  rw [b0] at a0
  rw [b1] at a1
  rw [b2] at a2
  rw [b3] at a3
  obtain ⟨⟨kx, nx, qx, tx⟩, Ax, cx⟩ := x
  obtain ⟨⟨ky, ny, qy, ty⟩, Ay, cy⟩ := y
  simp only [Option.some.injEq, Value.int.injEq, Value.slice.injEq, true_and] at a0 a1 a2 a3 hx hy
  obtain ⟨e1, e2, e3⟩ := a3
  subst e1
  have := rd_unique hx hy e2.symm
  subst this
  rw [a0, a1, a2]
theorem PlC.sts {xs ys : List SD} {v : Value} {w : World} (h : PlC xs v w) (he : Go.Proofs.Ytlafjmghfnlaoac.sts xs = Go.Proofs.Ytlafjmghfnlaoac.sts ys) : PlC ys v w := by
  obtain ⟨g, es, e, hs, hk⟩ := h
  exact ⟨g, es, by rw [e, len_sts he], hs.trans he, hk⟩
/-- what a copy of one of two plans is -/
def CopyRel (xs ys : List SD) (A B : Option Addr) (c d : Nat) (args : Array Value) (v : Value) (w : World) : Prop :=
  (args = #[plV A xs.length c] → PlC xs v w) ∧ (args = #[plV B ys.length d] → PlC ys v w)
set_option maxRecDepth 20000 in
set_option maxHeartbeats 400000 in
theorem szPlan_at (A : Option Addr) (c : Nat) (ds : List SD) (left : Int) (w : World) (hr : RdS w w.heap.size A ds) (hn : ds.length ≤ maxLen) (hl : 0 ≤ left ∧ left ≤ 1048576) :
    Calls Try.prog 28 #[plV A ds.length c, .int .i64 left] w fun e w' => e = .returned (.int .i64 (lessS left ds)) ∧ Below w.heap.size w w' := by
  unfold plV
  go_enter Try.func28, Try.ntmps28
  go_wp2_with fail
  refine (szSteps_ok A c ds left _ ((hr.below (below_box w _) (Nat.le_refl _)).more (by rw [alloc_size]; omega)) hn hl).mono ?_
  rintro e w2 ⟨rfl, hb2⟩
  have hB2 : Below w.heap.size w w2 := (below_box w _).trans (hb2.mono (by rw [alloc_size]; omega))
  go_wp2
  · have h : lessS left ds < 0 := by assumption
    go_ret
    exact ⟨ret_int (lessS_neg h).symm, hB2⟩
  · go_ret
    exact ⟨rfl, hB2⟩
theorem leftS_le {ds : List SD} : ∀ {x : Int}, leftS x ds ≤ x ∨ leftS x ds = -1 := by
  induction ds with
  | nil => intro x; exact .inl (Int.le_refl _)
  | cons d ds ih =>
    intro x
    unfold leftS
    split
    · exact .inr rfl
    · rcases ih (x := x - d.s.tp.length) with h | h
      · exact .inl (by omega)
      · exact .inr h
theorem lessS_le {ds : List SD} {x : Int} (h : 0 ≤ lessS x ds) : lessS x ds ≤ x := by
  unfold lessS at h ⊢
  split
  · rename_i hc; rw [if_pos hc] at h; omega
  · rename_i hc
    rw [if_neg hc] at h
    rcases leftS_le (x := x - ds.length) (ds := ds) with h1 | h1
    · omega
    · omega
set_option maxRecDepth 20000 in
set_option maxHeartbeats 400000 in
theorem walk0 (xs ys : List SD) (A B : Option Addr) (c d : Nat) (W : World) (hr : RdS W W.heap.size A xs) (hmx : xs.length ≤ maxLen) (hs : RdS W W.heap.size B ys) (hmy : ys.length ≤ maxLen) :
    Calls Try.prog 5 #[plV A xs.length c, plV B ys.length d] W fun e w' => e = .returned (.bool true) ∧ Below W.heap.size W w' := by
  have hO : Below W.heap.size W ((W.alloc (.cells #[.slice A xs.length c] 52)).alloc (.cells #[.slice B ys.length d] 52)) := below_box2 _ _ _
  have hSz : ((W.alloc (.cells #[.slice A xs.length c] 52)).alloc (.cells #[.slice B ys.length d] 52)).heap.size = W.heap.size + 2 := size2 _ _ _
  have hka : Bk ((W.alloc (.cells #[.slice A xs.length c] 52)).alloc (.cells #[.slice B ys.length d] 52)) W.heap.size 52 [.slice A xs.length c] := (Bk.new W 52 #[.slice A xs.length c]).below (below_box _ _) (by rw [alloc_size]; omega)
  have hkb : Bk ((W.alloc (.cells #[.slice A xs.length c] 52)).alloc (.cells #[.slice B ys.length d] 52)) (W.heap.size + 1) 52 [.slice B ys.length d] := by
    have := Bk.new (W.alloc (.cells #[.slice A xs.length c] 52)) 52 #[.slice B ys.length d]
    rw [alloc_size] at this
    exact this
  by_cases hx : lessS 1048576 xs < 0
  · have H := szPlan_at A c xs 1048576 _ ((hr.below hO (Nat.le_refl _)).more hO.size) hmx ⟨by omega, by omega⟩
    unfold plV at H ⊢
    go_enter Try.func5, Try.ntmps5
    go_wp2_with fail
    refine H.mono ?_
    rintro e w2 ⟨rfl, hb2⟩
    go_wp2
    go_ret
    exact ⟨rfl, hO.trans (hb2.mono (by rw [hSz]; omega))⟩
  have hfx : Fits xs := fits_of (left := 1048576) (by omega) (by omega)
  have hx1 : decide (lessS 1048576 xs < 0) = false := decide_eq_false hx
  have hle := lessS_le (x := 1048576) (ds := xs) (by omega)
  have H := szPlan_at A c xs 1048576 _ ((hr.below hO (Nat.le_refl _)).more hO.size) hmx ⟨by omega, by omega⟩
  have H2 := fun w (hh : RdS w w.heap.size B ys) => szPlan_at B d ys (lessS 1048576 xs) w hh hmy ⟨by omega, hle⟩
  by_cases hy : lessS (lessS 1048576 xs) ys < 0
  · unfold plV at H H2 ⊢
    have HX := hid H
    have HX2 := hid H2
    clear H H2
    go_enter Try.func5, Try.ntmps5
    go_wp2_with fail
    refine HX.out.mono ?_
    rintro e w2 ⟨rfl, hb2⟩
    have hB2 := hO.trans (hb2.mono (by rw [hSz]; omega))
    have q1 := (hkb.below hb2 (by rw [hSz]; omega)).cell 0
    simp only [List.getElem?_cons_zero] at q1
    go_wp2_with fail
    refine (HX2.out w2 ((hs.below hB2 (Nat.le_refl _)).more hB2.size)).mono ?_
    rintro e w3 ⟨rfl, hb3⟩
    go_wp2
    go_ret
    exact ⟨rfl, hB2.trans (hb3.mono hB2.size)⟩
  have hfy : Fits ys := fits_of (left := lessS 1048576 xs) (by omega) (by omega)
  have hy1 : decide (lessS (lessS 1048576 xs) ys < 0) = false := decide_eq_false hy
  unfold plV at H H2
  have HX := hid H
  have HX2 := hid H2
  clear H H2 hle
  generalize lessS (lessS 1048576 xs) ys = x2 at *
  generalize lessS 1048576 xs = x1 at *
  unfold plV
  go_enter Try.func5, Try.ntmps5
  go_wp2_with fail
  refine HX.out.mono ?_
  rintro e w2 ⟨rfl, hb2⟩
  have hB2 := hO.trans (hb2.mono (by rw [hSz]; omega))
  have hka2 := hka.below hb2 (by rw [hSz]; omega)
  have hkb2 := hkb.below hb2 (by rw [hSz]; omega)
  have q0 := hka2.cell 0
  have q1 := hkb2.cell 0
  simp only [List.getElem?_cons_zero] at q0 q1
  go_wp2_with fail
  refine (HX2.out w2 ((hs.below hB2 (Nat.le_refl _)).more hB2.size)).mono ?_
  rintro e w3 ⟨rfl, hb3⟩
  have hB3 := hB2.trans (hb3.mono hB2.size)
  have hka3 := hka2.below hb3 hka2.lt
  have hkb3 := hkb2.below hb3 hkb2.lt
  have r0 := hka3.cell 0
  have r1 := hkb3.cell 0
  have l0 := hka3.lt
  have l1 := hkb3.lt
  simp only [List.getElem?_cons_zero] at r0 r1
  clear q0 q1 hx1 hy1
  have T : ∀ wq zs C e, Below W.heap.size W wq → RdS W W.heap.size C zs → Fits zs → Calls Try.prog 30 #[plV C zs.length e] wq fun e w8 => ∃ v, e = .returned v ∧ PlC zs v w8 ∧ Gr wq w8 := fun wq zs C e hBq hz hf => by
    refine (toPlan_ok C e zs wq ((hz.below hBq (Nat.le_refl _)).more hBq.size) hf).mono ?_
    rintro e w8 ⟨g, es, rfl, he, hg, hb⟩
    exact ⟨_, rfl, ⟨g, es, rfl, he, hg⟩, hb⟩
  have T1 : ∀ wq, Gr w3 wq → Calls Try.prog 30 #[plV A xs.length c] wq fun e w8 => ∃ v, e = .returned v ∧ CopyRel xs ys A B c d #[.agg #[.slice A xs.length c]] v w8 ∧ Gr wq w8 := fun wq hq => by
    refine (T wq xs A c (hB3.trans (Below.mono hq hB3.size)) hr hfx).mono ?_
    rintro e w8 ⟨v, rfl, hp, hg⟩
    refine ⟨v, rfl, ⟨fun _ => hp, fun e => ?_⟩, hg⟩
    simp [plV] at e
    obtain ⟨rfl, e2, _⟩ := e
    exact hp.sts (rdS_unique hr hs e2)
  have T2 : ∀ wq, Gr w3 wq → Calls Try.prog 30 #[plV B ys.length d] wq fun e w8 => ∃ v, e = .returned v ∧ CopyRel xs ys A B c d #[.agg #[.slice B ys.length d]] v w8 ∧ Gr wq w8 := fun wq hq => by
    refine (T wq ys B d (hB3.trans (Below.mono hq hB3.size)) hs hfy).mono ?_
    rintro e w8 ⟨v, rfl, hp, hg⟩
    refine ⟨v, rfl, ⟨fun e => ?_, fun _ => hp⟩, hg⟩
    simp [plV] at e
    obtain ⟨rfl, e2, _⟩ := e
    exact hp.sts (rdS_unique hs hr e2)
  have Q0 : ∀ wq g es g' es', sts es = sts xs → RdS wq wq.heap.size (some ⟨g, 0, none⟩) es → sts es' = sts ys → RdS wq wq.heap.size (some ⟨g', 0, none⟩) es' → Calls Try.prog 29 #[plV (some ⟨g, 0, none⟩) xs.length xs.length, plV (some ⟨g', 0, none⟩) ys.length ys.length] wq fun e w8 => ∃ v, e = .returned v ∧ v = .bool (sAll xs ys) ∧ Gr wq w8 := fun wq g es g' es' he hk he' hk' => by
    have := specSame_ok (some ⟨g, 0, none⟩) (some ⟨g', 0, none⟩) xs.length ys.length es es' wq hk hk' (fits_sts hfx he) (fits_sts hfy he')
    rw [len_sts he, len_sts he', sAll_sts he he'] at this
    refine this.mono ?_
    rintro e w8 ⟨rfl, hb⟩
    exact ⟨_, rfl, rfl, hb⟩
  unfold plV at T1 T2 Q0
  have HQ0 := hid Q0
  clear Q0
  have HT1 := hid T1
  have HT2 := hid T2
  clear T1 T2
  go_wp2_with fail
  refine wp_region_g' (fun f args _ v w'' => (f = 30 → CopyRel xs ys A B c d args v w'') ∧ (f = 29 → v = .bool (sAll xs ys))) (by kernel_rfl) (by kernel_rfl) (by kernel_rfl) ?_
  refine g_step (by rintro d ⟨⟩ w <;> first | trivial | simp) (fun K hK => ?_)
  go_simp
  first
  | (refine hK _ ?_; clear hK K)
  | (refine g_in (fun wq hwq holdq hfq => ?_); go_simp; refine hK _ ?_; clear hK K)
  refine g_factc 30 (PlC xs) rfl (by rintro d ⟨⟩ w <;> first | trivial | simp) rfl (fun K hK wq hwq holdq hfq => ?_)
  go_simp
  refine ⟨HT1.out wq hwq, fun v w2 hv hg2 => ⟨fun w3 hg3 => ?_, hK _ _ ?_⟩⟩
  · exact (hv.1 rfl).gr hg3
  clear hK K
  refine g_step (by rintro d ⟨⟩ w <;> first | trivial | simp) (fun K hK => ?_)
  go_simp
  first
  | (refine hK _ ?_; clear hK K)
  | (refine g_in (fun wq hwq holdq hfq => ?_); go_simp; refine hK _ ?_; clear hK K)
  refine g_factc 30 (PlC ys) rfl (by rintro d ⟨⟩ w <;> first | trivial | simp) rfl (fun K hK wq hwq holdq hfq => ?_)
  go_simp
  refine ⟨HT2.out wq hwq, fun v w2 hv hg2 => ⟨fun w3 hg3 => ?_, hK _ _ ?_⟩⟩
  · exact (hv.2 rfl).gr hg3
  clear hK K
  refine g_step (by rintro d ⟨⟩ w <;> first | trivial | simp) (fun K hK => ?_)
  go_simp
  refine g_in (fun wq hwq holdq hfq => ?_)
  go_simp
  obtain ⟨g4, es4, rfl, he4, hk4⟩ := (hfq 21 (by decide)).1 rfl
  obtain ⟨g5, es5, rfl, he5, hk5⟩ := (hfq 23 (by decide)).2 rfl
  refine ⟨HQ0.out wq g4 es4 g5 es5 he4 hk4 he5 hk5, fun v w2 hv hg => ?_⟩
  subst hv
  refine hK _ ?_
  clear hK K
  repeat (refine g_step (by rintro d ⟨⟩ w <;> first | trivial | simp) (fun K hK => ?_); go_simp; first | (refine hK _ ?_; clear hK K) | (refine g_in (fun wq hwq holdq hfq => ?_); go_simp; first | (refine hK _ ?_; clear hK K)))
  refine g_nil (fun w4 hg4 => ?_)
  have hB4 := hB3.trans (Below.mono hg4 hB3.size)
  have hka4 := hka3.below hg4 hka3.lt
  have hkb4 := hkb3.below hg4 hkb3.lt
  have s0 := hka4.cell 0
  have m0 := hka4.lt
  simp only [List.getElem?_cons_zero] at s0
  clear r0 r1 l0 l1
  go_wp2_with fail
  refine (toPlan_ok A c xs w4 ((hr.below hB4 (Nat.le_refl _)).more hB4.size) hfx).mono ?_
  rintro e w5 ⟨g6, es6, rfl, hes6, hrs6, hb5⟩
  have hB5 := hB4.trans (hb5.mono hB4.size)
  have hka5 := hka4.below hb5 hka4.lt
  have hkb5 := hkb4.below hb5 hkb4.lt
  unfold plV
  have hx6 : Below w5.heap.size w5 (w5.alloc (.cells #[.slice (some ⟨g6, 0, none⟩) xs.length xs.length] 57)) := below_box _ _
  have hB6 := hB5.trans (hx6.mono hB5.size)
  have hkp6 := Bk.new w5 57 #[.slice (some ⟨g6, 0, none⟩) xs.length xs.length]
  have hkb6 := hkb5.below hx6 hkb5.lt
  have hka6 := hka5.below hx6 hka5.lt
  have hrs6' := (hrs6.below hx6 (Nat.le_refl _)).more hx6.size
  have t1 := hkb6.cell 0
  have n1 := hkb6.lt
  simp only [List.getElem?_cons_zero] at t1
  clear s0 m0
  have H6 := toPlan_ok B d ys _ ((hs.below hB6 (Nat.le_refl _)).more hB6.size) hfy
  unfold plV at H6
  have HH6 := hid H6
  clear H6
  go_wp2_with fail
  generalize w5.alloc (.cells #[.slice (some ⟨g6, 0, none⟩) xs.length xs.length] 57) = w6 at *
  refine HH6.out.mono ?_
  rintro e w7 ⟨g7, es7, rfl, hes7, hrs7, hb7⟩
  have hB7 := hB6.trans (hb7.mono hB6.size)
  have hx8 : Below w7.heap.size w7 (w7.alloc (.cells #[.slice (some ⟨g7, 0, none⟩) ys.length ys.length] 57)) := below_box _ _
  have hB8 := hB7.trans (hx8.mono hB7.size)
  have hkp8 := (hkp6.below hb7 hkp6.lt).below hx8 (hkp6.below hb7 hkp6.lt).lt
  have hkq8 := Bk.new w7 57 #[.slice (some ⟨g7, 0, none⟩) ys.length ys.length]
  have hka8 := (hka6.below hb7 hka6.lt).below hx8 (hka6.below hb7 hka6.lt).lt
  have hkb8 := (hkb6.below hb7 hkb6.lt).below hx8 (hkb6.below hb7 hkb6.lt).lt
  have hrs8 := (((hrs6'.below hb7 (Nat.le_refl _)).more hb7.size).below hx8 (Nat.le_refl _)).more hx8.size
  have hrt8 := (hrs7.below hx8 (Nat.le_refl _)).more hx8.size
  have u0 := hkp8.cell 0
  have u1 := hkp8.lt
  simp only [List.getElem?_cons_zero] at u0
  clear t1 n1
  have H8 := implSame_ok (some ⟨g6, 0, none⟩) (some ⟨g7, 0, none⟩) xs.length ys.length es6 es7 _ hrs8 hrt8 (fits_sts hfx hes6) (fits_sts hfy hes7)
  rw [len_sts hes6, len_sts hes7, sAll_sts hes6 hes7] at H8
  unfold plV at H8
  have HH8 := hid H8
  clear H8
  go_wp2_with fail
  generalize w7.alloc (.cells #[.slice (some ⟨g7, 0, none⟩) ys.length ys.length] 57) = w8 at *
  refine HH8.out.mono ?_
  rintro e w9 ⟨rfl, hb9⟩
  have hB9 := hB8.trans (hb9.mono hB8.size)
  have hkp9 := hkp8.below hb9 hkp8.lt
  have hkq9 := hkq8.below hb9 hkq8.lt
  have hka9 := hka8.below hb9 hka8.lt
  have hkb9 := hkb8.below hb9 hkb8.lt
  have hrs9 := (hrs8.below hb9 (Nat.le_refl _)).more hb9.size
  have hrt9 := (hrt8.below hb9 (Nat.le_refl _)).more hb9.size
  have v0 := hkp9.cell 0
  have v1 := hka9.cell 0
  have v2 := hkp9.lt
  have v3 := hka9.lt
  simp only [List.getElem?_cons_zero] at v0 v1
  clear u0 u1
  go_wp2_with fail
  have HT := hid (show ∀ wq, Gr w9 wq → Calls Try.prog 30 #[.agg #[.slice A xs.length c]] wq fun e w8 => ∃ v, e = .returned v ∧ PlC xs v w8 ∧ Gr wq w8 from fun wq hq => T wq xs A c (hB9.trans (Below.mono hq hB9.size)) hr hfx)
  have HQ := hid (show ∀ wq g es, Gr w9 wq → sts es = sts xs → RdS wq wq.heap.size (some ⟨g, 0, none⟩) es → Calls Try.prog 32 #[.agg #[.slice (some ⟨g6, 0, none⟩) xs.length xs.length], .agg #[.slice (some ⟨g, 0, none⟩) xs.length xs.length]] wq fun e w8 => ∃ v, e = .returned v ∧ v = .bool true ∧ Gr wq w8 from fun wq g es hq he hg => by
    refine (eqPlan_ok (some ⟨g6, 0, none⟩) (some ⟨g, 0, none⟩) _ _ xs.length es6 es wq ((hrs9.below hq (Nat.le_refl _)).more (Below.size hq)) hg (fits_sts hfx hes6) (fits_sts hfx he) (hes6.trans he.symm) (len_sts hes6) (len_sts he)).mono ?_
    rintro e w8 ⟨rfl, hb⟩
    exact ⟨_, rfl, rfl, hb⟩)
  refine wp_region_g' (fun f _ _ v w'' => (f = 30 → PlC xs v w'') ∧ (f = 32 → v = .bool true)) (by kernel_rfl) (by kernel_rfl) (by kernel_rfl) ?_
  refine g_step (by rintro d ⟨⟩ w <;> first | trivial | simp) (fun K hK => ?_)
  go_simp
  first
  | (refine hK _ ?_; clear hK K)
  | (refine g_in (fun wq hwq holdq hfq => ?_); go_simp; refine hK _ ?_; clear hK K)
  refine g_step (by rintro d ⟨⟩ w <;> first | trivial | simp) (fun K hK => ?_)
  go_simp
  first
  | (refine hK _ ?_; clear hK K)
  | (refine g_in (fun wq hwq holdq hfq => ?_); go_simp; refine hK _ ?_; clear hK K)
  refine g_factc 30 (PlC xs) rfl (by rintro d ⟨⟩ w <;> first | trivial | simp) rfl (fun K hK wq hwq holdq hfq => ?_)
  go_simp
  refine ⟨HT.out wq hwq, fun v w2 hv hg2 => ⟨fun w3 hg3 => ?_, hK _ _ ?_⟩⟩
  · exact hv.gr hg3
  clear hK K
  refine g_step (by rintro d ⟨⟩ w <;> first | trivial | simp) (fun K hK => ?_)
  go_simp
  refine g_in (fun wq hwq holdq hfq => ?_)
  go_simp
  obtain ⟨g8, es8, rfl, he8, hk8⟩ := hfq 37 (by decide) rfl
  refine ⟨HQ.out wq g8 es8 hwq he8 hk8, fun v w2 hv hg => ?_⟩
  subst hv
  refine hK _ ?_
  clear hK K
  repeat (refine g_step (by rintro d ⟨⟩ w <;> first | trivial | simp) (fun K hK => ?_); go_simp; first | (refine hK _ ?_; clear hK K) | (refine g_in (fun wq hwq holdq hfq => ?_); go_simp; first | (refine hK _ ?_; clear hK K)))
  refine g_nil (fun wa hgwa => ?_)
  clear HT HQ
  have hBa := hB9.trans (Below.mono hgwa hB9.size)
  have hkqa := hkq9.below hgwa hkq9.lt
  have hkba := hkb9.below hgwa hkb9.lt
  have hrta := (hrt9.below hgwa (Nat.le_refl _)).more (Below.size hgwa)
  have y0 := hkqa.cell 0
  have y1 := hkba.cell 0
  have y2 := hkqa.lt
  have y3 := hkba.lt
  simp only [List.getElem?_cons_zero] at y0 y1
  clear v0 v1 v2 v3
  go_wp2_with fail
  have HT := hid (show ∀ wq, Gr wa wq → Calls Try.prog 30 #[.agg #[.slice B ys.length d]] wq fun e w8 => ∃ v, e = .returned v ∧ PlC ys v w8 ∧ Gr wq w8 from fun wq hq => T wq ys B d (hBa.trans (Below.mono hq hBa.size)) hs hfy)
  have HQ := hid (show ∀ wq g es, Gr wa wq → sts es = sts ys → RdS wq wq.heap.size (some ⟨g, 0, none⟩) es → Calls Try.prog 32 #[.agg #[.slice (some ⟨g7, 0, none⟩) ys.length ys.length], .agg #[.slice (some ⟨g, 0, none⟩) ys.length ys.length]] wq fun e w8 => ∃ v, e = .returned v ∧ v = .bool true ∧ Gr wq w8 from fun wq g es hq he hg => by
    refine (eqPlan_ok (some ⟨g7, 0, none⟩) (some ⟨g, 0, none⟩) _ _ ys.length es7 es wq ((hrta.below hq (Nat.le_refl _)).more (Below.size hq)) hg (fits_sts hfy hes7) (fits_sts hfy he) (hes7.trans he.symm) (len_sts hes7) (len_sts he)).mono ?_
    rintro e w8 ⟨rfl, hb⟩
    exact ⟨_, rfl, rfl, hb⟩)
  refine wp_region_g' (fun f _ _ v w'' => (f = 30 → PlC ys v w'') ∧ (f = 32 → v = .bool true)) (by kernel_rfl) (by kernel_rfl) (by kernel_rfl) ?_
  refine g_step (by rintro d ⟨⟩ w <;> first | trivial | simp) (fun K hK => ?_)
  go_simp
  first
  | (refine hK _ ?_; clear hK K)
  | (refine g_in (fun wq hwq holdq hfq => ?_); go_simp; refine hK _ ?_; clear hK K)
  refine g_step (by rintro d ⟨⟩ w <;> first | trivial | simp) (fun K hK => ?_)
  go_simp
  first
  | (refine hK _ ?_; clear hK K)
  | (refine g_in (fun wq hwq holdq hfq => ?_); go_simp; refine hK _ ?_; clear hK K)
  refine g_factc 30 (PlC ys) rfl (by rintro d ⟨⟩ w <;> first | trivial | simp) rfl (fun K hK wq hwq holdq hfq => ?_)
  go_simp
  refine ⟨HT.out wq hwq, fun v w2 hv hg2 => ⟨fun w3 hg3 => ?_, hK _ _ ?_⟩⟩
  · exact hv.gr hg3
  clear hK K
  refine g_step (by rintro d ⟨⟩ w <;> first | trivial | simp) (fun K hK => ?_)
  go_simp
  refine g_in (fun wq hwq holdq hfq => ?_)
  go_simp
  obtain ⟨g8, es8, rfl, he8, hk8⟩ := hfq 42 (by decide) rfl
  refine ⟨HQ.out wq g8 es8 hwq he8 hk8, fun v w2 hv hg => ?_⟩
  subst hv
  refine hK _ ?_
  clear hK K
  repeat (refine g_step (by rintro d ⟨⟩ w <;> first | trivial | simp) (fun K hK => ?_); go_simp; first | (refine hK _ ?_; clear hK K) | (refine g_in (fun wq hwq holdq hfq => ?_); go_simp; first | (refine hK _ ?_; clear hK K)))
  refine g_nil (fun wb hgwb => ?_)
  clear HT HQ
  go_wp2
  go_ret
  exact ⟨rfl, hBa.trans (Below.mono hgwb hBa.size)⟩
theorem walk (xs : List SD) (A : Option Addr) (c : Nat) (ys : List SD) (B : Option Addr) (d : Nat) (W : World) (hr : RdS W W.heap.size A xs) (hmx : xs.length ≤ maxLen) (hs : RdS W W.heap.size B ys) (hmy : ys.length ≤ maxLen) :
    Calls Try.prog 5 #[plV A xs.length c, plV B ys.length d] W fun e w' => e = .returned (.bool true) ∧ Below W.heap.size W w' := walk0 xs ys A B c d W hr hmx hs hmy
theorem own : ownKnob Try.prog.godebug = none := by kernel_rfl
theorem laidOut : laidOutB Try.prog = true := by kernel_rfl
theorem params_ok : ∀ t ∈ Try.f5.params.toList, Try.prog.readableRec t = true ∧ t < Try.prog.types.size := by
  have h : (Try.f5.params.toList.all fun t => Try.prog.readableRec t && decide (t < Try.prog.types.size)) = true := by kernel_rfl
  intro t ht
  have := List.all_eq_true.1 h t ht
  simpa using this
set_option maxRecDepth 100000 in
theorem lifted (os : Os) (started : os.Started) (H : Type) (enc : TypeId × Value → H) :
    ReturnsInHanded {} Try.checked os 5 .any (Rows.fnExactSamePlanSpec.pre6 enc Try.prog Try.f5 Rows.fnExactSamePlanRow.domain false) (Rows.fnExactSamePlanSpec.post enc Try.prog Try.f5 false true false false) := by
  refine returnsInHanded_of_change (C := Try.checked) own started (by kernel_rfl) Try.func5
    (ChangeSpec.witness6 (enc := enc) (C := Try.checked) false ⟨#[], #[.agg #[.slice none 0 0], .agg #[.slice none 0 0]], []⟩ 8 (by kernel_rfl) (by kernel_rfl) (by kernel_rfl) (by kernel_rfl)) ?_
  intro W base args ds gs before hval0 hW _ _
  have hval : ∀ (j : Nat) t v, Try.f5.params[j]? = some t → args[j]? = some v → Value.okWide Try.prog W .any base t v := hval0
  have hW' := hW
  obtain ⟨p, q, hA0, hV, rfl, hfz, hnd⟩ := hW
  have hA : DataW.TrodAll enc Try.prog W 0 (fun _ => true) true Try.f5.params.toList args.toList ds p := hA0
  rw [Try.params5] at hA hval
  obtain ⟨v0, vs0, d0, ds0, p0, q0, hargs, rfl, rfl, h0, r0⟩ := trodAll_cons hA
  obtain ⟨v1, vs1, d1, ds1, p1, q1, rfl, rfl, rfl, h1, r1⟩ := trodAll_cons r0
  obtain ⟨rfl, rfl, rfl⟩ := trodAll_nil r1
  obtain rfl : args = #[v0, v1] := by cases args; simp_all
  obtain ⟨ds0x, A0, c0, rfl, hr0, hm0, hI0⟩ := open_plan (hval 0 52 v0 rfl rfl) h0
  obtain ⟨ds1x, A1, c1, rfl, hr1, hm1, hI1⟩ := open_plan (hval 1 52 v1 rfl rfl) h1
  refine (walk ds0x A0 c0 ds1x A1 c1 W hr0 hm0 hr1 hm1).mono fun e W' ⟨he, hb⟩ => ?_
  exact ⟨_, he, law_post laidOut params_ok rfl Try.underlying4 rfl rfl hW' hb⟩

theorem proved : Rows.FnExactSamePlanSaid :=
  OpenClaim.holds_of_wide 5 Try.f5 rfl rfl rfl rfl rfl rfl rfl ⟨rfl, rfl, rfl, rfl, rfl⟩ rfl rfl rfl rfl rfl (by kernel_rfl) Try.func5 (by kernel_rfl)
    (of_decide_eq_true (by kernel_rfl)) (by unfold Func.isWrapper; rw [if_neg (of_decide_eq_false (by kernel_rfl))]; exact ⟨rfl, rfl⟩)
    (fun os started H enc _ => lifted os started H enc)
end Go.Proofs.Ytlafjmghfnlaoac.lawSamePlan
