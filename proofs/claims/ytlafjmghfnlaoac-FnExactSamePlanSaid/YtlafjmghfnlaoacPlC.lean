/-
  Words on plans; the size of a plan.
-/
import Derived.Test.YtlafjmghfnlaoacSt4
namespace Go.Proofs.Ytlafjmghfnlaoac
open Go.RowKit

def anyF : Nat → (Nat → Bool) → Bool
  | 0, _ => false
  | n + 1, p => anyF n p || p n
theorem anyF_false {n : Nat} {p : Nat → Bool} (h : ∀ i, i < n → p i = false) : anyF n p = false := by
  induction n with
  | zero => rfl
  | succ n ih => simp [anyF, ih (fun i hi => h i (by omega)), h n (by omega)]
theorem anyF_true {n : Nat} {p : Nat → Bool} {k : Nat} (hk : k < n) (h : p k = true) : anyF n p = true := by
  induction n with
  | zero => omega
  | succ n ih =>
    by_cases e : k = n
    · subst e; simp [anyF, h]
    · simp [anyF, ih (by omega)]
theorem anyF_congr {n : Nat} {p q : Nat → Bool} (h : ∀ i, i < n → p i = q i) : anyF n p = anyF n q := by
  induction n with
  | zero => rfl
  | succ n ih => simp [anyF, ih (fun i hi => h i (by omega)), h n (by omega)]
def nthS (ds : List SD) (i : Nat) : St := (ds.map SD.s).getD i ⟨0, 0, 0, []⟩
theorem nthS_get {ds : List SD} {i : Nat} (h : i < ds.length) : nthS ds i = ds[i].s := by simp [nthS, h]
theorem nthS_sts {xs ys : List SD} (h : sts xs = sts ys) (i : Nat) : nthS xs i = nthS ys i := by
  unfold nthS
  have : xs.map SD.s = ys.map SD.s := h
  rw [this]
def PlI (ds : List SD) : Prop := ∀ d ∈ ds, I64' d.s.n
theorem len_sts {xs ys : List SD} (h : sts xs = sts ys) : xs.length = ys.length := by
  have := congrArg List.length h
  simpa [sts] using this
theorem PlI.sts {xs ys : List SD} (h : PlI xs) (he : sts ys = sts xs) : PlI ys := by
  intro d hd
  have h1 : d.s ∈ Go.Proofs.Ytlafjmghfnlaoac.sts ys := List.mem_map_of_mem hd
  rw [he] at h1
  obtain ⟨e, h2, h3⟩ := List.mem_map.1 h1
  rw [← h3]
  exact h e h2
theorem leftS_neg {ds : List SD} : ∀ {x : Int}, 0 ≤ x → leftS x ds < 0 → leftS x ds = -1 := by
  induction ds with
  | nil => intro x h0 h; unfold leftS at h; omega
  | cons d ds ih =>
    intro x h0 h
    unfold leftS at h ⊢
    by_cases hc : x - d.s.tp.length < 0
    · rw [if_pos hc]
    · rw [if_neg hc] at h ⊢
      exact ih (by omega) h
theorem lessS_neg {ds : List SD} {x : Int} (h : lessS x ds < 0) : lessS x ds = -1 := by
  unfold lessS at h ⊢
  by_cases hc : x - ds.length < 0
  · rw [if_pos hc]
  · rw [if_neg hc] at h ⊢
    exact leftS_neg (by omega) h
set_option maxRecDepth 20000 in
set_option maxHeartbeats 400000 in
theorem szPlan_is (A : Option Addr) (c : Nat) (ds : List SD) (w : World) (hr : RdS w w.heap.size A ds) (hn : ds.length ≤ maxLen) :
    Calls Try.prog 28 #[plV A ds.length c, .int .i64 1048576] w fun e w' => e = .returned (.int .i64 (lessS 1048576 ds)) ∧ Below w.heap.size w w' := by
  unfold plV
  go_enter Try.func28, Try.ntmps28
  go_wp2_with fail
  refine (szSteps_ok A c ds 1048576 _ ((hr.below (below_box w _) (Nat.le_refl _)).more (by rw [alloc_size]; omega)) hn ⟨by omega, by omega⟩).mono ?_
  rintro e w2 ⟨rfl, hb2⟩
  have hB2 : Below w.heap.size w w2 := (below_box w _).trans (hb2.mono (by rw [alloc_size]; omega))
  go_wp2
  · have h : lessS 1048576 ds < 0 := by assumption
    go_ret
    exact ⟨ret_int (lessS_neg h).symm, hB2⟩
  · go_ret
    exact ⟨rfl, hB2⟩
end Go.Proofs.Ytlafjmghfnlaoac
