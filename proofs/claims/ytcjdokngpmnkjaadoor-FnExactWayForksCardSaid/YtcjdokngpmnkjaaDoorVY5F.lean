/- How many bits and forks a whole ladder wants, reckoned. Conditions: none. -/
import Derived.Test.YtcjdokngpmnkjaaDoorVY2
import Derived.Test.YtcjdokngpmnkjaaDoorVZ11
import Derived.Test.YtcjdokngpmnkjaaDoorVLY

namespace Go.VM
set_option linter.unusedSimpArgs false
set_option linter.unusedVariables false
set_option maxHeartbeats 16000000

theorem forks_fold (l : List Arm) : ∀ a : Nat, l.foldl (fun m x => max m x.forks) a = max a (forksOf l) := by
  induction l with
  | nil => intro a; simp [forksOf]
  | cons x r ih => intro a; rw [List.foldl_cons, ih]; simp only [forksOf, List.foldr_cons]; omega
def normOf (l : List Arm) : List Arm := if treeCode l = 0 then armsNorm l else []
theorem normOf_wt (l : List Arm) : armsWt (normOf l) ≤ armsWt l := by
  unfold normOf
  split
  · rename_i h
    exact (rungs_ok l (treeCode_right h)).2.2
  · simp [armsWt]
theorem run_normMake (l : List Arm) (hm : armsWt l < 2 ^ 25) (n : Nat) (hn : 5 * armsWt l + 300 ≤ n) (s : Sup) : go n 108 [.w (ksW l)] [] s = some ⟨.w (ksW (normOf l)), [], []⟩ := run_NormMake l (by omega) n (by omega) s
theorem run_normMakeS (l : List Arm) (hm : armsWt l < 2 ^ 25) (n : Nat) (hn : 5 * armsWt l + 300 ≤ n) (s : Sup) : go n 208 [.w (ksW l)] [] s = some ⟨.w (ksW (normOf l)), [], []⟩ := by
  obtain ⟨n, rfl⟩ : ∃ k, n = k + 1 := ⟨n - 1, by omega⟩
  exact run_NormMakeS_of l (by omega) (by omega) (fun hc x hx s => run_l9Arm (armsWt l) x (armsWt_mem hx) (by omega) true (treeCode_right hc x hx) n (by omega) s) s

theorem loop283_0 {n : Nat} (l : List Arm) (hc : ∀ x ∈ l, ∀ s, go n 309 [armX x] [] s = some ⟨iV ((x.forks : Nat) : Int), [], []⟩) (a0 : Nat) (hn : l.length < n) (hl : l.length < 2 ^ 40) (st : St) (h7 : st.τ 7 = .w (ksW l)) (h8 : st.τ 8 = iV l.length) (ha : st.τ 3 = iV a0) (hi : st.τ 9 = iV 0) :
    ∃ e st', execC (go n) mode GT false 19 n F283_L0 st = some (e, st') ∧ e ≠ .normal ∧ (e = .exit 0 ∧ st'.τ 3 = iV ((l.foldl (fun m x => max m (x.forks)) a0 : Nat) : Int)) := by
  rw [F283_L0, execC_loop]
  refine iter_rule (fun m st => ∃ i, i + m = l.length ∧ st.τ 7 = .w (ksW l) ∧ st.τ 8 = iV l.length ∧ st.τ 3 = iV (((l.take i).foldl (fun m x => max m (x.forks)) a0 : Nat) : Int) ∧ st.τ 9 = iV i) ?_ n l.length st hn ⟨0, by omega, h7, h8, by simpa using ha, by simpa using hi⟩
  clear h7 h8 ha hi
  rintro m ⟨τ, H, g, s⟩ ⟨i, hm, h7, h8, ha, hi⟩
  simp only at h7 h8 ha hi
  cases m with
  | zero =>
    have : i = l.length := by omega
    subst this
    rw [List.take_length] at ha
    refine ⟨.exit 0, ?_⟩
    simp [F283_B0, h7, h8, ha, hi]
  | succ m =>
    have hlt : i < l.length := by omega
    have hlt' : ((i : Int) < (l.length : Int)) = True := eq_true (by omega)
    have hgt := List.getElem?_eq_getElem hlt
    have hmem := List.getElem_mem hlt
    have hw := wrap_succ (i := i) (by omega)
    have hstep : ∀ y, l[i]? = some y → (l.take (i + 1)).foldl (fun m x => max m (x.forks)) a0 = max ((l.take i).foldl (fun m x => max m (x.forks)) a0) ((fun x => x.forks) y) := fun y hy => by rw [List.take_add_one, hy, List.foldl_append]; rfl
    obtain ⟨xk, xo, xa, xns, xcs, xks, hx⟩ : ∃ xk xo xa xns xcs xks, l[i] = .mk (.mk xk xo xa xns) xcs xks := by
      cases hq : l[i] with | mk nn cs ks => cases nn; exact ⟨_, _, _, _, _, _, rfl⟩
    have w := hc _ hmem
    rw [hx] at hgt w
    have hstep := hstep _ hgt
    have hrow := armRows_get hgt
    generalize (l.take i).foldl (fun m x => max m (x.forks)) a0 = A at ha hstep
    refine ⟨.normal, ?_⟩
    simp [-getElem?_pos, F283_B0, h7, h8, ha, hi, hlt, hlt', hrow, hw, mx, mx', w]
    refine ⟨m, by omega, i + 1, by omega, ?_⟩
    rw [hstep]
    repeat' apply And.intro
    all_goals first | rfl | (simp; done) | omega | assumption | (simp only; omega)

theorem loop304_0 {n : Nat} (l : List Arm) (hc : ∀ x ∈ l, ∀ s, go n 334 [armX x] [] s = some ⟨iV ((x.forks : Nat) : Int), [], []⟩) (a0 : Nat) (hn : l.length < n) (hl : l.length < 2 ^ 40) (st : St) (h3 : st.τ 3 = .w (ksW l)) (ha : st.τ 4 = iV a0) (hi : st.τ 5 = iV 0) :
    ∃ e st', execC (go n) mode GT false 22 n F304_L0 st = some (e, st') ∧ e ≠ .normal ∧ (e = .exit 0 ∧ st'.τ 4 = iV ((l.foldl (fun m x => max m (x.forks)) a0 : Nat) : Int)) := by
  rw [F304_L0, execC_loop]
  refine iter_rule (fun m st => ∃ i, i + m = l.length ∧ st.τ 3 = .w (ksW l) ∧ st.τ 4 = iV (((l.take i).foldl (fun m x => max m (x.forks)) a0 : Nat) : Int) ∧ st.τ 5 = iV i) ?_ n l.length st hn ⟨0, by omega, h3, by simpa using ha, by simpa using hi⟩
  clear h3 ha hi
  rintro m ⟨τ, H, g, s⟩ ⟨i, hm, h3, ha, hi⟩
  simp only at h3 ha hi
  cases m with
  | zero =>
    have : i = l.length := by omega
    subst this
    rw [List.take_length] at ha
    refine ⟨.exit 0, ?_⟩
    simp [F304_B0, h3, ha, hi]
  | succ m =>
    have hlt : i < l.length := by omega
    have hlt' : ((i : Int) < (l.length : Int)) = True := eq_true (by omega)
    have hgt := List.getElem?_eq_getElem hlt
    have hmem := List.getElem_mem hlt
    have hw := wrap_succ (i := i) (by omega)
    have hstep : ∀ y, l[i]? = some y → (l.take (i + 1)).foldl (fun m x => max m (x.forks)) a0 = max ((l.take i).foldl (fun m x => max m (x.forks)) a0) ((fun x => x.forks) y) := fun y hy => by rw [List.take_add_one, hy, List.foldl_append]; rfl
    obtain ⟨xk, xo, xa, xns, xcs, xks, hx⟩ : ∃ xk xo xa xns xcs xks, l[i] = .mk (.mk xk xo xa xns) xcs xks := by
      cases hq : l[i] with | mk nn cs ks => cases nn; exact ⟨_, _, _, _, _, _, rfl⟩
    have w := hc _ hmem
    rw [hx] at hgt w
    have hstep := hstep _ hgt
    have hrow := armRows_get hgt
    have wg := fun a b s => run_greater (n := n - 1) a b s
    rw [show n - 1 + 1 = n by omega] at wg
    generalize (l.take i).foldl (fun m x => max m (x.forks)) a0 = A at ha hstep
    refine ⟨.normal, ?_⟩
    simp [-getElem?_pos, F304_B0, h3, ha, hi, hlt, hlt', hrow, hw, mx, mx', w, wg]
    refine ⟨m, by omega, i + 1, by omega, ?_⟩
    rw [hstep]
    repeat' apply And.intro
    all_goals first | rfl | (simp; done) | omega | assumption | (simp only; omega)

theorem run_WayForks (l : List Arm) (hm : armsWt l < 2 ^ 25) (n : Nat) (hn : 6 * armsWt l + 400 ≤ n) (s : Sup) : go n 283 [.w (ksW l)] [] s = some ⟨iV ((forksOf (normOf l) : Nat) : Int), [], []⟩ := by
  obtain ⟨n, rfl⟩ : ∃ k, n = k + 1 := ⟨n - 1, by omega⟩
  have w1 := run_normMake l hm n (by omega)
  have hw := normOf_wt l
  generalize normOf l = Y at w1 hw ⊢
  have hlen := armsWt_len Y
  have e0 := forks_fold Y 0
  rw [Nat.zero_max] at e0
  rw [← e0]
  simp [go_of (n := n) FT_283 rfl, F283, w1]
  generalize hst : St.mk _ _ _ _ = st
  obtain ⟨e, ⟨τ', H', g', s'⟩, hx, -, rfl, h3⟩ := loop283_0 (n := n) Y (fun x hx s => run_forks (armsWt Y) x (armsWt_mem hx) (by omega) n (by omega) s) 0 (by omega) (by omega) st (by simp [← hst]) (by simp [← hst]) (by simp [← hst]) (by simp [← hst])
  simp only at h3
  clear hst
  simp [hx, h3]
theorem run_WayForksS (l : List Arm) (hm : armsWt l < 2 ^ 25) (n : Nat) (hn : 6 * armsWt l + 400 ≤ n) (s : Sup) : go n 304 [.w (ksW l)] [] s = some ⟨iV ((forksOf (normOf l) : Nat) : Int), [], []⟩ := by
  obtain ⟨n, rfl⟩ : ∃ k, n = k + 1 := ⟨n - 1, by omega⟩
  have w1 := run_normMakeS l hm n (by omega)
  have hw := normOf_wt l
  generalize normOf l = Y at w1 hw ⊢
  have hlen := armsWt_len Y
  have e0 := forks_fold Y 0
  rw [Nat.zero_max] at e0
  rw [← e0]
  simp [go_of (n := n) FT_304 rfl, F304, w1]
  generalize hst : St.mk _ _ _ _ = st
  obtain ⟨e, ⟨τ', H', g', s'⟩, hx, -, rfl, h3⟩ := loop304_0 (n := n) Y (fun x hx s => run_l14Forks (armsWt Y) x (armsWt_mem hx) (by omega) n (by omega) s) 0 (by omega) (by omega) st (by simp [← hst]) (by simp [← hst]) (by simp [← hst])
  simp only at h3
  clear hst
  simp [hx, h3]

end Go.VM

/- How many bits a whole ladder wants, reckoned. Conditions: none. -/
namespace Go.VM
set_option linter.unusedSimpArgs false
set_option linter.unusedVariables false
set_option maxHeartbeats 16000000

end Go.VM

/- The law 'WayForks is exact', run: it answers true. Conditions: none. -/
namespace Go.VM
set_option linter.unusedSimpArgs false
set_option linter.unusedVariables false
set_option maxHeartbeats 4000000

theorem run_lawExactWayForks (l : List Arm) (hf : dFits (.l 0 (armRows l))) (s : Sup) : go (6 * armsWt l + 1000) 351 [.w (ksW l)] [] s = some ⟨bV true, [], []⟩ := by
  obtain ⟨n, hn⟩ : ∃ k, 6 * armsWt l + 1000 = k + 1 := ⟨6 * armsWt l + 999, by omega⟩
  rw [hn]
  have w0 := sz_arms (armsWt l) l (Nat.le_refl _) hf n (by omega) 1048576 (by omega)
  rw [show ((1048576 : Nat) : Int) = 1048576 from rfl] at w0
  by_cases hK : armsD l ≤ 1048576
  · simp only [szV, if_pos hK] at w0
    have hW := arms_W l
    have hlt : armsWt l ≤ 2 ^ 21 := by simp only [armsD] at hK; omega
    generalize 1048576 - armsD l = T at w0
    have hT : ((T : Int) < 0) = False := eq_false (by omega)
    have w1 := to_arms (armsWt l) l (Nat.le_refl _) (by omega) n (by omega)
    have w2 := run_WayForksS l (by omega) n (by omega)
    have w3 := run_WayForks l (by omega) n (by omega)
    have w4 := same_arms (armsWt l) l (Nat.le_refl _) (by omega) n (by omega)
    generalize forksOf (normOf l) = u at w2 w3
    simp [go_of (n := n) FT_351 rfl, F351, w0, w1, w2, w3, w4, hT]
  · simp only [szV, if_neg hK] at w0
    simp [go_of (n := n) FT_351 rfl, F351, w0]
end Go.VM
