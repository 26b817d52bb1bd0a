/- How many bits and forks a ladder wants, reckoned. Conditions: none. -/
import Derived.Test.YtcjdokngpmnkjaaDoorVQ13
import Derived.Test.YtcjdokngpmnkjaaDoorVW1

namespace Go.VM
set_option linter.unusedSimpArgs false
set_option linter.unusedVariables false
set_option maxHeartbeats 16000000

theorem mx (a b : Nat) : (if (a : Int) < (b : Int) then (b : Int) else (a : Int)) = ((max a b : Nat) : Int) := by split <;> omega
theorem mx' (a b : Nat) : (if a < b then (b : Int) else (a : Int)) = ((max a b : Nat) : Int) := by split <;> omega
/-- Forks: the kids' forks, one more for each but the last. -/
def fkF (N : Nat) (l : List Arm) (i : Nat) : Nat := match l[i]? with | some a => if i + 1 < N then a.forks + 1 else a.forks | none => 0
theorem armsForks_snoc : ∀ (l : List Arm) (N : Nat), N = l.length → (List.range N).foldl (fun m i => max m (fkF N l i)) 0 = armsForks l := by
  have key : ∀ (l pre : List Arm) (a : Nat), (List.range' pre.length l.length).foldl (fun m i => max m (fkF (pre.length + l.length) (pre ++ l) i)) a = max a (armsForks l) := by
    intro l
    induction l with
    | nil => intro pre a; simp [armsForks]
    | cons x r ih =>
      intro pre a
      have h := ih (pre ++ [x]) (max a (fkF (pre.length + (x :: r).length) (pre ++ x :: r) pre.length))
      simp only [List.length_append, List.length_cons, List.length_nil, Nat.zero_add, List.append_assoc, List.singleton_append] at h
      rw [show pre.length + (x :: r).length = pre.length + 1 + r.length by simp only [List.length_cons]; omega]
      simp only [List.length_cons, List.range'_succ, List.foldl_cons]
      rw [show pre.length + (r.length + 1) = pre.length + 1 + r.length by omega] at h
      rw [h]
      have e : fkF (pre.length + 1 + r.length) (pre ++ x :: r) pre.length = if r.length = 0 then x.forks else x.forks + 1 := by
        unfold fkF
        simp only [List.getElem?_append_right (Nat.le_refl _), Nat.sub_self, List.getElem?_cons_zero]
        by_cases h0 : r.length = 0
        · rw [if_neg (by omega), if_pos h0]
        · rw [if_pos (by omega), if_neg h0]
      rw [e]
      simp only [armsForks]
      omega
  intro l N hN
  subst hN
  have := key l [] 0
  simp only [List.length_nil, Nat.zero_add, List.nil_append] at this
  rw [List.range_eq_range', this]
  omega
mutual
theorem Arm.forks_wt : ∀ a : Arm, a.forks ≤ a.wt
  | .mk n cs ks => by have := armsForks_wt ks; simp only [Arm.forks, Arm.wt]; omega
theorem armsForks_wt : ∀ l : List Arm, armsForks l ≤ armsWt l + 1
  | [] => by simp [armsForks]
  | a :: r => by
    have h1 := a.forks_wt
    have h2 := armsForks_wt r
    simp only [armsForks, armsWt]
    split <;> omega
end
theorem loop309 {n : Nat} (l : List Arm) (c0 c1 c2 c3 c4 : W) (hc : ∀ x ∈ l, ∀ s, go n 309 [armX x] [] s = some ⟨iV ((x.forks : Nat) : Int), [], []⟩) (hw : armsWt l < 2 ^ 38) (hn : l.length < n) (hl : l.length < 2 ^ 40) (st : St) (h1 : st.τ 1 = .w (.ptr 0 0)) (h8 : st.τ 8 = .w (ksW l)) (h9 : st.τ 9 = iV l.length) (hA : st.H 0 = .cells [c0, c1, c2, c3, c4, ksW l]) (hg : 0 < st.g) (ha : st.τ 3 = iV 0) (hi : st.τ 10 = iV 0) :
    ∃ e st', execC (go n) mode GT false 30 n F309_L0 st = some (e, st') ∧ e ≠ .normal ∧ (e = .exit 0 ∧ st'.τ 3 = iV ((armsForks l : Nat) : Int)) := by
  rw [F309_L0, execC_loop]
  refine iter_rule (fun m st => ∃ i, i + m = l.length ∧ st.τ 1 = .w (.ptr 0 0) ∧ st.τ 8 = .w (ksW l) ∧ st.τ 9 = iV l.length ∧ st.H 0 = .cells [c0, c1, c2, c3, c4, ksW l] ∧ 0 < st.g ∧ st.τ 3 = iV (((List.range i).foldl (fun m i => max m (fkF l.length l i)) 0 : Nat) : Int) ∧ st.τ 10 = iV i) ?_ n l.length st hn ⟨0, by omega, h1, h8, h9, hA, hg, by simpa using ha, by simpa using hi⟩
  clear h1 h8 h9 hA hg ha hi
  rintro m ⟨τ, H, g, s⟩ ⟨i, hm, h1, h8, h9, hA, hg, ha, hi⟩
  simp only at h1 h8 h9 hA hg ha hi
  cases m with
  | zero =>
    have : i = l.length := by omega
    subst this
    rw [armsForks_snoc l _ rfl] at ha
    refine ⟨.exit 0, ?_⟩
    simp [F309_B0, h8, h9, ha, hi]
  | succ m =>
    have hlt : i < l.length := by omega
    have hlt' : ((i : Int) < (l.length : Int)) = True := eq_true (by omega)
    have hgt := List.getElem?_eq_getElem hlt
    have hmem := List.getElem_mem hlt
    have hwi := wrap_succ (i := i) (by omega)
    have hwt := armsWt_mem hmem
    have w := hc _ hmem
    have hfw := (l[i]).forks_wt
    have hstep : (List.range (i + 1)).foldl (fun m i => max m (fkF l.length l i)) 0 = max ((List.range i).foldl (fun m i => max m (fkF l.length l i)) 0) (fkF l.length l i) := by
      rw [List.range_succ, List.foldl_append]; rfl
    have hfk : fkF l.length l i = if i + 1 < l.length then (l[i]).forks + 1 else (l[i]).forks := by unfold fkF; rw [hgt]
    obtain ⟨xk, xo, xa, xns, xcs, xks, hx⟩ : ∃ xk xo xa xns xcs xks, l[i] = .mk (.mk xk xo xa xns) xcs xks := by
      cases hq : l[i] with | mk nn cs ks => cases nn; exact ⟨_, _, _, _, _, _, rfl⟩
    rw [hx] at hgt w hfw hwt hfk
    have hrow := armRows_get hgt
    generalize Arm.forks (.mk (.mk xk xo xa xns) xcs xks) = F at w hfw hfk
    generalize (List.range i).foldl (fun m i => max m (fkF l.length l i)) 0 = A at ha hstep
    have hsub : IntKind.i64.wrap ((l.length : Int) - 1) = (l.length : Int) - 1 := wrap_id (by omega) (by omega)
    have zX := far hg
    refine ⟨.normal, ?_⟩
    by_cases hlast : i + 1 < l.length
    · have hli : ((i : Int) < (l.length : Int) - 1) = True := eq_true (by omega)
      rw [if_pos hlast] at hfk
      have hwF := wrap_succ (i := F) (by omega)
      simp [-getElem?_pos, F309_B0, h1, h8, h9, hA, ha, hi, hlt, hlt', hrow, w, hwi, hsub, hli, hwF, zX]
      refine ⟨m, by omega, i + 1, by omega, ?_⟩
      rw [hstep, hfk]
      repeat' apply And.intro
      all_goals first | rfl | (simp; done) | omega | assumption | (simp only; omega) | skip
    · have hli : ((i : Int) < (l.length : Int) - 1) = False := eq_false (by omega)
      rw [if_neg hlast] at hfk
      simp [-getElem?_pos, F309_B0, h1, h8, h9, hA, ha, hi, hlt, hlt', hrow, w, hwi, hsub, hli, mx, mx', zX]
      refine ⟨m, by omega, i + 1, by omega, ?_⟩
      rw [hstep, hfk]
      repeat' apply And.intro
      all_goals first | rfl | (simp; done) | omega | assumption | (simp only; omega) | skip

theorem run_forks : ∀ (m : Nat) (a : Arm), a.wt ≤ m → m < 2 ^ 37 → ∀ (n : Nat), 2 * m + 10 ≤ n → ∀ s, go n 309 [armX a] [] s = some ⟨iV ((a.forks : Nat) : Int), [], []⟩
  | 0, a, h, hm, n, hn, s => by have := a.wt_pos; omega
  | m + 1, .mk (.mk k op ars nks) cs ks, h, hm, n, hn, s => by
    obtain ⟨n, rfl⟩ : ∃ k, n = k + 1 := ⟨n - 1, by omega⟩
    have hnp := (Net.mk k op ars nks).wt_pos
    simp only [Arm.wt] at h
    have hlen := armsWt_len ks
    have hc : ∀ x ∈ ks, ∀ s, go n 309 [armX x] [] s = some ⟨iV ((x.forks : Nat) : Int), [], []⟩ := fun x hx s => run_forks m x (by have := armsWt_mem hx; omega) (by omega) n (by omega) s
    simp only [Arm.forks]
    simp [go_of (n := n) FT_309 rfl, F309]
    generalize hst : St.mk _ _ _ _ = st
    obtain ⟨e, ⟨τ', H', g', s'⟩, hx, -, rfl, h3⟩ := loop309 (n := n) ks (iW k) (iW op) (asW ars) (nsW nks) (csW cs) hc (by omega) (by omega) (by omega) st (by simp [← hst]) (by simp [← hst]) (by simp [← hst]) (by simp [← hst]) (by simp [← hst]) (by simp [← hst]) (by simp [← hst])
    simp only at h3
    clear hst
    simp [hx, h3]
theorem run_greater {n : Nat} (a b : Nat) (s : Sup) : go (n + 1) 294 [iV (a : Int), iV (b : Int)] [] s = some ⟨iV ((max a b : Nat) : Int), [], []⟩ := by
  by_cases h : b < a
  · have e : max a b = a := by omega
    simp [go_of FT_294 rfl, F294, h, e]
  · have e : max a b = b := by omega
    simp [go_of FT_294 rfl, F294, h, e]

theorem loop334 {n : Nat} (l : List Arm) (c0 c1 c2 c3 c4 : W) (hc : ∀ x ∈ l, ∀ s, go n 334 [armX x] [] s = some ⟨iV ((x.forks : Nat) : Int), [], []⟩) (hw : armsWt l < 2 ^ 38) (h1n : 1 ≤ n) (hn : l.length < n) (hl : l.length < 2 ^ 40) (st : St) (h1 : st.τ 1 = .w (.ptr 0 0)) (h4 : st.τ 4 = iV l.length) (hA : st.H 0 = .cells [c0, c1, c2, c3, c4, ksW l]) (hg : 0 < st.g) (ha : st.τ 3 = iV 0) (hi : st.τ 5 = iV 0) :
    ∃ e st', execC (go n) mode GT false 31 n F334_L0 st = some (e, st') ∧ e ≠ .normal ∧ (e = .exit 0 ∧ st'.τ 3 = iV ((armsForks l : Nat) : Int)) := by
  rw [F334_L0, execC_loop]
  refine iter_rule (fun m st => ∃ i, i + m = l.length ∧ st.τ 1 = .w (.ptr 0 0) ∧ st.τ 4 = iV l.length ∧ st.H 0 = .cells [c0, c1, c2, c3, c4, ksW l] ∧ 0 < st.g ∧ st.τ 3 = iV (((List.range i).foldl (fun m i => max m (fkF l.length l i)) 0 : Nat) : Int) ∧ st.τ 5 = iV i) ?_ n l.length st hn ⟨0, by omega, h1, h4, hA, hg, by simpa using ha, by simpa using hi⟩
  clear h1 h4 hA hg ha hi
  rintro m ⟨τ, H, g, s⟩ ⟨i, hm, h1, h4, hA, hg, ha, hi⟩
  simp only at h1 h4 hA hg ha hi
  cases m with
  | zero =>
    have : i = l.length := by omega
    subst this
    rw [armsForks_snoc l _ rfl] at ha
    refine ⟨.exit 0, ?_⟩
    simp [F334_B0, h4, ha, hi]
  | succ m =>
    have hlt : i < l.length := by omega
    have hlt' : ((i : Int) < (l.length : Int)) = True := eq_true (by omega)
    have hgt := List.getElem?_eq_getElem hlt
    have hmem := List.getElem_mem hlt
    have hwi := wrap_succ (i := i) (by omega)
    have hwt := armsWt_mem hmem
    have w := hc _ hmem
    have hfw := (l[i]).forks_wt
    have wg := fun a b s => run_greater (n := n - 1) a b s
    rw [show n - 1 + 1 = n by omega] at wg
    have hstep : (List.range (i + 1)).foldl (fun m i => max m (fkF l.length l i)) 0 = max ((List.range i).foldl (fun m i => max m (fkF l.length l i)) 0) (fkF l.length l i) := by
      rw [List.range_succ, List.foldl_append]; rfl
    have hfk : fkF l.length l i = if i + 1 < l.length then (l[i]).forks + 1 else (l[i]).forks := by unfold fkF; rw [hgt]
    obtain ⟨xk, xo, xa, xns, xcs, xks, hx⟩ : ∃ xk xo xa xns xcs xks, l[i] = .mk (.mk xk xo xa xns) xcs xks := by
      cases hq : l[i] with | mk nn cs ks => cases nn; exact ⟨_, _, _, _, _, _, rfl⟩
    rw [hx] at hgt w hfw hwt hfk
    have hrow := armRows_get hgt
    generalize Arm.forks (.mk (.mk xk xo xa xns) xcs xks) = F at w hfw hfk
    generalize (List.range i).foldl (fun m i => max m (fkF l.length l i)) 0 = A at ha hstep
    have hsub : IntKind.i64.wrap ((l.length : Int) - 1) = (l.length : Int) - 1 := wrap_id (by omega) (by omega)
    have zX := far hg
    refine ⟨.normal, ?_⟩
    by_cases hlast : i + 1 < l.length
    · have hli : ((i : Int) < (l.length : Int) - 1) = True := eq_true (by omega)
      rw [if_pos hlast] at hfk
      have hwF := wrap_succ (i := F) (by omega)
      have wg1 := wg A (F + 1)
      have ec : ((F + 1 : Nat) : Int) = (F : Int) + 1 := by omega
      rw [ec] at wg1
      rw [ec] at hwF
      simp [-getElem?_pos, F334_B0, h1, h4, hA, ha, hi, hlt, hlt', hrow, w, wg1, hwi, hsub, hli, hwF, zX]
      refine ⟨m, by omega, i + 1, by omega, ?_⟩
      rw [hstep, hfk]
      repeat' apply And.intro
      all_goals first | rfl | (simp; done) | omega | assumption | (simp only; omega)
    · have hli : ((i : Int) < (l.length : Int) - 1) = False := eq_false (by omega)
      rw [if_neg hlast] at hfk
      simp [-getElem?_pos, F334_B0, h1, h4, hA, ha, hi, hlt, hlt', hrow, w, wg, hwi, hsub, hli, zX]
      refine ⟨m, by omega, i + 1, by omega, ?_⟩
      rw [hstep, hfk]
      repeat' apply And.intro
      all_goals first | rfl | (simp; done) | omega | assumption | (simp only; omega)
theorem run_l14Forks : ∀ (m : Nat) (a : Arm), a.wt ≤ m → m < 2 ^ 37 → ∀ (n : Nat), 2 * m + 10 ≤ n → ∀ s, go n 334 [armX a] [] s = some ⟨iV ((a.forks : Nat) : Int), [], []⟩
  | 0, a, h, hm, n, hn, s => by have := a.wt_pos; omega
  | m + 1, .mk (.mk k op ars nks) cs ks, h, hm, n, hn, s => by
    obtain ⟨n, rfl⟩ : ∃ k, n = k + 1 := ⟨n - 1, by omega⟩
    have hnp := (Net.mk k op ars nks).wt_pos
    simp only [Arm.wt] at h
    have hlen := armsWt_len ks
    have hc : ∀ x ∈ ks, ∀ s, go n 334 [armX x] [] s = some ⟨iV ((x.forks : Nat) : Int), [], []⟩ := fun x hx s => run_l14Forks m x (by have := armsWt_mem hx; omega) (by omega) n (by omega) s
    simp only [Arm.forks]
    simp [go_of (n := n) FT_334 rfl, F334]
    generalize hst : St.mk _ _ _ _ = st
    obtain ⟨e, ⟨τ', H', g', s'⟩, hx, -, rfl, h3⟩ := loop334 (n := n) ks (iW k) (iW op) (asW ars) (nsW nks) (csW cs) hc (by omega) (by omega) (by omega) (by omega) st (by simp [← hst]) (by simp [← hst]) (by simp [← hst]) (by simp [← hst]) (by simp [← hst]) (by simp [← hst])
    simp only at h3
    clear hst
    simp [hx, h3]

end Go.VM
