/- The law of the uses, run: it answers true, whatever ladder is drawn. Conditions: none. -/
import Derived.Test.YtacfoamnbdlmpaaDoorVU2
import Derived.Test.YtacfoamnbdlmpaaDoorVQ13

namespace Go.VM
set_option linter.unusedSimpArgs false
set_option linter.unusedVariables false
set_option maxHeartbeats 16000000

theorem rungs_uses (a : Arg) : ∀ l : List Arm, (∀ m ∈ l, m.wrong true = 0) → armsUses a (armsNorm l) = armsUses a l
  | [], h => by simp [armsNorm]
  | m :: r, h => by simp only [armsNorm, armsUses, arm_uses a true m (h m (List.mem_cons_self ..)), rungs_uses a r fun k hk => h k (List.mem_cons_of_mem _ hk)]
theorem rungsWrong_nn : ∀ l : List Arm, 0 ≤ rungsWrong l
  | [] => by simp [rungsWrong]
  | a :: r => by
    have h1 := Arm.wrong_or true a
    have h2 := rungsWrong_nn r
    simp only [rungsWrong]; split <;> omega
theorem rungs_wt : ∀ l : List Arm, (∀ m ∈ l, m.wrong true = 0) → armsWt (armsNorm l) ≤ armsWt l
  | [], h => by simp [armsNorm]
  | m :: r, h => by
    have h1 := (arm_norm_ok true m (h m (List.mem_cons_self ..))).2.2.2
    have h2 := rungs_wt r fun k hk => h k (List.mem_cons_of_mem _ hk)
    simp only [armsNorm, armsWt]; omega

theorem loop103 {n : Nat} (L Y : List Arm) (a : Arg) (b7 : Nat) (w1 : ∀ s, go n 108 [.w (ksW L)] [] s = some ⟨.w (ksW Y), [], []⟩) (w2 : ∀ (b : Arg) s, go n 113 [.w (ksW Y), argX b] [] s = some ⟨iV (armsUses b Y), [], []⟩) (w3 : ∀ (b : Arg) s, go n 114 [.w (ksW L), argX b] [] s = some ⟨iV (armsUses b L), [], []⟩)
    (heq : ∀ b, armsUses b Y = armsUses b L) (hn : 8 < n) (st : St) (h5 : st.τ 5 = .w (ksW L)) (h7 : st.τ 7 = .w (.ptr b7 0)) (h8 : st.τ 8 = iV 0) (hB : st.H b7 = aBox a) (hg : b7 < st.g) :
    ∃ e st', execC (go n) mode GT false 58 n F103_L0 st = some (e, st') ∧ e ≠ .normal ∧ (e = .exit 0 ∧ st'.τ 5 = .w (ksW L) ∧ st'.τ 7 = .w (.ptr b7 0) ∧ st'.H b7 = aBox a ∧ b7 < st'.g) := by
  rw [F103_L0, execC_loop]
  refine iter_rule (fun k st => ∃ i, i + k = 8 ∧ st.τ 5 = .w (ksW L) ∧ st.τ 7 = .w (.ptr b7 0) ∧ st.τ 8 = iV i ∧ st.H b7 = aBox a ∧ b7 < st.g) ?_ n 8 st hn ⟨0, by omega, h5, h7, by simpa using h8, hB, hg⟩
  clear h5 h7 h8 hB hg
  rintro k ⟨τ, H, g, s⟩ ⟨i, hk, h5, h7, h8, hB, hg⟩
  simp only at h5 h7 h8 hB hg
  cases k with
  | zero =>
    have hi : i = 8 := by omega
    subst hi
    refine ⟨.exit 0, ?_⟩
    simp [F103_B0, h5, h7, h8, hB]
    try omega
  | succ k =>
    have hlt : ((i : Int) < 8) = True := eq_true (by omega)
    have hltn : (i < 8) = True := eq_true (by omega)
    have hw := wrap_succ (i := i) (by omega)
    have hw1 : IntKind.wrap .i64 (1 + (i : Int)) = 1 + (i : Int) := wrap_id (by omega) (by omega)
    have v2 := w2 ⟨1 + (i : Int), a.n, 0⟩
    have v3 := w3 ⟨1 + (i : Int), a.n, 0⟩
    rw [heq] at v2
    obtain ⟨fz1, fz2, fz3, fz4, fz5, fz6, fz7, fz8, fz9, fz10, fz11, fz12, fz13, fz14, fz15, fz16, fz17, fz18, fz19, fz20, fz21, fz22, fz23, fz24⟩ := far (show b7 < g by omega)
    have lq1 : ∀ x : Nat, (b7 < g + x) = True := fun x => eq_true (by omega)
    have lq2 : ∀ x y : Nat, (b7 < g + x + y) = True := fun x y => eq_true (by omega)
    refine ⟨.normal, ?_⟩
    simp [F103_B0, h5, h7, h8, hB, hlt, hltn, hw, hw1, w1, v2, v3, lq1, lq2, fz1, fz2, fz3, fz4, fz5, fz6, fz7, fz8, fz9, fz10, fz11, fz12, fz13, fz14, fz15, fz16, fz17, fz18, fz19, fz20, fz21, fz22, fz23, fz24]
    exact ⟨k, by omega, i + 1, by omega, by omega, by omega⟩

theorem run_lawNormUses (st st2 : Nat) (l l2 : List Int) (n : Nat) (hn : 100000 ≤ n) (L L2 : List Arm) (a : Arg) (hL : armsWt L ≤ 20000)
    (hd : ¬ 1048576 < l.length → ∀ s, go n 111 [.w (bW st l)] [] s = some ⟨.w (ksW L), [], []⟩)
    (hd2 : ¬ 1048576 < l2.length → ∀ s, go n 112 [.w (bW st2 l2)] [] s = some ⟨.tup [(false, [ksW L2]), (true, [iW a.k, iW a.n, iW a.p])], [], []⟩) (s : Sup) :
    go (n + 1) 103 [.w (bW st l), .w (bW st2 l2)] [] s = some ⟨bV true, [], []⟩ := by
  by_cases hl : 1048576 < l.length
  · have hli : ((1048576 : Int) < (l.length : Int)) = True := eq_true (by omega)
    simp [go_of FT_103 rfl, F103, hl, hli]
  have hli : ((1048576 : Int) < (l.length : Int)) = False := eq_false (by omega)
  by_cases hl2 : 1048576 < l2.length
  · have hli2 : ((1048576 : Int) < (l2.length : Int)) = True := eq_true (by omega)
    simp [go_of FT_103 rfl, F103, hl, hli, hl2, hli2]
  have hli2 : ((1048576 : Int) < (l2.length : Int)) = False := eq_false (by omega)
  have hd := hd hl
  have hd2 := hd2 hl2
  obtain ⟨r, hr⟩ := Classical.skolem.1 fun s => run_TreeCheckS L (by omega) n (by omega) s
  have w1 := fun s => (hr s).2
  have w2 := run_NormMake L (by omega) n (by omega)
  by_cases hcode : treeCode L = 0
  · have hright : ∀ m ∈ L, m.wrong true = 0 := by
      unfold treeCode at hcode
      split at hcode
      · simp at hcode
      · exact (rungsWrong_all L).1 hcode
    rw [if_pos hcode] at w2
    rw [hcode] at w1
    have hwt := rungs_wt L hright
    have heq := fun b => rungs_uses b L hright
    have w3 := fun (b : Arg) s => run_TreeUses113 20000 (armsNorm L) b (by omega) (by omega) n (by omega) s
    have w4 := fun (b : Arg) s => run_TreeUses114 20000 L b (by omega) (by omega) n (by omega) s
    generalize armsNorm L = Y at w2 w3 heq
    have v3 := w3 a
    have v4 := w4 a
    rw [heq] at v3
    simp [go_of FT_103 rfl, F103, hl, hli, hl2, hli2, hd, hd2, w1]
    generalize hst : St.mk _ _ _ _ = st0
    obtain ⟨e1, ⟨τ1, H1, g1, s1⟩, hx1, -, rfl, f5, f7, fB, fg⟩ := loop103 (n := n) L Y a 1088 w2 w3 w4 heq (by omega) st0 (by simp [← hst]) (by simp [← hst]) (by simp [← hst]) (by simp [← hst]) (by simp [← hst])
    simp only at f5 f7 fB fg
    clear hst
    have lq1 : ∀ x : Nat, (1088 < g1 + x) = True := fun x => eq_true (by omega)
    have lq2 : ∀ x y : Nat, (1088 < g1 + x + y) = True := fun x y => eq_true (by omega)
    have lq3 : ∀ m : Nat, m ≤ 1088 → (m < g1) = True := fun m h => eq_true (by omega)
    simp [hx1, f5, f7, fB, fg, w2, v3, v4, lq1, lq2, lq3]
  · have hcp : (0 : Int) < treeCode L := by
      unfold treeCode at hcode ⊢
      split
      · omega
      · rename_i h
        rw [if_neg h] at hcode
        have := rungsWrong_nn L
        omega
    have hcpi := eq_true hcp
    rw [if_neg hcode] at w2
    generalize treeCode L = c at w1 hcpi
    simp [go_of FT_103 rfl, F103, hl, hli, hl2, hli2, hd, hd2, w1, w2, hcpi, armRows]

end Go.VM
