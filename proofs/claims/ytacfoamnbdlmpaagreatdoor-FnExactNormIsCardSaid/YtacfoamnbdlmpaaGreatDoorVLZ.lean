/- The law 'NormIs is exact', run: it answers true. Conditions: none. -/
import Derived.Test.YtacfoamnbdlmpaaGreatDoorVLA
import Derived.Test.YtacfoamnbdlmpaaGreatDoorVZB

namespace Go.VM
set_option linter.unusedSimpArgs false
set_option linter.unusedVariables false
set_option maxHeartbeats 4000000

theorem eqB_comm {α : Type} (a b : α) : eqB a b = eqB b a := by
  by_cases h : a = b
  · rw [eqB_true h, eqB_true h.symm]
  · rw [eqB_false h, eqB_false (fun e => h e.symm)]
theorem run_NormIsS (l : List Arm) (hm : armsWt l < 2 ^ 25) (n : Nat) (hn : 5 * armsWt l + 400 ≤ n) (s : Sup) : go (n + 1) 246 [.w (ksW l)] [] s = some ⟨bV (decide (treeCode l = 0) && eqB l (armsNorm l)), [], []⟩ := by
  obtain ⟨n, rfl⟩ : ∃ k, n = k + 1 := ⟨n - 1, by omega⟩
  obtain ⟨r, hr⟩ := Classical.skolem.1 fun s => run_TreeCheckS l (by omega) (n + 1) (by omega) s
  have w1 := fun s => (hr s).2
  have w3 := run_NormMakeS_of (n := n) l (by omega) (by omega) (fun hc x hx s => run_l9Arm (armsWt l) x (armsWt_mem hx) (by omega) true (treeCode_right hc x hx) n (by omega) s)
  by_cases hc : treeCode l = 0
  · rw [if_pos hc] at w3
    rw [hc] at w1
    have hw := (rungs_ok l (treeCode_right hc)).2.2
    have w4 := run_TreeSameS (armsWt l) (armsNorm l) l (by omega) (by omega) (n + 1) (by omega)
    rw [eqB_comm l, decide_eq_true hc, Bool.true_and]
    generalize eqB (armsNorm l) l = u at w4 ⊢
    generalize armsNorm l = Y at w3 w4
    simp [go_of FT_246 rfl, F246, w1, w3, w4]
  · rw [decide_eq_false hc, Bool.false_and]
    have hci : (treeCode l = 0) = False := eq_false hc
    generalize treeCode l = c at w1 hci
    simp [go_of FT_246 rfl, F246, w1, hci]
theorem run_lawExactNormIs (l : List Arm) (hf : dFits (.l 0 (armRows l))) (s : Sup) : go (5 * armsWt l + 1000) 243 [.w (ksW l)] [] s = some ⟨bV true, [], []⟩ := by
  obtain ⟨n, hn⟩ : ∃ k, 5 * armsWt l + 1000 = k + 1 := ⟨5 * armsWt l + 999, by omega⟩
  rw [hn]
  have w0 := sz_arms (armsWt l) l (Nat.le_refl _) hf n (by omega) 1048576 (by omega)
  rw [show ((1048576 : Nat) : Int) = 1048576 from rfl] at w0
  by_cases hK : armsD l ≤ 1048576
  · simp only [szV, if_pos hK] at w0
    have hW := arms_W l
    have hlt : armsWt l ≤ 2 ^ 21 := by simp only [armsD] at hK; omega
    generalize 1048576 - armsD l = T at w0
    have hT : ((T : Int) < 0) = False := eq_false (by omega)
    have w1 := to_arms (armsWt l) l (Nat.le_refl _) (by omega) n (by omega)
    obtain ⟨n, rfl⟩ : ∃ k, n = k + 1 := ⟨n - 1, by omega⟩
    have w2 := run_NormIsS l (by omega) n (by omega)
    have w3 := run_NormIs l (by omega) n (by omega)
    have w4 := same_arms (armsWt l) l (Nat.le_refl _) (by omega) (n + 1) (by omega)
    generalize (decide (treeCode l = 0) && eqB l (armsNorm l)) = u at w2 w3
    simp [go_of FT_243 rfl, F243, w0, w1, w2, w3, w4, hT]
  · simp only [szV, if_neg hK] at w0
    simp [go_of FT_243 rfl, F243, w0]
end Go.VM
