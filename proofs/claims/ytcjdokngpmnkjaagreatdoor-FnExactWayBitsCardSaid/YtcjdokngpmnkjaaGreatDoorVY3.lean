/- How many bits and forks a whole ladder wants, reckoned. Conditions: none. -/
import Derived.Test.YtcjdokngpmnkjaaGreatDoorVY2
import Derived.Test.YtcjdokngpmnkjaaGreatDoorVZ11

namespace Go.VM
set_option linter.unusedSimpArgs false
set_option linter.unusedVariables false
set_option maxHeartbeats 16000000

theorem bits_fold (l : List Arm) : ∀ a : Nat, l.foldl (fun m x => max m (max x.net.bb x.tb)) a = max a (bitsOf l) := by
  induction l with
  | nil => intro a; simp [bitsOf]
  | cons x r ih => intro a; rw [List.foldl_cons, ih]; simp only [bitsOf, List.foldr_cons]; omega
def normOf (l : List Arm) : List Arm := if treeCode l = 0 then armsNorm l else []
theorem normOf_right (l : List Arm) : ∀ a ∈ normOf l, a.wrong true = 0 := by
  unfold normOf
  split
  · rename_i h
    exact fun a ha => ((rungs_ok l (treeCode_right h)).1 a ha).1
  · simp
theorem normOf_wt (l : List Arm) : armsWt (normOf l) ≤ armsWt l := by
  unfold normOf
  split
  · rename_i h
    exact (rungs_ok l (treeCode_right h)).2.2
  · simp [armsWt]
theorem run_normMake (l : List Arm) (hm : armsWt l < 2 ^ 25) (n : Nat) (hn : 5 * armsWt l + 300 ≤ n) (s : Sup) : go n 108 [.w (ksW l)] [] s = some ⟨.w (ksW (normOf l)), [], []⟩ := run_NormMake l (by omega) n (by omega) s
theorem run_normMakeS (l : List Arm) (hm : armsWt l < 2 ^ 25) (n : Nat) (hn : 5 * armsWt l + 300 ≤ n) (s : Sup) : go n 208 [.w (ksW l)] [] s = some ⟨.w (ksW (normOf l)), [], []⟩ := by
  obtain ⟨n, rfl⟩ : ∃ k, n = k + 1 := ⟨n - 1, by omega⟩
  exact run_NormMakeS_of l (by omega) (by omega) (fun hc x hx s => run_l9Arm (armsWt l) x (armsWt_mem hx) (by omega) true (treeCode_right hc x hx) n (by omega) s) s

end Go.VM
