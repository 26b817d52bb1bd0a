/- The law 'WayBits is exact', run: it answers true. Conditions: none. -/
import Derived.Test.YtcjdokngpmnkjaaGreatDoorVLY
import Derived.Test.YtcjdokngpmnkjaaGreatDoorVY4

namespace Go.VM
set_option linter.unusedSimpArgs false
set_option linter.unusedVariables false
set_option maxHeartbeats 4000000

theorem run_lawExactWayBits (l : List Arm) (hf : dFits (.l 0 (armRows l))) (s : Sup) : go (6 * armsWt l + 1000) 259 [.w (ksW l)] [] s = some ⟨bV true, [], []⟩ := by
  obtain ⟨n, hn⟩ : ∃ k, 6 * armsWt l + 1000 = k + 1 := ⟨6 * armsWt l + 999, by omega⟩
  rw [hn]
  have w0 := sz_arms (armsWt l) l (Nat.le_refl _) hf n (by omega) 1048576 (by omega)
  rw [show ((1048576 : Nat) : Int) = 1048576 from rfl] at w0
  by_cases hK : armsD l ≤ 1048576
  · simp only [szV, if_pos hK] at w0
    have hW := arms_W l
    have hlt : armsWt l ≤ 2 ^ 21 := by simp only [armsD] at hK; omega
    generalize 1048576 - armsD l = T at w0
    have hT : ((T : Int) < 0) = False := eq_false (by omega)
    have w1 := to_arms (armsWt l) l (Nat.le_refl _) (by omega) n (by omega)
    have w2 := run_WayBitsS l (by omega) n (by omega)
    have w3 := run_WayBits l (by omega) n (by omega)
    have w4 := same_arms (armsWt l) l (Nat.le_refl _) (by omega) n (by omega)
    generalize bitsOf (normOf l) = u at w2 w3
    simp [go_of (n := n) FT_259 rfl, F259, w0, w1, w2, w3, w4, hT]
  · simp only [szV, if_neg hK] at w0
    simp [go_of (n := n) FT_259 rfl, F259, w0]
end Go.VM
