/- The law of a block's normal form, run: it answers true, whatever net is drawn. Conditions: none. -/
import Derived.Test.YtacfoamnbdlmpaaDoorVQ13

namespace Go.VM
set_option linter.unusedSimpArgs false
set_option linter.unusedVariables false
set_option maxHeartbeats 16000000

def coilY : El := ⟨21, [⟨2, 0, 0⟩]⟩
theorem coilY_ok : coilY.coil = true := by decide
def oneRung (t : Net) : List Arm := [.mk t [coilY] []]
theorem oneRung_rows (k op : Int) (as : List Arg) (ks : List Net) : armRows (oneRung (.mk k op as ks)) = [[iD k, iD op, .l 0 (argRows as), .l 0 (netRows ks), .l 0 [[iD 21, .l 0 [[iD 2, iD 0, iD 0]]]], .l 0 []]] := by
  simp [oneRung, armRows, Arm.row, elRows, El.row, coilY, argRows, Arg.row]
theorem oneRung_wt (t : Net) : armsWt (oneRung t) = t.wt + 3 := by
  simp [oneRung, armsWt, Arm.wt, elsWt, El.wt, coilY]; omega
theorem oneRung_size (t : Net) : armsSize (oneRung t) = 2 + (if t.none then 0 else t.size) := by
  simp [oneRung, armsSize, Arm.size]
theorem oneRung_norm {t : Net} (h : t.none = false) : armsNorm (oneRung t) = oneRung t.norm := by
  simp only [oneRung, armsNorm, Arm.norm, h, Bool.false_eq_true, if_false]
  rw [squeeze]; simp
theorem oneRung_wrong (t : Net) : rungsWrong (oneRung t) = if t.none then 4 else t.wrong := by
  have hc : [coilY].all El.coil = true := by simp [coilY_ok]
  simp only [oneRung, rungsWrong, Arm.wrong, hc]
  cases hn : t.none
  · by_cases hw : t.wrong = 0 <;> simp [hw, armsWrong]
  · simp

theorem none_wrong {t : Net} (h : t.none = true) : t.wrong ≠ 0 := by
  rw [Net.none_eq h]; simp [Net.wrong]

theorem run_lawNormNet (st : Nat) (l : List Int) (n : Nat) (hn : 10000 ≤ n) (t : Net) (ht : t.wt ≤ 2000) (hd : ¬ 1048576 < l.length → ∀ s, go n 104 [.w (bW st l)] [] s = some ⟨netX t, [], []⟩) (s : Sup) :
    go (n + 1) 102 [.w (bW st l)] [] s = some ⟨bV true, [], []⟩ := by
  by_cases hl : 1048576 < l.length
  · have hli : ((1048576 : Int) < (l.length : Int)) = True := eq_true (by omega)
    simp [go_of FT_102 rfl, F102, hl, hli]
  · have hli : ((1048576 : Int) < (l.length : Int)) = False := eq_false (by omega)
    have hd := hd hl
    have hw := oneRung_wt t
    have w1 := run_NormNet t (by omega) n (by omega)
    obtain ⟨r, hr⟩ := Classical.skolem.1 fun s => run_TreeCheckS (oneRung t) (by omega) n (by omega) s
    have w2 := fun s => (hr s).2
    have w3 := run_TreeSizeS (oneRung t) (by omega) n (by omega)
    have w4 := run_NormMake (oneRung t) (by omega) n (by omega)
    have hsz := oneRung_size t
    have hrw := oneRung_wrong t
    have hcl : (oneRung t).length = 1 := rfl
    by_cases hcode : treeCode (oneRung t) = 0
    · have hcode' := hcode
      unfold treeCode at hcode'
      split at hcode'
      · simp at hcode'
      · rename_i hns
        rw [hrw] at hcode'
        cases hno : t.none with
        | true => rw [hno] at hcode'; simp at hcode'
        | false =>
          rw [hno] at hcode' hsz
          simp only [Bool.false_eq_true, if_false] at hcode' hsz
          have hs4 : ¬ (400 < t.size ∨ t.wrong ≠ 0) := by
            intro h
            rcases h with h | h
            · exact hns (.inr (by omega))
            · exact h hcode'
          rw [if_neg hs4] at w1
          rw [if_pos hcode, oneRung_norm hno] at w4
          obtain ⟨n1, n2, n3, n4⟩ := norm_ok t hcode'
          have w5 := run_TreeSame (armsWt (oneRung t.norm)) (oneRung t.norm) (oneRung t.norm) (Nat.le_refl _) (by rw [oneRung_wt]; omega) n (by rw [oneRung_wt]; omega)
          rw [eqB_true rfl] at w5
          have w6 := run_wnNet t.norm.wt t.norm (Nat.le_refl _) (by omega) n (by omega)
          rw [n2] at w6
          rw [hcode] at w2
          generalize t.norm = y at w1 w4 w5 w6
          obtain ⟨k, op, as, ks⟩ := t
          obtain ⟨k2, op2, as2, ks2⟩ := y
          simp only [ksW, oneRung_rows] at w2 w3 w4 w5
          simp [go_of FT_102 rfl, F102, hl, hli, hd, w1, w2, w4, w5, w6, List.replicate]
    · have hcp : (0 : Int) < treeCode (oneRung t) := by
        unfold treeCode at hcode ⊢
        split
        · omega
        · rename_i h
          rw [if_neg h] at hcode
          rw [hrw] at hcode ⊢
          split
          · omega
          · rename_i h2
            rw [if_neg h2] at hcode
            have := t.wrong_or
            omega
      have hcpi := eq_true hcp
      have hcase : armsSize (oneRung t) = 401 ∨ armsSize (oneRung t) = 402 ∨ (400 < t.size ∨ t.wrong ≠ 0) := by
        cases hno : t.none with
        | true => exact .inr (.inr (.inr (none_wrong hno)))
        | false =>
          rw [hno] at hsz hrw
          simp only [Bool.false_eq_true, if_false] at hsz hrw
          by_cases hw0 : t.wrong = 0
          · by_cases h4 : 400 < armsSize (oneRung t)
            · by_cases h5 : 400 < t.size
              · exact .inr (.inr (.inl h5))
              · omega
            · exfalso
              refine hcode ?_
              unfold treeCode
              rw [if_neg (by rw [hcl]; omega), hrw, hw0]
          · exact .inr (.inr (.inr hw0))
      generalize hz : armsSize (oneRung t) = z at w3 hcase
      generalize treeCode (oneRung t) = c at w2 hcpi
      by_cases hbad : 400 < t.size ∨ t.wrong ≠ 0
      · rw [if_pos hbad] at w1
        obtain ⟨k, op, as, ks⟩ := t
        simp only [ksW, oneRung_rows] at w2 w3
        by_cases z1 : z = 401
        · simp [go_of FT_102 rfl, F102, hl, hli, hd, w1, w2, w3, hcpi, z1, List.replicate]
        · have z1i : ((z : Int) = 401) = False := eq_false (by omega)
          by_cases z2 : z = 402
          · simp [go_of FT_102 rfl, F102, hl, hli, hd, w1, w2, w3, hcpi, z2, List.replicate]
          · have z2i : ((z : Int) = 402) = False := eq_false (by omega)
            simp [go_of FT_102 rfl, F102, hl, hli, hd, w1, w2, w3, hcpi, z1, z2, z1i, z2i, List.replicate]
      · rw [if_neg hbad] at w1
        generalize t.norm = y at w1
        obtain ⟨k2, op2, as2, ks2⟩ := y
        have hz2 : z = 401 ∨ z = 402 := by
          rcases hcase with h | h | h
          · exact .inl h
          · exact .inr h
          · exact absurd h hbad
        obtain ⟨k, op, as, ks⟩ := t
        simp only [ksW, oneRung_rows] at w2 w3
        rcases hz2 with rfl | rfl <;> simp [go_of FT_102 rfl, F102, hl, hli, hd, w1, w2, w3, hcpi, List.replicate]

end Go.VM
