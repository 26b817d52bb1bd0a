/- The normal form of nets and ladders, reckoned; as a normal form is. Conditions: none. -/
import Derived.Test.YtcjdokngpmnkjaaDoorVQ12

namespace Go.VM
set_option linter.unusedSimpArgs false
set_option linter.unusedVariables false
set_option maxHeartbeats 16000000

@[simp] theorem argRows_nil : argRows [] = [] := rfl
@[simp] theorem netRows_nil : netRows [] = [] := by simp [netRows]
@[simp] theorem armRows_nil : armRows [] = [] := by simp [armRows]

theorem loop124_0 {n : Nat} (l : List Arm) (hc : ∀ x ∈ l, ∀ s, go n 146 [armX x] [] s = some ⟨armX x.norm, [], []⟩) (hn : l.length < n) (hl : l.length < 2 ^ 40) (st : St) (h3 : st.τ 3 = .w (.own 192 0 l.length (some l.length))) (hB : st.H 192 = .row none 6 (List.replicate l.length [iD 0, iD 0, .l 0 [], .l 0 [], .l 0 [], .l 0 []]) 0) (h9 : st.τ 9 = .w (ksW l)) (h10 : st.τ 10 = iV l.length) (h11 : st.τ 11 = iV 0) (hgg : 192 < st.g) :
    ∃ e st', execC (go n) mode GT false 23 n F124_L0 st = some (e, st') ∧ e ≠ .normal ∧ (e = .exit 0 ∧ st'.τ 3 = .w (.own 192 0 l.length (some l.length)) ∧ st'.H 192 = .row none 6 (armRows (armsNorm l)) 0) := by
  rw [F124_L0, execC_loop]
  refine iter_rule (fun k st => ∃ i, i + k = l.length ∧ st.τ 3 = .w (.own 192 0 l.length (some l.length)) ∧ st.H 192 = .row none 6 (armRows ((armsNorm l).take i) ++ List.replicate k [iD 0, iD 0, .l 0 [], .l 0 [], .l 0 [], .l 0 []]) 0 ∧ st.τ 9 = .w (ksW l) ∧ st.τ 10 = iV l.length ∧ st.τ 11 = iV i ∧ 192 < st.g) ?_ n l.length st hn ⟨0, by omega, h3, by simpa [armRows] using hB, h9, h10, by simpa using h11, hgg⟩
  rintro k ⟨τ, H, g, s⟩ ⟨i, hk, h3, hB, h9, h10, h11, hgg⟩
  simp only at h3 hB h9 h10 h11 hgg
  cases k with
  | zero =>
    have : i = l.length := by omega
    subst this
    refine ⟨.exit 0, ?_⟩
    have hll : (armsNorm l).take l.length = armsNorm l := List.take_of_length_le (by simp [armsNorm_map])
    rw [hll] at hB
    simp [F124_B0, h3, h9, h10, h11, hB]
  | succ k =>
    have hlt : i < l.length := by omega
    have hlt' : ((i : Int) < (l.length : Int)) = True := eq_true (by omega)
    have hg := List.getElem?_eq_getElem hlt
    have hmem := List.getElem_mem hlt
    have hw := wrap_succ (i := i) (by omega)
    have hlT : (armRows ((armsNorm l).take i)).length = i := by simp [armsNorm_map]; omega
    have hget := fill_get (k := k) hlT [iD 0, iD 0, .l 0 [], .l 0 [], .l 0 [], .l 0 []]
    have hset := fill_set (k := k) hlT [iD 0, iD 0, .l 0 [], .l 0 [], .l 0 [], .l 0 []]
    have w := hc _ hmem
    have hgn : (armsNorm l)[i]? = some l[i].norm := by simp [armsNorm_map, hlt]
    have hset := hset (Arm.row l[i].norm)
    rw [armRows_take hgn] at hset
    generalize l[i].norm = y at w hset
    obtain ⟨k', op, as, nks, cs, ks, hx⟩ : ∃ k' op as nks cs ks, l[i] = .mk (.mk k' op as nks) cs ks := by
      cases hq : l[i] with | mk nn cs ks => cases nn; exact ⟨_, _, _, _, _, _, rfl⟩
    rw [hx] at hg w
    have hb := armRows_get hg
    obtain ⟨⟨yk, yo, ya, yn⟩, yc, ys⟩ := y
    simp only [Arm.row] at hset
    have fgX := far hgg
    refine ⟨.normal, ?_⟩
    simp [-getElem?_pos, F124_B0, h3, h9, h10, h11, hB, hlt, hlt', hb, w, hw, hget, hset, fgX]
    exact ⟨k, by omega, i + 1, by omega, by first | exact rfl | exact ⟨rfl, rfl⟩ | exact ⟨rfl, rfl, by omega⟩ | exact ⟨rfl, by omega⟩⟩


theorem run_normed (l : List Arm) (hm : armsWt l < 2 ^ 27) (hr : ∀ a ∈ l, a.wrong true = 0) (n : Nat) (hn : 2 * armsWt l + 41 ≤ n) (s : Sup) : go n 124 [.w (ksW l)] [] s = some ⟨.w (ksW (armsNorm l)), [], []⟩ := by
  obtain ⟨n, rfl⟩ : ∃ k, n = k + 1 := ⟨n - 1, by omega⟩
  have hlen := armsWt_len l
  have hrm : room l.length 112 = true := room_of (by omega) (by omega)
  have hll : (armsNorm l).length = l.length := by simp [armsNorm_map]
  have hc : ∀ x ∈ l, ∀ s, go n 146 [armX x] [] s = some ⟨armX x.norm, [], []⟩ := fun x hx s => run_armNorm (armsWt l) x (armsWt_mem hx) hm true (hr x hx) n (by omega) s
  simp [go_of FT_124 rfl, F124, hrm]
  generalize hst : St.mk _ _ _ _ = st
  obtain ⟨e, ⟨τ', H', g', s'⟩, hx, -, rfl, h3, hB⟩ := loop124_0 (n := n) l hc (by omega) (by omega) st (by simp [← hst]) (by simp [← hst]) (by simp [← hst]) (by simp [← hst]) (by simp [← hst]) (by simp [← hst])
  simp only at h3 hB
  have htk : List.take l.length (armRows (armsNorm l)) = armRows (armsNorm l) := by rw [← hll, take_armRows]
  simp [hx, h3, hB, hll, htk]
theorem run_NormMake (l : List Arm) (hm : armsWt l < 2 ^ 27) (n : Nat) (hn : 2 * armsWt l + 100 ≤ n) (s : Sup) : go n 108 [.w (ksW l)] [] s = some ⟨.w (ksW (if treeCode l = 0 then armsNorm l else [])), [], []⟩ := by
  obtain ⟨n, rfl⟩ : ∃ k, n = k + 1 := ⟨n - 1, by omega⟩
  have w1 := run_accepted l (by omega) n (by omega)
  by_cases h : treeCode l = 0
  · rw [decide_eq_true h] at w1
    have hr : ∀ a ∈ l, a.wrong true = 0 := by
      unfold treeCode at h
      split at h
      · simp at h
      · exact (rungsWrong_all l).1 h
    have w2 := run_normed l hm hr n (by omega)
    have hwt := (arms_norm_ok l fun a ha => arm_weak (hr a ha)).2.2
    have w3 := run_copyArms (armsWt l) (armsNorm l) hwt (by omega) n (by omega)
    rw [if_pos h]
    simp [go_of FT_108 rfl, F108, w1, w2, w3]
  · rw [decide_eq_false h] at w1
    rw [if_neg h]
    simp [go_of FT_108 rfl, F108, w1]
end Go.VM
