/- The normal form of nets and ladders, reckoned; as a normal form is. Conditions: none. -/
import Derived.Test.YtacfoamnbdlmpaaDoorVQ12

namespace Go.VM
set_option linter.unusedSimpArgs false
set_option linter.unusedVariables false
set_option maxHeartbeats 16000000

@[simp] theorem argRows_nil : argRows [] = [] := rfl
@[simp] theorem netRows_nil : netRows [] = [] := by simp [netRows]
@[simp] theorem armRows_nil : armRows [] = [] := by simp [armRows]

theorem loop124_0 {n : Nat} (l : List Arm) (hc : ∀ x ∈ l, ∀ s, go n 146 [armX x] [] s = some ⟨armX x.norm, [], []⟩) (hn : l.length < n) (hl : l.length < 2 ^ 40) (st : St) (h3 : st.τ 3 = .w (.own 192 0 l.length (some l.length))) (hB : st.H 192 = .row none 6 (List.replicate l.length [iD 0, iD 0, .l 0 [], .l 0 [], .l 0 [], .l 0 []]) 0) (h9 : st.τ 9 = .w (ksW l)) (h10 : st.τ 10 = iV l.length) (h11 : st.τ 11 = iV 0) (hgg : 192 < st.g) :
    ∃ e st', execC (go n) mode GT false 23 n F124_L0 st = some (e, st') ∧ e ≠ .normal ∧ (e = .exit 0 ∧ st'.τ 3 = .w (.own 192 0 l.length (some l.length)) ∧ st'.H 192 = .row none 6 (armRows (armsNorm l)) 0) := by
  rw [F124_L0, execC_loop]
  refine iter_rule (fun k st => ∃ i, i + k = l.length ∧ st.τ 3 = .w (.own 192 0 l.length (some l.length)) ∧ st.H 192 = .row none 6 (armRows ((armsNorm l).take i) ++ List.replicate k [iD 0, iD 0, .l 0 [], .l 0 [], .l 0 [], .l 0 []]) 0 ∧ st.τ 9 = .w (ksW l) ∧ st.τ 10 = iV l.length ∧ st.τ 11 = iV i ∧ 192 < st.g) ?_ n l.length st hn ⟨0, by omega, h3, by simpa [armRows] using hB, h9, h10, by simpa using h11, hgg⟩
  rintro k ⟨τ, H, g, s⟩ ⟨i, hk, h3, hB, h9, h10, h11, hgg⟩
  simp only at h3 hB h9 h10 h11 hgg
  cases k with
  | zero =>
    have : i = l.length := by omega
    subst this
    refine ⟨.exit 0, ?_⟩
    have hll : (armsNorm l).take l.length = armsNorm l := List.take_of_length_le (by simp [armsNorm_map])
    rw [hll] at hB
    simp [F124_B0, h3, h9, h10, h11, hB]
  | succ k =>
    have hlt : i < l.length := by omega
    have hlt' : ((i : Int) < (l.length : Int)) = True := eq_true (by omega)
    have hg := List.getElem?_eq_getElem hlt
    have hmem := List.getElem_mem hlt
    have hw := wrap_succ (i := i) (by omega)
    have hlT : (armRows ((armsNorm l).take i)).length = i := by simp [armsNorm_map]; omega
    have hget := fill_get (k := k) hlT [iD 0, iD 0, .l 0 [], .l 0 [], .l 0 [], .l 0 []]
    have hset := fill_set (k := k) hlT [iD 0, iD 0, .l 0 [], .l 0 [], .l 0 [], .l 0 []]
    have w := hc _ hmem
    have hgn : (armsNorm l)[i]? = some l[i].norm := by simp [armsNorm_map, hlt]
    have hset := hset (Arm.row l[i].norm)
    rw [armRows_take hgn] at hset
    generalize l[i].norm = y at w hset
    obtain ⟨k', op, as, nks, cs, ks, hx⟩ : ∃ k' op as nks cs ks, l[i] = .mk (.mk k' op as nks) cs ks := by
      cases hq : l[i] with | mk nn cs ks => cases nn; exact ⟨_, _, _, _, _, _, rfl⟩
    rw [hx] at hg w
    have hb := armRows_get hg
    obtain ⟨⟨yk, yo, ya, yn⟩, yc, ys⟩ := y
    simp only [Arm.row] at hset
    obtain ⟨fg1, fg2, fg3, fg4, fg5, fg6, fg7, fg8, fg9, fg10, fg11, fg12, fg13, fg14, fg15, fg16, fg17, fg18, fg19, fg20, fg21, fg22, fg23, fg24⟩ := far hgg
    refine ⟨.normal, ?_⟩
    simp [-getElem?_pos, F124_B0, h3, h9, h10, h11, hB, hlt, hlt', hb, w, hw, hget, hset, fg1, fg2, fg3, fg4, fg5, fg6, fg7, fg8, fg9, fg10, fg11, fg12, fg13, fg14, fg15, fg16, fg17, fg18, fg19, fg20, fg21, fg22, fg23, fg24]
    exact ⟨k, by omega, i + 1, by omega, by first | exact rfl | exact ⟨rfl, rfl⟩ | exact ⟨rfl, rfl, by omega⟩ | exact ⟨rfl, by omega⟩⟩


theorem run_normed (l : List Arm) (hm : armsWt l < 2 ^ 27) (hr : ∀ a ∈ l, a.wrong true = 0) (n : Nat) (hn : 2 * armsWt l + 41 ≤ n) (s : Sup) : go n 124 [.w (ksW l)] [] s = some ⟨.w (ksW (armsNorm l)), [], []⟩ := by
  obtain ⟨n, rfl⟩ : ∃ k, n = k + 1 := ⟨n - 1, by omega⟩
  have hlen := armsWt_len l
  have hrm : room l.length 112 = true := room_of (by omega) (by omega)
  have hll : (armsNorm l).length = l.length := by simp [armsNorm_map]
  have hc : ∀ x ∈ l, ∀ s, go n 146 [armX x] [] s = some ⟨armX x.norm, [], []⟩ := fun x hx s => run_armNorm (armsWt l) x (armsWt_mem hx) hm true (hr x hx) n (by omega) s
  simp [go_of FT_124 rfl, F124, hrm]
  generalize hst : St.mk _ _ _ _ = st
  obtain ⟨e, ⟨τ', H', g', s'⟩, hx, -, rfl, h3, hB⟩ := loop124_0 (n := n) l hc (by omega) (by omega) st (by simp [← hst]) (by simp [← hst]) (by simp [← hst]) (by simp [← hst]) (by simp [← hst]) (by simp [← hst])
  simp only at h3 hB
  have htk : List.take l.length (armRows (armsNorm l)) = armRows (armsNorm l) := by rw [← hll, take_armRows]
  simp [hx, h3, hB, hll, htk]
theorem run_NormMake (l : List Arm) (hm : armsWt l < 2 ^ 27) (n : Nat) (hn : 2 * armsWt l + 100 ≤ n) (s : Sup) : go n 108 [.w (ksW l)] [] s = some ⟨.w (ksW (if treeCode l = 0 then armsNorm l else [])), [], []⟩ := by
  obtain ⟨n, rfl⟩ : ∃ k, n = k + 1 := ⟨n - 1, by omega⟩
  have w1 := run_accepted l (by omega) n (by omega)
  by_cases h : treeCode l = 0
  · rw [decide_eq_true h] at w1
    have hr : ∀ a ∈ l, a.wrong true = 0 := by
      unfold treeCode at h
      split at h
      · simp at h
      · exact (rungsWrong_all l).1 h
    have w2 := run_normed l hm hr n (by omega)
    have hwt := (arms_norm_ok l fun a ha => arm_weak (hr a ha)).2.2
    have w3 := run_copyArms (armsWt l) (armsNorm l) hwt (by omega) n (by omega)
    rw [if_pos h]
    simp [go_of FT_108 rfl, F108, w1, w2, w3]
  · rw [decide_eq_false h] at w1
    rw [if_neg h]
    simp [go_of FT_108 rfl, F108, w1]
theorem run_NormNet (t : Net) (hm : t.wt < 2 ^ 28) (n : Nat) (hn : t.wt + 50 ≤ n) (s : Sup) : go n 105 [netX t] [] s = some ⟨netX (if 400 < t.size ∨ t.wrong ≠ 0 then .mk 0 0 [] [] else t.norm), [], []⟩ := by
  obtain ⟨n, rfl⟩ : ∃ k, n = k + 1 := ⟨n - 1, by omega⟩
  have w1 := run_size t.wt t (Nat.le_refl _) (by omega) n (by omega)
  have w2 := run_wrong t.wt t (Nat.le_refl _) (by omega) n (by omega)
  by_cases h1 : 400 < t.size
  · have h1i : ((400 : Int) < (t.size : Int)) = True := eq_true (by omega)
    rw [if_pos (.inl h1)]
    obtain ⟨k, op, as, ks⟩ := t
    simp [go_of FT_105 rfl, F105, w1, h1, h1i]
  · have h1i : ((400 : Int) < (t.size : Int)) = False := eq_false (by omega)
    by_cases h2 : t.wrong = 0
    · have w3 := run_netNorm t.wt t (Nat.le_refl _) (by omega) h2 n (by omega)
      rw [if_neg (by simp [h1, h2])]
      generalize t.norm = y at w3 ⊢
      obtain ⟨k, op, as, ks⟩ := t
      obtain ⟨k2, op2, as2, ks2⟩ := y
      rw [h2] at w2
      simp [go_of FT_105 rfl, F105, w1, w2, w3, h1, h1i]
    · rw [if_pos (.inr h2)]
      obtain ⟨k, op, as, ks⟩ := t
      simp [go_of FT_105 rfl, F105, w1, w2, h1, h1i, h2]

theorem netsWn_take {k : Int} {l : List Net} {i : Nat} {x : Net} (h : l[i]? = some x) (h0 : netsWn k (l.take i) = true) : netsWn k (l.take (i + 1)) = (!(decide (x.kind = k ∧ k ≠ 4)) && x.wn) := by
  have e : ∀ l m : List Net, netsWn k (l ++ m) = (netsWn k l && netsWn k m) := by
    intro l m
    induction l with
    | nil => simp [netsWn]
    | cons a r ih => simp only [List.cons_append, netsWn, ih, Bool.and_assoc]
  rw [List.take_add_one, h]
  simp only [Option.toList_some, e, h0, netsWn, Bool.true_and, Bool.and_true]
theorem netsWn_hit {k : Int} {l : List Net} {i : Nat} {x : Net} (h : l[i]? = some x) (hx : (!(decide (x.kind = k ∧ k ≠ 4)) && x.wn) = false) : netsWn k l = false := by
  have hm : x ∈ l := List.mem_of_getElem? h
  cases hw : netsWn k l with
  | false => rfl
  | true =>
    have := (netsWn_all k l).1 hw x hm
    have e : decide (x.kind = k ∧ k ≠ 4) = false := decide_eq_false this.1
    rw [e, this.2] at hx
    simp at hx

theorem loop110_0 {n : Nat} (l : List Net) (hc : ∀ x ∈ l, ∀ s, go n 110 [netX x] [] s = some ⟨bV x.wn, [], []⟩) (k0 : Int) (op0 as0 : W) (hn : l.length < n) (hl : l.length < 2 ^ 40) (st : St) (hx0 : True) (h1 : st.τ 1 = .w (.ptr 0 0)) (hH : st.H 0 = .cells [iW k0, op0, as0, nsW l]) (h3 : st.τ 3 = iV 0) :
    ∃ e st', execC (go n) mode GT false 48 n F110_L0 st = some (e, st') ∧ e ≠ .normal ∧ ((e = .exit 0 ∧ netsWn k0 l = true ∧ st'.τ 1 = .w (.ptr 0 0) ∧ st'.H 0 = .cells [iW k0, op0, as0, nsW l]) ∨ (e = .ret ∧ netsWn k0 l = false ∧ st'.τ 2 = bV false)) := by
  rw [F110_L0, execC_loop]
  refine iter_rule (fun k st => ∃ i, i + k = l.length ∧ netsWn k0 (l.take i) = true ∧ st.τ 1 = .w (.ptr 0 0) ∧ st.H 0 = .cells [iW k0, op0, as0, nsW l] ∧ st.τ 3 = iV i) ?_ n l.length st hn ⟨0, by omega, by simp [netsWn], h1, hH, by simpa using h3⟩
  rintro k ⟨τ, H, g, s⟩ ⟨i, hk, hx0, h1, hH, h3⟩
  simp only at hx0 h1 hH h3
  cases k with
  | zero =>
    have : i = l.length := by omega
    subst this
    refine ⟨.exit 0, ?_⟩
    rw [List.take_length] at hx0
    simp [F110_B0, h1, hH, h3, hx0]
  | succ k =>
    have hlt : i < l.length := by omega
    have hlt' : ((i : Int) < (l.length : Int)) = True := eq_true (by omega)
    have hg := List.getElem?_eq_getElem hlt
    have hmem := List.getElem_mem hlt
    have hw := wrap_succ (i := i) (by omega)
    have w := hc _ hmem
    have htk := netsWn_take hg hx0
    have hhit := netsWn_hit (k := k0) hg
    generalize hwn : l[i].wn = wn at w htk hhit
    obtain ⟨k', op, as, ks, hx⟩ : ∃ k' op as ks, l[i] = .mk k' op as ks := by cases l[i]; exact ⟨_, _, _, _, rfl⟩
    rw [hx] at hg w htk hhit
    have hb := netRows_get hg
    simp only [Net.kind] at htk hhit
    by_cases c1 : k' = k0
    · subst c1
      by_cases c2 : k' = 4
      · subst c2
        cases wn
        · refine ⟨.ret, ?_⟩
          simp [-getElem?_pos, F110_B0, h1, hH, h3, hlt, hlt', hb, w, hw, hhit]
        · refine ⟨.normal, ?_⟩
          simp [-getElem?_pos, F110_B0, h1, hH, h3, hlt, hlt', hb, w, hw]
          exact ⟨k, by omega, i + 1, by omega, by rw [htk]; simp, rfl⟩
      · refine ⟨.ret, ?_⟩
        simp [-getElem?_pos, F110_B0, h1, hH, h3, hlt, hlt', hb, w, hw, c2, hhit]
    · have c1' := eq_false c1
      cases wn
      · refine ⟨.ret, ?_⟩
        simp [-getElem?_pos, F110_B0, h1, hH, h3, hlt, hlt', hb, w, hw, c1', hhit]
      · refine ⟨.normal, ?_⟩
        simp [-getElem?_pos, F110_B0, h1, hH, h3, hlt, hlt', hb, w, hw, c1']
        exact ⟨k, by omega, i + 1, by omega, by rw [htk]; simp [c1], rfl⟩


theorem run_wnNet : ∀ (m : Nat) (t : Net), t.wt ≤ m → m < 2 ^ 40 → ∀ (n : Nat), m + 4 ≤ n → ∀ s, go n 110 [netX t] [] s = some ⟨bV t.wn, [], []⟩
  | 0, t, h, hm, n, hn, s => by have := t.wt_pos; omega
  | m + 1, .mk k op as ks, h, hm, n, hn, s => by
    obtain ⟨n, rfl⟩ : ∃ k, n = k + 1 := ⟨n - 1, by omega⟩
    have hlen := netsWt_len ks
    simp only [Net.wt] at h
    have hc : ∀ x ∈ ks, ∀ s, go n 110 [netX x] [] s = some ⟨bV x.wn, [], []⟩ := fun x hx s => run_wnNet m x (by have := netsWt_mem hx; omega) (by omega) n (by omega) s
    unfold Net.wn
    simp [go_of FT_110 rfl, F110]
    generalize hst : St.mk _ _ _ _ = st
    obtain ⟨e, ⟨τ', H', g', s'⟩, hx, -, ⟨rfl, h0, h1, hH⟩ | ⟨rfl, h0, h2⟩⟩ := loop110_0 (n := n) ks hc k (iW op) (asW as) (by omega) (by omega) st trivial (by simp [← hst]) (by simp [← hst]) (by simp [← hst])
    · simp only at h1 hH
      by_cases c1 : k = 1
      · rw [c1] at h0 hH
        simp [hx, h0, h1, hH, c1]
      · by_cases c2 : k = 4
        · rw [c2] at h0 hH
          simp [hx, h0, h1, hH, c2]
        · have e : decide ((1 : Int) < ks.length) = decide (1 < ks.length) := by
            by_cases h : 1 < ks.length
            · rw [decide_eq_true h]; exact decide_eq_true (by omega)
            · rw [decide_eq_false h]; exact decide_eq_false (by omega)
          simp [hx, h0, h1, hH, c1, c2, e]
    · simp only at h2
      simp [hx, h0, h2]

end Go.VM
