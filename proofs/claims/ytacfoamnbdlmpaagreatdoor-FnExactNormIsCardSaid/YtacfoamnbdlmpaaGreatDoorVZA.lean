/- Ladders compared, as the document has it. Conditions: none. -/
import Derived.Test.YtacfoamnbdlmpaaGreatDoorVQC
import Derived.Test.YtacfoamnbdlmpaaGreatDoorVSA

namespace Go.VM
set_option linter.unusedSimpArgs false
set_option linter.unusedVariables false
set_option maxHeartbeats 16000000

theorem loop217_0 {n : Nat} (l : List Arg) (o1 o2 : W) (b2 : Nat) (m : List Arg) (hlm : l.length = m.length) (hn : l.length < n) (hl : l.length < 2 ^ 40) (st : St) (ht : True) (h2 : st.τ 2 = .w (.ptr 0 0)) (h3 : st.τ 3 = .w (.ptr b2 0)) (hA : st.H 0 = .cells [o1, asW l]) (hB : st.H b2 = .cells [o2, asW m]) (hg2 : b2 < st.g) (h5 : st.τ 5 = iV 0) :
    ∃ e st', execC (go n) mode GT false 38 n F217_L0 st = some (e, st') ∧ e ≠ .normal ∧ ((e = .exit 0 ∧ l = m) ∨ (e = .ret ∧ l ≠ m ∧ st'.τ 4 = sV (.bool false))) := by
  rw [F217_L0, execC_loop]
  refine iter_rule (fun k st => ∃ i, i + k = l.length ∧ l.take i = m.take i ∧ st.τ 2 = .w (.ptr 0 0) ∧ st.τ 3 = .w (.ptr b2 0) ∧ st.H 0 = .cells [o1, asW l] ∧ st.H b2 = .cells [o2, asW m] ∧ b2 < st.g ∧ st.τ 5 = iV i) ?_ n l.length st hn ⟨0, by omega, by simp, h2, h3, hA, hB, hg2, by simpa using h5⟩
  rintro k ⟨τ, H, g, s⟩ ⟨i, hk, ht, h2, h3, hA, hB, hg2, h5⟩
  simp only at ht h2 h3 hA hB hg2 h5
  cases k with
  | zero =>
    have : i = l.length := by omega
    subst this
    refine ⟨.exit 0, ?_⟩
    have hlm2 : l = m := by rw [List.take_length, hlm, List.take_length] at ht; exact ht
    simp [-getElem?_pos, F217_B0, h2, h3, hA, hB, h5, hlm2]
  | succ k =>
    have hlt : i < l.length := by omega
    have hlt' : ((i : Int) < (l.length : Int)) = True := eq_true (by omega)
    have hg := List.getElem?_eq_getElem hlt
    have hmem := List.getElem_mem hlt
    have hw := wrap_succ (i := i) (by omega)
    have hltm : i < m.length := by omega
    have hgm := List.getElem?_eq_getElem hltm
    have hb := argRows_get hg
    have hbm := argRows_get hgm
    have lq1 : ∀ x : Nat, (b2 < g + x) = True := fun x => eq_true (by omega)
    have lq2 : ∀ x y : Nat, (b2 < g + x + y) = True := fun x y => eq_true (by omega)
    by_cases he : l[i] = m[i]
    · refine ⟨.normal, ?_⟩
      have he1 : l[i].k = m[i].k := by rw [he]
      have he2 : l[i].n = m[i].n := by rw [he]
      have he3 : l[i].p = m[i].p := by rw [he]
      simp [-getElem?_pos, F217_B0, h2, h3, hA, hB, h5, hlt, hlt', hltm, hb, hbm, he1, he2, he3, hw, lq1, lq2]
      exact ⟨k, by omega, i + 1, by omega, take_eq ht hg (by rw [hgm, he]), by omega, rfl⟩
    · refine ⟨.ret, ?_⟩
      have hne : ((l[i].k == m[i].k) && ((l[i].n == m[i].n) && (l[i].p == m[i].p))) = false := by
        rw [Bool.eq_false_iff]
        intro h
        simp only [Bool.and_eq_true, beq_iff_eq] at h
        refine he ?_
        generalize l[i] = x at h ⊢
        generalize m[i] = y at h ⊢
        cases x; cases y
        simp only at h
        rw [h.1, h.2.1, h.2.2]
      have hlm3 : l ≠ m := by intro e; subst e; exact he rfl
      simp [-getElem?_pos, F217_B0, h2, h3, hA, hB, h5, hlt, hlt', hltm, hb, hbm, hne, hlm3, lq1, lq2]

theorem loop216_0 {n : Nat} (l : List Net) (a1 a2 a3 c1 c2 c3 : W) (b2 : Nat) (m : List Net) (hlm : l.length = m.length) (hc : ∀ x ∈ l, ∀ y s, go n 216 [netX x, netX y] [] s = some ⟨bV (eqB x y), [], []⟩) (hn : l.length < n) (hl : l.length < 2 ^ 40) (st : St) (ht : True) (h2 : st.τ 2 = .w (.ptr 0 0)) (h3 : st.τ 3 = .w (.ptr b2 0)) (hA : st.H 0 = .cells [a1, a2, a3, nsW l]) (hB : st.H b2 = .cells [c1, c2, c3, nsW m]) (hg2 : b2 < st.g) (h5 : st.τ 5 = iV 0) :
    ∃ e st', execC (go n) mode GT false 47 n F216_L0 st = some (e, st') ∧ e ≠ .normal ∧ ((e = .exit 0 ∧ l = m) ∨ (e = .ret ∧ l ≠ m ∧ st'.τ 4 = sV (.bool false))) := by
  rw [F216_L0, execC_loop]
  refine iter_rule (fun k st => ∃ i, i + k = l.length ∧ l.take i = m.take i ∧ st.τ 2 = .w (.ptr 0 0) ∧ st.τ 3 = .w (.ptr b2 0) ∧ st.H 0 = .cells [a1, a2, a3, nsW l] ∧ st.H b2 = .cells [c1, c2, c3, nsW m] ∧ b2 < st.g ∧ st.τ 5 = iV i) ?_ n l.length st hn ⟨0, by omega, by simp, h2, h3, hA, hB, hg2, by simpa using h5⟩
  rintro k ⟨τ, H, g, s⟩ ⟨i, hk, ht, h2, h3, hA, hB, hg2, h5⟩
  simp only at ht h2 h3 hA hB hg2 h5
  cases k with
  | zero =>
    have : i = l.length := by omega
    subst this
    refine ⟨.exit 0, ?_⟩
    have hlm2 : l = m := by rw [List.take_length, hlm, List.take_length] at ht; exact ht
    simp [-getElem?_pos, F216_B0, h2, h3, hA, hB, h5, hlm2]
  | succ k =>
    have hlt : i < l.length := by omega
    have hlt' : ((i : Int) < (l.length : Int)) = True := eq_true (by omega)
    have hg := List.getElem?_eq_getElem hlt
    have hmem := List.getElem_mem hlt
    have hw := wrap_succ (i := i) (by omega)
    have hltm : i < m.length := by omega
    have hgm := List.getElem?_eq_getElem hltm
    have w := hc _ hmem m[i]
    have hor : l[i] = m[i] ∨ l[i] ≠ m[i] := Classical.em _
    have hdiff : l[i] ≠ m[i] → l ≠ m := fun h e => by subst e; exact h rfl
    have htake : l[i] = m[i] → l.take (i + 1) = m.take (i + 1) := fun h => take_eq ht hg (by rw [hgm, h])
    obtain ⟨k1, op1, as1, ks1, hx⟩ : ∃ k' op as ks, l[i] = .mk k' op as ks := by cases l[i]; exact ⟨_, _, _, _, rfl⟩
    obtain ⟨k2, op2, as2, ks2, hy⟩ : ∃ k' op as ks, m[i] = .mk k' op as ks := by cases m[i]; exact ⟨_, _, _, _, rfl⟩
    rw [hx, hy] at hor w
    rw [hx, hy] at hdiff htake
    rw [hx] at hg
    rw [hy] at hgm
    have hb := netRows_get hg
    have hbm := netRows_get hgm
    have lq1 : ∀ x : Nat, (b2 < g + x) = True := fun x => eq_true (by omega)
    have lq2 : ∀ x y : Nat, (b2 < g + x + y) = True := fun x y => eq_true (by omega)
    rcases hor with he | he
    · refine ⟨.normal, ?_⟩
      rw [eqB_true he] at w
      simp [-getElem?_pos, F216_B0, h2, h3, hA, hB, h5, hlt, hlt', hltm, hb, hbm, w, hw, lq1, lq2]
      exact ⟨k, by omega, i + 1, by omega, htake he, by omega, rfl⟩
    · refine ⟨.ret, ?_⟩
      rw [eqB_false he] at w
      simp [-getElem?_pos, F216_B0, h2, h3, hA, hB, h5, hlt, hlt', hltm, hb, hbm, w, hdiff he, lq1, lq2]

theorem loop212_0 {n : Nat} (l : List El) (a1 a2 a3 a4 a6 c1 c2 c3 c4 c6 : W) (b2 : Nat) (m : List El) (hlm : l.length = m.length) (hc : ∀ x ∈ l, ∀ y s, go n 217 [elX x, elX y] [] s = some ⟨bV (eqB x y), [], []⟩) (hn : l.length < n) (hl : l.length < 2 ^ 40) (st : St) (ht : True) (h2 : st.τ 2 = .w (.ptr 0 0)) (h3 : st.τ 3 = .w (.ptr b2 0)) (hA : st.H 0 = .cells [a1, a2, a3, a4, csW l, a6]) (hB : st.H b2 = .cells [c1, c2, c3, c4, csW m, c6]) (hg2 : b2 < st.g) (h5 : st.τ 5 = iV 0) :
    ∃ e st', execC (go n) mode GT false 45 n F212_L0 st = some (e, st') ∧ e ≠ .normal ∧ ((e = .exit 0 ∧ l = m ∧ st'.τ 2 = .w (.ptr 0 0) ∧ st'.τ 3 = .w (.ptr b2 0) ∧ st'.H 0 = .cells [a1, a2, a3, a4, csW l, a6] ∧ st'.H b2 = .cells [c1, c2, c3, c4, csW m, c6] ∧ b2 < st'.g) ∨ (e = .ret ∧ l ≠ m ∧ st'.τ 4 = sV (.bool false))) := by
  rw [F212_L0, execC_loop]
  refine iter_rule (fun k st => ∃ i, i + k = l.length ∧ l.take i = m.take i ∧ st.τ 2 = .w (.ptr 0 0) ∧ st.τ 3 = .w (.ptr b2 0) ∧ st.H 0 = .cells [a1, a2, a3, a4, csW l, a6] ∧ st.H b2 = .cells [c1, c2, c3, c4, csW m, c6] ∧ b2 < st.g ∧ st.τ 5 = iV i) ?_ n l.length st hn ⟨0, by omega, by simp, h2, h3, hA, hB, hg2, by simpa using h5⟩
  rintro k ⟨τ, H, g, s⟩ ⟨i, hk, ht, h2, h3, hA, hB, hg2, h5⟩
  simp only at ht h2 h3 hA hB hg2 h5
  cases k with
  | zero =>
    have : i = l.length := by omega
    subst this
    refine ⟨.exit 0, ?_⟩
    have hlm2 : l = m := by rw [List.take_length, hlm, List.take_length] at ht; exact ht
    simp [-getElem?_pos, F212_B0, h2, h3, hA, hB, h5]
    exact ⟨hlm2, by omega⟩
  | succ k =>
    have hlt : i < l.length := by omega
    have hlt' : ((i : Int) < (l.length : Int)) = True := eq_true (by omega)
    have hg := List.getElem?_eq_getElem hlt
    have hmem := List.getElem_mem hlt
    have hw := wrap_succ (i := i) (by omega)
    have hltm : i < m.length := by omega
    have hgm := List.getElem?_eq_getElem hltm
    have w := hc _ hmem m[i]
    have hor : l[i] = m[i] ∨ l[i] ≠ m[i] := Classical.em _
    have hdiff : l[i] ≠ m[i] → l ≠ m := fun h e => by subst e; exact h rfl
    have htake : l[i] = m[i] → l.take (i + 1) = m.take (i + 1) := fun h => take_eq ht hg (by rw [hgm, h])
    have hb := elRows_get hg
    have hbm := elRows_get hgm
    have lq1 : ∀ x : Nat, (b2 < g + x) = True := fun x => eq_true (by omega)
    have lq2 : ∀ x y : Nat, (b2 < g + x + y) = True := fun x y => eq_true (by omega)
    rcases hor with he | he
    · refine ⟨.normal, ?_⟩
      rw [eqB_true he] at w
      simp [-getElem?_pos, F212_B0, h2, h3, hA, hB, h5, hlt, hlt', hltm, hb, hbm, w, hw, lq1, lq2]
      exact ⟨k, by omega, i + 1, by omega, htake he, by omega, rfl⟩
    · refine ⟨.ret, ?_⟩
      rw [eqB_false he] at w
      simp [-getElem?_pos, F212_B0, h2, h3, hA, hB, h5, hlt, hlt', hltm, hb, hbm, w, hdiff he, lq1, lq2]

theorem loop209_0 {n : Nat} (l : List Arm) (m : List Arm) (hlm : l.length = m.length) (hc : ∀ x ∈ l, ∀ y s, go n 212 [armX x, armX y] [] s = some ⟨bV (eqB x y), [], []⟩) (hn : l.length < n) (hl : l.length < 2 ^ 40) (st : St) (ht : True) (h0 : st.τ 0 = .w (ksW l)) (h1 : st.τ 1 = .w (ksW m)) (h5 : st.τ 5 = iV 0) :
    ∃ e st', execC (go n) mode GT false 27 n F209_L0 st = some (e, st') ∧ e ≠ .normal ∧ ((e = .exit 0 ∧ l = m) ∨ (e = .ret ∧ l ≠ m ∧ st'.τ 4 = sV (.bool false))) := by
  rw [F209_L0, execC_loop]
  refine iter_rule (fun k st => ∃ i, i + k = l.length ∧ l.take i = m.take i ∧ st.τ 0 = .w (ksW l) ∧ st.τ 1 = .w (ksW m) ∧ st.τ 5 = iV i) ?_ n l.length st hn ⟨0, by omega, by simp, h0, h1, by simpa using h5⟩
  rintro k ⟨τ, H, g, s⟩ ⟨i, hk, ht, h0, h1, h5⟩
  simp only at ht h0 h1 h5
  cases k with
  | zero =>
    have : i = l.length := by omega
    subst this
    refine ⟨.exit 0, ?_⟩
    have hlm2 : l = m := by rw [List.take_length, hlm, List.take_length] at ht; exact ht
    simp [-getElem?_pos, F209_B0, h0, h1, h5, hlm2]
  | succ k =>
    have hlt : i < l.length := by omega
    have hlt' : ((i : Int) < (l.length : Int)) = True := eq_true (by omega)
    have hg := List.getElem?_eq_getElem hlt
    have hmem := List.getElem_mem hlt
    have hw := wrap_succ (i := i) (by omega)
    have hltm : i < m.length := by omega
    have hgm := List.getElem?_eq_getElem hltm
    have w := hc _ hmem m[i]
    have hor : l[i] = m[i] ∨ l[i] ≠ m[i] := Classical.em _
    have hdiff : l[i] ≠ m[i] → l ≠ m := fun h e => by subst e; exact h rfl
    have htake : l[i] = m[i] → l.take (i + 1) = m.take (i + 1) := fun h => take_eq ht hg (by rw [hgm, h])
    obtain ⟨k1, op1, as1, nks1, cs1, ks1, hx⟩ : ∃ k' op as nks cs ks, l[i] = .mk (.mk k' op as nks) cs ks := by
      cases hq : l[i] with | mk nn cs ks => cases nn; exact ⟨_, _, _, _, _, _, rfl⟩
    obtain ⟨k2, op2, as2, nks2, cs2, ks2, hy⟩ : ∃ k' op as nks cs ks, m[i] = .mk (.mk k' op as nks) cs ks := by
      cases hq : m[i] with | mk nn cs ks => cases nn; exact ⟨_, _, _, _, _, _, rfl⟩
    rw [hx, hy] at hor w
    rw [hx, hy] at hdiff htake
    rw [hx] at hg
    rw [hy] at hgm
    have hb := armRows_get hg
    have hbm := armRows_get hgm
    rcases hor with he | he
    · refine ⟨.normal, ?_⟩
      rw [eqB_true he] at w
      simp [-getElem?_pos, F209_B0, h0, h1, h5, hlt, hlt', hltm, hb, hbm, w, hw]
      exact ⟨k, by omega, i + 1, by omega, htake he, rfl⟩
    · refine ⟨.ret, ?_⟩
      rw [eqB_false he] at w
      simp [-getElem?_pos, F209_B0, h0, h1, h5, hlt, hlt', hltm, hb, hbm, w, hdiff he]


theorem run_l7ElemSame {n : Nat} (a b : El) (hn : a.as.length + 3 ≤ n) (hl : a.as.length < 2 ^ 40) (s : Sup) : go n 217 [elX a, elX b] [] s = some ⟨bV (eqB a b), [], []⟩ := by
  obtain ⟨n, rfl⟩ : ∃ k, n = k + 1 := ⟨n - 1, by omega⟩
  obtain ⟨p, x⟩ := a
  obtain ⟨q, y⟩ := b
  simp only at hn hl
  by_cases h1 : p = q
  · subst h1
    by_cases h2 : x.length = y.length
    · have h2i : ((x.length : Int) = y.length) = True := eq_true (by omega)
      simp [go_of FT_217 rfl, F217, h2, h2i]
      generalize hst : St.mk _ _ _ _ = st
      obtain ⟨e, ⟨τ', H', g', s'⟩, hx, -, ⟨rfl, h⟩ | ⟨rfl, h, h4⟩⟩ := loop217_0 (n := n) x (iW p) (iW p) _ y h2 (by omega) hl st trivial (by simp [← hst]) (by simp [← hst]; rfl) (by simp [← hst]) (by simp [← hst]) (by simp [← hst]) (by simp [← hst])
      · rw [eqB_true (by rw [h])]
        simp [hx]
      · simp only at h4
        rw [eqB_false (fun e => h (by cases e; rfl))]
        simp [hx, h4]
    · have h2i : ((x.length : Int) = y.length) = False := eq_false (by omega)
      rw [eqB_false (fun e => h2 (by cases e; rfl))]
      simp [go_of FT_217 rfl, F217, h2, h2i]
  · rw [eqB_false (fun e => h1 (by cases e; rfl))]
    simp [go_of FT_217 rfl, F217, h1]

theorem run_l7NetSame : ∀ (m : Nat) (t u : Net), t.wt ≤ m → m < 2 ^ 39 → ∀ (n : Nat), 2 * m + 6 ≤ n → ∀ s, go n 216 [netX t, netX u] [] s = some ⟨bV (eqB t u), [], []⟩
  | 0, t, u, h, hm, n, hn, s => by have := t.wt_pos; omega
  | m + 1, .mk k op as ks, .mk k2 op2 as2 ks2, h, hm, n, hn, s => by
    obtain ⟨n, rfl⟩ : ∃ k, n = k + 1 := ⟨n - 1, by omega⟩
    have hlen := netsWt_len ks
    simp only [Net.wt] at h
    have hc : ∀ x ∈ ks, ∀ y s, go n 216 [netX x, netX y] [] s = some ⟨bV (eqB x y), [], []⟩ := fun x hx y s => run_l7NetSame m x y (by have := netsWt_mem hx; omega) (by omega) n (by omega) s
    have w2 := run_l7ElemSame (n := n) ⟨op, as⟩ ⟨op2, as2⟩ (by simp only; omega) (by simp only; omega)
    by_cases h1 : k = k2
    · subst h1
      by_cases h2 : (⟨op, as⟩ : El) = ⟨op2, as2⟩
      · rw [eqB_true h2] at w2
        by_cases h3 : ks.length = ks2.length
        · have h3i : ((ks.length : Int) = ks2.length) = True := eq_true (by omega)
          simp [go_of FT_216 rfl, F216, w2, h3, h3i]
          generalize hst : St.mk _ _ _ _ = st
          obtain ⟨e, ⟨τ', H', g', s'⟩, hx, -, ⟨rfl, h⟩ | ⟨rfl, h, h4⟩⟩ := loop216_0 (n := n) ks (iW k) (iW op) (asW as) (iW k) (iW op2) (asW as2) _ ks2 h3 hc (by omega) (by omega) st trivial (by simp [← hst]) (by simp [← hst]; rfl) (by simp [← hst]) (by simp [← hst]) (by simp [← hst]) (by simp [← hst])
          · rw [eqB_true (by cases h2; rw [h])]
            simp [hx]
          · simp only at h4
            rw [eqB_false (fun e => h (by cases e; rfl))]
            simp [hx, h4]
        · have h3i : ((ks.length : Int) = ks2.length) = False := eq_false (by omega)
          rw [eqB_false (a := Net.mk k op as ks) (fun e => h3 (by cases e; rfl))]
          simp [go_of FT_216 rfl, F216, w2, h3, h3i]
      · rw [eqB_false h2] at w2
        rw [eqB_false (a := Net.mk k op as ks) (fun e => h2 (by cases e; rfl))]
        simp [go_of FT_216 rfl, F216, w2]
    · rw [eqB_false (a := Net.mk k op as ks) (fun e => h1 (by cases e; rfl))]
      simp [go_of FT_216 rfl, F216, h1]

theorem run_l7ArmSame {n : Nat} (a b : Arm) (hk : ∀ s, go n 209 [.w (ksW a.kids), .w (ksW b.kids)] [] s = some ⟨bV (eqB a.kids b.kids), [], []⟩) (hn : 2 * a.wt + 10 ≤ n) (hl : a.wt < 2 ^ 38) (s : Sup) :
    go (n + 1) 212 [armX a, armX b] [] s = some ⟨bV (eqB a b), [], []⟩ := by
  obtain ⟨⟨k, op, as, nks⟩, cs, ks⟩ := a
  obtain ⟨⟨k2, op2, as2, nks2⟩, cs2, ks2⟩ := b
  simp only [Arm.wt] at hn hl
  simp only [Arm.kids] at hk
  have hcl := elsWt_len cs
  have w1 := run_l7NetSame (Net.wt (.mk k op as nks)) (.mk k op as nks) (.mk k2 op2 as2 nks2) (Nat.le_refl _) (by omega) n (by omega)
  have hc : ∀ x ∈ cs, ∀ y s, go n 217 [elX x, elX y] [] s = some ⟨bV (eqB x y), [], []⟩ := fun x hx y s => by
    have := elsWt_mem hx
    exact run_l7ElemSame (n := n) x y (by simp only [El.wt] at this; omega) (by simp only [El.wt] at this; omega) s
  by_cases h1 : (Net.mk k op as nks) = .mk k2 op2 as2 nks2
  · rw [eqB_true h1] at w1
    by_cases h2 : cs.length = cs2.length
    · have h2i : ((cs.length : Int) = cs2.length) = True := eq_true (by omega)
      simp [go_of FT_212 rfl, F212, w1, h2, h2i]
      generalize hst : St.mk _ _ _ _ = st
      obtain ⟨e, ⟨τ', H', g', s'⟩, hx, -, ⟨rfl, h, f2, f3, fA, fB, fg⟩ | ⟨rfl, h, h4⟩⟩ := loop212_0 (n := n) cs (iW k) (iW op) (asW as) (nsW nks) (ksW ks) (iW k2) (iW op2) (asW as2) (nsW nks2) (ksW ks2) _ cs2 h2 hc (by omega) (by omega) st trivial (by simp [← hst]) (by simp [← hst]; rfl) (by simp [← hst]) (by simp [← hst]) (by simp [← hst]) (by simp [← hst])
      · simp only at f2 f3 fA fB fg
        have e : eqB ks ks2 = eqB (Arm.mk (.mk k op as nks) cs ks) (.mk (.mk k2 op2 as2 nks2) cs2 ks2) := eqB_of (by rw [eqB_iff]; cases h1; subst h; simp)
        rw [← e]
        simp [hx, f2, f3, fA, fB, hk]
      · simp only at h4
        rw [eqB_false (a := Arm.mk (.mk k op as nks) cs ks) (fun e => h (by cases e; rfl))]
        simp [hx, h4]
    · have h2i : ((cs.length : Int) = cs2.length) = False := eq_false (by omega)
      rw [eqB_false (a := Arm.mk (.mk k op as nks) cs ks) (fun e => h2 (by cases e; rfl))]
      simp [go_of FT_212 rfl, F212, w1, h2, h2i]
  · rw [eqB_false h1] at w1
    rw [eqB_false (a := Arm.mk (.mk k op as nks) cs ks) (fun e => h1 (by cases e; rfl))]
    simp [go_of FT_212 rfl, F212, w1]

theorem run_TreeSameS : ∀ (m : Nat) (l u : List Arm), armsWt l ≤ m → m < 2 ^ 38 → ∀ (n : Nat), 3 * m + 20 ≤ n → ∀ s, go n 209 [.w (ksW l), .w (ksW u)] [] s = some ⟨bV (eqB l u), [], []⟩ := by
  intro m
  induction m with
  | zero =>
    intro l u h hm n hn s
    obtain ⟨n, rfl⟩ : ∃ k, n = k + 1 := ⟨n - 1, by omega⟩
    have e : l = [] := by
      cases l with
      | nil => rfl
      | cons a r => have := a.wt_pos; simp [armsWt] at h; omega
    subst e
    cases u with
    | nil =>
      obtain ⟨n, rfl⟩ : ∃ k, n = k + 1 := ⟨n - 1, by omega⟩
      rw [eqB_true rfl]
      simp [go_of FT_209 rfl, F209, F209_L0, execC_loop, iter, F209_B0, armRows]
    | cons x r =>
      have h2i : ((0 : Int) = (r.length : Int) + 1) = False := eq_false (by omega)
      have h2j : ((r.length : Int) + 1 = 0) = False := eq_false (by omega)
      rw [eqB_false (by simp)]
      simp [go_of FT_209 rfl, F209, armRows, h2i, h2j]
  | succ m ih =>
    intro l u h hm n hn s
    obtain ⟨n, rfl⟩ : ∃ k, n = k + 2 := ⟨n - 2, by omega⟩
    have hlen := armsWt_len l
    by_cases h2 : l.length = u.length
    · have h2i : ((l.length : Int) = u.length) = True := eq_true (by omega)
      have hc : ∀ x ∈ l, ∀ y s, go (n + 1) 212 [armX x, armX y] [] s = some ⟨bV (eqB x y), [], []⟩ := fun x hx y s => by
        have hw := armsWt_mem hx
        have hkw : armsWt x.kids < x.wt := by cases x; simp [Arm.wt, Arm.kids]; omega
        exact run_l7ArmSame x y (fun s => ih x.kids y.kids (by omega) (by omega) n (by omega) s) (by omega) (by omega) s
      simp [go_of FT_209 rfl, F209, h2, h2i]
      generalize hst : St.mk _ _ _ _ = st
      obtain ⟨e, ⟨τ', H', g', s'⟩, hx, -, ⟨rfl, h⟩ | ⟨rfl, h, h4⟩⟩ := loop209_0 (n := n + 1) l u h2 hc (by omega) (by omega) st trivial (by simp [← hst]) (by simp [← hst]) (by simp [← hst])
      · rw [eqB_true h]
        simp [hx]
      · simp only at h4
        rw [eqB_false h]
        simp [hx, h4]
    · have h2i : ((l.length : Int) = u.length) = False := eq_false (by omega)
      rw [eqB_false (fun e => h2 (by rw [e]))]
      simp [go_of FT_209 rfl, F209, h2, h2i]

end Go.VM

/- The normal form of nets, as the document has it. Conditions: none. -/
namespace Go.VM
set_option linter.unusedSimpArgs false
set_option linter.unusedVariables false
set_option maxHeartbeats 16000000

/-- Nets that are being gathered. -/
def NSlot (H : Nat → Box) (g lo : Nat) (cw : W) (l : List Net) : Prop := (l = [] ∧ cw = .nil) ∨ ∃ bx, lo < bx ∧ bx < g ∧ cw = .own bx 0 l.length none ∧ H bx = .row none 4 (netRows l) 0

theorem loop218 {n : Nat} (l : List Net) (k0 : Int) (hc : ∀ x ∈ l, ∀ s, go n 214 [netX x] [] s = some ⟨netX x.norm, [], []⟩) (hr : ∀ x ∈ l, x.wrong = 0) (hwt : netsWt l < 2 ^ 29) (hn : l.length < n) (st : St)
    (h0 : st.τ 0 = iV k0) (h1 : st.τ 1 = .w (nsW l)) (h4 : st.τ 4 = .w (.ptr 0 0)) (h5 : st.τ 5 = .w (.ptr 192 0)) (h6 : st.τ 6 = iV 0) (hC : st.H 0 = .cells [iW 0, iW 0, .nil, .nil]) (hA : st.H 192 = .cells [iW k0, iW 0, .nil, .nil]) (hgg : 192 < st.g) :
    ∃ e st', execC (go n) mode GT false 46 n F218_L0 st = some (e, st') ∧ e ≠ .normal ∧ (e = .exit 0 ∧ st'.τ 4 = .w (.ptr 0 0) ∧ st'.τ 5 = .w (.ptr 192 0) ∧ st'.H 0 = .cells [iW 0, iW 0, .nil, .nil] ∧ 192 < st'.g ∧ ∃ cw, st'.H 192 = .cells [iW k0, iW 0, .nil, cw] ∧ NSlot st'.H st'.g 192 cw (accN k0 l l.length)) := by
  have hl := netsWt_len l
  rw [F218_L0, execC_loop]
  refine iter_rule (fun k st => ∃ i, i + k = l.length ∧ st.τ 0 = iV k0 ∧ st.τ 1 = .w (nsW l) ∧ st.τ 4 = .w (.ptr 0 0) ∧ st.τ 5 = .w (.ptr 192 0) ∧ st.τ 6 = iV i ∧ st.H 0 = .cells [iW 0, iW 0, .nil, .nil] ∧ 192 < st.g ∧ ∃ cw, st.H 192 = .cells [iW k0, iW 0, .nil, cw] ∧ NSlot st.H st.g 192 cw (accN k0 l i)) ?_ n l.length st hn
    ⟨0, by omega, h0, h1, h4, h5, by simpa using h6, hC, hgg, .nil, hA, .inl ⟨by simp [accN, netsNorm], rfl⟩⟩
  clear h0 h1 h4 h5 h6 hC hA hgg
  rintro k ⟨τ, H, g, s⟩ ⟨i, hk, h0, h1, h4, h5, h6, hC, hgg, cw, hA, hcw⟩
  simp only at h0 h1 h4 h5 h6 hC hgg hA hcw
  cases k with
  | zero =>
    have : i = l.length := by omega
    subst this
    refine ⟨.exit 0, ⟨upd (upd (upd (upd τ 10 (iV l.length)) 11 (.w (nsW l))) 12 (iV l.length)) 13 (.w (.d (.s (.bool false)))), H, g + 256, restS s⟩, ?_, by simp, fun _ => ⟨rfl, by simpa using h4, by simpa using h5, hC, by simp only; omega, cw, hA, ?_⟩⟩
    · simp [F218_B0, h0, h1, h4, h5, h6]
    · rcases hcw with hcw | ⟨bx, hb1, hb2, hb3, hb4⟩
      · exact .inl hcw
      · exact .inr ⟨bx, hb1, by simp only; omega, hb3, hb4⟩
  | succ k =>
    have hlt : i < l.length := by omega
    have hlt' : ((i : Int) < (l.length : Int)) = True := eq_true (by omega)
    have hg := List.getElem?_eq_getElem hlt
    have hmem := List.getElem_mem hlt
    have hw := wrap_succ (i := i) (by omega)
    have w := hc _ hmem
    have hstep := accN_step (k := k0) hg
    have hwtA := accN_wt (k := k0) hr (i + 1)
    rw [hstep, netsWt_append] at hwtA
    have hlA := netsWt_len (accN k0 l i)
    obtain ⟨k', op, as, ks, hx⟩ : ∃ k' op as ks, l[i] = .mk k' op as ks := by cases l[i]; exact ⟨_, _, _, _, rfl⟩
    rw [hx] at hg w hstep hwtA
    generalize Net.norm (.mk k' op as ks) = y at w hstep hwtA
    obtain ⟨k2, op2, as2, ks2⟩ := y
    have hb := netRows_get hg
    have fgX := far (show 192 < g by omega)
    have fzX := far (show 0 < g by omega)
    generalize accN k0 l i = A at hcw hstep hwtA hlA

    by_cases hkk : k2 = k0
    · subst hkk
      have ho : Net.open k2 (.mk k2 op2 as2 ks2) = ks2 := by simp [Net.open, Net.kind, Net.kids]
      rw [ho] at hstep hwtA
      have hl2 := netsWt_len ks2
      have al := eq_true (len_of4 ks2)
      have rm : room (A.length + ks2.length) 64 = true := room_of (by omega) (by omega)
      have rm2 : room ks2.length 64 = true := room_of (by omega) (by omega)
      refine ⟨.normal, ?_⟩
      rcases hcw with ⟨rfl, rfl⟩ | ⟨bx, hb1, hb2, rfl, hB⟩
      · simp [-getElem?_pos, F218_B0, h0, h1, h4, h5, h6, hA, hC, hlt, hlt', hb, w, hw, al, rm2, fgX, fzX]
        refine ⟨k, by omega, i + 1, by omega, by simp, ?_⟩
        rw [hstep]
        refine .inr ⟨_, ?_, ?_, rfl, ?_⟩
        · omega
        · omega
        · simp [fgX]; try rfl
      · have fbX := far hb2
        have b1 : (192 = bx) = False := eq_false (by omega)
        have b2 : (0 = bx) = False := eq_false (by omega)
        have b4 : (bx = 192) = False := eq_false (by omega)
        have b5 : (bx = 0) = False := eq_false (by omega)
        simp [-getElem?_pos, F218_B0, h0, h1, h4, h5, h6, hA, hC, hB, hlt, hlt', hb, w, hw, al, rm, b1, b2, b4, b5, fgX, fzX, fbX]
        refine ⟨k, by omega, i + 1, by omega, by simp, ?_⟩
        rw [hstep]
        refine .inr ⟨_, ?_, ?_, (by rw [List.length_append]; try rfl), ?_⟩
        · omega
        · omega
        · simp [netRows_append, netRows, Net.row, fgX]; try rfl
    · have ho : Net.open k0 (.mk k2 op2 as2 ks2) = [.mk k2 op2 as2 ks2] := by simp [Net.open, Net.kind, hkk]
      rw [ho] at hstep hwtA
      have hkk' := eq_false hkk
      have rm : room (A.length + 1) 64 = true := room_of (by simp [netsWt] at hwtA; omega) (by omega)
      have rm2 : room 1 64 = true := by decide
      refine ⟨.normal, ?_⟩
      rcases hcw with ⟨rfl, rfl⟩ | ⟨bx, hb1, hb2, rfl, hB⟩
      · simp [-getElem?_pos, F218_B0, h0, h1, h4, h5, h6, hA, hC, hlt, hlt', hb, w, hw, rm2, hkk', fgX, fzX]
        refine ⟨k, by omega, i + 1, by omega, by simp, ?_⟩
        rw [hstep]
        refine .inr ⟨_, ?_, ?_, rfl, ?_⟩
        · omega
        · omega
        · simp [netRows_append, netRows, Net.row, fgX]; try rfl
      · have fbX := far hb2
        have b1 : (192 = bx) = False := eq_false (by omega)
        have b2 : (0 = bx) = False := eq_false (by omega)
        have b4 : (bx = 192) = False := eq_false (by omega)
        have b5 : (bx = 0) = False := eq_false (by omega)
        simp [-getElem?_pos, F218_B0, h0, h1, h4, h5, h6, hA, hC, hB, hlt, hlt', hb, w, hw, rm, rm2, hkk', b1, b2, b4, b5, fgX, fzX, fbX]
        refine ⟨k, by omega, i + 1, by omega, by simp, ?_⟩
        rw [hstep]
        refine .inr ⟨_, ?_, ?_, (by rw [List.length_append]; try rfl), ?_⟩
        · omega
        · omega
        · simp [netRows_append, netRows, Net.row, fgX]; try rfl


theorem accN_all (k : Int) (l : List Net) : accN k l l.length = (netsNorm l).flatMap (Net.open k) := by
  simp [accN]
theorem run_l9Flat {n : Nat} (l : List Net) (k : Int) (hc : ∀ x ∈ l, ∀ s, go n 214 [netX x] [] s = some ⟨netX x.norm, [], []⟩) (hr : ∀ x ∈ l, x.wrong = 0) (hwt : netsWt l < 2 ^ 29) (hn : l.length < n) (s : Sup) :
    go (n + 1) 218 [iV k, .w (nsW l)] [] s = some ⟨netX (netOf k ((netsNorm l).flatMap (Net.open k))), [], []⟩ := by
  simp [go_of FT_218 rfl, F218]
  generalize hst : St.mk _ _ _ _ = st
  obtain ⟨e, ⟨τ', H', g', s'⟩, hx, -, rfl, f4, f5, fC, fg, cw, fA, hcw⟩ := loop218 (n := n) l k hc hr hwt hn st (by simp [← hst]) (by simp [← hst]) (by simp [← hst]) (by simp [← hst]) (by simp [← hst]) (by simp [← hst]) (by simp [← hst]) (by simp [← hst])
  simp only at f4 f5 fC fg fA hcw
  clear hst
  rw [accN_all] at hcw
  generalize (netsNorm l).flatMap (Net.open k) = A at hcw ⊢
  rcases hcw with ⟨rfl, rfl⟩ | ⟨bx, hb1, hb2, rfl, hB⟩
  · simp [hx, f4, f5, fC, fA, netOf, netRows, argRows]
  · have b1 : (192 = bx) = False := eq_false (by omega)
    have b2 : (0 = bx) = False := eq_false (by omega)
    have b4 : (bx = 192) = False := eq_false (by omega)
    have b5 : (bx = 0) = False := eq_false (by omega)
    have glt : ∀ m : Nat, m ≤ 192 → (m < g') = True := fun m h => eq_true (by omega)
    match A, hB with
    | [], hB => simp [hx, f4, f5, fC, fA, hB, netOf, netRows, argRows, b1, b2, b4, b5]
    | [.mk xk xo xa xks], hB => simp [hx, f4, f5, fC, fA, hB, netOf, netRows, Net.row, b1, b2, b4, b5, glt]
    | x :: y :: r, hB =>
      have h1 : ((r.length : Int) + 1 + 1 = 1) = False := eq_false (by omega)
      have tk := take_netRows (x :: y :: r)
      simp only [List.length_cons] at tk
      simp [hx, f4, f5, fC, fA, hB, netOf, argRows, h1, tk, b1, b2, b4, b5]

theorem one_kids {op : Int} {as : List Arg} {ks : List Net} (h : (Net.mk 1 op as ks).wrong = 0) : ks = [] := by
  cases ks with
  | nil => rfl
  | cons a r => exfalso; simp [Net.wrong] at h
theorem run_l9Net : ∀ (m : Nat) (t : Net), t.wt ≤ m → m < 2 ^ 29 → t.wrong = 0 → ∀ (n : Nat), 2 * m + 12 ≤ n → ∀ s, go n 214 [netX t] [] s = some ⟨netX t.norm, [], []⟩
  | 0, t, h, hm, hr, n, hn, s => by have := t.wt_pos; omega
  | m + 1, .mk k op as ks, h, hm, hr, n, hn, s => by
    obtain ⟨n, rfl⟩ : ∃ k, n = k + 2 := ⟨n - 2, by omega⟩
    have hlen := netsWt_len ks
    have hw0 := h
    simp only [Net.wt] at h
    by_cases hk : k = 1
    · subst hk
      have hks : ks = [] := one_kids hr
      subst hks
      have al := eq_true (len_of3 as)
      have rm : room as.length 24 = true := room_of (by omega) (by omega)
      simp [go_of FT_214 rfl, F214, Net.norm, al, rm, netRows]
    · obtain ⟨h1, rfl, rfl, h4, h5, h6⟩ := right_kids hr hk
      have hc : ∀ n, 2 * m + 12 ≤ n → ∀ x ∈ ks, ∀ s, go n 214 [netX x] [] s = some ⟨netX x.norm, [], []⟩ := fun n hn x hx s => run_l9Net m x (by have := netsWt_mem hx; omega) (by omega) (h6 x hx) n (by omega) s
      by_cases hk4 : k = 4
      · subst hk4
        have hl1 := h5 rfl
        match ks, hl1, hc (n + 1) (by omega) with
        | [x], _, hc =>
          have w := hc x (by simp)
          have e : Net.norm (.mk 4 0 [] [x]) = .mk 4 0 [] [x.norm] := by simp [Net.norm, netsNorm]
          rw [e]
          generalize x.norm = y at w
          obtain ⟨k1, op1, as1, ks1⟩ := x
          obtain ⟨k2, op2, as2, ks2⟩ := y
          simp [go_of (n := n + 1) FT_214 rfl, F214, netRows, Net.row, w, show argRows [] = [] from rfl]
      · have e : Net.norm (.mk k 0 [] ks) = netOf k ((netsNorm ks).flatMap (Net.open k)) := by simp [Net.norm, hk, hk4]
        have w := run_l9Flat (n := n) ks k (hc n (by omega)) h6 (by omega) (by omega)
        rw [← e] at w
        generalize Net.norm (.mk k 0 [] ks) = y at w
        obtain ⟨k2, op2, as2, ks2⟩ := y
        have hk23 : k = 2 ∨ k = 3 := by omega
        rcases hk23 with rfl | rfl <;> simp [go_of FT_214 rfl, F214, w]

end Go.VM

/- Parts of the laws of the normal form: whether a ladder is in it, nets joined. Conditions: none. -/
namespace Go.VM
set_option linter.unusedSimpArgs false
set_option linter.unusedVariables false
set_option maxHeartbeats 16000000

theorem run_NormIs (l : List Arm) (hm : armsWt l < 2 ^ 27) (n : Nat) (hn : 3 * armsWt l + 200 ≤ n) (s : Sup) : go (n + 1) 206 [.w (ksW l)] [] s = some ⟨bV (decide (treeCode l = 0) && eqB l (armsNorm l)), [], []⟩ := by
  have w1 := run_accepted l (by omega) n (by omega)
  by_cases hc : treeCode l = 0
  · have hright : ∀ a ∈ l, a.wrong true = 0 := by
      unfold treeCode at hc
      split at hc
      · simp at hc
      · exact (rungsWrong_all l).1 hc
    have w2 := run_normed l (by omega) hright n (by omega)
    have w3 := run_TreeSame (armsWt l) l (armsNorm l) (Nat.le_refl _) (by omega) n (by omega)
    rw [decide_eq_true hc] at w1
    rw [decide_eq_true hc, Bool.true_and]
    generalize armsNorm l = Y at w2 w3
    simp [go_of FT_206 rfl, F206, w1, w2, w3]
  · rw [decide_eq_false hc] at w1
    rw [decide_eq_false hc, Bool.false_and]
    simp [go_of FT_206 rfl, F206, w1]

theorem run_l9Join {n : Nat} (a b : Net) (ha : NetFine a) (hb : NetFine b) (hw : a.wt + b.wt < 2 ^ 28) (hn : 2 * (a.wt + b.wt) + 40 ≤ n) (s : Sup) : go (n + 1) 215 [netX a, netX b] [] s = some ⟨netX (a.join b), [], []⟩ := by
  have w1 := run_noneS (n := n) (by omega) a
  have w2 := run_noneS (n := n) (by omega) b
  by_cases h1 : a.none = true
  · rw [h1] at w1
    have e : a.join b = b := by simp [Net.join, h1]
    rw [e]
    obtain ⟨ak, ao, aa, aks⟩ := a
    obtain ⟨bk, bo, ba, bks⟩ := b
    simp [go_of FT_215 rfl, F215, w1]
  by_cases h2 : b.none = true
  · have h1' : a.none = false := by simpa using h1
    rw [h1'] at w1
    rw [h2] at w2
    have e : a.join b = a := by simp [Net.join, h1', h2]
    rw [e]
    obtain ⟨ak, ao, aa, aks⟩ := a
    obtain ⟨bk, bo, ba, bks⟩ := b
    simp [go_of FT_215 rfl, F215, w1, w2]
  · have h1' : a.none = false := by simpa using h1
    have h2' : b.none = false := by simpa using h2
    have ra : a.wrong = 0 := by rcases ha with h | h; exact absurd h h1; exact h
    have rb : b.wrong = 0 := by rcases hb with h | h; exact absurd h h2; exact h
    have hr : ∀ x ∈ [a, b], x.wrong = 0 := by simp [ra, rb]
    obtain ⟨n, rfl⟩ : ∃ k, n = k + 1 := ⟨n - 1, by omega⟩
    have hc : ∀ x ∈ [a, b], ∀ s, go n 214 [netX x] [] s = some ⟨netX x.norm, [], []⟩ := fun x hx s => by
      have hx' : x = a ∨ x = b := by simpa using hx
      rcases hx' with rfl | rfl
      · exact run_l9Net x.wt x (Nat.le_refl _) (by omega) ra n (by omega) s
      · exact run_l9Net x.wt x (Nat.le_refl _) (by omega) rb n (by omega) s
    have w3 := run_l9Flat (n := n) [a, b] 2 hc hr (by simp only [netsWt]; omega) (by simp only [List.length_cons, List.length_nil]; omega)
    have e : a.join b = netOf 2 ((netsNorm [a, b]).flatMap (Net.open 2)) := by simp [Net.join, h1', h2', Net.norm]
    rw [← e] at w3
    rw [h1'] at w1
    rw [h2'] at w2
    generalize a.join b = y at w3
    obtain ⟨ak, ao, aa, aks⟩ := a
    obtain ⟨bk, bo, ba, bks⟩ := b
    obtain ⟨yk, yo, ya, yks⟩ := y
    simp only [nsW, netRows, Net.row] at w3
    simp [go_of (n := n + 1) FT_215 rfl, F215, w1, w2, w3]
end Go.VM

/- Coils copied, as the document has it. Conditions: none. -/
namespace Go.VM
set_option linter.unusedSimpArgs false
set_option linter.unusedVariables false
set_option maxHeartbeats 16000000

/-- Coils of one's own. -/
def eCap (ks : List El) : Option Nat := match ks with | [] => some 0 | _ :: _ => none
theorem eCap_ne {ks : List El} (h : ks ≠ []) : eCap ks = none := by cases ks with | nil => exact absurd rfl h | cons a r => rfl
def CHeld (H : Nat → Box) (g : Nat) (v : V) (ks : List El) : Prop := ∃ bx c, bx < g ∧ v = .w (.own bx 0 ks.length c) ∧ H bx = .row none 2 (elRows ks) 0 ∧ c = eCap ks

theorem loop213 {n : Nat} (l : List El) (hwt : elsWt l < 2 ^ 29) (hn : l.length < n) (st : St) (h0 : st.τ 0 = .w (csW l)) (h4 : st.τ 4 = iV 0) (h3 : CHeld st.H st.g (st.τ 3) []) :
    ∃ e st', execC (go n) mode GT false 29 n F213_L0 st = some (e, st') ∧ e ≠ .normal ∧ (e = .exit 0 ∧ CHeld st'.H st'.g (st'.τ 3) l) := by
  have hl := elsWt_len l
  rw [F213_L0, execC_loop]
  refine iter_rule (fun k st => ∃ i, i + k = l.length ∧ st.τ 0 = .w (csW l) ∧ st.τ 4 = iV i ∧ CHeld st.H st.g (st.τ 3) (l.take i)) ?_ n l.length st hn
    ⟨0, by omega, h0, by simpa using h4, by simpa using h3⟩
  clear h0 h4 h3
  rintro k ⟨τ, H, g, s⟩ ⟨i, hk, h0, h4, bx, c, hb2, h3, hB, hc⟩
  simp only at h0 h3 h4 hb2 hB
  have htl : (l.take i).length = i := by simp; omega
  rw [htl] at h3
  cases k with
  | zero =>
    have : i = l.length := by omega
    subst this
    refine ⟨.exit 0, ⟨upd (upd (upd (upd τ 6 (iV l.length)) 7 (.w (csW l))) 8 (iV l.length)) 9 (.w (.d (.s (.bool false)))), H, g + 256, restS s⟩, ?_, by simp, fun _ => ⟨rfl, bx, c, by simp only; omega, by simpa using h3, by rw [List.take_length] at hB; exact hB, by rw [List.take_length] at hc; exact hc⟩⟩
    simp [F213_B0, h0, h4]
  | succ k =>
    have hlt : i < l.length := by omega
    have hlt' : ((i : Int) < (l.length : Int)) = True := eq_true (by omega)
    have hg := List.getElem?_eq_getElem hlt
    have hmem := elsWt_mem (List.getElem_mem hlt)
    have hw := wrap_succ (i := i) (by omega)
    have htk : elRows (l.take i) ++ [El.row l[i]] = elRows (l.take (i + 1)) := by rw [List.take_add_one, hg, elRows_append]; simp [elRows]
    have htl2 : (l.take (i + 1)).length = i + 1 := by simp; omega
    obtain ⟨op, as, hx⟩ : ∃ op as, l[i] = ⟨op, as⟩ := ⟨_, _, rfl⟩
    rw [hx] at hg hmem htk
    simp only [El.wt] at hmem
    simp only [El.row] at htk
    have hb := elRows_get hg
    have al := eq_true (len_of3 as)
    have rm3 : room as.length 24 = true := room_of (by omega) (by omega)
    have rm : room (i + 1) 32 = true := room_of (by omega) (by omega)
    have rm1 : room 1 32 = true := by decide
    have fbX := far hb2
    have hlT : (elRows (l.take i)).length = i := by rw [elRows_length, htl]
    refine ⟨.normal, ?_⟩
    by_cases hi0 : i = 0
    case neg =>
      have hne : l.take i ≠ [] := fun e => by rw [e] at htl; exact hi0 htl.symm
      rw [eCap_ne hne] at hc
      subst hc
      simp [-getElem?_pos, -List.length_take, F213_B0, h0, h3, h4, hB, hlt, hlt', hb, hw, al, rm3, rm, htk, hlT, fbX]
      refine ⟨k, by omega, i + 1, by omega, by simp, g + 256 + 960, none, by omega, by rw [htl2], ?_, (eCap_ne (fun e => by rw [e] at htl2; simp at htl2)).symm⟩
      rw [← htk, List.take_of_length_le (Nat.le_of_eq hlT)]
      simp
    case pos =>
      subst hi0
      have hc : c = some 0 := hc
      subst hc
      simp [-getElem?_pos, -List.length_take, F213_B0, h0, h3, h4, hB, hlt, hlt', hb, hw, al, rm3, rm1, htk, hlT, fbX]
      refine ⟨k, by omega, 1, by omega, by decide, g + 256 + 960, none, by omega, by rw [htl2], ?_, (eCap_ne (fun e => by rw [e] at htl2; simp at htl2)).symm⟩
      rw [show elRows (List.take 1 l) = _ from htk.symm]
      simp [elRows]


theorem run_l9Coils {n : Nat} (l : List El) (hwt : elsWt l < 2 ^ 29) (hn : l.length < n) (s : Sup) : go (n + 1) 213 [.w (csW l)] [] s = some ⟨.w (.own 0 0 l.length (eCap l)), [], [.row none 2 (elRows l) 0]⟩ := by
  simp [go_of FT_213 rfl, F213]
  generalize hst : St.mk _ _ _ _ = st
  obtain ⟨e, ⟨τ', H', g', s'⟩, hx, -, rfl, bx, c, hb2, h3, hB, hc⟩ := loop213 (n := n) l hwt hn st (by simp [← hst]) (by simp [← hst]) (by subst hst; exact ⟨64, some 0, by simp, by simp, by simp [elRows], rfl⟩)
  simp only at hb2 h3 hB
  clear hst
  subst hc
  simp [hx, h3, hB]

end Go.VM

/- The normal form of arms, as the document has it: kids. Conditions: none. -/
namespace Go.VM
set_option linter.unusedSimpArgs false
set_option linter.unusedVariables false
set_option maxHeartbeats 16000000

/-- Arms that are being gathered. -/
def ASlot (H : Nat → Box) (g lo av : Nat) (cw : W) (l : List Arm) : Prop := (l = [] ∧ cw = .nil) ∨ ∃ bx, l ≠ [] ∧ bx ≠ av ∧ lo < bx ∧ bx < g ∧ cw = .own bx 0 l.length none ∧ H bx = .row none 6 (armRows l) 0

theorem loop211_0 {n : Nat} (l : List Arm) (w0 w1 w2 w3 cc : W) (X0 X2 Xc : Box) (c0 c1 c2 c3 c4 : W) (a2 b3 bc : Nat) (h2p : 0 < a2) (h23 : a2 < b3) (hcb : bc ≠ b3) (hX0 : X0 = .cells [c0, c1, c2, c3, c4, ksW l]) (hc : ∀ x ∈ l, ∀ s, go n 211 [armX x] [] s = some ⟨armX x.norm, [], []⟩) (hl : l.length < 2 ^ 28) (hn : l.length < n) (st : St)
    (h1 : st.τ 1 = .w (.ptr 0 0)) (h2 : st.τ 2 = .w (.ptr a2 0)) (h3 : st.τ 3 = .w (.ptr b3 0)) (h4 : st.τ 4 = iV 0) (hA : st.H 0 = X0) (hC : st.H a2 = X2) (hX : st.H bc = Xc) (hbc : bc < st.g) (hB : st.H b3 = .cells [w0, w1, w2, w3, cc, .nil]) (hg : b3 < st.g) :
    ∃ e st', execC (go n) mode GT false 74 n F211_L0 st = some (e, st') ∧ e ≠ .normal ∧ (e = .exit 0 ∧ st'.τ 2 = .w (.ptr a2 0) ∧ st'.τ 3 = .w (.ptr b3 0) ∧ st'.H a2 = X2 ∧ st'.H bc = Xc ∧ bc < st'.g ∧ b3 < st'.g ∧ ∃ cw, st'.H b3 = .cells [w0, w1, w2, w3, cc, cw] ∧ ASlot st'.H st'.g b3 bc cw (armsNorm l)) := by
  subst hX0
  rw [F211_L0, execC_loop]
  refine iter_rule (fun k st => ∃ i, i + k = l.length ∧ st.τ 1 = .w (.ptr 0 0) ∧ st.τ 2 = .w (.ptr a2 0) ∧ st.τ 3 = .w (.ptr b3 0) ∧ st.τ 4 = iV i ∧ st.H 0 = .cells [c0, c1, c2, c3, c4, ksW l] ∧ st.H a2 = X2 ∧ st.H bc = Xc ∧ bc < st.g ∧ b3 < st.g ∧ ∃ cw, st.H b3 = .cells [w0, w1, w2, w3, cc, cw] ∧ ASlot st.H st.g b3 bc cw (armsNorm (l.take i))) ?_ n l.length st hn
    ⟨0, by omega, h1, h2, h3, by simpa using h4, hA, hC, hX, hbc, hg, .nil, hB, .inl ⟨by simp [armsNorm], rfl⟩⟩
  clear h1 h2 h3 h4 hA hC hX hbc hB hg
  rintro k ⟨τ, H, g, s⟩ ⟨i, hk, h1, h2, h3, h4, hA, hC, hX, hbc, hg, cw, hB, hcw⟩
  simp only at h1 h2 h3 h4 hA hC hX hbc hB hg hcw
  have htl : (armsNorm (l.take i)).length = i := by rw [armsNorm_map]; simp; omega
  cases k with
  | zero =>
    have : i = l.length := by omega
    subst this
    rw [List.take_length] at hcw
    refine ⟨.exit 0, ⟨upd (upd (upd (upd (upd τ 18 (iV l.length)) 19 (.w (.ptr 0 5))) 20 (.w (ksW l))) 21 (iV l.length)) 22 (.w (.d (.s (.bool false)))), H, g + 320, restS s⟩, ?_, by simp, fun _ => ⟨rfl, by simpa using h2, by simpa using h3, hC, hX, by simp only; omega, by simp only; omega, cw, hB, ?_⟩⟩
    · simp [F211_B0, h1, h4, hA]
    · rcases hcw with hcw | ⟨bx, hn0, hb0, hb1, hb2, hb3, hb4⟩
      · exact .inl hcw
      · exact .inr ⟨bx, hn0, hb0, hb1, by simp only; omega, hb3, hb4⟩
  | succ k =>
    have hlt : i < l.length := by omega
    have hlt' : ((i : Int) < (l.length : Int)) = True := eq_true (by omega)
    have hgt := List.getElem?_eq_getElem hlt
    have hw := wrap_succ (i := i) (by omega)
    have w := hc _ (List.getElem_mem hlt)
    have hstep : armsNorm (l.take (i + 1)) = armsNorm (l.take i) ++ [(l[i]).norm] := by
      rw [List.take_add_one, hgt, armsNorm_map, armsNorm_map, List.map_append]; rfl
    obtain ⟨k', op, as, nks, cs, ks, hx⟩ : ∃ k' op as nks cs ks, l[i] = .mk (.mk k' op as nks) cs ks := by
      cases hq : l[i] with | mk nn cs ks => cases nn; exact ⟨_, _, _, _, _, _, rfl⟩
    rw [hx] at hgt w hstep
    have hb := armRows_get hgt
    generalize Arm.norm (.mk (.mk k' op as nks) cs ks) = y at w hstep
    obtain ⟨⟨yk, yo, ya, yks⟩, ycs, ykk⟩ := y
    have fgX := far (show b3 < g by omega)
    have feX := far (show a2 < g by omega)
    have fzX := far (show 0 < g by omega)
    have fxX := far (show bc < g by omega)
    have lq1 : ∀ x : Nat, (b3 < g + x) = True := fun x => eq_true (by omega)
    have lq2 : ∀ x y : Nat, (b3 < g + x + y) = True := fun x y => eq_true (by omega)
    have rm : room (i + 1) 112 = true := room_of (by omega) (by omega)
    have rm1 : room 1 112 = true := by decide
    have a1 : (a2 = b3) = False := eq_false (by omega)
    have a2' : (b3 = a2) = False := eq_false (by omega)
    have a3 : (0 = b3) = False := eq_false (by omega)
    have a4 : (b3 = 0) = False := eq_false (by omega)
    have a5 : (bc = b3) = False := eq_false hcb
    have a6 : (b3 = bc) = False := eq_false (fun e => hcb e.symm)
    generalize armsNorm (l.take i) = A at hcw hstep htl
    refine ⟨.normal, ?_⟩
    rcases hcw with ⟨rfl, rfl⟩ | ⟨bx, hn0, hb0, hb1, hb2, rfl, hBX⟩
    · have hi : i = 0 := by simpa using htl.symm
      subst hi
      simp [-getElem?_pos, F211_B0, h1, h2, h3, h4, hA, hC, hX, hB, hlt, hlt', hb, w, hw, rm1, lq1, lq2, a1, a2', a3, a4, a5, a6, fgX, feX, fzX, fxX]
      refine ⟨k, by omega, 1, by omega, by decide, by omega, by omega, ?_⟩
      rw [show armsNorm (l.take 1) = _ from hstep]
      refine .inr ⟨_, by simp, ?_, ?_, ?_, rfl, ?_⟩
      · omega
      · omega
      · omega
      · simp [armRows, Arm.row, fgX]; try rfl
    · have fbX := far hb2
      have b1 : (b3 = bx) = False := eq_false (by omega)
      have b2 : (a2 = bx) = False := eq_false (by omega)
      have b3' : (0 = bx) = False := eq_false (by omega)
      have b4 : (bx = b3) = False := eq_false (by omega)
      have b5 : (bx = 0) = False := eq_false (by omega)
      have b6 : (bx = a2) = False := eq_false (by omega)
      have b7 : (bx = bc) = False := eq_false hb0
      have b8 : (bc = bx) = False := eq_false (fun e => hb0 e.symm)
      rw [htl] at hB
      simp [-getElem?_pos, F211_B0, h1, h2, h3, h4, hA, hC, hX, hB, hBX, hlt, hlt', hb, w, hw, rm, htl, lq1, lq2, a1, a2', a3, a4, a5, a6, b1, b2, b3', b4, b5, b6, b7, b8, fgX, feX, fzX, fxX, fbX]
      refine ⟨k, by omega, i + 1, by omega, by simp, by omega, by omega, ?_⟩
      rw [hstep]
      refine .inr ⟨g + 320 + 576, by simp, by omega, by omega, by omega, (by rw [List.length_append, htl]; try rfl), ?_⟩
      rw [List.take_of_length_le (show (armRows A).length ≤ i by rw [armRows_length]; omega)]
      simp [armRows_append, armRows, Arm.row, fgX]
      try rfl

end Go.VM

/- The document's normal form of a ladder, once its arms are known. Conditions: none. -/
namespace Go.VM
set_option linter.unusedSimpArgs false
set_option linter.unusedVariables false
set_option maxHeartbeats 16000000

def AHeld (H : Nat → Box) (g : Nat) (v : V) (ks : List Arm) : Prop := ∃ bx c, bx < g ∧ v = .w (.own bx 0 ks.length c) ∧ H bx = .row none 6 (armRows ks) 0 ∧ (c = none ∨ (c = some 0 ∧ ks = []))

theorem loop208 {n : Nat} (l : List Arm) (hc : ∀ x ∈ l, ∀ s, go n 211 [armX x] [] s = some ⟨armX x.norm, [], []⟩) (hl : l.length < 2 ^ 28) (hn : l.length < n) (st : St) (h0 : st.τ 0 = .w (ksW l)) (h4 : st.τ 4 = iV 0) (h3 : AHeld st.H st.g (st.τ 3) []) :
    ∃ e st', execC (go n) mode GT false 25 n F208_L0 st = some (e, st') ∧ e ≠ .normal ∧ (e = .exit 0 ∧ AHeld st'.H st'.g (st'.τ 3) (armsNorm l)) := by
  rw [F208_L0, execC_loop]
  refine iter_rule (fun k st => ∃ i, i + k = l.length ∧ st.τ 0 = .w (ksW l) ∧ st.τ 4 = iV i ∧ AHeld st.H st.g (st.τ 3) (armsNorm (l.take i))) ?_ n l.length st hn
    ⟨0, by omega, h0, by simpa using h4, by simpa [armsNorm] using h3⟩
  clear h0 h4 h3
  rintro k ⟨τ, H, g, s⟩ ⟨i, hk, h0, h4, bx, c, hb2, h3, hB, hcc⟩
  simp only at h0 h3 h4 hb2 hB
  have htl : (armsNorm (l.take i)).length = i := by rw [armsNorm_map]; simp; omega
  rw [htl] at h3
  cases k with
  | zero =>
    have : i = l.length := by omega
    subst this
    rw [List.take_length] at hB hcc htl
    refine ⟨.exit 0, ⟨upd (upd (upd (upd τ 10 (iV l.length)) 11 (.w (ksW l))) 12 (iV l.length)) 13 (.w (.d (.s (.bool false)))), H, g + 256, restS s⟩, ?_, by simp, fun _ => ⟨rfl, bx, c, by simp only; omega, by rw [htl]; simpa using h3, hB, hcc⟩⟩
    simp [F208_B0, h0, h4]
  | succ k =>
    have hlt : i < l.length := by omega
    have hlt' : ((i : Int) < (l.length : Int)) = True := eq_true (by omega)
    have hgt := List.getElem?_eq_getElem hlt
    have hw := wrap_succ (i := i) (by omega)
    have w := hc _ (List.getElem_mem hlt)
    have hstep : armsNorm (l.take (i + 1)) = armsNorm (l.take i) ++ [(l[i]).norm] := by
      rw [List.take_add_one, hgt, armsNorm_map, armsNorm_map, List.map_append]; rfl
    obtain ⟨k', op, as, nks, cs, ks, hx⟩ : ∃ k' op as nks cs ks, l[i] = .mk (.mk k' op as nks) cs ks := by
      cases hq : l[i] with | mk nn cs ks => cases nn; exact ⟨_, _, _, _, _, _, rfl⟩
    rw [hx] at hgt w hstep
    have hb := armRows_get hgt
    generalize Arm.norm (.mk (.mk k' op as nks) cs ks) = y at w hstep
    obtain ⟨⟨yk, yo, ya, yks⟩, ycs, ykk⟩ := y
    have fbX := far hb2
    have rm : room (i + 1) 112 = true := room_of (by omega) (by omega)
    have rm1 : room 1 112 = true := by decide
    generalize armsNorm (l.take i) = A at hB hcc hstep htl
    refine ⟨.normal, ?_⟩
    rcases hcc with rfl | ⟨rfl, rfl⟩
    · simp [-getElem?_pos, F208_B0, h0, h3, h4, hB, hlt, hlt', hb, w, hw, rm, htl, fbX]
      refine ⟨k, by omega, i + 1, by omega, by simp, ?_⟩
      rw [hstep]
      refine ⟨_, none, ?_, (by rw [List.length_append, htl]; try rfl), ?_, .inl rfl⟩
      · omega
      · rw [List.take_of_length_le (show (armRows A).length ≤ i by rw [armRows_length]; omega)]
        simp [armRows_append, armRows, Arm.row]
    · have hi : i = 0 := by simpa using htl.symm
      subst hi
      simp [-getElem?_pos, F208_B0, h0, h3, h4, hB, hlt, hlt', hb, w, hw, rm1, fbX]
      refine ⟨k, by omega, 1, by omega, by decide, ?_⟩
      rw [show armsNorm (l.take 1) = _ from hstep]
      refine ⟨_, none, ?_, rfl, ?_, .inl rfl⟩
      · omega
      · simp [armRows, Arm.row]


/-- The document's NormMake, given what it makes of an arm. -/
theorem run_NormMakeS_of {n : Nat} (l : List Arm) (hm : armsWt l < 2 ^ 27) (hn : 2 * armsWt l + 100 ≤ n) (hc : treeCode l = 0 → ∀ x ∈ l, ∀ s, go n 211 [armX x] [] s = some ⟨armX x.norm, [], []⟩) (s : Sup) :
    go (n + 1) 208 [.w (ksW l)] [] s = some ⟨.w (ksW (if treeCode l = 0 then armsNorm l else [])), [], []⟩ := by
  have hlen := armsWt_len l
  obtain ⟨r, hr⟩ := Classical.skolem.1 fun s => run_TreeCheckS l (by omega) n (by omega) s
  have w1 := fun s => (hr s).2
  by_cases hcode : treeCode l = 0
  · rw [if_pos hcode]
    rw [hcode] at w1
    simp [go_of FT_208 rfl, F208, w1]
    generalize hst : St.mk _ _ _ _ = st
    obtain ⟨e, ⟨τ', H', g', s'⟩, hx, -, rfl, bx, c, hb2, h3, hB, hcc⟩ := loop208 (n := n) l (hc hcode) (by omega) (by omega) st (by simp [← hst]) (by simp [← hst]) (by subst hst; exact ⟨320, some 0, by simp, by simp, by simp [armRows], .inr ⟨rfl, rfl⟩⟩)
    simp only at hb2 h3 hB
    clear hst
    simp [hx, h3, hB]
  · have hcp : (0 : Int) < treeCode l := by
      unfold treeCode at hcode ⊢
      split
      · omega
      · rename_i h
        rw [if_neg h] at hcode
        have : ∀ l : List Arm, 0 ≤ rungsWrong l := fun l => by
          induction l with
          | nil => simp [rungsWrong]
          | cons a r ih => have h1 := Arm.wrong_or true a; simp only [rungsWrong]; split <;> omega
        have := this l
        omega
    have hcpi := eq_true hcp
    rw [if_neg hcode]
    generalize treeCode l = c at w1 hcpi
    simp [go_of FT_208 rfl, F208, w1, hcpi, armRows]

end Go.VM

/- Ladders and their normal form: that it is right, as large at most, and itself. Conditions: none. -/
namespace Go.VM
set_option linter.unusedSimpArgs false
set_option linter.unusedVariables false
set_option maxHeartbeats 16000000

theorem rungs_ok : ∀ l : List Arm, (∀ a ∈ l, a.wrong true = 0) → (∀ a ∈ armsNorm l, a.wrong true = 0 ∧ a.wn = true) ∧ armsSize (armsNorm l) ≤ armsSize l ∧ armsWt (armsNorm l) ≤ armsWt l
  | [], h => by simp [armsNorm]
  | m :: r, h => by
    obtain ⟨a1, a2, a3, a4⟩ := arm_norm_ok true m (h m (List.mem_cons_self ..))
    obtain ⟨b1, b2, b3⟩ := rungs_ok r fun k hk => h k (List.mem_cons_of_mem _ hk)
    simp only [armsNorm, armsSize, armsWt]
    refine ⟨fun x hx => ?_, by omega, by omega⟩
    rcases List.mem_cons.1 hx with rfl | hx
    · exact ⟨a1, a2⟩
    · exact b1 x hx
theorem rungs_self : ∀ l : List Arm, (∀ a ∈ l, a.wrong true = 0) → (∀ a ∈ l, a.wn = true) → armsNorm l = l
  | [], _, _ => by simp [armsNorm]
  | a :: r, h, hw => by
    rw [armsNorm, arm_norm_self true a (h a (List.mem_cons_self ..)) (hw a (List.mem_cons_self ..)), rungs_self r (fun m hm => h m (List.mem_cons_of_mem _ hm)) fun m hm => hw m (List.mem_cons_of_mem _ hm)]
theorem armsNorm_length (l : List Arm) : (armsNorm l).length = l.length := by rw [armsNorm_map, List.length_map]
theorem treeCode_right {l : List Arm} (h : treeCode l = 0) : ∀ a ∈ l, a.wrong true = 0 := by
  unfold treeCode at h
  split at h
  · simp at h
  · exact (rungsWrong_all l).1 h
theorem treeCode_norm {l : List Arm} (h : treeCode l = 0) : treeCode (armsNorm l) = 0 := by
  have hr := treeCode_right h
  obtain ⟨b1, b2, b3⟩ := rungs_ok l hr
  have hl := armsNorm_length l
  unfold treeCode at h ⊢
  split at h
  · simp at h
  · rw [if_neg (by omega)]
    exact (rungsWrong_all _).2 fun a ha => (b1 a ha).1
theorem treeCode_nn (l : List Arm) : 0 ≤ treeCode l := by
  have : ∀ l : List Arm, 0 ≤ rungsWrong l := fun l => by
    induction l with
    | nil => simp [rungsWrong]
    | cons a r ih => have h1 := Arm.wrong_or true a; simp only [rungsWrong]; split <;> omega
  unfold treeCode; split
  · omega
  · exact this l

end Go.VM
