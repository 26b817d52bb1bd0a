/- Ladders compared, as the document has it. Conditions: none. -/
import Derived.Test.YtcjdokngpmnkjaaGreatDoorVQ9

namespace Go.VM
set_option linter.unusedSimpArgs false
set_option linter.unusedVariables false
set_option maxHeartbeats 16000000
theorem loop217_0 {n : Nat} (l : List Arg) (o1 o2 : W) (b2 : Nat) (m : List Arg) (hlm : l.length = m.length) (hn : l.length < n) (hl : l.length < 2 ^ 40) (st : St) (ht : True) (h2 : st.τ 2 = .w (.ptr 0 0)) (h3 : st.τ 3 = .w (.ptr b2 0)) (hA : st.H 0 = .cells [o1, asW l]) (hB : st.H b2 = .cells [o2, asW m]) (hg2 : b2 < st.g) (h5 : st.τ 5 = iV 0) :
 ∃ e st', execC (go n) mode GT false 38 n F217_L0 st = some (e, st') ∧ e ≠ .normal ∧ ((e = .exit 0 ∧ l = m) ∨ (e = .ret ∧ l ≠ m ∧ st'.τ 4 = sV (.bool false))) := by
 rw [F217_L0, execC_loop]; refine iter_rule (fun k st => ∃ i, i + k = l.length ∧ l.take i = m.take i ∧ st.τ 2 = .w (.ptr 0 0) ∧ st.τ 3 = .w (.ptr b2 0) ∧ st.H 0 = .cells [o1, asW l] ∧ st.H b2 = .cells [o2, asW m] ∧ b2 < st.g ∧ st.τ 5 = iV i) ?_ n l.length st hn ⟨0, by omega, by simp, h2, h3, hA, hB, hg2, by simpa using h5⟩
 rintro k ⟨τ, H, g, s⟩ ⟨i, hk, ht, h2, h3, hA, hB, hg2, h5⟩; simp only at ht h2 h3 hA hB hg2 h5; cases k with
 | zero =>
  have : i = l.length := by omega
  subst this; refine ⟨.exit 0, ?_⟩
  have hlm2 : l = m := by rw [List.take_length, hlm, List.take_length] at ht; exact ht
  simp [-getElem?_pos, F217_B0, h2, h3, hA, hB, h5, hlm2]
 | succ k =>
  have hlt : i < l.length := by omega
  have hlt' := ltT hlt; have hg := List.getElem?_eq_getElem hlt; have hmem := List.getElem_mem hlt; have hw := wrap_succ (i := i) (by omega); have hltm : i < m.length := by omega
  have hgm := List.getElem?_eq_getElem hltm; have hb := argRows_get hg; have hbm := argRows_get hgm; have lq1 : ∀ x : Nat, (b2 < g + x) = True := fun x => eq_true (by omega)
  have lq2 : ∀ x y : Nat, (b2 < g + x + y) = True := fun x y => eq_true (by omega)
  by_cases he : l[i] = m[i]
  · refine ⟨.normal, ?_⟩
    have he1 : l[i].k = m[i].k := by rw [he]
    have he2 : l[i].n = m[i].n := by rw [he]
    have he3 : l[i].p = m[i].p := by rw [he]
    simp [-getElem?_pos, F217_B0, h2, h3, hA, hB, h5, hlt, hlt', hltm, hb, hbm, he1, he2, he3, hw, lq1, lq2]; exact ⟨k, by omega, i + 1, by omega, take_eq ht hg (by rw [hgm, he]), by omega, rfl⟩
  · refine ⟨.ret, ?_⟩
    have hne : ((l[i].k == m[i].k) && ((l[i].n == m[i].n) && (l[i].p == m[i].p))) = false := by
     rw [Bool.eq_false_iff]; intro h; simp only [Bool.and_eq_true, beq_iff_eq] at h; refine he ?_
     generalize l[i] = x at h ⊢; generalize m[i] = y at h ⊢; cases x; cases y
     simp only at h; rw [h.1, h.2.1, h.2.2]
    have hlm3 : l ≠ m := by intro e; subst e; exact he rfl
    simp [-getElem?_pos, F217_B0, h2, h3, hA, hB, h5, hlt, hlt', hltm, hb, hbm, hne, hlm3, lq1, lq2]
theorem loop216_0 {n : Nat} (l : List Net) (a1 a2 a3 c1 c2 c3 : W) (b2 : Nat) (m : List Net) (hlm : l.length = m.length) (hc : ∀ x ∈ l, ∀ y s, go n 216 [netX x, netX y] [] s = some ⟨bV (eqB x y), [], []⟩) (hn : l.length < n) (hl : l.length < 2 ^ 40) (st : St) (ht : True) (h2 : st.τ 2 = .w (.ptr 0 0)) (h3 : st.τ 3 = .w (.ptr b2 0)) (hA : st.H 0 = .cells [a1, a2, a3, nsW l]) (hB : st.H b2 = .cells [c1, c2, c3, nsW m]) (hg2 : b2 < st.g) (h5 : st.τ 5 = iV 0) :
 ∃ e st', execC (go n) mode GT false 47 n F216_L0 st = some (e, st') ∧ e ≠ .normal ∧ ((e = .exit 0 ∧ l = m) ∨ (e = .ret ∧ l ≠ m ∧ st'.τ 4 = sV (.bool false))) := by
 rw [F216_L0, execC_loop]; refine iter_rule (fun k st => ∃ i, i + k = l.length ∧ l.take i = m.take i ∧ st.τ 2 = .w (.ptr 0 0) ∧ st.τ 3 = .w (.ptr b2 0) ∧ st.H 0 = .cells [a1, a2, a3, nsW l] ∧ st.H b2 = .cells [c1, c2, c3, nsW m] ∧ b2 < st.g ∧ st.τ 5 = iV i) ?_ n l.length st hn ⟨0, by omega, by simp, h2, h3, hA, hB, hg2, by simpa using h5⟩
 rintro k ⟨τ, H, g, s⟩ ⟨i, hk, ht, h2, h3, hA, hB, hg2, h5⟩; simp only at ht h2 h3 hA hB hg2 h5; cases k with
 | zero =>
  have : i = l.length := by omega
  subst this; refine ⟨.exit 0, ?_⟩
  have hlm2 : l = m := by rw [List.take_length, hlm, List.take_length] at ht; exact ht
  simp [-getElem?_pos, F216_B0, h2, h3, hA, hB, h5, hlm2]
 | succ k =>
  have hlt : i < l.length := by omega
  have hlt' := ltT hlt; have hg := List.getElem?_eq_getElem hlt; have hmem := List.getElem_mem hlt; have hw := wrap_succ (i := i) (by omega); have hltm : i < m.length := by omega
  have hgm := List.getElem?_eq_getElem hltm; have w := hc _ hmem m[i]; have hor : l[i] = m[i] ∨ l[i] ≠ m[i] := Classical.em _; have hdiff : l[i] ≠ m[i] → l ≠ m := fun h e => by subst e; exact h rfl
  have htake : l[i] = m[i] → l.take (i + 1) = m.take (i + 1) := fun h => take_eq ht hg (by rw [hgm, h])
  obtain ⟨k1, op1, as1, ks1, hx⟩ : ∃ k' op as ks, l[i] = .mk k' op as ks := by cases l[i]; exact ⟨_, _, _, _, rfl⟩
  obtain ⟨k2, op2, as2, ks2, hy⟩ : ∃ k' op as ks, m[i] = .mk k' op as ks := by cases m[i]; exact ⟨_, _, _, _, rfl⟩
  rw [hx, hy] at hor w; rw [hx, hy] at hdiff htake; rw [hx] at hg; rw [hy] at hgm; have hb := netRows_get hg; have hbm := netRows_get hgm; have lq1 : ∀ x : Nat, (b2 < g + x) = True := fun x => eq_true (by omega)
  have lq2 : ∀ x y : Nat, (b2 < g + x + y) = True := fun x y => eq_true (by omega)
  rcases hor with he | he
  · refine ⟨.normal, ?_⟩
    rw [eqB_true he] at w; simp [-getElem?_pos, F216_B0, h2, h3, hA, hB, h5, hlt, hlt', hltm, hb, hbm, w, hw, lq1, lq2]; exact ⟨k, by omega, i + 1, by omega, htake he, by omega, rfl⟩
  · refine ⟨.ret, ?_⟩
    rw [eqB_false he] at w; simp [-getElem?_pos, F216_B0, h2, h3, hA, hB, h5, hlt, hlt', hltm, hb, hbm, w, hdiff he, lq1, lq2]
theorem loop212_0 {n : Nat} (l : List El) (a1 a2 a3 a4 a6 c1 c2 c3 c4 c6 : W) (b2 : Nat) (m : List El) (hlm : l.length = m.length) (hc : ∀ x ∈ l, ∀ y s, go n 217 [elX x, elX y] [] s = some ⟨bV (eqB x y), [], []⟩) (hn : l.length < n) (hl : l.length < 2 ^ 40) (st : St) (ht : True) (h2 : st.τ 2 = .w (.ptr 0 0)) (h3 : st.τ 3 = .w (.ptr b2 0)) (hA : st.H 0 = .cells [a1, a2, a3, a4, csW l, a6]) (hB : st.H b2 = .cells [c1, c2, c3, c4, csW m, c6]) (hg2 : b2 < st.g) (h5 : st.τ 5 = iV 0) :
 ∃ e st', execC (go n) mode GT false 45 n F212_L0 st = some (e, st') ∧ e ≠ .normal ∧ ((e = .exit 0 ∧ l = m ∧ st'.τ 2 = .w (.ptr 0 0) ∧ st'.τ 3 = .w (.ptr b2 0) ∧ st'.H 0 = .cells [a1, a2, a3, a4, csW l, a6] ∧ st'.H b2 = .cells [c1, c2, c3, c4, csW m, c6] ∧ b2 < st'.g) ∨ (e = .ret ∧ l ≠ m ∧ st'.τ 4 = sV (.bool false))) := by
 rw [F212_L0, execC_loop]; refine iter_rule (fun k st => ∃ i, i + k = l.length ∧ l.take i = m.take i ∧ st.τ 2 = .w (.ptr 0 0) ∧ st.τ 3 = .w (.ptr b2 0) ∧ st.H 0 = .cells [a1, a2, a3, a4, csW l, a6] ∧ st.H b2 = .cells [c1, c2, c3, c4, csW m, c6] ∧ b2 < st.g ∧ st.τ 5 = iV i) ?_ n l.length st hn ⟨0, by omega, by simp, h2, h3, hA, hB, hg2, by simpa using h5⟩
 rintro k ⟨τ, H, g, s⟩ ⟨i, hk, ht, h2, h3, hA, hB, hg2, h5⟩; simp only at ht h2 h3 hA hB hg2 h5; cases k with
 | zero =>
  have : i = l.length := by omega
  subst this; refine ⟨.exit 0, ?_⟩
  have hlm2 : l = m := by rw [List.take_length, hlm, List.take_length] at ht; exact ht
  simp [-getElem?_pos, F212_B0, h2, h3, hA, hB, h5]; exact ⟨hlm2, by omega⟩
 | succ k =>
  have hlt : i < l.length := by omega
  have hlt' := ltT hlt; have hg := List.getElem?_eq_getElem hlt; have hmem := List.getElem_mem hlt; have hw := wrap_succ (i := i) (by omega); have hltm : i < m.length := by omega
  have hgm := List.getElem?_eq_getElem hltm; have w := hc _ hmem m[i]; have hor : l[i] = m[i] ∨ l[i] ≠ m[i] := Classical.em _; have hdiff : l[i] ≠ m[i] → l ≠ m := fun h e => by subst e; exact h rfl
  have htake : l[i] = m[i] → l.take (i + 1) = m.take (i + 1) := fun h => take_eq ht hg (by rw [hgm, h])
  have hb := elRows_get hg; have hbm := elRows_get hgm; have lq1 : ∀ x : Nat, (b2 < g + x) = True := fun x => eq_true (by omega)
  have lq2 : ∀ x y : Nat, (b2 < g + x + y) = True := fun x y => eq_true (by omega)
  rcases hor with he | he
  · refine ⟨.normal, ?_⟩
    rw [eqB_true he] at w; simp [-getElem?_pos, F212_B0, h2, h3, hA, hB, h5, hlt, hlt', hltm, hb, hbm, w, hw, lq1, lq2]; exact ⟨k, by omega, i + 1, by omega, htake he, by omega, rfl⟩
  · refine ⟨.ret, ?_⟩
    rw [eqB_false he] at w; simp [-getElem?_pos, F212_B0, h2, h3, hA, hB, h5, hlt, hlt', hltm, hb, hbm, w, hdiff he, lq1, lq2]
theorem loop209_0 {n : Nat} (l : List Arm) (m : List Arm) (hlm : l.length = m.length) (hc : ∀ x ∈ l, ∀ y s, go n 212 [armX x, armX y] [] s = some ⟨bV (eqB x y), [], []⟩) (hn : l.length < n) (hl : l.length < 2 ^ 40) (st : St) (ht : True) (h0 : st.τ 0 = .w (ksW l)) (h1 : st.τ 1 = .w (ksW m)) (h5 : st.τ 5 = iV 0) :
 ∃ e st', execC (go n) mode GT false 27 n F209_L0 st = some (e, st') ∧ e ≠ .normal ∧ ((e = .exit 0 ∧ l = m) ∨ (e = .ret ∧ l ≠ m ∧ st'.τ 4 = sV (.bool false))) := by
 rw [F209_L0, execC_loop]; refine iter_rule (fun k st => ∃ i, i + k = l.length ∧ l.take i = m.take i ∧ st.τ 0 = .w (ksW l) ∧ st.τ 1 = .w (ksW m) ∧ st.τ 5 = iV i) ?_ n l.length st hn ⟨0, by omega, by simp, h0, h1, by simpa using h5⟩
 rintro k ⟨τ, H, g, s⟩ ⟨i, hk, ht, h0, h1, h5⟩; simp only at ht h0 h1 h5; cases k with
 | zero =>
  have : i = l.length := by omega
  subst this; refine ⟨.exit 0, ?_⟩
  have hlm2 : l = m := by rw [List.take_length, hlm, List.take_length] at ht; exact ht
  simp [-getElem?_pos, F209_B0, h0, h1, h5, hlm2]
 | succ k =>
  have hlt : i < l.length := by omega
  have hlt' := ltT hlt; have hg := List.getElem?_eq_getElem hlt; have hmem := List.getElem_mem hlt; have hw := wrap_succ (i := i) (by omega); have hltm : i < m.length := by omega
  have hgm := List.getElem?_eq_getElem hltm; have w := hc _ hmem m[i]; have hor : l[i] = m[i] ∨ l[i] ≠ m[i] := Classical.em _; have hdiff : l[i] ≠ m[i] → l ≠ m := fun h e => by subst e; exact h rfl
  have htake : l[i] = m[i] → l.take (i + 1) = m.take (i + 1) := fun h => take_eq ht hg (by rw [hgm, h])
  obtain ⟨k1, op1, as1, nks1, cs1, ks1, hx⟩ : ∃ k' op as nks cs ks, l[i] = .mk (.mk k' op as nks) cs ks := by
   cases hq : l[i] with | mk nn cs ks => cases nn; exact ⟨_, _, _, _, _, _, rfl⟩
  obtain ⟨k2, op2, as2, nks2, cs2, ks2, hy⟩ : ∃ k' op as nks cs ks, m[i] = .mk (.mk k' op as nks) cs ks := by
   cases hq : m[i] with | mk nn cs ks => cases nn; exact ⟨_, _, _, _, _, _, rfl⟩
  rw [hx, hy] at hor w; rw [hx, hy] at hdiff htake; rw [hx] at hg; rw [hy] at hgm; have hb := armRows_get hg; have hbm := armRows_get hgm; rcases hor with he | he
  · refine ⟨.normal, ?_⟩
    rw [eqB_true he] at w; simp [-getElem?_pos, F209_B0, h0, h1, h5, hlt, hlt', hltm, hb, hbm, w, hw]; exact ⟨k, by omega, i + 1, by omega, htake he, rfl⟩
  · refine ⟨.ret, ?_⟩
    rw [eqB_false he] at w; simp [-getElem?_pos, F209_B0, h0, h1, h5, hlt, hlt', hltm, hb, hbm, w, hdiff he]
theorem run_l7ElemSame {n : Nat} (a b : El) (hn : a.as.length + 3 ≤ n) (hl : a.as.length < 2 ^ 40) (s : Sup) : go n 217 [elX a, elX b] [] s = some ⟨bV (eqB a b), [], []⟩ := by
 obtain ⟨n, rfl⟩ : ∃ k, n = k + 1 := ⟨n - 1, by omega⟩; obtain ⟨p, x⟩ := a; obtain ⟨q, y⟩ := b; simp only at hn hl
 by_cases h1 : p = q
 · subst h1
   by_cases h2 : x.length = y.length
   · have h2i : ((x.length : Int) = y.length) = True := eq_true (by omega)
     simp [go_of FT_217 rfl, F217, h2, h2i]; generalize hst : St.mk _ _ _ _ = st; obtain ⟨e, ⟨τ', H', g', s'⟩, hx, -, ⟨rfl, h⟩ | ⟨rfl, h, h4⟩⟩ := loop217_0 (n := n) x (iW p) (iW p) _ y h2 (by omega) hl st trivial (by simp [← hst]) (by simp [← hst]; rfl) (by simp [← hst]) (by simp [← hst]) (by simp [← hst]) (by simp [← hst])
     · rw [eqB_true (by rw [h])]
       simp [hx]
     · simp only at h4
       rw [eqB_false (fun e => h (by cases e; rfl))]; simp [hx, h4]
   · have h2i : ((x.length : Int) = y.length) = False := eq_false (by omega)
     rw [eqB_false (fun e => h2 (by cases e; rfl))]; simp [go_of FT_217 rfl, F217, h2, h2i]
 · rw [eqB_false (fun e => h1 (by cases e; rfl))]
   simp [go_of FT_217 rfl, F217, h1]
theorem run_l7NetSame : ∀ (m : Nat) (t u : Net), t.wt ≤ m → m < 2 ^ 39 → ∀ (n : Nat), 2 * m + 6 ≤ n → ∀ s, go n 216 [netX t, netX u] [] s = some ⟨bV (eqB t u), [], []⟩
 | 0, t, u, h, hm, n, hn, s => by have := t.wt_pos; omega
 | m + 1, .mk k op as ks, .mk k2 op2 as2 ks2, h, hm, n, hn, s => by
  obtain ⟨n, rfl⟩ : ∃ k, n = k + 1 := ⟨n - 1, by omega⟩; have hlen := netsWt_len ks; simp only [Net.wt] at h; have hc : ∀ x ∈ ks, ∀ y s, go n 216 [netX x, netX y] [] s = some ⟨bV (eqB x y), [], []⟩ := fun x hx y s => run_l7NetSame m x y (by have := netsWt_mem hx; omega) (by omega) n (by omega) s
  have w2 := run_l7ElemSame (n := n) ⟨op, as⟩ ⟨op2, as2⟩ (by simp only; omega) (by simp only; omega)
  by_cases h1 : k = k2
  · subst h1
    by_cases h2 : (⟨op, as⟩ : El) = ⟨op2, as2⟩
    · rw [eqB_true h2] at w2
      by_cases h3 : ks.length = ks2.length
      · have h3i : ((ks.length : Int) = ks2.length) = True := eq_true (by omega)
        simp [go_of FT_216 rfl, F216, w2, h3, h3i]; generalize hst : St.mk _ _ _ _ = st; obtain ⟨e, ⟨τ', H', g', s'⟩, hx, -, ⟨rfl, h⟩ | ⟨rfl, h, h4⟩⟩ := loop216_0 (n := n) ks (iW k) (iW op) (asW as) (iW k) (iW op2) (asW as2) _ ks2 h3 hc (by omega) (by omega) st trivial (by simp [← hst]) (by simp [← hst]; rfl) (by simp [← hst]) (by simp [← hst]) (by simp [← hst]) (by simp [← hst])
        · rw [eqB_true (by cases h2; rw [h])]
          simp [hx]
        · simp only at h4
          rw [eqB_false (fun e => h (by cases e; rfl))]; simp [hx, h4]
      · have h3i : ((ks.length : Int) = ks2.length) = False := eq_false (by omega)
        rw [eqB_false (a := Net.mk k op as ks) (fun e => h3 (by cases e; rfl))]; simp [go_of FT_216 rfl, F216, w2, h3, h3i]
    · rw [eqB_false h2] at w2
      rw [eqB_false (a := Net.mk k op as ks) (fun e => h2 (by cases e; rfl))]; simp [go_of FT_216 rfl, F216, w2]
  · rw [eqB_false (a := Net.mk k op as ks) (fun e => h1 (by cases e; rfl))]
    simp [go_of FT_216 rfl, F216, h1]
theorem run_l7ArmSame {n : Nat} (a b : Arm) (hk : ∀ s, go n 209 [.w (ksW a.kids), .w (ksW b.kids)] [] s = some ⟨bV (eqB a.kids b.kids), [], []⟩) (hn : 2 * a.wt + 10 ≤ n) (hl : a.wt < 2 ^ 38) (s : Sup) :
 go (n + 1) 212 [armX a, armX b] [] s = some ⟨bV (eqB a b), [], []⟩ := by
 obtain ⟨⟨k, op, as, nks⟩, cs, ks⟩ := a; obtain ⟨⟨k2, op2, as2, nks2⟩, cs2, ks2⟩ := b; simp only [Arm.wt] at hn hl; simp only [Arm.kids] at hk; have hcl := elsWt_len cs; have w1 := run_l7NetSame (Net.wt (.mk k op as nks)) (.mk k op as nks) (.mk k2 op2 as2 nks2) (Nat.le_refl _) (by omega) n (by omega); have hc : ∀ x ∈ cs, ∀ y s, go n 217 [elX x, elX y] [] s = some ⟨bV (eqB x y), [], []⟩ := fun x hx y s => by
  have := elsWt_mem hx; exact run_l7ElemSame (n := n) x y (by simp only [El.wt] at this; omega) (by simp only [El.wt] at this; omega) s
 by_cases h1 : (Net.mk k op as nks) = .mk k2 op2 as2 nks2
 · rw [eqB_true h1] at w1
   by_cases h2 : cs.length = cs2.length
   · have h2i : ((cs.length : Int) = cs2.length) = True := eq_true (by omega)
     simp [go_of FT_212 rfl, F212, w1, h2, h2i]; generalize hst : St.mk _ _ _ _ = st; obtain ⟨e, ⟨τ', H', g', s'⟩, hx, -, ⟨rfl, h, f2, f3, fA, fB, fg⟩ | ⟨rfl, h, h4⟩⟩ := loop212_0 (n := n) cs (iW k) (iW op) (asW as) (nsW nks) (ksW ks) (iW k2) (iW op2) (asW as2) (nsW nks2) (ksW ks2) _ cs2 h2 hc (by omega) (by omega) st trivial (by simp [← hst]) (by simp [← hst]; rfl) (by simp [← hst]) (by simp [← hst]) (by simp [← hst]) (by simp [← hst])
     · simp only at f2 f3 fA fB fg
       have e : eqB ks ks2 = eqB (Arm.mk (.mk k op as nks) cs ks) (.mk (.mk k2 op2 as2 nks2) cs2 ks2) := eqB_of (by rw [eqB_iff]; cases h1; subst h; simp); rw [← e]; simp [hx, f2, f3, fA, fB, hk]
     · simp only at h4
       rw [eqB_false (a := Arm.mk (.mk k op as nks) cs ks) (fun e => h (by cases e; rfl))]; simp [hx, h4]
   · have h2i : ((cs.length : Int) = cs2.length) = False := eq_false (by omega)
     rw [eqB_false (a := Arm.mk (.mk k op as nks) cs ks) (fun e => h2 (by cases e; rfl))]; simp [go_of FT_212 rfl, F212, w1, h2, h2i]
 · rw [eqB_false h1] at w1
   rw [eqB_false (a := Arm.mk (.mk k op as nks) cs ks) (fun e => h1 (by cases e; rfl))]; simp [go_of FT_212 rfl, F212, w1]
theorem run_TreeSameS : ∀ (m : Nat) (l u : List Arm), armsWt l ≤ m → m < 2 ^ 38 → ∀ (n : Nat), 3 * m + 20 ≤ n → ∀ s, go n 209 [.w (ksW l), .w (ksW u)] [] s = some ⟨bV (eqB l u), [], []⟩ := by
 intro m
 induction m with
 | zero =>
  intro l u h hm n hn s; obtain ⟨n, rfl⟩ : ∃ k, n = k + 1 := ⟨n - 1, by omega⟩; have e : l = [] := by
   cases l with
   | nil => rfl
   | cons a r => have := a.wt_pos; simp [armsWt] at h; omega
  subst e; cases u with
  | nil =>
   obtain ⟨n, rfl⟩ : ∃ k, n = k + 1 := ⟨n - 1, by omega⟩; rw [eqB_true rfl]; simp [go_of FT_209 rfl, F209, F209_L0, execC_loop, iter, F209_B0, armRows]
  | cons x r =>
   have h2i : ((0 : Int) = (r.length : Int) + 1) = False := eq_false (by omega); have h2j : ((r.length : Int) + 1 = 0) = False := eq_false (by omega); rw [eqB_false (by simp)]; simp [go_of FT_209 rfl, F209, armRows, h2i, h2j]
 | succ m ih =>
  intro l u h hm n hn s; obtain ⟨n, rfl⟩ : ∃ k, n = k + 2 := ⟨n - 2, by omega⟩; have hlen := armsWt_len l
  by_cases h2 : l.length = u.length
  · have h2i : ((l.length : Int) = u.length) = True := eq_true (by omega)
    have hc : ∀ x ∈ l, ∀ y s, go (n + 1) 212 [armX x, armX y] [] s = some ⟨bV (eqB x y), [], []⟩ := fun x hx y s => by
     have hw := armsWt_mem hx; have hkw : armsWt x.kids < x.wt := by cases x; simp [Arm.wt, Arm.kids]; omega
     exact run_l7ArmSame x y (fun s => ih x.kids y.kids (by omega) (by omega) n (by omega) s) (by omega) (by omega) s
    simp [go_of FT_209 rfl, F209, h2, h2i]; generalize hst : St.mk _ _ _ _ = st; obtain ⟨e, ⟨τ', H', g', s'⟩, hx, -, ⟨rfl, h⟩ | ⟨rfl, h, h4⟩⟩ := loop209_0 (n := n + 1) l u h2 hc (by omega) (by omega) st trivial (by simp [← hst]) (by simp [← hst]) (by simp [← hst])
    · rw [eqB_true h]
      simp [hx]
    · simp only at h4
      rw [eqB_false h]; simp [hx, h4]
  · have h2i : ((l.length : Int) = u.length) = False := eq_false (by omega)
    rw [eqB_false (fun e => h2 (by rw [e]))]; simp [go_of FT_209 rfl, F209, h2, h2i]
end Go.VM
