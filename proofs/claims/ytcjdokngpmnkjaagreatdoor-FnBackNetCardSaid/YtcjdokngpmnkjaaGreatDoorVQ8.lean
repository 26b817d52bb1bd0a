/- Ladders compared, reckoned. Conditions: none. -/
import Derived.Test.YtcjdokngpmnkjaaGreatDoorVQ7

namespace Go.VM
set_option linter.unusedSimpArgs false
set_option linter.unusedVariables false
set_option maxHeartbeats 8000000
noncomputable def eqB {α : Type} (a b : α) : Bool := @decide (a = b) (Classical.propDecidable _)
theorem eqB_true {α : Type} {a b : α} (h : a = b) : eqB a b = true := by unfold eqB; exact @decide_eq_true _ (_) h
theorem eqB_false {α : Type} {a b : α} (h : a ≠ b) : eqB a b = false := by unfold eqB; exact @decide_eq_false _ (_) h
theorem eqB_iff {α : Type} {a b : α} : eqB a b = true ↔ a = b := by
 by_cases h : a = b
 · exact ⟨fun _ => h, fun _ => eqB_true h⟩
 · simp [eqB_false h, h]
theorem eqB_of {α : Type} {a b : α} {c : Bool} (h : c = true ↔ a = b) : c = eqB a b := by
 cases hc : c with
 | true => exact (eqB_true (h.1 hc)).symm
 | false =>
  refine (eqB_false fun e => ?_).symm
  have := h.2 e; rw [hc] at this; cases this
theorem take_eq {α : Type} {l m : List α} {i : Nat} {x : α} (h : l.take i = m.take i) (h1 : l[i]? = some x) (h2 : m[i]? = some x) : l.take (i + 1) = m.take (i + 1) := by
 rw [List.take_add_one, List.take_add_one, h, h1, h2]
theorem loop176_0 {n : Nat} (l : List Arg) (m : List Arg) (hlm : l.length = m.length) (hn : l.length < n) (hl : l.length < 2 ^ 40) (st : St) (ht : True) (h0 : st.τ 0 = .w (asW l)) (h1 : st.τ 1 = .w (asW m)) (h12 : st.τ 12 = iV l.length) (h13 : st.τ 13 = iV 0) :
 ∃ e st', execC (go n) mode GT false 26 n F176_L0 st = some (e, st') ∧ e ≠ .normal ∧ ((e = .exit 0 ∧ l = m) ∨ (e = .ret ∧ l ≠ m ∧ st'.τ 4 = sV (.bool false))) := by
 rw [F176_L0, execC_loop]; refine iter_rule (fun k st => ∃ i, i + k = l.length ∧ l.take i = m.take i ∧ st.τ 0 = .w (asW l) ∧ st.τ 1 = .w (asW m) ∧ st.τ 12 = iV l.length ∧ st.τ 13 = iV i) ?_ n l.length st hn ⟨0, by omega, by simp, h0, h1, h12, by simpa using h13⟩
 rintro k ⟨τ, H, g, s⟩ ⟨i, hk, ht, h0, h1, h12, h13⟩; simp only at ht h0 h1 h12 h13; cases k with
 | zero =>
  have : i = l.length := by omega
  subst this; refine ⟨.exit 0, ?_⟩
  have hlm2 : l = m := by rw [List.take_length, hlm, List.take_length] at ht; exact ht
  simp [F176_B0, h0, h1, h12, h13, hlm2]
 | succ k =>
  have hlt : i < l.length := by omega
  have hlt' := ltT hlt; have hg := List.getElem?_eq_getElem hlt; have hmem := List.getElem_mem hlt; have hw := wrap_succ (i := i) (by omega); have hltm : i < m.length := by omega
  have hgm := List.getElem?_eq_getElem hltm; have hb := argRows_get hg; have hbm := argRows_get hgm
  by_cases he : l[i] = m[i]
  · refine ⟨.normal, ?_⟩
    have he1 : l[i].k = m[i].k := by rw [he]
    have he2 : l[i].n = m[i].n := by rw [he]
    have he3 : l[i].p = m[i].p := by rw [he]
    simp [-getElem?_pos, F176_B0, h0, h1, h12, h13, hlt, hlt', hb, hbm, he1, he2, he3, hw]; exact ⟨k, by omega, i + 1, by omega, take_eq ht hg (by rw [hgm, he]), rfl⟩
  · refine ⟨.ret, ?_⟩
    have hne : ((l[i].k == m[i].k) && ((l[i].n == m[i].n) && (l[i].p == m[i].p))) = false := by
     rw [Bool.eq_false_iff]; intro h; simp only [Bool.and_eq_true, beq_iff_eq] at h; refine he ?_
     generalize l[i] = x at h ⊢; generalize m[i] = y at h ⊢; cases x; cases y
     simp only at h; rw [h.1, h.2.1, h.2.2]
    simp [-getElem?_pos, F176_B0, h0, h1, h12, h13, hlt, hlt', hb, hbm, hne]; intro e; subst e; exact he rfl
theorem run_argsSame {n : Nat} (l m : List Arg) (hn : l.length + 2 ≤ n) (hl : l.length < 2 ^ 40) (s : Sup) : go n 176 [.w (asW l), .w (asW m)] [] s = some ⟨sV (.bool (decide (l = m))), [], []⟩ := by
 obtain ⟨n, rfl⟩ : ∃ k, n = k + 1 := ⟨n - 1, by omega⟩
 by_cases hlm : l.length = m.length
 · have hlmi : ((l.length : Int) = m.length) = True := eq_true (by omega)
   simp [go_of FT_176 rfl, F176, hlm, hlmi]; generalize hst : St.mk _ _ _ _ = st; obtain ⟨e, ⟨τ', H', g', s'⟩, hx, -, ⟨rfl, h⟩ | ⟨rfl, h, h4⟩⟩ := loop176_0 (n := n) l m hlm (by omega) hl st trivial (by simp [← hst]) (by simp [← hst]) (by simp [← hst, hlm]) (by simp [← hst])
   · simp [hx, h]
   · simp only at h4
     simp [hx, h, h4]
 · have hlmi : ((l.length : Int) = m.length) = False := eq_false (by omega)
   have : l ≠ m := fun e => hlm (by rw [e])
   simp [go_of FT_176 rfl, F176, hlm, hlmi, this]
theorem run_elemSame {n : Nat} (a b : El) (hn : a.as.length + 3 ≤ n) (hl : a.as.length < 2 ^ 40) (s : Sup) : go n 150 [elX a, elX b] [] s = some ⟨sV (.bool (decide (a = b))), [], []⟩ := by
 obtain ⟨n, rfl⟩ : ∃ k, n = k + 1 := ⟨n - 1, by omega⟩; obtain ⟨p, x⟩ := a; obtain ⟨q, y⟩ := b; have w := run_argsSame (n := n) x y (by simp only at hn; omega) hl
 by_cases h : p = q
 · simp [go_of FT_150 rfl, F150, h, w]
 · simp [go_of FT_150 rfl, F150, h]
theorem loop175_0 {n : Nat} (l : List Net) (m : List Net) (hlm : l.length = m.length) (hc : ∀ x ∈ l, ∀ y s, go n 148 [netX x, netX y] [] s = some ⟨bV (eqB x y), [], []⟩) (hn : l.length < n) (hl : l.length < 2 ^ 40) (st : St) (ht : True) (h1 : st.τ 1 = .w (nsW m)) (h2 : st.τ 2 = .w (.fn 148 [])) (h15 : st.τ 15 = .w (nsW l)) (h16 : st.τ 16 = iV l.length) (h17 : st.τ 17 = iV 0) :
 ∃ e st', execC (go n) mode GT false 32 n F175_L0 st = some (e, st') ∧ e ≠ .normal ∧ ((e = .exit 0 ∧ l = m) ∨ (e = .ret ∧ l ≠ m ∧ st'.τ 6 = sV (.bool false))) := by
 rw [F175_L0, execC_loop]; refine iter_rule (fun k st => ∃ i, i + k = l.length ∧ l.take i = m.take i ∧ st.τ 1 = .w (nsW m) ∧ st.τ 2 = .w (.fn 148 []) ∧ st.τ 15 = .w (nsW l) ∧ st.τ 16 = iV l.length ∧ st.τ 17 = iV i) ?_ n l.length st hn ⟨0, by omega, by simp, h1, h2, h15, h16, by simpa using h17⟩
 rintro k ⟨τ, H, g, s⟩ ⟨i, hk, ht, h1, h2, h15, h16, h17⟩; simp only at ht h1 h2 h15 h16 h17; cases k with
 | zero =>
  have : i = l.length := by omega
  subst this; refine ⟨.exit 0, ?_⟩
  have hlm2 : l = m := by rw [List.take_length, hlm, List.take_length] at ht; exact ht
  simp [F175_B0, h1, h2, h15, h16, h17, hlm2]
 | succ k =>
  have hlt : i < l.length := by omega
  have hlt' := ltT hlt; have hg := List.getElem?_eq_getElem hlt; have hmem := List.getElem_mem hlt; have hw := wrap_succ (i := i) (by omega); have hltm : i < m.length := by omega
  have hgm := List.getElem?_eq_getElem hltm; have w := hc _ hmem m[i]; have hor : l[i] = m[i] ∨ l[i] ≠ m[i] := Classical.em _; have hdiff : l[i] ≠ m[i] → l ≠ m := fun h e => by subst e; exact h rfl
  have htake : l[i] = m[i] → l.take (i + 1) = m.take (i + 1) := fun h => take_eq ht hg (by rw [hgm, h])
  obtain ⟨k1, op1, as1, ks1, hx⟩ : ∃ k' op as ks, l[i] = .mk k' op as ks := by cases l[i]; exact ⟨_, _, _, _, rfl⟩
  obtain ⟨k2, op2, as2, ks2, hy⟩ : ∃ k' op as ks, m[i] = .mk k' op as ks := by cases m[i]; exact ⟨_, _, _, _, rfl⟩
  rw [hx, hy] at hor w; rw [hx, hy] at hdiff htake; rw [hx] at hg; rw [hy] at hgm; have hb := netRows_get hg; have hbm := netRows_get hgm; rcases hor with he | he
  · refine ⟨.normal, ?_⟩
    rw [eqB_true he] at w; simp [-getElem?_pos, F175_B0, h1, h2, h15, h16, h17, hlt, hlt', hb, hbm, w, hw]; exact ⟨k, by omega, i + 1, by omega, htake he, rfl⟩
  · refine ⟨.ret, ?_⟩
    rw [eqB_false he] at w; simp [-getElem?_pos, F175_B0, h1, h2, h15, h16, h17, hlt, hlt', hb, hbm, w, hdiff he]
theorem loop149_0 {n : Nat} (l : List El) (m : List El) (hlm : l.length = m.length) (hc : ∀ x ∈ l, ∀ y s, go n 150 [elX x, elX y] [] s = some ⟨bV (eqB x y), [], []⟩) (hn : l.length < n) (hl : l.length < 2 ^ 40) (st : St) (ht : True) (h1 : st.τ 1 = .w (csW m)) (h2 : st.τ 2 = .w (.fn 150 [])) (h15 : st.τ 15 = .w (csW l)) (h16 : st.τ 16 = iV l.length) (h17 : st.τ 17 = iV 0) :
 ∃ e st', execC (go n) mode GT false 32 n F149_L0 st = some (e, st') ∧ e ≠ .normal ∧ ((e = .exit 0 ∧ l = m) ∨ (e = .ret ∧ l ≠ m ∧ st'.τ 6 = sV (.bool false))) := by
 rw [F149_L0, execC_loop]; refine iter_rule (fun k st => ∃ i, i + k = l.length ∧ l.take i = m.take i ∧ st.τ 1 = .w (csW m) ∧ st.τ 2 = .w (.fn 150 []) ∧ st.τ 15 = .w (csW l) ∧ st.τ 16 = iV l.length ∧ st.τ 17 = iV i) ?_ n l.length st hn ⟨0, by omega, by simp, h1, h2, h15, h16, by simpa using h17⟩
 rintro k ⟨τ, H, g, s⟩ ⟨i, hk, ht, h1, h2, h15, h16, h17⟩; simp only at ht h1 h2 h15 h16 h17; cases k with
 | zero =>
  have : i = l.length := by omega
  subst this; refine ⟨.exit 0, ?_⟩
  have hlm2 : l = m := by rw [List.take_length, hlm, List.take_length] at ht; exact ht
  simp [F149_B0, h1, h2, h15, h16, h17, hlm2]
 | succ k =>
  have hlt : i < l.length := by omega
  have hlt' := ltT hlt; have hg := List.getElem?_eq_getElem hlt; have hmem := List.getElem_mem hlt; have hw := wrap_succ (i := i) (by omega); have hltm : i < m.length := by omega
  have hgm := List.getElem?_eq_getElem hltm; have w := hc _ hmem m[i]; have hor : l[i] = m[i] ∨ l[i] ≠ m[i] := Classical.em _; have hdiff : l[i] ≠ m[i] → l ≠ m := fun h e => by subst e; exact h rfl
  have htake : l[i] = m[i] → l.take (i + 1) = m.take (i + 1) := fun h => take_eq ht hg (by rw [hgm, h])
  have hb := elRows_get hg; have hbm := elRows_get hgm; rcases hor with he | he
  · refine ⟨.normal, ?_⟩
    rw [eqB_true he] at w; simp [-getElem?_pos, F149_B0, h1, h2, h15, h16, h17, hlt, hlt', hb, hbm, w, hw]; exact ⟨k, by omega, i + 1, by omega, htake he, rfl⟩
  · refine ⟨.ret, ?_⟩
    rw [eqB_false he] at w; simp [-getElem?_pos, F149_B0, h1, h2, h15, h16, h17, hlt, hlt', hb, hbm, w, hdiff he]
theorem loop126_0 {n : Nat} (l : List Arm) (m : List Arm) (hlm : l.length = m.length) (hc : ∀ x ∈ l, ∀ y s, go n 127 [armX x, armX y] [] s = some ⟨bV (eqB x y), [], []⟩) (hn : l.length < n) (hl : l.length < 2 ^ 40) (st : St) (ht : True) (h1 : st.τ 1 = .w (ksW m)) (h2 : st.τ 2 = .w (.fn 127 [])) (h15 : st.τ 15 = .w (ksW l)) (h16 : st.τ 16 = iV l.length) (h17 : st.τ 17 = iV 0) :
 ∃ e st', execC (go n) mode GT false 32 n F126_L0 st = some (e, st') ∧ e ≠ .normal ∧ ((e = .exit 0 ∧ l = m) ∨ (e = .ret ∧ l ≠ m ∧ st'.τ 6 = sV (.bool false))) := by
 rw [F126_L0, execC_loop]; refine iter_rule (fun k st => ∃ i, i + k = l.length ∧ l.take i = m.take i ∧ st.τ 1 = .w (ksW m) ∧ st.τ 2 = .w (.fn 127 []) ∧ st.τ 15 = .w (ksW l) ∧ st.τ 16 = iV l.length ∧ st.τ 17 = iV i) ?_ n l.length st hn ⟨0, by omega, by simp, h1, h2, h15, h16, by simpa using h17⟩
 rintro k ⟨τ, H, g, s⟩ ⟨i, hk, ht, h1, h2, h15, h16, h17⟩; simp only at ht h1 h2 h15 h16 h17; cases k with
 | zero =>
  have : i = l.length := by omega
  subst this; refine ⟨.exit 0, ?_⟩
  have hlm2 : l = m := by rw [List.take_length, hlm, List.take_length] at ht; exact ht
  simp [F126_B0, h1, h2, h15, h16, h17, hlm2]
 | succ k =>
  have hlt : i < l.length := by omega
  have hlt' := ltT hlt; have hg := List.getElem?_eq_getElem hlt; have hmem := List.getElem_mem hlt; have hw := wrap_succ (i := i) (by omega); have hltm : i < m.length := by omega
  have hgm := List.getElem?_eq_getElem hltm; have w := hc _ hmem m[i]; have hor : l[i] = m[i] ∨ l[i] ≠ m[i] := Classical.em _; have hdiff : l[i] ≠ m[i] → l ≠ m := fun h e => by subst e; exact h rfl
  have htake : l[i] = m[i] → l.take (i + 1) = m.take (i + 1) := fun h => take_eq ht hg (by rw [hgm, h])
  obtain ⟨k1, op1, as1, nks1, cs1, ks1, hx⟩ : ∃ k' op as nks cs ks, l[i] = .mk (.mk k' op as nks) cs ks := by
   cases hq : l[i] with | mk nn cs ks => cases nn; exact ⟨_, _, _, _, _, _, rfl⟩
  obtain ⟨k2, op2, as2, nks2, cs2, ks2, hy⟩ : ∃ k' op as nks cs ks, m[i] = .mk (.mk k' op as nks) cs ks := by
   cases hq : m[i] with | mk nn cs ks => cases nn; exact ⟨_, _, _, _, _, _, rfl⟩
  rw [hx, hy] at hor w; rw [hx, hy] at hdiff htake; rw [hx] at hg; rw [hy] at hgm; have hb := armRows_get hg; have hbm := armRows_get hgm; rcases hor with he | he
  · refine ⟨.normal, ?_⟩
    rw [eqB_true he] at w; simp [-getElem?_pos, F126_B0, h1, h2, h15, h16, h17, hlt, hlt', hb, hbm, w, hw]; exact ⟨k, by omega, i + 1, by omega, htake he, rfl⟩
  · refine ⟨.ret, ?_⟩
    rw [eqB_false he] at w; simp [-getElem?_pos, F126_B0, h1, h2, h15, h16, h17, hlt, hlt', hb, hbm, w, hdiff he]
theorem run_netsSame {n : Nat} (l m : List Net) (hc : ∀ x ∈ l, ∀ y s, go n 148 [netX x, netX y] [] s = some ⟨bV (eqB x y), [], []⟩) (hn : l.length < n) (hl : l.length < 2 ^ 40) (s : Sup) :
 go (n + 1) 175 [.w (nsW l), .w (nsW m), .w (.fn 148 [])] [] s = some ⟨bV (eqB l m), [], []⟩ := by
 by_cases hlm : l.length = m.length
 · have hlmi : ((l.length : Int) = m.length) = True := eq_true (by omega)
   simp [go_of FT_175 rfl, F175, hlm, hlmi]; generalize hst : St.mk _ _ _ _ = st; obtain ⟨e, ⟨τ', H', g', s'⟩, hx, -, ⟨rfl, h⟩ | ⟨rfl, h, h4⟩⟩ := loop175_0 (n := n) l m hlm hc (by omega) hl st trivial (by simp [← hst]) (by simp [← hst]) (by simp [← hst]) (by simp [← hst, hlm]) (by simp [← hst])
   · simp [hx, eqB_true h]
   · simp only at h4
     simp [hx, eqB_false h, h4]
 · have hlmi : ((l.length : Int) = m.length) = False := eq_false (by omega)
   have : l ≠ m := fun e => hlm (by rw [e])
   simp [go_of FT_175 rfl, F175, hlm, hlmi, eqB_false this]
theorem run_elsSame {n : Nat} (l m : List El) (hc : ∀ x ∈ l, ∀ y s, go n 150 [elX x, elX y] [] s = some ⟨bV (eqB x y), [], []⟩) (hn : l.length < n) (hl : l.length < 2 ^ 40) (s : Sup) :
 go (n + 1) 149 [.w (csW l), .w (csW m), .w (.fn 150 [])] [] s = some ⟨bV (eqB l m), [], []⟩ := by
 by_cases hlm : l.length = m.length
 · have hlmi : ((l.length : Int) = m.length) = True := eq_true (by omega)
   simp [go_of FT_149 rfl, F149, hlm, hlmi]; generalize hst : St.mk _ _ _ _ = st; obtain ⟨e, ⟨τ', H', g', s'⟩, hx, -, ⟨rfl, h⟩ | ⟨rfl, h, h4⟩⟩ := loop149_0 (n := n) l m hlm hc (by omega) hl st trivial (by simp [← hst]) (by simp [← hst]) (by simp [← hst]) (by simp [← hst, hlm]) (by simp [← hst])
   · simp [hx, eqB_true h]
   · simp only at h4
     simp [hx, eqB_false h, h4]
 · have hlmi : ((l.length : Int) = m.length) = False := eq_false (by omega)
   have : l ≠ m := fun e => hlm (by rw [e])
   simp [go_of FT_149 rfl, F149, hlm, hlmi, eqB_false this]
theorem run_armsSame {n : Nat} (l m : List Arm) (hc : ∀ x ∈ l, ∀ y s, go n 127 [armX x, armX y] [] s = some ⟨bV (eqB x y), [], []⟩) (hn : l.length < n) (hl : l.length < 2 ^ 40) (s : Sup) :
 go (n + 1) 126 [.w (ksW l), .w (ksW m), .w (.fn 127 [])] [] s = some ⟨bV (eqB l m), [], []⟩ := by
 by_cases hlm : l.length = m.length
 · have hlmi : ((l.length : Int) = m.length) = True := eq_true (by omega)
   simp [go_of FT_126 rfl, F126, hlm, hlmi]; generalize hst : St.mk _ _ _ _ = st; obtain ⟨e, ⟨τ', H', g', s'⟩, hx, -, ⟨rfl, h⟩ | ⟨rfl, h, h4⟩⟩ := loop126_0 (n := n) l m hlm hc (by omega) hl st trivial (by simp [← hst]) (by simp [← hst]) (by simp [← hst]) (by simp [← hst, hlm]) (by simp [← hst])
   · simp [hx, eqB_true h]
   · simp only at h4
     simp [hx, eqB_false h, h4]
 · have hlmi : ((l.length : Int) = m.length) = False := eq_false (by omega)
   have : l ≠ m := fun e => hlm (by rw [e])
   simp [go_of FT_126 rfl, F126, hlm, hlmi, eqB_false this]
theorem run_netSame : ∀ (m : Nat) (t u : Net), t.wt ≤ m → m < 2 ^ 39 → ∀ (n : Nat), 2 * m + 6 ≤ n → ∀ s, go n 148 [netX t, netX u] [] s = some ⟨bV (eqB t u), [], []⟩
 | 0, t, u, h, hm, n, hn, s => by have := t.wt_pos; omega
 | m + 1, .mk k op as ks, .mk k2 op2 as2 ks2, h, hm, n, hn, s => by
  obtain ⟨n, rfl⟩ : ∃ k, n = k + 2 := ⟨n - 2, by omega⟩; have hlen := netsWt_len ks; simp only [Net.wt] at h; have hc : ∀ x ∈ ks, ∀ y s, go n 148 [netX x, netX y] [] s = some ⟨bV (eqB x y), [], []⟩ := fun x hx y s => run_netSame m x y (by have := netsWt_mem hx; omega) (by omega) n (by omega) s
  have w1 := run_netsSame (n := n) ks ks2 hc (by omega) (by omega); have w2 := run_elemSame (n := n + 1) ⟨op, as⟩ ⟨op2, as2⟩ (by simp only; omega) (by simp only; omega)
  by_cases h1 : k = k2
  · by_cases h2 : (⟨op, as⟩ : El) = ⟨op2, as2⟩
    · rw [decide_eq_true h2] at w2
      have e : eqB ks ks2 = eqB (Net.mk k op as ks) (Net.mk k2 op2 as2 ks2) := eqB_of (by rw [eqB_iff]; cases h2; subst h1; simp); rw [← e]; simp [go_of FT_148 rfl, F148, h1, w1, w2]
    · rw [decide_eq_false h2] at w2
      rw [eqB_false (a := Net.mk k op as ks) (fun e => h2 (by cases e; rfl))]; simp [go_of FT_148 rfl, F148, h1, w2]
  · rw [eqB_false (a := Net.mk k op as ks) (fun e => h1 (by cases e; rfl))]
    simp [go_of FT_148 rfl, F148, h1]
theorem run_arm1Same {n : Nat} (a b : Arm) (hk : ∀ s, go (n + 2) 109 [.w (ksW a.kids), .w (ksW b.kids)] [] s = some ⟨bV (eqB a.kids b.kids), [], []⟩) (hn : 2 * a.wt + 10 ≤ n) (hl : a.wt < 2 ^ 38) (s : Sup) :
 go (n + 3) 127 [armX a, armX b] [] s = some ⟨bV (eqB a b), [], []⟩ := by
 obtain ⟨⟨k, op, as, nks⟩, cs, ks⟩ := a; obtain ⟨⟨k2, op2, as2, nks2⟩, cs2, ks2⟩ := b; simp only [Arm.wt] at hn hl; simp only [Arm.kids] at hk; have hcl := elsWt_len cs; have w1 := run_netSame (Net.wt (.mk k op as nks)) (.mk k op as nks) (.mk k2 op2 as2 nks2) (Nat.le_refl _) (by omega) (n + 2) (by omega); have w2 := run_elsSame (n := n + 1) cs cs2 (fun x hx y s => by
  have := elsWt_mem hx; have e := run_elemSame (n := n + 1) x y (by simp only [El.wt] at this; omega) (by simp only [El.wt] at this; omega) s; rw [e]; have : decide (x = y) = eqB x y := eqB_of (by simp); rw [this]; rfl) (by omega) (by omega)
 by_cases h1 : (Net.mk k op as nks) = .mk k2 op2 as2 nks2
 · rw [eqB_true h1] at w1
   by_cases h2 : cs = cs2
   · rw [eqB_true h2] at w2
     have e : eqB ks ks2 = eqB (Arm.mk (.mk k op as nks) cs ks) (.mk (.mk k2 op2 as2 nks2) cs2 ks2) := eqB_of (by rw [eqB_iff]; cases h1; subst h2; simp); rw [← e]; simp [go_of FT_127 rfl, F127, w1, w2, hk]
   · rw [eqB_false h2] at w2
     rw [eqB_false (a := Arm.mk (.mk k op as nks) cs ks) (fun e => h2 (by cases e; rfl))]; simp [go_of FT_127 rfl, F127, w1, w2]
 · rw [eqB_false h1] at w1
   rw [eqB_false (a := Arm.mk (.mk k op as nks) cs ks) (fun e => h1 (by cases e; rfl))]; simp [go_of FT_127 rfl, F127, w1]
theorem run_TreeSame : ∀ (m : Nat) (l u : List Arm), armsWt l ≤ m → m < 2 ^ 38 → ∀ (n : Nat), 3 * m + 20 ≤ n → ∀ s, go n 109 [.w (ksW l), .w (ksW u)] [] s = some ⟨bV (eqB l u), [], []⟩ := by
 intro m
 induction m with
 | zero =>
  intro l u h hm n hn s; obtain ⟨n, rfl⟩ : ∃ k, n = k + 2 := ⟨n - 2, by omega⟩; have e : l = [] := by
   cases l with
   | nil => rfl
   | cons a r => have := a.wt_pos; simp [armsWt] at h; omega
  subst e; have w := run_armsSame (n := n) [] u (fun x hx => by cases hx) (by simp; omega) (by simp); simp [go_of FT_109 rfl, F109, w]
 | succ m ih =>
  intro l u h hm n hn s; obtain ⟨n, rfl⟩ : ∃ k, n = k + 5 := ⟨n - 5, by omega⟩; have hlen := armsWt_len l; have w := run_armsSame (n := n + 3) l u (fun x hx y s => by
   have hx' := armsWt_mem hx; refine run_arm1Same x y (fun s => ih x.kids y.kids ?_ (by omega) (n + 2) (by omega) s) (by omega) (by omega) s
   cases x; simp [Arm.wt] at hx'; simp [Arm.kids]; omega) (by omega) (by omega)
  simp [go_of FT_109 rfl, F109, w]
end Go.VM
