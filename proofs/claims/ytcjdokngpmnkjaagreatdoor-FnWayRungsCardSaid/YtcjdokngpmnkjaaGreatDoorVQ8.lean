/- Ladders compared, reckoned. Conditions: none. -/
import Derived.Test.YtcjdokngpmnkjaaGreatDoorVQ7

namespace Go.VM
set_option linter.unusedSimpArgs false
set_option linter.unusedVariables false
set_option maxHeartbeats 8000000
noncomputable def eqB {α : Type} (a b : α) : Bool := @decide (a = b) (Classical.propDecidable _)
theorem eqB_true {α : Type} {a b : α} (h : a = b) : eqB a b = true := by unfold eqB; exact @decide_eq_true _ (_) h
theorem eqB_false {α : Type} {a b : α} (h : a ≠ b) : eqB a b = false := by unfold eqB; exact @decide_eq_false _ (_) h
theorem take_eq {α : Type} {l m : List α} {i : Nat} {x : α} (h : l.take i = m.take i) (h1 : l[i]? = some x) (h2 : m[i]? = some x) : l.take (i + 1) = m.take (i + 1) := by
 rw [List.take_add_one, List.take_add_one, h, h1, h2]
theorem loop176_0 {n : Nat} (l : List Arg) (m : List Arg) (hlm : l.length = m.length) (hn : l.length < n) (hl : l.length < 2 ^ 40) (st : St) (ht : True) (h0 : st.τ 0 = .w (asW l)) (h1 : st.τ 1 = .w (asW m)) (h12 : st.τ 12 = iV l.length) (h13 : st.τ 13 = iV 0) :
 ∃ e st', execC (go n) mode GT false 26 n F176_L0 st = some (e, st') ∧ e ≠ .normal ∧ ((e = .exit 0 ∧ l = m) ∨ (e = .ret ∧ l ≠ m ∧ st'.τ 4 = sV (.bool false))) := by
 rw [F176_L0, execC_loop]
 refine iter_rule (fun k st => ∃ i, i + k = l.length ∧ l.take i = m.take i ∧ st.τ 0 = .w (asW l) ∧ st.τ 1 = .w (asW m) ∧ st.τ 12 = iV l.length ∧ st.τ 13 = iV i) ?_ n l.length st hn ⟨0, by omega, by simp, h0, h1, h12, by simpa using h13⟩
 rintro k ⟨τ, H, g, s⟩ ⟨i, hk, ht, h0, h1, h12, h13⟩
 simp only at ht h0 h1 h12 h13
 cases k with
 | zero =>
  have : i = l.length := by omega
  subst this
  refine ⟨.exit 0, ?_⟩
  have hlm2 : l = m := by rw [List.take_length, hlm, List.take_length] at ht; exact ht
  simp [F176_B0, h0, h1, h12, h13, hlm2]
 | succ k =>
  have hlt : i < l.length := by omega
  have hlt' : ((i : Int) < (l.length : Int)) = True := eq_true (by omega)
  have hg := List.getElem?_eq_getElem hlt
  have hmem := List.getElem_mem hlt
  have hw := wrap_succ (i := i) (by omega)
  have hltm : i < m.length := by omega
  have hgm := List.getElem?_eq_getElem hltm
  have hb := argRows_get hg
  have hbm := argRows_get hgm
  by_cases he : l[i] = m[i]
  · refine ⟨.normal, ?_⟩
    have he1 : l[i].k = m[i].k := by rw [he]
    have he2 : l[i].n = m[i].n := by rw [he]
    have he3 : l[i].p = m[i].p := by rw [he]
    simp [-getElem?_pos, F176_B0, h0, h1, h12, h13, hlt, hlt', hb, hbm, he1, he2, he3, hw]
    exact ⟨k, by omega, i + 1, by omega, take_eq ht hg (by rw [hgm, he]), rfl⟩
  · refine ⟨.ret, ?_⟩
    have hne : ((l[i].k == m[i].k) && ((l[i].n == m[i].n) && (l[i].p == m[i].p))) = false := by
     rw [Bool.eq_false_iff]
     intro h
     simp only [Bool.and_eq_true, beq_iff_eq] at h
     refine he ?_
     generalize l[i] = x at h ⊢
     generalize m[i] = y at h ⊢
     cases x; cases y
     simp only at h
     rw [h.1, h.2.1, h.2.2]
    simp [-getElem?_pos, F176_B0, h0, h1, h12, h13, hlt, hlt', hb, hbm, hne]
    intro e; subst e; exact he rfl
theorem run_argsSame {n : Nat} (l m : List Arg) (hn : l.length + 2 ≤ n) (hl : l.length < 2 ^ 40) (s : Sup) : go n 176 [.w (asW l), .w (asW m)] [] s = some ⟨sV (.bool (decide (l = m))), [], []⟩ := by
 obtain ⟨n, rfl⟩ : ∃ k, n = k + 1 := ⟨n - 1, by omega⟩
 by_cases hlm : l.length = m.length
 · have hlmi : ((l.length : Int) = m.length) = True := eq_true (by omega)
   simp [go_of FT_176 rfl, F176, hlm, hlmi]
   generalize hst : St.mk _ _ _ _ = st
   obtain ⟨e, ⟨τ', H', g', s'⟩, hx, -, ⟨rfl, h⟩ | ⟨rfl, h, h4⟩⟩ := loop176_0 (n := n) l m hlm (by omega) hl st trivial (by simp [← hst]) (by simp [← hst]) (by simp [← hst, hlm]) (by simp [← hst])
   · simp [hx, h]
   · simp only at h4
     simp [hx, h, h4]
 · have hlmi : ((l.length : Int) = m.length) = False := eq_false (by omega)
   have : l ≠ m := fun e => hlm (by rw [e])
   simp [go_of FT_176 rfl, F176, hlm, hlmi, this]
theorem run_elemSame {n : Nat} (a b : El) (hn : a.as.length + 3 ≤ n) (hl : a.as.length < 2 ^ 40) (s : Sup) : go n 150 [elX a, elX b] [] s = some ⟨sV (.bool (decide (a = b))), [], []⟩ := by
 obtain ⟨n, rfl⟩ : ∃ k, n = k + 1 := ⟨n - 1, by omega⟩
 obtain ⟨p, x⟩ := a
 obtain ⟨q, y⟩ := b
 have w := run_argsSame (n := n) x y (by simp only at hn; omega) hl
 by_cases h : p = q
 · simp [go_of FT_150 rfl, F150, h, w]
 · simp [go_of FT_150 rfl, F150, h]
end Go.VM
