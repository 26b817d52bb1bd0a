/- How often an operand stands in a ladder: what the program and what the document says. Conditions: none. -/
import Derived.Test.YtacfoamnbdlmpaaDoorVQ9
import Derived.Test.YtacfoamnbdlmpaaDoorVN2

namespace Go.VM
set_option linter.unusedSimpArgs false
set_option linter.unusedVariables false
set_option maxHeartbeats 16000000

abbrev aBox (a : Arg) : Box := .cells [iW a.k, iW a.n, iW a.p]
mutual
theorem uses_le (a : Arg) : ∀ n : Net, n.uses a ≤ n.wt
  | .mk k op as ks => by have := netsUses_le a ks; have := List.count_le_length (a := a) (l := as); simp [Net.uses, Net.wt]; omega
theorem netsUses_le (a : Arg) : ∀ l : List Net, netsUses a l ≤ netsWt l
  | [] => by simp [netsUses]
  | n :: r => by have := uses_le a n; have := netsUses_le a r; simp [netsUses, netsWt]; omega
end
theorem elsUses_le (a : Arg) : ∀ l : List El, elsUses a l ≤ elsWt l
  | [] => by simp [elsUses]
  | e :: r => by have := elsUses_le a r; have := List.count_le_length (a := a) (l := e.as); simp [elsUses, El.uses, elsWt, El.wt]; omega
mutual
theorem armUses_le (a : Arg) : ∀ m : Arm, m.uses a ≤ m.wt
  | .mk n cs ks => by have := uses_le a n; have := elsUses_le a cs; have := armsUses_le a ks; simp [Arm.uses, Arm.wt]; omega
theorem armsUses_le (a : Arg) : ∀ l : List Arm, armsUses a l ≤ armsWt l
  | [] => by simp [armsUses]
  | m :: r => by have := armUses_le a m; have := armsUses_le a r; simp [armsUses, armsWt]; omega
end
theorem armsUses_append (a : Arg) : ∀ l m : List Arm, armsUses a (l ++ m) = armsUses a l + armsUses a m
  | [], m => by simp [armsUses]
  | n :: r, m => by simp [armsUses, armsUses_append a r m]; omega
theorem netsUses_take {a : Arg} {l : List Net} {i : Nat} {x : Net} (h : l[i]? = some x) : netsUses a (l.take (i + 1)) = netsUses a (l.take i) + x.uses a := by
  rw [List.take_add_one, h]; simp [netsUses_append, netsUses]
theorem elsUses_take {a : Arg} {l : List El} {i : Nat} {x : El} (h : l[i]? = some x) : elsUses a (l.take (i + 1)) = elsUses a (l.take i) + x.uses a := by
  rw [List.take_add_one, h]; simp [elsUses_append, elsUses]
theorem armsUses_take {a : Arg} {l : List Arm} {i : Nat} {x : Arm} (h : l[i]? = some x) : armsUses a (l.take (i + 1)) = armsUses a (l.take i) + x.uses a := by
  rw [List.take_add_one, h]; simp [armsUses_append, armsUses]
theorem netsUses_take_le (a : Arg) (l : List Net) (i : Nat) : netsUses a (l.take i) ≤ netsUses a l := by
  have := netsUses_append a (l.take i) (l.drop i)
  rw [List.take_append_drop] at this; omega
theorem elsUses_take_le (a : Arg) (l : List El) (i : Nat) : elsUses a (l.take i) ≤ elsUses a l := by
  have := elsUses_append a (l.take i) (l.drop i)
  rw [List.take_append_drop] at this; omega
theorem armsUses_take_le (a : Arg) (l : List Arm) (i : Nat) : armsUses a (l.take i) ≤ armsUses a l := by
  have := armsUses_append a (l.take i) (l.drop i)
  rw [List.take_append_drop] at this; omega
theorem count_take {a : Arg} {l : List Arg} {i : Nat} {x : Arg} (h : l[i]? = some x) : (l.take (i + 1)).count a = (l.take i).count a + if x = a then 1 else 0 := by
  rw [List.take_add_one, h]; simp [List.count_append, List.count_cons]
theorem count_take_le (a : Arg) (l : List Arg) (i : Nat) : (l.take i).count a ≤ l.length := Nat.le_trans List.count_le_length (by simp; omega)
theorem arg_ne {x a : Arg} (h : x ≠ a) : ((x.k == a.k) && ((x.n == a.n) && (x.p == a.p))) = false := by
  rw [Bool.eq_false_iff]
  intro e
  simp only [Bool.and_eq_true, beq_iff_eq] at e
  refine h ?_
  cases x; cases a
  simp only at e
  rw [e.1, e.2.1, e.2.2]

theorem loop131_0 {n : Nat} (l : List Arg) (a : Arg) (bq : Nat) (hn : l.length < n) (hl : l.length < 2 ^ 40) (st : St) (h3 : st.τ 3 = .w (.ptr bq 0)) (hB : st.H bq = aBox a) (hgq : bq < st.g) (h5 : st.τ 5 = iV 0) (h9 : st.τ 9 = .w (asW l)) (h10 : st.τ 10 = iV l.length) (h11 : st.τ 11 = iV 0) :
    ∃ e st', execC (go n) mode GT false 22 n F131_L0 st = some (e, st') ∧ e ≠ .normal ∧ (e = .exit 0 ∧ st'.τ 5 = iV (l.count a : Nat)) := by
  rw [F131_L0, execC_loop]
  refine iter_rule (fun k st => ∃ i, i + k = l.length ∧ st.τ 3 = .w (.ptr bq 0) ∧ st.H bq = aBox a ∧ bq < st.g ∧ st.τ 5 = iV ((l.take i).count a : Nat) ∧ st.τ 9 = .w (asW l) ∧ st.τ 10 = iV l.length ∧ st.τ 11 = iV i) ?_ n l.length st hn ⟨0, by omega, h3, hB, hgq, by simpa using h5, h9, h10, by simpa using h11⟩
  rintro k ⟨τ, H, g, s⟩ ⟨i, hk, h3, hB, hgq, h5, h9, h10, h11⟩
  simp only at h3 hB hgq h5 h9 h10 h11
  cases k with
  | zero =>
    have : i = l.length := by omega
    subst this
    refine ⟨.exit 0, ?_⟩
    rw [List.take_length] at h5
    simp [F131_B0, h3, h5, h9, h10, h11]
  | succ k =>
    have hlt : i < l.length := by omega
    have hlt' : ((i : Int) < (l.length : Int)) = True := eq_true (by omega)
    have hg := List.getElem?_eq_getElem hlt
    have hmem := List.getElem_mem hlt
    have hw := wrap_succ (i := i) (by omega)
    obtain ⟨fg1, fg2, fg3, fg4, fg5, fg6, fg7, fg8, fg9, fg10, fg11, fg12, fg13, fg14, fg15, fg16, fg17, fg18, fg19, fg20, fg21, fg22, fg23, fg24⟩ := far (show bq < g by omega)
    have hct := count_take (a := a) hg
    have hcl := count_take_le a l (i + 1)
    have hb := argRows_get hg
    by_cases he : l[i] = a
    · rw [if_pos he] at hct
      have hadd : IntKind.wrap .i64 (((l.take i).count a : Int) + 1) = ((l.take (i + 1)).count a : Nat) := wrap_cast (by omega) (by omega)
      have he1 : l[i].k = a.k := by rw [he]
      have he2 : l[i].n = a.n := by rw [he]
      have he3 : l[i].p = a.p := by rw [he]
      refine ⟨.normal, ?_⟩
      simp [-getElem?_pos, -Int.natCast_add, F131_B0, h3, hB, h5, h9, h10, h11, hlt, hlt', hb, he1, he2, he3, hw, hadd, fg1, fg2, fg3, fg4, fg5, fg6, fg7, fg8, fg9, fg10, fg11, fg12, fg13, fg14, fg15, fg16, fg17, fg18, fg19, fg20, fg21, fg22, fg23, fg24]
      exact ⟨k, by omega, i + 1, by omega, by omega, rfl, rfl⟩
    · rw [if_neg he] at hct
      have hct : (l.take (i + 1)).count a = (l.take i).count a := hct
      have hne := arg_ne he
      refine ⟨.normal, ?_⟩
      simp [-getElem?_pos, -Int.natCast_add, F131_B0, h3, hB, h5, h9, h10, h11, hlt, hlt', hb, hne, hw, fg1, fg2, fg3, fg4, fg5, fg6, fg7, fg8, fg9, fg10, fg11, fg12, fg13, fg14, fg15, fg16, fg17, fg18, fg19, fg20, fg21, fg22, fg23, fg24]
      exact ⟨k, by omega, i + 1, by omega, by omega, by rw [hct], rfl⟩

theorem loop133_0 {n : Nat} (l : List Arg) (a : Arg) (o0 : W) (bq : Nat) (hn : l.length < n) (hl : l.length < 2 ^ 40) (st : St) (h2 : st.τ 2 = .w (.ptr 0 0)) (hA : st.H 0 = .cells [o0, asW l]) (h3 : st.τ 3 = .w (.ptr bq 0)) (hB : st.H bq = aBox a) (hgq : bq < st.g) (h5 : st.τ 5 = iV 0) (h6 : st.τ 6 = iV 0) :
    ∃ e st', execC (go n) mode GT false 24 n F133_L0 st = some (e, st') ∧ e ≠ .normal ∧ (e = .exit 0 ∧ st'.τ 5 = iV (l.count a : Nat)) := by
  rw [F133_L0, execC_loop]
  refine iter_rule (fun k st => ∃ i, i + k = l.length ∧ st.τ 2 = .w (.ptr 0 0) ∧ st.H 0 = .cells [o0, asW l] ∧ st.τ 3 = .w (.ptr bq 0) ∧ st.H bq = aBox a ∧ bq < st.g ∧ st.τ 5 = iV ((l.take i).count a : Nat) ∧ st.τ 6 = iV i) ?_ n l.length st hn ⟨0, by omega, h2, hA, h3, hB, hgq, by simpa using h5, by simpa using h6⟩
  rintro k ⟨τ, H, g, s⟩ ⟨i, hk, h2, hA, h3, hB, hgq, h5, h6⟩
  simp only at h2 hA h3 hB hgq h5 h6
  cases k with
  | zero =>
    have : i = l.length := by omega
    subst this
    refine ⟨.exit 0, ?_⟩
    rw [List.take_length] at h5
    simp [F133_B0, h2, hA, h3, h5, h6]
  | succ k =>
    have hlt : i < l.length := by omega
    have hlt' : ((i : Int) < (l.length : Int)) = True := eq_true (by omega)
    have hg := List.getElem?_eq_getElem hlt
    have hmem := List.getElem_mem hlt
    have hw := wrap_succ (i := i) (by omega)
    have lq1 : ∀ x : Nat, (bq < g + x) = True := fun x => eq_true (by omega)
    have lq2 : ∀ x y : Nat, (bq < g + x + y) = True := fun x y => eq_true (by omega)
    have hct := count_take (a := a) hg
    have hcl := count_take_le a l (i + 1)
    have hb := argRows_get hg
    by_cases he : l[i] = a
    · rw [if_pos he] at hct
      have hadd : IntKind.wrap .i64 (((l.take i).count a : Int) + 1) = ((l.take (i + 1)).count a : Nat) := wrap_cast (by omega) (by omega)
      have he1 : l[i].k = a.k := by rw [he]
      have he2 : l[i].n = a.n := by rw [he]
      have he3 : l[i].p = a.p := by rw [he]
      refine ⟨.normal, ?_⟩
      simp [-getElem?_pos, -Int.natCast_add, F133_B0, h2, hA, h3, hB, h5, h6, hlt, hlt', hb, he1, he2, he3, hw, hadd, lq1, lq2]
      exact ⟨k, by omega, i + 1, by omega, by omega, rfl, rfl⟩
    · rw [if_neg he] at hct
      have hct : (l.take (i + 1)).count a = (l.take i).count a := hct
      have hne := arg_ne he
      refine ⟨.normal, ?_⟩
      simp [-getElem?_pos, -Int.natCast_add, F133_B0, h2, hA, h3, hB, h5, h6, hlt, hlt', hb, hne, hw, lq1, lq2]
      exact ⟨k, by omega, i + 1, by omega, by omega, by rw [hct], rfl⟩


theorem run_elUses131 {n : Nat} (e : El) (a : Arg) (hn : e.as.length + 3 ≤ n) (hl : e.as.length < 2 ^ 40) (s : Sup) : go n 131 [elX e, argX a] [] s = some ⟨iV (e.uses a), [], []⟩ := by
  obtain ⟨n, rfl⟩ : ∃ k, n = k + 1 := ⟨n - 1, by omega⟩
  simp [go_of FT_131 rfl, F131]
  generalize hst : St.mk _ _ _ _ = st
  obtain ⟨e', ⟨τ', H', g', s'⟩, hx, -, rfl, h5⟩ := loop131_0 (n := n) e.as a _ (by omega) (by omega) st (by simp [← hst]; try rfl) (by simp [← hst]; try rfl) (by simp [← hst]; try rfl) (by simp [← hst]; try rfl) (by simp [← hst]; try rfl) (by simp [← hst]; try rfl) (by simp [← hst]; try rfl)
  simp only at h5
  simp [-Int.natCast_add, hx, h5, El.uses]


theorem run_elUses133 {n : Nat} (e : El) (a : Arg) (hn : e.as.length + 3 ≤ n) (hl : e.as.length < 2 ^ 40) (s : Sup) : go n 133 [elX e, argX a] [] s = some ⟨iV (e.uses a), [], []⟩ := by
  obtain ⟨n, rfl⟩ : ∃ k, n = k + 1 := ⟨n - 1, by omega⟩
  simp [go_of FT_133 rfl, F133]
  generalize hst : St.mk _ _ _ _ = st
  obtain ⟨e', ⟨τ', H', g', s'⟩, hx, -, rfl, h5⟩ := loop133_0 (n := n) e.as a (iW e.op) _ (by omega) (by omega) st (by simp [← hst]; try rfl) (by simp [← hst]; try rfl) (by simp [← hst]; try rfl) (by simp [← hst]; try rfl) (by simp [← hst]; try rfl) (by simp [← hst]; try rfl) (by simp [← hst]; try rfl)
  simp only at h5
  simp [-Int.natCast_add, hx, h5, El.uses]

theorem loop130_0 {n : Nat} (l : List Net) (a : Arg) (a0 : Nat) (bq : Nat) (hc : ∀ x ∈ l, ∀ s, go n 130 [netX x, argX a] [] s = some ⟨iV (x.uses a), [], []⟩) (hsz : a0 + netsUses a l < 2 ^ 41) (hn : l.length < n) (hl : l.length < 2 ^ 40) (st : St) (h3 : st.τ 3 = .w (.ptr bq 0)) (hB : st.H bq = aBox a) (hgq : bq < st.g) (h5 : st.τ 5 = iV a0) (h13 : st.τ 13 = .w (nsW l)) (h14 : st.τ 14 = iV l.length) (h15 : st.τ 15 = iV 0) :
    ∃ e st', execC (go n) mode GT false 26 n F130_L0 st = some (e, st') ∧ e ≠ .normal ∧ (e = .exit 0 ∧ st'.τ 5 = iV (a0 + netsUses a l : Nat)) := by
  rw [F130_L0, execC_loop]
  refine iter_rule (fun k st => ∃ i, i + k = l.length ∧ st.τ 3 = .w (.ptr bq 0) ∧ st.H bq = aBox a ∧ bq < st.g ∧ st.τ 5 = iV (a0 + netsUses a (l.take i) : Nat) ∧ st.τ 13 = .w (nsW l) ∧ st.τ 14 = iV l.length ∧ st.τ 15 = iV i) ?_ n l.length st hn ⟨0, by omega, h3, hB, hgq, by simpa [netsUses] using h5, h13, h14, by simpa using h15⟩
  rintro k ⟨τ, H, g, s⟩ ⟨i, hk, h3, hB, hgq, h5, h13, h14, h15⟩
  simp only at h3 hB hgq h5 h13 h14 h15
  cases k with
  | zero =>
    have : i = l.length := by omega
    subst this
    refine ⟨.exit 0, ?_⟩
    rw [List.take_length] at h5
    simp [-Int.natCast_add, F130_B0, h3, h5, h13, h14, h15]
  | succ k =>
    have hlt : i < l.length := by omega
    have hlt' : ((i : Int) < (l.length : Int)) = True := eq_true (by omega)
    have hg := List.getElem?_eq_getElem hlt
    have hmem := List.getElem_mem hlt
    have hw := wrap_succ (i := i) (by omega)
    obtain ⟨fg1, fg2, fg3, fg4, fg5, fg6, fg7, fg8, fg9, fg10, fg11, fg12, fg13, fg14, fg15, fg16, fg17, fg18, fg19, fg20, fg21, fg22, fg23, fg24⟩ := far (show bq < g by omega)
    have w := hc _ hmem
    have hs := netsUses_take (a := a) hg
    have hs2 := netsUses_take_le a l (i + 1)
    obtain ⟨k', op, as, ks, hx⟩ : ∃ k' op as ks, l[i] = .mk k' op as ks := by cases l[i]; exact ⟨_, _, _, _, rfl⟩
    rw [hx] at hg w hs
    have hb := netRows_get hg
    have hadd : IntKind.wrap .i64 ((a0 + netsUses a (l.take i) : Nat) + (Net.uses a (.mk k' op as ks) : Int)) = (a0 + netsUses a (l.take (i + 1)) : Nat) := wrap_cast (by omega) (by omega)
    refine ⟨.normal, ?_⟩
    simp [-getElem?_pos, -Int.natCast_add, F130_B0, h3, hB, h5, h13, h14, h15, hlt, hlt', hb, w, hw, hadd, fg1, fg2, fg3, fg4, fg5, fg6, fg7, fg8, fg9, fg10, fg11, fg12, fg13, fg14, fg15, fg16, fg17, fg18, fg19, fg20, fg21, fg22, fg23, fg24]
    exact ⟨k, by omega, i + 1, by omega, by omega, rfl, rfl⟩

theorem loop132_0 {n : Nat} (l : List Net) (a : Arg) (a0 : Nat) (k0 op0 as0 : W) (bq : Nat) (hc : ∀ x ∈ l, ∀ s, go n 132 [netX x, argX a] [] s = some ⟨iV (x.uses a), [], []⟩) (hsz : a0 + netsUses a l < 2 ^ 41) (hn : l.length < n) (hl : l.length < 2 ^ 40) (st : St) (h2 : st.τ 2 = .w (.ptr 0 0)) (hA : st.H 0 = .cells [k0, op0, as0, nsW l]) (h3 : st.τ 3 = .w (.ptr bq 0)) (hB : st.H bq = aBox a) (hgq : bq < st.g) (h5 : st.τ 5 = iV a0) (h6 : st.τ 6 = iV 0) :
    ∃ e st', execC (go n) mode GT false 28 n F132_L0 st = some (e, st') ∧ e ≠ .normal ∧ (e = .exit 0 ∧ st'.τ 5 = iV (a0 + netsUses a l : Nat)) := by
  rw [F132_L0, execC_loop]
  refine iter_rule (fun k st => ∃ i, i + k = l.length ∧ st.τ 2 = .w (.ptr 0 0) ∧ st.H 0 = .cells [k0, op0, as0, nsW l] ∧ st.τ 3 = .w (.ptr bq 0) ∧ st.H bq = aBox a ∧ bq < st.g ∧ st.τ 5 = iV (a0 + netsUses a (l.take i) : Nat) ∧ st.τ 6 = iV i) ?_ n l.length st hn ⟨0, by omega, h2, hA, h3, hB, hgq, by simpa [netsUses] using h5, by simpa using h6⟩
  rintro k ⟨τ, H, g, s⟩ ⟨i, hk, h2, hA, h3, hB, hgq, h5, h6⟩
  simp only at h2 hA h3 hB hgq h5 h6
  cases k with
  | zero =>
    have : i = l.length := by omega
    subst this
    refine ⟨.exit 0, ?_⟩
    rw [List.take_length] at h5
    simp [-Int.natCast_add, F132_B0, h2, hA, h3, h5, h6]
  | succ k =>
    have hlt : i < l.length := by omega
    have hlt' : ((i : Int) < (l.length : Int)) = True := eq_true (by omega)
    have hg := List.getElem?_eq_getElem hlt
    have hmem := List.getElem_mem hlt
    have hw := wrap_succ (i := i) (by omega)
    have lq1 : ∀ x : Nat, (bq < g + x) = True := fun x => eq_true (by omega)
    have lq2 : ∀ x y : Nat, (bq < g + x + y) = True := fun x y => eq_true (by omega)
    have w := hc _ hmem
    have hs := netsUses_take (a := a) hg
    have hs2 := netsUses_take_le a l (i + 1)
    obtain ⟨k', op, as, ks, hx⟩ : ∃ k' op as ks, l[i] = .mk k' op as ks := by cases l[i]; exact ⟨_, _, _, _, rfl⟩
    rw [hx] at hg w hs
    have hb := netRows_get hg
    have hadd : IntKind.wrap .i64 ((a0 + netsUses a (l.take i) : Nat) + (Net.uses a (.mk k' op as ks) : Int)) = (a0 + netsUses a (l.take (i + 1)) : Nat) := wrap_cast (by omega) (by omega)
    refine ⟨.normal, ?_⟩
    simp [-getElem?_pos, -Int.natCast_add, F132_B0, h2, hA, h3, hB, h5, h6, hlt, hlt', hb, w, hw, hadd, lq1, lq2]
    exact ⟨k, by omega, i + 1, by omega, by omega, rfl, rfl⟩


theorem run_netUses130 : ∀ (m : Nat) (t : Net) (a : Arg), t.wt ≤ m → m < 2 ^ 40 → ∀ (n : Nat), m + 6 ≤ n → ∀ s, go n 130 [netX t, argX a] [] s = some ⟨iV (t.uses a), [], []⟩
  | 0, t, a, h, hm, n, hn, s => by have := t.wt_pos; omega
  | m + 1, .mk k op as ks, a, h, hm, n, hn, s => by
    obtain ⟨n, rfl⟩ : ∃ k, n = k + 1 := ⟨n - 1, by omega⟩
    have hlen := netsWt_len ks
    have hul := netsUses_le a ks
    have hcl := List.count_le_length (a := a) (l := as)
    simp only [Net.wt] at h
    have w := run_elUses131 (n := n) ⟨op, as⟩ a (by simp only; omega) (by simp only; omega)
    simp only [El.uses] at w
    have hc : ∀ x ∈ ks, ∀ s, go n 130 [netX x, argX a] [] s = some ⟨iV (x.uses a), [], []⟩ := fun x hx s => run_netUses130 m x a (by have := netsWt_mem hx; omega) (by omega) n (by omega) s
    simp [go_of FT_130 rfl, F130, w]
    generalize hst : St.mk _ _ _ _ = st
    obtain ⟨e', ⟨τ', H', g', s'⟩, hx, -, rfl, h5⟩ := loop130_0 (n := n) ks a (List.count a as) _ hc (by omega) (by omega) (by omega) st (by simp [← hst]; try rfl) (by simp [← hst]; try rfl) (by simp [← hst]; try rfl) (by simp [← hst]; try rfl) (by simp [← hst]; try rfl) (by simp [← hst]; try rfl) (by simp [← hst]; try rfl)
    simp only at h5
    simp [-Int.natCast_add, hx, h5, Net.uses]


theorem run_netUses132 : ∀ (m : Nat) (t : Net) (a : Arg), t.wt ≤ m → m < 2 ^ 40 → ∀ (n : Nat), m + 6 ≤ n → ∀ s, go n 132 [netX t, argX a] [] s = some ⟨iV (t.uses a), [], []⟩
  | 0, t, a, h, hm, n, hn, s => by have := t.wt_pos; omega
  | m + 1, .mk k op as ks, a, h, hm, n, hn, s => by
    obtain ⟨n, rfl⟩ : ∃ k, n = k + 1 := ⟨n - 1, by omega⟩
    have hlen := netsWt_len ks
    have hul := netsUses_le a ks
    have hcl := List.count_le_length (a := a) (l := as)
    simp only [Net.wt] at h
    have w := run_elUses133 (n := n) ⟨op, as⟩ a (by simp only; omega) (by simp only; omega)
    simp only [El.uses] at w
    have hc : ∀ x ∈ ks, ∀ s, go n 132 [netX x, argX a] [] s = some ⟨iV (x.uses a), [], []⟩ := fun x hx s => run_netUses132 m x a (by have := netsWt_mem hx; omega) (by omega) n (by omega) s
    simp [go_of FT_132 rfl, F132, w]
    generalize hst : St.mk _ _ _ _ = st
    obtain ⟨e', ⟨τ', H', g', s'⟩, hx, -, rfl, h5⟩ := loop132_0 (n := n) ks a (List.count a as) (iW k) (iW op) (asW as) _ hc (by omega) (by omega) (by omega) st (by simp [← hst]; try rfl) (by simp [← hst]; try rfl) (by simp [← hst]; try rfl) (by simp [← hst]; try rfl) (by simp [← hst]; try rfl) (by simp [← hst]; try rfl) (by simp [← hst]; try rfl)
    simp only at h5
    simp [-Int.natCast_add, hx, h5, Net.uses]

end Go.VM
