/- How often an operand stands in a ladder: arms. Conditions: none. -/
import Derived.Test.YtacfoamnbdlmpaaDoorVU1

namespace Go.VM
set_option linter.unusedSimpArgs false
set_option linter.unusedVariables false
set_option maxHeartbeats 16000000

theorem loop113_0 {n : Nat} (l : List El) (a : Arg) (a0 : Nat) (bq : Nat) (u10 u11 u12 : V) (hc : ∀ x ∈ l, ∀ s, go n 131 [elX x, argX a] [] s = some ⟨iV (x.uses a), [], []⟩) (hsz : a0 + elsUses a l < 2 ^ 41) (hn : l.length < n) (hl : l.length < 2 ^ 40) (st : St) (h3 : st.τ 3 = .w (.ptr bq 0)) (hB : st.H bq = aBox a) (hgq : bq < st.g) (h5 : st.τ 5 = iV a0) (h10 : st.τ 10 = u10) (h11 : st.τ 11 = u11) (h12 : st.τ 12 = u12) (h28 : st.τ 28 = .w (csW l)) (h29 : st.τ 29 = iV l.length) (h30 : st.τ 30 = iV 0) :
    ∃ e st', execC (go n) mode GT false 42 n F113_L0 st = some (e, st') ∧ e ≠ .normal ∧ (e = .exit 2 ∧ st'.τ 3 = .w (.ptr bq 0) ∧ st'.H bq = aBox a ∧ bq < st'.g ∧ st'.τ 5 = iV (a0 + elsUses a l : Nat) ∧ st'.τ 10 = u10 ∧ st'.τ 11 = u11 ∧ st'.τ 12 = u12) := by
  rw [F113_L0, execC_loop]
  refine iter_rule (fun k st => ∃ i, i + k = l.length ∧ st.τ 3 = .w (.ptr bq 0) ∧ st.H bq = aBox a ∧ bq < st.g ∧ st.τ 5 = iV (a0 + elsUses a (l.take i) : Nat) ∧ st.τ 10 = u10 ∧ st.τ 11 = u11 ∧ st.τ 12 = u12 ∧ st.τ 28 = .w (csW l) ∧ st.τ 29 = iV l.length ∧ st.τ 30 = iV i) ?_ n l.length st hn ⟨0, by omega, h3, hB, hgq, by simpa [elsUses] using h5, h10, h11, h12, h28, h29, by simpa using h30⟩
  rintro k ⟨τ, H, g, s⟩ ⟨i, hk, h3, hB, hgq, h5, h10, h11, h12, h28, h29, h30⟩
  simp only at h3 hB hgq h5 h10 h11 h12 h28 h29 h30
  cases k with
  | zero =>
    have : i = l.length := by omega
    subst this
    refine ⟨.exit 2, ?_⟩
    rw [List.take_length] at h5
    simp [-Int.natCast_add, F113_B0, h3, hB, h5, h10, h11, h12, h28, h29, h30]
    try omega
  | succ k =>
    have hlt : i < l.length := by omega
    have hlt' : ((i : Int) < (l.length : Int)) = True := eq_true (by omega)
    have hg := List.getElem?_eq_getElem hlt
    have hmem := List.getElem_mem hlt
    have hw := wrap_succ (i := i) (by omega)
    obtain ⟨fg1, fg2, fg3, fg4, fg5, fg6, fg7, fg8, fg9, fg10, fg11, fg12, fg13, fg14, fg15, fg16, fg17, fg18, fg19, fg20, fg21, fg22, fg23, fg24⟩ := far (show bq < g by omega)
    have w := hc _ hmem
    have hs := elsUses_take (a := a) hg
    have hs2 := elsUses_take_le a l (i + 1)
    obtain ⟨op, as, hx⟩ : ∃ op as, l[i] = ⟨op, as⟩ := ⟨_, _, rfl⟩
    rw [hx] at hg w hs
    have hb := elRows_get hg
    have hadd : IntKind.wrap .i64 ((a0 + elsUses a (l.take i) : Nat) + (El.uses a ⟨op, as⟩ : Int)) = (a0 + elsUses a (l.take (i + 1)) : Nat) := wrap_cast (by omega) (by omega)
    refine ⟨.normal, ?_⟩
    simp [-getElem?_pos, -Int.natCast_add, F113_B0, h3, hB, h5, h10, h11, h12, h28, h29, h30, hlt, hlt', hb, w, hw, hadd, fg1, fg2, fg3, fg4, fg5, fg6, fg7, fg8, fg9, fg10, fg11, fg12, fg13, fg14, fg15, fg16, fg17, fg18, fg19, fg20, fg21, fg22, fg23, fg24]
    exact ⟨k, by omega, i + 1, by omega, by omega, rfl, rfl⟩

theorem loop114_0 {n : Nat} (l : List El) (a : Arg) (a0 : Nat) (bq : Nat) (L : List Arm) (j : Nat) (k0 op0 as0 nk0 ks0 : D) (hj : j < L.length) (hLj : (armRows L)[j]? = some [k0, op0, as0, nk0, .l 0 (elRows l), ks0]) (hc : ∀ x ∈ l, ∀ s, go n 133 [elX x, argX a] [] s = some ⟨iV (x.uses a), [], []⟩) (hsz : a0 + elsUses a l < 2 ^ 41) (hn : l.length < n) (hl : l.length < 2 ^ 40) (st : St) (h3 : st.τ 3 = .w (.ptr bq 0)) (hB : st.H bq = aBox a) (hgq : bq < st.g) (h5 : st.τ 5 = iV a0) (h0 : st.τ 0 = .w (ksW L)) (h6 : st.τ 6 = iV j) (h7 : st.τ 7 = iV 0) :
    ∃ e st', execC (go n) mode GT false 55 n F114_L0 st = some (e, st') ∧ e ≠ .normal ∧ (e = .exit 2 ∧ st'.τ 3 = .w (.ptr bq 0) ∧ st'.H bq = aBox a ∧ bq < st'.g ∧ st'.τ 5 = iV (a0 + elsUses a l : Nat) ∧ st'.τ 0 = .w (ksW L) ∧ st'.τ 6 = iV j) := by
  rw [F114_L0, execC_loop]
  refine iter_rule (fun k st => ∃ i, i + k = l.length ∧ st.τ 3 = .w (.ptr bq 0) ∧ st.H bq = aBox a ∧ bq < st.g ∧ st.τ 5 = iV (a0 + elsUses a (l.take i) : Nat) ∧ st.τ 0 = .w (ksW L) ∧ st.τ 6 = iV j ∧ st.τ 7 = iV i) ?_ n l.length st hn ⟨0, by omega, h3, hB, hgq, by simpa [elsUses] using h5, h0, h6, by simpa using h7⟩
  rintro k ⟨τ, H, g, s⟩ ⟨i, hk, h3, hB, hgq, h5, h0, h6, h7⟩
  simp only at h3 hB hgq h5 h0 h6 h7
  cases k with
  | zero =>
    have : i = l.length := by omega
    subst this
    refine ⟨.exit 2, ?_⟩
    rw [List.take_length] at h5
    have hj' : ((j : Int) < (L.length : Int)) = True := eq_true (by omega)
    simp [-getElem?_pos, -Int.natCast_add, F114_B0, h3, hB, h5, h0, h6, h7, hj, hj', hLj]
    try omega
  | succ k =>
    have hlt : i < l.length := by omega
    have hlt' : ((i : Int) < (l.length : Int)) = True := eq_true (by omega)
    have hg := List.getElem?_eq_getElem hlt
    have hmem := List.getElem_mem hlt
    have hw := wrap_succ (i := i) (by omega)
    have lq1 : ∀ x : Nat, (bq < g + x) = True := fun x => eq_true (by omega)
    have lq2 : ∀ x y : Nat, (bq < g + x + y) = True := fun x y => eq_true (by omega)
    have hj' : ((j : Int) < (L.length : Int)) = True := eq_true (by omega)
    have w := hc _ hmem
    have hs := elsUses_take (a := a) hg
    have hs2 := elsUses_take_le a l (i + 1)
    obtain ⟨op, as, hx⟩ : ∃ op as, l[i] = ⟨op, as⟩ := ⟨_, _, rfl⟩
    rw [hx] at hg w hs
    have hb := elRows_get hg
    have hadd : IntKind.wrap .i64 ((a0 + elsUses a (l.take i) : Nat) + (El.uses a ⟨op, as⟩ : Int)) = (a0 + elsUses a (l.take (i + 1)) : Nat) := wrap_cast (by omega) (by omega)
    refine ⟨.normal, ?_⟩
    simp [-getElem?_pos, -Int.natCast_add, F114_B0, h3, hB, h5, h0, h6, h7, hj, hj', hLj, hlt, hlt', hb, w, hw, hadd, lq1, lq2]
    exact ⟨k, by omega, i + 1, by omega, by omega, rfl, rfl⟩

theorem loop113_1 {n : Nat} (l : List Arm) (a : Arg) (bq : Nat) (hc : ∀ x ∈ l, ∀ s, go n 113 [.w (ksW x.kids), argX a] [] s = some ⟨iV (armsUses a x.kids), [], []⟩) (hc2 : ∀ x ∈ l, ∀ s, go n 130 [netX x.net, argX a] [] s = some ⟨iV (x.net.uses a), [], []⟩) (hcE : ∀ e : El, e.as.length ≤ armsWt l → ∀ s, go n 131 [elX e, argX a] [] s = some ⟨iV (e.uses a), [], []⟩) (hsz : armsWt l < 2 ^ 40) (hnw : armsWt l < n) (hn : l.length < n) (hl : l.length < 2 ^ 40) (st : St) (h3 : st.τ 3 = .w (.ptr bq 0)) (hB : st.H bq = aBox a) (hgq : bq < st.g) (h5 : st.τ 5 = iV 0) (h10 : st.τ 10 = .w (ksW l)) (h11 : st.τ 11 = iV l.length) (h12 : st.τ 12 = iV 0) :
    ∃ e st', execC (go n) mode GT false 42 n F113_L1 st = some (e, st') ∧ e ≠ .normal ∧ (e = .exit 0 ∧ st'.τ 5 = iV (armsUses a l : Nat)) := by
  rw [F113_L1, execC_loop]
  refine iter_rule (fun k st => ∃ i, i + k = l.length ∧ st.τ 3 = .w (.ptr bq 0) ∧ st.H bq = aBox a ∧ bq < st.g ∧ st.τ 5 = iV (armsUses a (l.take i) : Nat) ∧ st.τ 10 = .w (ksW l) ∧ st.τ 11 = iV l.length ∧ st.τ 12 = iV i) ?_ n l.length st hn ⟨0, by omega, h3, hB, hgq, by simpa [armsUses] using h5, h10, h11, by simpa using h12⟩
  rintro k ⟨τ, H, g, s⟩ ⟨i, hk, h3, hB, hgq, h5, h10, h11, h12⟩
  simp only at h3 hB hgq h5 h10 h11 h12
  cases k with
  | zero =>
    have : i = l.length := by omega
    subst this
    refine ⟨.exit 0, ?_⟩
    rw [List.take_length] at h5
    simp [-Int.natCast_add, F113_B1, h3, h5, h10, h11, h12]
  | succ k =>
    have hlt : i < l.length := by omega
    have hlt' : ((i : Int) < (l.length : Int)) = True := eq_true (by omega)
    have hg := List.getElem?_eq_getElem hlt
    have hmem := List.getElem_mem hlt
    have hw := wrap_succ (i := i) (by omega)
    obtain ⟨fg1, fg2, fg3, fg4, fg5, fg6, fg7, fg8, fg9, fg10, fg11, fg12, fg13, fg14, fg15, fg16, fg17, fg18, fg19, fg20, fg21, fg22, fg23, fg24⟩ := far (show bq < g by omega)
    have w := hc _ hmem
    have w2 := hc2 _ hmem
    have hwt := armsWt_mem hmem
    have hs := armsUses_take (a := a) hg
    have hs2 := armsUses_take_le a l (i + 1)
    have hlu := armsUses_le a l
    obtain ⟨k', op, as, nks, cs, ks, hx⟩ : ∃ k' op as nks cs ks, l[i] = .mk (.mk k' op as nks) cs ks := by
      cases hq : l[i] with | mk nn cs ks => cases nn; exact ⟨_, _, _, _, _, _, rfl⟩
    rw [hx] at hg w w2 hs hwt
    have hb := armRows_get hg
    simp only [Arm.kids] at w
    simp only [Arm.net] at w2
    simp only [Arm.uses] at hs
    simp only [Arm.wt] at hwt
    have hce := fun x (hx : x ∈ cs) s => hcE x (by have := elsWt_mem hx; simp [El.wt] at this; omega) s
    have hel := elsUses_le a cs
    have hle := elsWt_len cs
    
    have q1 : IntKind.wrap .i64 ((Net.uses a (.mk k' op as nks) : Int) + (armsUses a ks : Int)) = (Net.uses a (.mk k' op as nks) + armsUses a ks : Nat) := wrap_cast (by omega) (by omega)
    have q2 : IntKind.wrap .i64 ((armsUses a (l.take i) : Int) + (Net.uses a (.mk k' op as nks) + armsUses a ks : Nat)) = (armsUses a (l.take i) + (Net.uses a (.mk k' op as nks) + armsUses a ks) : Nat) := wrap_cast (by omega) (by omega)
    have hcm : (g < g + 64 + 256) = True := eq_true (by omega)
    have q3 : armsUses a (l.take i) + (Net.uses a (.mk k' op as nks) + armsUses a ks) + elsUses a cs = armsUses a (l.take (i + 1)) := by omega
    refine ⟨.normal, ?_⟩
    simp [-getElem?_pos, -Int.natCast_add, F113_B1, h3, hB, h5, h10, h11, h12, hlt, hlt', hb, w, w2, hw, q1, q2, hcm, fg1, fg2, fg3, fg4, fg5, fg6, fg7, fg8, fg9, fg10, fg11, fg12, fg13, fg14, fg15, fg16, fg17, fg18, fg19, fg20, fg21, fg22, fg23, fg24]
    generalize hst : St.mk _ _ _ _ = st2
    obtain ⟨e2, ⟨τ2, H2, g2, s2⟩, hx2, -, rfl, e3, eB, eg, e5, e10, e11, e12⟩ := loop113_0 (n := n) cs a (armsUses a (l.take i) + (Net.uses a (.mk k' op as nks) + armsUses a ks)) bq (.w (ksW l)) (iV l.length) (iV i) hce (by omega) (by omega) (by omega) st2 (by simp [← hst]; try assumption) (by simp [← hst, hB, fg1, fg2, fg3, fg4, fg5, fg6, fg7, fg8, fg9, fg10, fg11, fg12, fg13, fg14, fg15, fg16, fg17, fg18, fg19, fg20, fg21, fg22, fg23, fg24]; try assumption) (by simp [← hst]; try omega) (by simp [-Int.natCast_add, ← hst]) (by simp [← hst]; try assumption) (by simp [← hst]; try assumption) (by simp [← hst]; try assumption) (by simp [← hst]) (by simp [← hst]) (by simp [← hst])
    simp only at e3 eB eg e5 e10 e11 e12
    rw [q3] at e5
    simp [-getElem?_pos, -Int.natCast_add, hx2, e3, eB, eg, e5, e10, e11, e12, hw]
    exact ⟨k, by omega, i + 1, by omega, by omega, rfl, rfl⟩

theorem loop114_1 {n : Nat} (l : List Arm) (a : Arg) (bq : Nat) (hc : ∀ x ∈ l, ∀ s, go n 114 [.w (ksW x.kids), argX a] [] s = some ⟨iV (armsUses a x.kids), [], []⟩) (hc2 : ∀ x ∈ l, ∀ s, go n 132 [netX x.net, argX a] [] s = some ⟨iV (x.net.uses a), [], []⟩) (hcE : ∀ e : El, e.as.length ≤ armsWt l → ∀ s, go n 133 [elX e, argX a] [] s = some ⟨iV (e.uses a), [], []⟩) (hsz : armsWt l < 2 ^ 40) (hnw : armsWt l < n) (hn : l.length < n) (hl : l.length < 2 ^ 40) (st : St) (h3 : st.τ 3 = .w (.ptr bq 0)) (hB : st.H bq = aBox a) (hgq : bq < st.g) (h5 : st.τ 5 = iV 0) (h0 : st.τ 0 = .w (ksW l)) (h6 : st.τ 6 = iV 0) :
    ∃ e st', execC (go n) mode GT false 55 n F114_L1 st = some (e, st') ∧ e ≠ .normal ∧ (e = .exit 0 ∧ st'.τ 5 = iV (armsUses a l : Nat)) := by
  rw [F114_L1, execC_loop]
  refine iter_rule (fun k st => ∃ i, i + k = l.length ∧ st.τ 3 = .w (.ptr bq 0) ∧ st.H bq = aBox a ∧ bq < st.g ∧ st.τ 5 = iV (armsUses a (l.take i) : Nat) ∧ st.τ 0 = .w (ksW l) ∧ st.τ 6 = iV i) ?_ n l.length st hn ⟨0, by omega, h3, hB, hgq, by simpa [armsUses] using h5, h0, by simpa using h6⟩
  rintro k ⟨τ, H, g, s⟩ ⟨i, hk, h3, hB, hgq, h5, h0, h6⟩
  simp only at h3 hB hgq h5 h0 h6
  cases k with
  | zero =>
    have : i = l.length := by omega
    subst this
    refine ⟨.exit 0, ?_⟩
    rw [List.take_length] at h5
    simp [-Int.natCast_add, F114_B1, h3, h5, h0, h6]
  | succ k =>
    have hlt : i < l.length := by omega
    have hlt' : ((i : Int) < (l.length : Int)) = True := eq_true (by omega)
    have hg := List.getElem?_eq_getElem hlt
    have hmem := List.getElem_mem hlt
    have hw := wrap_succ (i := i) (by omega)
    have lq1 : ∀ x : Nat, (bq < g + x) = True := fun x => eq_true (by omega)
    have lq2 : ∀ x y : Nat, (bq < g + x + y) = True := fun x y => eq_true (by omega)
    
    have w := hc _ hmem
    have w2 := hc2 _ hmem
    have hwt := armsWt_mem hmem
    have hs := armsUses_take (a := a) hg
    have hs2 := armsUses_take_le a l (i + 1)
    have hlu := armsUses_le a l
    obtain ⟨k', op, as, nks, cs, ks, hx⟩ : ∃ k' op as nks cs ks, l[i] = .mk (.mk k' op as nks) cs ks := by
      cases hq : l[i] with | mk nn cs ks => cases nn; exact ⟨_, _, _, _, _, _, rfl⟩
    rw [hx] at hg w w2 hs hwt
    have hb := armRows_get hg
    simp only [Arm.kids] at w
    simp only [Arm.net] at w2
    simp only [Arm.uses] at hs
    simp only [Arm.wt] at hwt
    have hce := fun x (hx : x ∈ cs) s => hcE x (by have := elsWt_mem hx; simp [El.wt] at this; omega) s
    have hel := elsUses_le a cs
    have hle := elsWt_len cs
    
    have q2 : IntKind.wrap .i64 ((armsUses a (l.take i) : Int) + (Net.uses a (.mk k' op as nks) : Int)) = (armsUses a (l.take i) + Net.uses a (.mk k' op as nks) : Nat) := wrap_cast (by omega) (by omega)
    have q3 : IntKind.wrap .i64 ((armsUses a (l.take i) + Net.uses a (.mk k' op as nks) + elsUses a cs : Nat) + (armsUses a ks : Int)) = (armsUses a (l.take (i + 1)) : Nat) := wrap_cast (by omega) (by omega)
    refine ⟨.normal, ?_⟩
    simp [-getElem?_pos, -Int.natCast_add, F114_B1, h3, hB, h5, h0, h6, hlt, hlt', hb, w, w2, hw, q2, lq1, lq2]
    generalize hst : St.mk _ _ _ _ = st2
    obtain ⟨e2, ⟨τ2, H2, g2, s2⟩, hx2, -, rfl, e3, eB, eg, e5, e0, e6⟩ := loop114_0 (n := n) cs a (armsUses a (l.take i) + Net.uses a (.mk k' op as nks)) bq l i _ _ _ _ _ hlt hb hce (by omega) (by omega) (by omega) st2 (by simp [← hst]; try assumption) (by simp [← hst, hB]; try assumption) (by simp [← hst]; try omega) (by simp [-Int.natCast_add, ← hst]) (by simp [← hst]; try assumption) (by simp [← hst]; try assumption) (by simp [← hst])
    simp only at e3 eB eg e5 e0 e6
    have lr1 : ∀ x : Nat, (bq < g2 + x) = True := fun x => eq_true (by omega)
    have lr2 : ∀ x y : Nat, (bq < g2 + x + y) = True := fun x y => eq_true (by omega)
    simp [-getElem?_pos, -Int.natCast_add, hx2, e3, eB, eg, e5, e0, e6, hlt, hlt', hb, w, hw, q3, lr1, lr2]
    exact ⟨k, by omega, i + 1, by omega, rfl, rfl⟩


theorem run_TreeUses113 : ∀ (m : Nat) (l : List Arm) (a : Arg), armsWt l ≤ m → m < 2 ^ 40 → ∀ (n : Nat), 2 * m + 12 ≤ n → ∀ s, go n 113 [.w (ksW l), argX a] [] s = some ⟨iV (armsUses a l), [], []⟩ := by
  intro m
  induction m with
  | zero =>
    intro l a h hm n hn s
    obtain ⟨n, rfl⟩ : ∃ k, n = k + 1 := ⟨n - 1, by omega⟩
    have e : l = [] := by
      cases l with
      | nil => rfl
      | cons a r => have := a.wt_pos; simp [armsWt] at h; omega
    subst e
    obtain ⟨n, rfl⟩ : ∃ k, n = k + 1 := ⟨n - 1, by omega⟩
    simp [go_of FT_113 rfl, F113, F113_L1, execC_loop, iter, F113_B1, armRows, armsUses]
  | succ m ih =>
    intro l a h hm n hn s
    obtain ⟨n, rfl⟩ : ∃ k, n = k + 1 := ⟨n - 1, by omega⟩
    have hlen := armsWt_len l
    have hc : ∀ x ∈ l, ∀ s, go n 113 [.w (ksW x.kids), argX a] [] s = some ⟨iV (armsUses a x.kids), [], []⟩ := fun x hx s => ih x.kids a (by have := armsWt_mem hx; cases x; simp [Arm.wt] at this; simp [Arm.kids]; omega) (by omega) n (by omega) s
    have hc2 : ∀ x ∈ l, ∀ s, go n 130 [netX x.net, argX a] [] s = some ⟨iV (x.net.uses a), [], []⟩ := fun x hx s => run_netUses130 (m + 1) x.net a (by have := armsWt_mem hx; cases x; simp [Arm.wt] at this; simp [Arm.net]; omega) (by omega) n (by omega) s
    have hcE : ∀ e : El, e.as.length ≤ armsWt l → ∀ s, go n 131 [elX e, argX a] [] s = some ⟨iV (e.uses a), [], []⟩ := fun e he s => run_elUses131 e a (by omega) (by omega) s
    simp [go_of FT_113 rfl, F113]
    generalize hst : St.mk _ _ _ _ = st
    obtain ⟨e', ⟨τ', H', g', s'⟩, hx, -, rfl, h5⟩ := loop113_1 (n := n) l a _ hc hc2 hcE (by omega) (by omega) (by omega) (by omega) st (by simp [← hst]; try rfl) (by simp [← hst]; try rfl) (by simp [← hst]; try rfl) (by simp [← hst]; try rfl) (by simp [← hst]; try rfl) (by simp [← hst]; try rfl) (by simp [← hst]; try rfl)
    simp only at h5
    simp [-Int.natCast_add, hx, h5]


theorem run_TreeUses114 : ∀ (m : Nat) (l : List Arm) (a : Arg), armsWt l ≤ m → m < 2 ^ 40 → ∀ (n : Nat), 2 * m + 12 ≤ n → ∀ s, go n 114 [.w (ksW l), argX a] [] s = some ⟨iV (armsUses a l), [], []⟩ := by
  intro m
  induction m with
  | zero =>
    intro l a h hm n hn s
    obtain ⟨n, rfl⟩ : ∃ k, n = k + 1 := ⟨n - 1, by omega⟩
    have e : l = [] := by
      cases l with
      | nil => rfl
      | cons a r => have := a.wt_pos; simp [armsWt] at h; omega
    subst e
    obtain ⟨n, rfl⟩ : ∃ k, n = k + 1 := ⟨n - 1, by omega⟩
    simp [go_of FT_114 rfl, F114, F114_L1, execC_loop, iter, F114_B1, armRows, armsUses]
  | succ m ih =>
    intro l a h hm n hn s
    obtain ⟨n, rfl⟩ : ∃ k, n = k + 1 := ⟨n - 1, by omega⟩
    have hlen := armsWt_len l
    have hc : ∀ x ∈ l, ∀ s, go n 114 [.w (ksW x.kids), argX a] [] s = some ⟨iV (armsUses a x.kids), [], []⟩ := fun x hx s => ih x.kids a (by have := armsWt_mem hx; cases x; simp [Arm.wt] at this; simp [Arm.kids]; omega) (by omega) n (by omega) s
    have hc2 : ∀ x ∈ l, ∀ s, go n 132 [netX x.net, argX a] [] s = some ⟨iV (x.net.uses a), [], []⟩ := fun x hx s => run_netUses132 (m + 1) x.net a (by have := armsWt_mem hx; cases x; simp [Arm.wt] at this; simp [Arm.net]; omega) (by omega) n (by omega) s
    have hcE : ∀ e : El, e.as.length ≤ armsWt l → ∀ s, go n 133 [elX e, argX a] [] s = some ⟨iV (e.uses a), [], []⟩ := fun e he s => run_elUses133 e a (by omega) (by omega) s
    simp [go_of FT_114 rfl, F114]
    generalize hst : St.mk _ _ _ _ = st
    obtain ⟨e', ⟨τ', H', g', s'⟩, hx, -, rfl, h5⟩ := loop114_1 (n := n) l a _ hc hc2 hcE (by omega) (by omega) (by omega) (by omega) st (by simp [← hst]; try rfl) (by simp [← hst]; try rfl) (by simp [← hst]; try rfl) (by simp [← hst]; try rfl) (by simp [← hst]; try rfl) (by simp [← hst]; try rfl)
    simp only at h5
    simp [-Int.natCast_add, hx, h5]

end Go.VM
