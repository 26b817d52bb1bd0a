/- Nets, reckoned: how large, whether right; what the program and what the document says. Conditions: none. -/
import Derived.Test.YtacfoamnbdlmpaaGreatDoorVQ3
import Derived.Test.YtacfoamnbdlmpaaGreatDoorVQ4
import Derived.Test.YtacfoamnbdlmpaaGreatDoorVNA

namespace Go.VM
set_option linter.unusedSimpArgs false
set_option linter.unusedVariables false
set_option maxHeartbeats 8000000

abbrev nsW (l : List Net) : W := .d (.l 0 (netRows l))
abbrev asW (l : List Arg) : W := .d (.l 0 (argRows l))
abbrev netX : Net → V | .mk k op as ks => .agg [iW k, iW op, asW as, nsW ks]
theorem netsSize_take {l : List Net} {i : Nat} {x : Net} (h : l[i]? = some x) : netsSize (l.take (i + 1)) = netsSize (l.take i) + x.size := by
  rw [List.take_add_one, h]; simp [netsSize_append, netsSize]
theorem netsWt_take {l : List Net} {i : Nat} {x : Net} (h : l[i]? = some x) : netsWt (l.take (i + 1)) = netsWt (l.take i) + x.wt := by
  rw [List.take_add_one, h]; simp [netsWt_append, netsWt]
mutual
theorem size_le : ∀ n : Net, n.size ≤ n.wt
  | .mk k op as ks => by have := netsSize_le ks; simp [Net.size, Net.wt]; omega
theorem netsSize_le : ∀ l : List Net, netsSize l ≤ netsWt l
  | [] => by simp [netsSize]
  | n :: r => by have := size_le n; have := netsSize_le r; simp [netsSize, netsWt]; omega
end
theorem netsSize_take_le (l : List Net) (i : Nat) : netsSize (l.take i) ≤ netsSize l := by
  have := netsSize_append (l.take i) (l.drop i)
  rw [List.take_append_drop] at this; omega
theorem wrap_cast {a : Int} {m : Nat} (h : a = m) (hm : m < 2 ^ 62) : IntKind.wrap .i64 a = m := by rw [h]; exact wrap_id (by omega) (by omega)

theorem loop118_0 {n : Nat} (l : List Net) (hc : ∀ x ∈ l, ∀ s, go n 118 [netX x] [] s = some ⟨iV x.size, [], []⟩) (hsz : netsSize l < 2 ^ 40) (hn : l.length < n) (hl : l.length < 2 ^ 40) (st : St) (h3 : st.τ 3 = iV 1) (h7 : st.τ 7 = .w (nsW l)) (h8 : st.τ 8 = iV l.length) (h9 : st.τ 9 = iV 0) :
    ∃ e st', execC (go n) mode GT false 19 n F118_L0 st = some (e, st') ∧ e ≠ .normal ∧ (e = .exit 0 ∧ st'.τ 3 = iV (1 + netsSize l : Nat)) := by
  rw [F118_L0, execC_loop]
  refine iter_rule (fun k st => ∃ i, i + k = l.length ∧ st.τ 3 = iV (1 + netsSize (l.take i) : Nat) ∧ st.τ 7 = .w (nsW l) ∧ st.τ 8 = iV l.length ∧ st.τ 9 = iV i) ?_ n l.length st hn ⟨0, by omega, by simpa [netsSize] using h3, h7, h8, by simpa using h9⟩
  rintro k ⟨τ, H, g, s⟩ ⟨i, hk, h3, h7, h8, h9⟩
  simp only at h3 h7 h8 h9
  cases k with
  | zero =>
    have : i = l.length := by omega
    subst this
    refine ⟨.exit 0, ?_⟩
    rw [List.take_length] at h3
    simp [F118_B0, h3, h7, h8, h9]
  | succ k =>
    have hlt : i < l.length := by omega
    have hlt' : ((i : Int) < (l.length : Int)) = True := eq_true (by omega)
    have hg := List.getElem?_eq_getElem hlt
    have hmem := List.getElem_mem hlt
    have hw := wrap_succ (i := i) (by omega)
    have w := hc _ hmem
    have hs := netsSize_take hg
    have hs2 := netsSize_take_le l (i + 1)
    obtain ⟨k', op, as, ks, hx⟩ : ∃ k' op as ks, l[i] = .mk k' op as ks := by cases l[i]; exact ⟨_, _, _, _, rfl⟩
    rw [hx] at hg w hs
    have hb := netRows_get hg
    have hadd : IntKind.wrap .i64 ((1 + netsSize (l.take i) : Nat) + (Net.size (.mk k' op as ks) : Int)) = (1 + netsSize (l.take (i + 1)) : Nat) := wrap_cast (by omega) (by omega)
    refine ⟨.normal, ?_⟩
    simp [-getElem?_pos, -Int.natCast_add, F118_B0, h3, h7, h8, h9, hlt, hlt', hb, w, hw, hadd]
    exact ⟨k, by omega, i + 1, by omega, rfl, rfl⟩

theorem loop144_0 {n : Nat} (l : List Net) (hc : ∀ x ∈ l, ∀ s, go n 144 [netX x] [] s = some ⟨iV x.size, [], []⟩) (hsz : netsSize l < 2 ^ 40) (k0 op0 : W) (as0 : W) (hn : l.length < n) (hl : l.length < 2 ^ 40) (st : St) (h1 : st.τ 1 = .w (.ptr 0 0)) (hH : st.H 0 = .cells [k0, op0, as0, nsW l]) (h3 : st.τ 3 = iV 1) (h4 : st.τ 4 = iV 0) :
    ∃ e st', execC (go n) mode GT false 21 n F144_L0 st = some (e, st') ∧ e ≠ .normal ∧ (e = .exit 0 ∧ st'.τ 3 = iV (1 + netsSize l : Nat)) := by
  rw [F144_L0, execC_loop]
  refine iter_rule (fun k st => ∃ i, i + k = l.length ∧ st.τ 1 = .w (.ptr 0 0) ∧ st.H 0 = .cells [k0, op0, as0, nsW l] ∧ st.τ 3 = iV (1 + netsSize (l.take i) : Nat) ∧ st.τ 4 = iV i) ?_ n l.length st hn ⟨0, by omega, h1, hH, by simpa [netsSize] using h3, by simpa using h4⟩
  rintro k ⟨τ, H, g, s⟩ ⟨i, hk, h1, hH, h3, h4⟩
  simp only at h1 hH h3 h4
  cases k with
  | zero =>
    have : i = l.length := by omega
    subst this
    refine ⟨.exit 0, ?_⟩
    rw [List.take_length] at h3
    simp [F144_B0, h1, hH, h3, h4]
  | succ k =>
    have hlt : i < l.length := by omega
    have hlt' : ((i : Int) < (l.length : Int)) = True := eq_true (by omega)
    have hg := List.getElem?_eq_getElem hlt
    have hmem := List.getElem_mem hlt
    have hw := wrap_succ (i := i) (by omega)
    have w := hc _ hmem
    have hs := netsSize_take hg
    have hs2 := netsSize_take_le l (i + 1)
    obtain ⟨k', op, as, ks, hx⟩ : ∃ k' op as ks, l[i] = .mk k' op as ks := by cases l[i]; exact ⟨_, _, _, _, rfl⟩
    rw [hx] at hg w hs
    have hb := netRows_get hg
    have hadd : IntKind.wrap .i64 ((1 + netsSize (l.take i) : Nat) + (Net.size (.mk k' op as ks) : Int)) = (1 + netsSize (l.take (i + 1)) : Nat) := wrap_cast (by omega) (by omega)
    refine ⟨.normal, ?_⟩
    simp [-getElem?_pos, -Int.natCast_add, F144_B0, h1, hH, h3, h4, hlt, hlt', hb, w, hw, hadd]
    exact ⟨k, by omega, i + 1, by omega, rfl, rfl⟩


theorem run_size : ∀ (m : Nat) (t : Net), t.wt ≤ m → m < 2 ^ 40 → ∀ (n : Nat), m + 4 ≤ n → ∀ s, go n 118 [netX t] [] s = some ⟨iV t.size, [], []⟩
  | 0, t, h, hm, n, hn, s => by have := t.wt_pos; omega
  | m + 1, .mk k op as ks, h, hm, n, hn, s => by
    obtain ⟨n, rfl⟩ : ∃ k, n = k + 1 := ⟨n - 1, by omega⟩
    have hlen := netsWt_len ks
    have hsl := netsSize_le ks
    simp only [Net.wt] at h
    have hc : ∀ x ∈ ks, ∀ s, go n 118 [netX x] [] s = some ⟨iV x.size, [], []⟩ := fun x hx s => run_size m x (by have := netsWt_mem hx; omega) (by omega) n (by omega) s
    simp [go_of FT_118 rfl, F118]
    generalize hst : St.mk _ _ _ _ = st
    obtain ⟨e, ⟨τ', H', g', s'⟩, hx, -, rfl, h3⟩ := loop118_0 (n := n) ks hc (by omega) (by omega) (by omega) st (by simp [← hst]) (by simp [← hst]) (by simp [← hst]) (by simp [← hst])
    simp only at h3
    simp [-Int.natCast_add, hx, h3, Net.size]
theorem run_sizeS : ∀ (m : Nat) (t : Net), t.wt ≤ m → m < 2 ^ 40 → ∀ (n : Nat), m + 4 ≤ n → ∀ s, go n 144 [netX t] [] s = some ⟨iV t.size, [], []⟩
  | 0, t, h, hm, n, hn, s => by have := t.wt_pos; omega
  | m + 1, .mk k op as ks, h, hm, n, hn, s => by
    obtain ⟨n, rfl⟩ : ∃ k, n = k + 1 := ⟨n - 1, by omega⟩
    have hlen := netsWt_len ks
    have hsl := netsSize_le ks
    simp only [Net.wt] at h
    have hc : ∀ x ∈ ks, ∀ s, go n 144 [netX x] [] s = some ⟨iV x.size, [], []⟩ := fun x hx s => run_sizeS m x (by have := netsWt_mem hx; omega) (by omega) n (by omega) s
    simp [go_of FT_144 rfl, F144]
    generalize hst : St.mk _ _ _ _ = st
    obtain ⟨e, ⟨τ', H', g', s'⟩, hx, -, rfl, h3⟩ := loop144_0 (n := n) ks hc (by omega) (iW k) (iW op) (asW as) (by omega) (by omega) st (by simp [← hst]) (by simp [← hst]) (by simp [← hst]) (by simp [← hst])
    simp only at h3
    simp [-Int.natCast_add, hx, h3, Net.size]

theorem len_beq {α : Type} (l : List α) : ((l.length : Int) == 0) = decide (l = []) := by
  cases l with
  | nil => rfl
  | cons a r => simp; omega
theorem nil_iff_len {α : Type} (l : List α) : ((l.length : Int) = 0) ↔ l = [] := by rw [← List.length_eq_zero_iff]; omega
theorem run_bare {n : Nat} (hn : 1 ≤ n) (op : Int) (as : List Arg) (s : Sup) : go n 138 [elX ⟨op, as⟩] [] s = some ⟨sV (.bool (decide (op = 0 ∧ as = []))), [], []⟩ := by
  obtain ⟨n, rfl⟩ : ∃ k, n = k + 1 := ⟨n - 1, by omega⟩
  by_cases h : op = 0
  · simp [go_of FT_138 rfl, F138, h, len_beq]
  · simp [go_of FT_138 rfl, F138, h, len_beq]
theorem run_none {n : Nat} (hn : 2 ≤ n) (t : Net) (s : Sup) : go n 173 [netX t] [] s = some ⟨sV (.bool t.none), [], []⟩ := by
  obtain ⟨n, rfl⟩ : ∃ k, n = k + 1 := ⟨n - 1, by omega⟩
  obtain ⟨k, op, as, ks⟩ := t
  have w := run_bare (n := n) (by omega) op as
  unfold Net.none Net.kind Net.op Net.as Net.kids
  by_cases h : k = 0
  · by_cases h2 : op = 0 ∧ as = []
    · have h2' := eq_true h2
      simp only [h2, and_self, decide_true] at w
      simp [go_of FT_173 rfl, F173, h, w, h2, len_beq]
    · have e : decide (op = 0 ∧ as = []) = false := by simp [h2]
      rw [e] at w
      have e2 : ∀ q : Prop, (op = 0 ∧ as = [] ∧ q) = False := fun q => eq_false fun ⟨a, b, _⟩ => h2 ⟨a, b⟩
      simp [go_of FT_173 rfl, F173, h, w, e2]
  · simp [go_of FT_173 rfl, F173, h]
theorem run_noneS {n : Nat} (hn : 1 ≤ n) (t : Net) (s : Sup) : go n 141 [netX t] [] s = some ⟨sV (.bool t.none), [], []⟩ := by
  obtain ⟨n, rfl⟩ : ∃ k, n = k + 1 := ⟨n - 1, by omega⟩
  obtain ⟨k, op, as, ks⟩ := t
  unfold Net.none Net.kind Net.op Net.as Net.kids
  by_cases h : k = 0
  · by_cases h2 : op = 0
    · by_cases h3 : as = []
      · simp [go_of FT_141 rfl, F141, h, h2, h3, len_beq]
      · have h3' : ¬ as.length = 0 := fun e => h3 (List.eq_nil_of_length_eq_zero e)
        have h3i : ¬ ((as.length : Int) = 0) := fun e => h3' (by omega)
        simp [go_of FT_141 rfl, F141, h, h2, h3, h3', h3i]
    · simp [go_of FT_141 rfl, F141, h, h2]
  · simp [go_of FT_141 rfl, F141, h]


theorem netsWrong_append : ∀ l m : List Net, netsWrong (l ++ m) = if netsWrong l ≠ 0 then netsWrong l else netsWrong m
  | [], m => by simp [netsWrong]
  | n :: r, m => by
    simp only [List.cons_append, netsWrong, netsWrong_append r m]
    by_cases h : n.wrong = 0 <;> simp [h]
theorem netsWrong_take {l : List Net} {i : Nat} {x : Net} (h : l[i]? = some x) (h0 : netsWrong (l.take i) = 0) : netsWrong (l.take (i + 1)) = x.wrong := by
  rw [List.take_add_one, h]; simp only [Option.toList_some, netsWrong_append, h0, netsWrong]
  by_cases hx : x.wrong = 0 <;> simp [hx]
theorem netsWrong_hit {l : List Net} {i : Nat} {x : Net} (h0 : netsWrong (l.take i) = 0) (h : l[i]? = some x) (hx : x.wrong ≠ 0) : netsWrong l = x.wrong := by
  have e : l = l.take (i + 1) ++ l.drop (i + 1) := (List.take_append_drop _ _).symm
  rw [e, netsWrong_append, netsWrong_take h h0, if_pos hx]

theorem loop119_0 {n : Nat} (l : List Net) (hc : ∀ x ∈ l, ∀ s, go n 119 [netX x] [] s = some ⟨iV x.wrong, [], []⟩) (hn : l.length < n) (hl : l.length < 2 ^ 40) (st : St) (hx0 : True) (h47 : st.τ 47 = .w (nsW l)) (h48 : st.τ 48 = iV l.length) (h49 : st.τ 49 = iV 0) :
    ∃ e st', execC (go n) mode GT false 59 n F119_L0 st = some (e, st') ∧ e ≠ .normal ∧ ((e = .exit 1 ∧ netsWrong l = 0) ∨ (e = .ret ∧ netsWrong l ≠ 0 ∧ st'.τ 2 = iV (netsWrong l))) := by
  rw [F119_L0, execC_loop]
  refine iter_rule (fun k st => ∃ i, i + k = l.length ∧ netsWrong (l.take i) = 0 ∧ st.τ 47 = .w (nsW l) ∧ st.τ 48 = iV l.length ∧ st.τ 49 = iV i) ?_ n l.length st hn ⟨0, by omega, by simp [netsWrong], h47, h48, by simpa using h49⟩
  rintro k ⟨τ, H, g, s⟩ ⟨i, hk, hx0, h47, h48, h49⟩
  simp only at hx0 h47 h48 h49
  cases k with
  | zero =>
    have : i = l.length := by omega
    subst this
    refine ⟨.exit 1, ?_⟩
    rw [List.take_length] at hx0
    simp [F119_B0, h47, h48, h49, hx0]
  | succ k =>
    have hlt : i < l.length := by omega
    have hlt' : ((i : Int) < (l.length : Int)) = True := eq_true (by omega)
    have hg := List.getElem?_eq_getElem hlt
    have hmem := List.getElem_mem hlt
    have hw := wrap_succ (i := i) (by omega)
    have w := hc _ hmem
    have hor := Net.wrong_or l[i]
    generalize hcode : Net.wrong l[i] = c at w hor
    obtain ⟨k', op, as, ks, hx⟩ : ∃ k' op as ks, l[i] = .mk k' op as ks := by cases l[i]; exact ⟨_, _, _, _, rfl⟩
    rw [hx] at hg w hcode
    have hb := netRows_get hg
    by_cases hz : c = 0
    · refine ⟨.normal, ?_⟩
      subst hz
      simp [-getElem?_pos, F119_B0, h47, h48, h49, hlt, hlt', hb, w, hw]
      exact ⟨k, by omega, i + 1, by omega, by rw [netsWrong_take hg hx0, hcode], rfl⟩
    · refine ⟨.ret, ?_⟩
      have hz' := eq_false hz
      have hpos : 0 < c := by omega
      have hpos' := eq_true hpos
      have hfin := netsWrong_hit hx0 hg (by rw [hcode]; exact hz)
      simp [-getElem?_pos, F119_B0, h47, h48, h49, hlt, hlt', hb, w, hw, hz', hpos']
      exact ⟨by rw [hfin, hcode]; exact hz, by rw [hfin, hcode]⟩

theorem loop142_0 {n : Nat} (l : List Net) (hc : ∀ x ∈ l, ∀ s, go n 142 [netX x] [] s = some ⟨iV x.wrong, [], []⟩) (k0 op0 as0 : W) (hn : l.length < n) (hl : l.length < 2 ^ 40) (st : St) (hx0 : True) (h1 : st.τ 1 = .w (.ptr 0 0)) (hH : st.H 0 = .cells [k0, op0, as0, nsW l]) (h3 : st.τ 3 = iV 0) :
    ∃ e st', execC (go n) mode GT false 70 n F142_L0 st = some (e, st') ∧ e ≠ .normal ∧ ((e = .exit 0 ∧ netsWrong l = 0) ∨ (e = .ret ∧ netsWrong l ≠ 0 ∧ st'.τ 2 = iV (netsWrong l))) := by
  rw [F142_L0, execC_loop]
  refine iter_rule (fun k st => ∃ i, i + k = l.length ∧ netsWrong (l.take i) = 0 ∧ st.τ 1 = .w (.ptr 0 0) ∧ st.H 0 = .cells [k0, op0, as0, nsW l] ∧ st.τ 3 = iV i) ?_ n l.length st hn ⟨0, by omega, by simp [netsWrong], h1, hH, by simpa using h3⟩
  rintro k ⟨τ, H, g, s⟩ ⟨i, hk, hx0, h1, hH, h3⟩
  simp only at hx0 h1 hH h3
  cases k with
  | zero =>
    have : i = l.length := by omega
    subst this
    refine ⟨.exit 0, ?_⟩
    rw [List.take_length] at hx0
    simp [F142_B0, h1, hH, h3, hx0]
  | succ k =>
    have hlt : i < l.length := by omega
    have hlt' : ((i : Int) < (l.length : Int)) = True := eq_true (by omega)
    have hg := List.getElem?_eq_getElem hlt
    have hmem := List.getElem_mem hlt
    have hw := wrap_succ (i := i) (by omega)
    have w := hc _ hmem
    have hor := Net.wrong_or l[i]
    generalize hcode : Net.wrong l[i] = c at w hor
    obtain ⟨k', op, as, ks, hx⟩ : ∃ k' op as ks, l[i] = .mk k' op as ks := by cases l[i]; exact ⟨_, _, _, _, rfl⟩
    rw [hx] at hg w hcode
    have hb := netRows_get hg
    by_cases hz : c = 0
    · refine ⟨.normal, ?_⟩
      subst hz
      simp [-getElem?_pos, F142_B0, h1, hH, h3, hlt, hlt', hb, w, hw]
      exact ⟨k, by omega, i + 1, by omega, by rw [netsWrong_take hg hx0, hcode], rfl⟩
    · refine ⟨.ret, ?_⟩
      have hz' := eq_false hz
      have hpos : 0 < c := by omega
      have hpos' := eq_true hpos
      have hfin := netsWrong_hit hx0 hg (by rw [hcode]; exact hz)
      simp [-getElem?_pos, F142_B0, h1, hH, h3, hlt, hlt', hb, w, hw, hz', hpos']
      exact ⟨by rw [hfin, hcode]; exact hz, by rw [hfin, hcode]⟩


theorem run_wrong : ∀ (m : Nat) (t : Net), t.wt ≤ m → m < 2 ^ 40 → ∀ (n : Nat), m + 45 ≤ n → ∀ s, go n 119 [netX t] [] s = some ⟨iV t.wrong, [], []⟩
  | 0, t, h, hm, n, hn, s => by have := t.wt_pos; omega
  | m + 1, .mk k op as ks, h, hm, n, hn, s => by
    obtain ⟨n, rfl⟩ : ∃ k, n = k + 1 := ⟨n - 1, by omega⟩
    have hlen := netsWt_len ks
    simp only [Net.wt] at h
    have hc : ∀ x ∈ ks, ∀ s, go n 119 [netX x] [] s = some ⟨iV x.wrong, [], []⟩ := fun x hx s => run_wrong m x (by have := netsWt_mem hx; omega) (by omega) n (by omega) s
    have wc := run_ElemIsContact (n := n) (by omega) ⟨op, as⟩ (by simp only; omega)
    unfold Net.wrong
    by_cases hk : k = 1
    · subst hk
      by_cases hl : 0 < ks.length
      · have hl' : ((0 : Int) < (ks.length : Int)) = True := eq_true (by omega)
        simp [go_of FT_119 rfl, F119, hl, hl']
      · have hl' : ((0 : Int) < (ks.length : Int)) = False := eq_false (by omega)
        cases hcn : El.contact ⟨op, as⟩ <;> rw [hcn] at wc <;> simp [go_of FT_119 rfl, F119, hl, hl', wc, hcn]
    · rw [if_neg hk]
      have w1 := run_within (n := n) (by omega)
      have w2 := run_bare (n := n) (by omega) op as
      by_cases c1 : 2 ≤ k ∧ k ≤ 4
      · have e1 : (decide (2 ≤ k) && decide (k ≤ 4)) = true := by simp; omega
        have c1a : 2 ≤ k := c1.1
        have c1b : k ≤ 4 := c1.2
        by_cases c2 : op = 0 ∧ as = []
        · have w2' := w2
          rw [decide_eq_true c2] at w2'
          by_cases c3 : ks.length = 0
          · have c3i : ((ks.length : Int) = 0) = True := eq_true (by omega)
            rw [if_pos (.inr (.inr (.inl c3)))]
            simp [go_of FT_119 rfl, F119, hk, w1, w2', c1a, c1b, c3, c3i]
          · have c3i : ((ks.length : Int) = 0) = False := eq_false (by omega)
            have c3k : ks ≠ [] := fun e => c3 (by rw [e]; rfl)
            by_cases c4 : k = 4 ∧ 1 < ks.length
            · rw [if_pos (.inr (.inr (.inr c4)))]
              have c4i : ((1 : Int) < (ks.length : Int)) = True := eq_true (by omega)
              simp [go_of FT_119 rfl, F119, hk, w1, w2', c1a, c1b, c3, c3i, c3k, c4.1, c4.2, c4i]
            · rw [if_neg (by simp only [not_or, Decidable.not_not]; exact ⟨c1, c2, c3, c4⟩)]
              have c4' : (if k = 4 then ((1 : Int) < (ks.length : Int)) else False) = False := by
                by_cases h4 : k = 4
                · rw [if_pos h4]; exact eq_false fun h => c4 ⟨h4, by omega⟩
                · rw [if_neg h4]
              have fin : ∀ (st : St), st.τ 47 = .w (nsW ks) → st.τ 48 = iV ks.length → st.τ 49 = iV 0 → _ := fun st a b c => loop119_0 (n := n) ks hc (by omega) (by omega) st trivial a b c
              by_cases h4 : k = 4
              · have h4l : ¬ (1 < ks.length) := fun h => c4 ⟨h4, h⟩
                have h4i : ((1 : Int) < (ks.length : Int)) = False := eq_false (by omega)
                subst h4
                simp [go_of FT_119 rfl, F119, w1, w2', c3, c3i, c3k, h4l, h4i]
                generalize hst : St.mk _ _ _ _ = st
                obtain ⟨e, ⟨τ', H', g', s'⟩, hx, -, ⟨rfl, h0⟩ | ⟨rfl, h0, h2⟩⟩ := fin st (by simp [← hst]) (by simp [← hst]) (by simp [← hst])
                · simp [hx, h0]
                · simp only at h2
                  simp [hx, h2]
              · simp [go_of FT_119 rfl, F119, hk, w1, w2', c1a, c1b, c3, c3i, c3k, h4]
                generalize hst : St.mk _ _ _ _ = st
                obtain ⟨e, ⟨τ', H', g', s'⟩, hx, -, ⟨rfl, h0⟩ | ⟨rfl, h0, h2⟩⟩ := fin st (by simp [← hst]) (by simp [← hst]) (by simp [← hst])
                · simp [hx, h0]
                · simp only at h2
                  simp [hx, h2]
        · have w2' := w2
          rw [decide_eq_false c2] at w2'
          rw [if_pos (.inr (.inl c2))]
          simp [go_of FT_119 rfl, F119, hk, w1, w2', c1a, c1b]
      · have e1 : (decide (2 ≤ k) && decide (k ≤ 4)) = false := by simp; omega
        rw [if_pos (.inl c1)]
        simp [go_of FT_119 rfl, F119, hk, w1, e1]


theorem run_wrongS : ∀ (m : Nat) (t : Net), t.wt ≤ m → m < 2 ^ 40 → ∀ (n : Nat), m + 45 ≤ n → ∀ s, go n 142 [netX t] [] s = some ⟨iV t.wrong, [], []⟩
  | 0, t, h, hm, n, hn, s => by have := t.wt_pos; omega
  | m + 1, .mk k op as ks, h, hm, n, hn, s => by
    obtain ⟨n, rfl⟩ : ∃ k, n = k + 1 := ⟨n - 1, by omega⟩
    have hlen := netsWt_len ks
    simp only [Net.wt] at h
    have hc : ∀ x ∈ ks, ∀ s, go n 142 [netX x] [] s = some ⟨iV x.wrong, [], []⟩ := fun x hx s => run_wrongS m x (by have := netsWt_mem hx; omega) (by omega) n (by omega) s
    have wc := run_ElemIsContactS (n := n) (by omega) ⟨op, as⟩
    unfold Net.wrong
    by_cases hk : k = 1
    · subst hk
      by_cases hl : 0 < ks.length
      · have hl' : ((0 : Int) < (ks.length : Int)) = True := eq_true (by omega)
        simp [go_of FT_142 rfl, F142, hl, hl']
      · have hl' : ((0 : Int) < (ks.length : Int)) = False := eq_false (by omega)
        cases hcn : El.contact ⟨op, as⟩ <;> rw [hcn] at wc <;> simp [go_of FT_142 rfl, F142, hl, hl', wc, hcn]
    · rw [if_neg hk]
      by_cases c1 : 2 ≤ k ∧ k ≤ 4
      · have c1a : (k < 2) = False := eq_false (by omega)
        have c1b : (4 < k) = False := eq_false (by omega)
        by_cases c2 : op = 0 ∧ as = []
        · obtain ⟨rfl, rfl⟩ := c2
          by_cases c3 : ks.length = 0
          · have c3i : ((ks.length : Int) = 0) = True := eq_true (by omega)
            rw [if_pos (.inr (.inr (.inl c3)))]
            simp [go_of FT_142 rfl, F142, hk, c1a, c1b, c3, c3i]
          · have c3i : ((ks.length : Int) = 0) = False := eq_false (by omega)
            have c3k : ks ≠ [] := fun e => c3 (by rw [e]; rfl)
            by_cases c4 : k = 4 ∧ 1 < ks.length
            · rw [if_pos (.inr (.inr (.inr c4)))]
              have c4i : ((ks.length : Int) = 1) = False := eq_false (by omega)
              have c4n : (ks.length = 1) = False := eq_false (by omega)
              simp [go_of FT_142 rfl, F142, hk, c1a, c1b, c3, c3i, c3k, c4.1, c4i, c4n]
            · rw [if_neg (by simp only [not_or, Decidable.not_not]; exact ⟨c1, ⟨trivial, trivial⟩, c3, c4⟩)]
              have fin : ∀ (st : St), st.τ 1 = .w (.ptr 0 0) → st.H 0 = .cells [iW k, iW 0, asW [], nsW ks] → st.τ 3 = iV 0 → _ := fun st a b c => loop142_0 (n := n) ks hc (iW k) (iW 0) (asW []) (by omega) (by omega) st trivial a b c
              by_cases h4 : k = 4
              · have h4l : (ks.length = 1) = True := eq_true (by have : ¬ (1 < ks.length) := fun h => c4 ⟨h4, h⟩; omega)
                have h4i : ((ks.length : Int) = 1) = True := eq_true (by simp at h4l; omega)
                subst h4
                simp [go_of FT_142 rfl, F142, c3, c3i, c3k, h4l, h4i]
                generalize hst : St.mk _ _ _ _ = st
                obtain ⟨e, ⟨τ', H', g', s'⟩, hx, -, ⟨rfl, h0⟩ | ⟨rfl, h0, h2⟩⟩ := fin st (by simp [← hst]) (by simp [← hst]) (by simp [← hst])
                · simp [hx, h0]
                · simp only at h2
                  simp [hx, h2]
              · simp [go_of FT_142 rfl, F142, hk, c1a, c1b, c3, c3i, c3k, h4]
                generalize hst : St.mk _ _ _ _ = st
                obtain ⟨e, ⟨τ', H', g', s'⟩, hx, -, ⟨rfl, h0⟩ | ⟨rfl, h0, h2⟩⟩ := fin st (by simp [← hst]) (by simp [← hst]) (by simp [← hst])
                · simp [hx, h0]
                · simp only at h2
                  simp [hx, h2]
        · rw [if_pos (.inr (.inl c2))]
          by_cases c2a : op = 0
          · have c2b : as ≠ [] := fun e => c2 ⟨c2a, e⟩
            have c2l : 0 < as.length := List.length_pos_iff.2 c2b
            have c2i : ((0 : Int) < (as.length : Int)) = True := eq_true (by omega)
            simp [go_of FT_142 rfl, F142, hk, c1a, c1b, c2a, c2b, c2l, c2i]
          · simp [go_of FT_142 rfl, F142, hk, c1a, c1b, c2a]
      · rw [if_pos (.inl c1)]
        by_cases c1a : k < 2
        · simp [go_of FT_142 rfl, F142, hk, c1a]
        · have c1b : 4 < k := by omega
          simp [go_of FT_142 rfl, F142, hk, c1a, c1b]

end Go.VM

/- Arms, reckoned: how large a ladder is, whether it is right; what the program and what the document says. Conditions: none. -/
namespace Go.VM
set_option linter.unusedSimpArgs false
set_option linter.unusedVariables false
set_option maxHeartbeats 8000000

abbrev csW (l : List El) : W := .d (.l 0 (elRows l))
abbrev ksW (l : List Arm) : W := .d (.l 0 (armRows l))
abbrev armX : Arm → V | .mk (.mk k op as nks) cs ks => .agg [iW k, iW op, asW as, nsW nks, csW cs, ksW ks]
theorem armsSize_append : ∀ l m : List Arm, armsSize (l ++ m) = armsSize l + armsSize m
  | [], m => by simp [armsSize]
  | n :: r, m => by simp [armsSize, armsSize_append r m]; omega
theorem armsSize_take {l : List Arm} {i : Nat} {x : Arm} (h : l[i]? = some x) : armsSize (l.take (i + 1)) = armsSize (l.take i) + x.size := by
  rw [List.take_add_one, h]; simp [armsSize_append, armsSize]
theorem armsSize_take_le (l : List Arm) (i : Nat) : armsSize (l.take i) ≤ armsSize l := by
  have := armsSize_append (l.take i) (l.drop i)
  rw [List.take_append_drop] at this; omega
mutual
theorem armSize_le : ∀ n : Arm, n.size ≤ n.wt
  | .mk n cs ks => by
    have := armsSize_le ks
    have := elsWt_len cs
    have := size_le n
    simp only [Arm.size, Arm.wt]
    split <;> omega
theorem armsSize_le : ∀ l : List Arm, armsSize l ≤ armsWt l
  | [] => by simp [armsSize]
  | n :: r => by have := armSize_le n; have := armsSize_le r; simp [armsSize, armsWt]; omega
end

/-! whether all coils are right -/
theorem run_coil1 {n : Nat} (hn : 61 ≤ n) (e : El) (s : Sup) : go n 190 [elX e] [] s = some ⟨sV (.bool (!e.coil)), [], []⟩ := by
  obtain ⟨n, rfl⟩ : ∃ k, n = k + 1 := ⟨n - 1, by omega⟩
  have w := run_ElemIsCoil (n := n) (by omega) e
  simp [go_of FT_190 rfl, F190, w]

theorem loop199_0 {n : Nat} (l : List El) (h61 : 61 ≤ n) (hn : l.length < n) (hl : l.length < 2 ^ 40) (st : St) (hx0 : True) (h0 : st.τ 0 = .w (csW l)) (h1 : st.τ 1 = .w (.fn 190 [])) (h7 : st.τ 7 = iV l.length) (h8 : st.τ 8 = iV 0) :
    ∃ e st', execC (go n) mode GT false 19 n F199_L0 st = some (e, st') ∧ e ≠ .normal ∧ ((e = .exit 0 ∧ l.all El.coil = true) ∨ (e = .ret ∧ l.all El.coil = false ∧ ∃ i : Nat, st'.τ 4 = iV i)) := by
  rw [F199_L0, execC_loop]
  refine iter_rule (fun k st => ∃ i, i + k = l.length ∧ (l.take i).all El.coil = true ∧ st.τ 0 = .w (csW l) ∧ st.τ 1 = .w (.fn 190 []) ∧ st.τ 7 = iV l.length ∧ st.τ 8 = iV i) ?_ n l.length st hn ⟨0, by omega, by simp, h0, h1, h7, by simpa using h8⟩
  rintro k ⟨τ, H, g, s⟩ ⟨i, hk, hx0, h0, h1, h7, h8⟩
  simp only at hx0 h0 h1 h7 h8
  cases k with
  | zero =>
    have : i = l.length := by omega
    subst this
    refine ⟨.exit 0, ?_⟩
    rw [List.take_length] at hx0
    simp [F199_B0, h0, h1, h7, h8, hx0]
  | succ k =>
    have hlt : i < l.length := by omega
    have hlt' : ((i : Int) < (l.length : Int)) = True := eq_true (by omega)
    have hg := List.getElem?_eq_getElem hlt
    have hmem := List.getElem_mem hlt
    have hw := wrap_succ (i := i) (by omega)
    have w := run_coil1 (n := n) h61 l[i]
    have hb := elRows_get hg
    cases he : El.coil l[i]
    · refine ⟨.ret, ?_⟩
      rw [he] at w
      simp [-getElem?_pos, F199_B0, h0, h1, h7, h8, hlt, hlt', hb, w]
      exact ⟨⟨l[i], hmem, he⟩, i, rfl⟩
    · refine ⟨.normal, ?_⟩
      rw [he] at w
      simp [-getElem?_pos, F199_B0, h0, h1, h7, h8, hlt, hlt', hb, w, hw]
      refine ⟨k, by omega, i + 1, by omega, ?_, rfl⟩
      rw [List.take_add_one, hg]
      intro x hx
      rcases List.mem_append.1 hx with hx | hx
      · exact List.all_eq_true.1 hx0 x hx
      · simp only [Option.toList_some, List.mem_singleton] at hx; subst hx; exact he


theorem run_IndexCoil {n : Nat} (l : List El) (hn : l.length + 63 ≤ n) (hl : l.length < 2 ^ 40) (s : Sup) :
    ∃ i : Int, decide (0 ≤ i) = !l.all El.coil ∧ go n 199 [.w (csW l), .w (.fn 190 [])] [] s = some ⟨iV i, [], []⟩ := by
  obtain ⟨n, rfl⟩ : ∃ k, n = k + 1 := ⟨n - 1, by omega⟩
  simp [go_of FT_199 rfl, F199]
  generalize hst : St.mk _ _ _ _ = st
  obtain ⟨e, ⟨τ', H', g', s'⟩, hx, -, ⟨rfl, h⟩ | ⟨rfl, h, i, h4⟩⟩ := loop199_0 (n := n) l (by omega) (by omega) hl st trivial (by simp [← hst]) (by simp [← hst]) (by simp [← hst]) (by simp [← hst])
  · refine ⟨-1, by rw [h]; rfl, ?_⟩
    simp [hx]
  · simp only at h4
    refine ⟨i, by rw [h]; simp, ?_⟩
    simp [hx, h4]
theorem run_ContainsCoil {n : Nat} (l : List El) (hn : l.length + 64 ≤ n) (hl : l.length < 2 ^ 40) (s : Sup) :
    go n 189 [.w (csW l), .w (.fn 190 [])] [] s = some ⟨sV (.bool (!l.all El.coil)), [], []⟩ := by
  obtain ⟨n, rfl⟩ : ∃ k, n = k + 1 := ⟨n - 1, by omega⟩
  obtain ⟨i, hi⟩ := Classical.skolem.1 fun s => run_IndexCoil (n := n) l (by omega) hl s
  have w := fun s => (hi s).2
  have e := fun s => (hi s).1
  simp [go_of FT_189 rfl, F189, w, e]

theorem loop171_0 {n : Nat} (l : List Arm) (hc : ∀ x ∈ l, ∀ s, go n 171 [.w (ksW x.kids)] [] s = some ⟨iV (armsSize x.kids), [], []⟩) (hc2 : ∀ x ∈ l, ∀ s, go n 118 [netX x.net] [] s = some ⟨iV x.net.size, [], []⟩) (h2n : 2 ≤ n) (hsz : armsWt l < 2 ^ 40) (hn : l.length < n) (hl : l.length < 2 ^ 40) (st : St) (h3 : st.τ 3 = iV 0) (h6 : st.τ 6 = .w (ksW l)) (h7 : st.τ 7 = iV l.length) (h8 : st.τ 8 = iV 0) :
    ∃ e st', execC (go n) mode GT false 33 n F171_L0 st = some (e, st') ∧ e ≠ .normal ∧ (e = .exit 0 ∧ st'.τ 3 = iV (armsSize l : Nat)) := by
  rw [F171_L0, execC_loop]
  refine iter_rule (fun k st => ∃ i, i + k = l.length ∧ st.τ 3 = iV (armsSize (l.take i) : Nat) ∧ st.τ 6 = .w (ksW l) ∧ st.τ 7 = iV l.length ∧ st.τ 8 = iV i) ?_ n l.length st hn ⟨0, by omega, by simpa [armsSize] using h3, h6, h7, by simpa using h8⟩
  rintro k ⟨τ, H, g, s⟩ ⟨i, hk, h3, h6, h7, h8⟩
  simp only at h3 h6 h7 h8
  cases k with
  | zero =>
    have : i = l.length := by omega
    subst this
    refine ⟨.exit 0, ?_⟩
    rw [List.take_length] at h3
    simp [F171_B0, h3, h6, h7, h8]
  | succ k =>
    have hlt : i < l.length := by omega
    have hlt' : ((i : Int) < (l.length : Int)) = True := eq_true (by omega)
    have hg := List.getElem?_eq_getElem hlt
    have hmem := List.getElem_mem hlt
    have hw := wrap_succ (i := i) (by omega)
    have hs := armsSize_take hg
    have hs2 := armsSize_take_le l (i + 1)
    have w := hc _ hmem
    have w2 := hc2 _ hmem
    have hal := armsSize_le l
    have hwt := armsWt_mem hmem
    obtain ⟨k', op, as, nks, cs, ks, hx⟩ : ∃ k' op as nks cs ks, l[i] = .mk (.mk k' op as nks) cs ks := by
      cases hq : l[i] with | mk nn cs ks => cases nn; exact ⟨_, _, _, _, _, _, rfl⟩
    rw [hx] at hg w w2 hs hwt
    have hb := armRows_get hg
    have w3 := run_none (n := n) h2n (.mk k' op as nks)
    simp only [Arm.kids] at w
    simp only [Arm.net] at w2
    simp only [Arm.size] at hs
    have hcl := elsWt_len cs
    simp only [Arm.wt] at hwt
    have hkl := armsSize_le ks
    have q1 : IntKind.wrap .i64 (1 + (cs.length : Int)) = (1 + cs.length : Nat) := wrap_cast (by omega) (by omega)
    have q2 : IntKind.wrap .i64 ((1 + cs.length : Nat) + (armsSize ks : Int)) = (1 + cs.length + armsSize ks : Nat) := wrap_cast (by omega) (by omega)
    have q3 : IntKind.wrap .i64 ((armsSize (l.take i) : Int) + (1 + cs.length + armsSize ks : Nat)) = (armsSize (l.take i) + (1 + cs.length + armsSize ks) : Nat) := wrap_cast (by omega) (by split at hs <;> omega)
    have hcm : (g < g + 64 + 256) = True := eq_true (by omega)
    refine ⟨.normal, ?_⟩
    cases hnn : Net.none (.mk k' op as nks)
    · rw [hnn] at w3
      simp only [hnn, Bool.false_eq_true, if_false] at hs
      have q4 : IntKind.wrap .i64 ((armsSize (l.take i) + (1 + cs.length + armsSize ks) : Nat) + (Net.size (.mk k' op as nks) : Int)) = (armsSize (l.take (i + 1)) : Nat) := wrap_cast (by omega) (by omega)
      simp [-getElem?_pos, -Int.natCast_add, F171_B0, hcm, h3, h6, h7, h8, hlt, hlt', hb, w, w2, w3, hw, q1, q2, q3, q4]
      exact ⟨k, by omega, i + 1, by omega, rfl, rfl⟩
    · rw [hnn] at w3
      simp only [hnn, if_true] at hs
      have q5 : (armsSize (l.take i) + (1 + cs.length + armsSize ks) : Nat) = armsSize (l.take (i + 1)) := by omega
      simp [-getElem?_pos, -Int.natCast_add, F171_B0, hcm, h3, h6, h7, h8, hlt, hlt', hb, w, w2, w3, hw, q1, q2, q3]
      exact ⟨k, by omega, i + 1, by omega, by rw [q5], rfl⟩


theorem run_TreeSize : ∀ (m : Nat) (l : List Arm), armsWt l ≤ m → m < 2 ^ 40 → ∀ (n : Nat), 2 * m + 8 ≤ n → ∀ s, go n 171 [.w (ksW l)] [] s = some ⟨iV (armsSize l), [], []⟩ := by
  intro m
  induction m with
  | zero =>
    intro l h hm n hn s
    obtain ⟨n, rfl⟩ : ∃ k, n = k + 1 := ⟨n - 1, by omega⟩
    have e : l = [] := by
      cases l with
      | nil => rfl
      | cons a r => have := a.wt_pos; simp [armsWt] at h; omega
    subst e
    obtain ⟨n, rfl⟩ : ∃ k, n = k + 1 := ⟨n - 1, by omega⟩
    simp [go_of FT_171 rfl, F171, F171_L0, execC_loop, iter, F171_B0, armRows, armsSize]
  | succ m ih =>
    intro l h hm n hn s
    obtain ⟨n, rfl⟩ : ∃ k, n = k + 1 := ⟨n - 1, by omega⟩
    have hlen := armsWt_len l
    have hc : ∀ x ∈ l, ∀ s, go n 171 [.w (ksW x.kids)] [] s = some ⟨iV (armsSize x.kids), [], []⟩ := fun x hx s => ih x.kids (by have := armsWt_mem hx; cases x; simp [Arm.wt] at this; simp [Arm.kids]; omega) (by omega) n (by omega) s
    have hc2 : ∀ x ∈ l, ∀ s, go n 118 [netX x.net] [] s = some ⟨iV x.net.size, [], []⟩ := fun x hx s => run_size (m + 1) x.net (by have := armsWt_mem hx; cases x; simp [Arm.wt] at this; simp [Arm.net]; omega) (by omega) n (by omega) s
    simp [go_of FT_171 rfl, F171]
    generalize hst : St.mk _ _ _ _ = st
    obtain ⟨e, ⟨τ', H', g', s'⟩, hx, -, rfl, h3⟩ := loop171_0 (n := n) l hc hc2 (by omega) (by omega) (by omega) (by omega) st (by simp [← hst]) (by simp [← hst]) (by simp [← hst]) (by simp [← hst])
    simp only at h3
    simp [hx, h3]

theorem loop122_0 {n : Nat} (l : List Arm) (hc : ∀ x ∈ l, ∀ s, go n 122 [armX x] [] s = some ⟨iV x.size, [], []⟩) (a0 : Nat) (hsz : a0 + armsSize l < 2 ^ 41) (k0 op0 as0 nk0 c0 : W) (hn : l.length < n) (hl : l.length < 2 ^ 40) (st : St) (h1 : st.τ 1 = .w (.ptr 0 0)) (hH : st.H 0 = .cells [k0, op0, as0, nk0, c0, ksW l]) (h3 : st.τ 3 = iV a0) (h4 : st.τ 4 = iV 0) :
    ∃ e st', execC (go n) mode GT false 34 n F122_L0 st = some (e, st') ∧ e ≠ .normal ∧ (e = .exit 0 ∧ st'.τ 3 = iV (a0 + armsSize l : Nat)) := by
  rw [F122_L0, execC_loop]
  refine iter_rule (fun k st => ∃ i, i + k = l.length ∧ st.τ 1 = .w (.ptr 0 0) ∧ st.H 0 = .cells [k0, op0, as0, nk0, c0, ksW l] ∧ st.τ 3 = iV (a0 + armsSize (l.take i) : Nat) ∧ st.τ 4 = iV i) ?_ n l.length st hn ⟨0, by omega, h1, hH, by simpa [armsSize] using h3, by simpa using h4⟩
  rintro k ⟨τ, H, g, s⟩ ⟨i, hk, h1, hH, h3, h4⟩
  simp only at h1 hH h3 h4
  cases k with
  | zero =>
    have : i = l.length := by omega
    subst this
    refine ⟨.exit 0, ?_⟩
    rw [List.take_length] at h3
    simp [F122_B0, h1, hH, h3, h4]
  | succ k =>
    have hlt : i < l.length := by omega
    have hlt' : ((i : Int) < (l.length : Int)) = True := eq_true (by omega)
    have hg := List.getElem?_eq_getElem hlt
    have hmem := List.getElem_mem hlt
    have hw := wrap_succ (i := i) (by omega)
    have hs := armsSize_take hg
    have hs2 := armsSize_take_le l (i + 1)
    have w := hc _ hmem
    obtain ⟨k', op, as, nks, cs, ks, hx⟩ : ∃ k' op as nks cs ks, l[i] = .mk (.mk k' op as nks) cs ks := by
      cases hq : l[i] with | mk nn cs ks => cases nn; exact ⟨_, _, _, _, _, _, rfl⟩
    rw [hx] at hg w hs
    have hb := armRows_get hg
    generalize hz : Arm.size (.mk (.mk k' op as nks) cs ks) = z at w hs
    have hadd : IntKind.wrap .i64 ((a0 + armsSize (l.take i) : Nat) + (z : Int)) = (a0 + armsSize (l.take (i + 1)) : Nat) := wrap_cast (by omega) (by omega)
    refine ⟨.normal, ?_⟩
    simp [-getElem?_pos, -Int.natCast_add, F122_B0, h1, hH, h3, h4, hlt, hlt', hb, w, hw, hadd]
    exact ⟨k, by omega, i + 1, by omega, rfl, rfl⟩


theorem run_ArmSizeS : ∀ (m : Nat) (a : Arm), a.wt ≤ m → m < 2 ^ 40 → ∀ (n : Nat), 2 * m + 8 ≤ n → ∀ s, go n 122 [armX a] [] s = some ⟨iV a.size, [], []⟩
  | 0, t, h, hm, n, hn, s => by have := t.wt_pos; omega
  | m + 1, .mk (.mk k op as nks) cs ks, h, hm, n, hn, s => by
    obtain ⟨n, rfl⟩ : ∃ k, n = k + 1 := ⟨n - 1, by omega⟩
    have hlen := armsWt_len ks
    have hcl := elsWt_len cs
    have hal := armsSize_le ks
    have hns := size_le (.mk k op as nks)
    simp only [Arm.wt] at h
    have hc : ∀ x ∈ ks, ∀ s, go n 122 [armX x] [] s = some ⟨iV x.size, [], []⟩ := fun x hx s => run_ArmSizeS m x (by have := armsWt_mem hx; omega) (by omega) n (by omega) s
    have w1 := run_noneS (n := n) (by omega) (.mk k op as nks)
    have w2 := run_sizeS (m + 1) (.mk k op as nks) (by omega) (by omega) n (by omega)
    have q1 : IntKind.wrap .i64 (1 + (cs.length : Int)) = (1 + cs.length : Nat) := wrap_cast (by omega) (by omega)
    cases hnn : Net.none (.mk k op as nks)
    · rw [hnn] at w1
      have q2 : IntKind.wrap .i64 ((1 + cs.length : Nat) + (Net.size (.mk k op as nks) : Int)) = (1 + cs.length + Net.size (.mk k op as nks) : Nat) := wrap_cast (by omega) (by omega)
      simp [-Int.natCast_add, go_of FT_122 rfl, F122, w1, w2, q1, q2]
      generalize hst : St.mk _ _ _ _ = st
      obtain ⟨e, ⟨τ', H', g', s'⟩, hx, -, rfl, h3⟩ := loop122_0 (n := n) ks hc (1 + cs.length + Net.size (.mk k op as nks)) (by omega) (iW k) (iW op) (asW as) (nsW nks) (csW cs) (by omega) (by omega) st (by simp [← hst]) (by simp [← hst]) (by simp [-Int.natCast_add, ← hst]) (by simp [← hst])
      simp only at h3
      simp [-Int.natCast_add, hx, h3, Arm.size, hnn]
    · rw [hnn] at w1
      simp [-Int.natCast_add, go_of FT_122 rfl, F122, w1, w2, q1]
      generalize hst : St.mk _ _ _ _ = st
      obtain ⟨e, ⟨τ', H', g', s'⟩, hx, -, rfl, h3⟩ := loop122_0 (n := n) ks hc (1 + cs.length) (by omega) (iW k) (iW op) (asW as) (nsW nks) (csW cs) (by omega) (by omega) st (by simp [← hst]) (by simp [← hst]) (by simp [-Int.natCast_add, ← hst]) (by simp [← hst])
      simp only at h3
      simp [-Int.natCast_add, hx, h3, Arm.size, hnn]

theorem loop107_0 {n : Nat} (l : List Arm) (hc : ∀ x ∈ l, ∀ s, go n 122 [armX x] [] s = some ⟨iV x.size, [], []⟩) (hsz : armsSize l < 2 ^ 41) (hn : l.length < n) (hl : l.length < 2 ^ 40) (st : St) (h0 : st.τ 0 = .w (ksW l)) (h3 : st.τ 3 = iV 0) (h4 : st.τ 4 = iV 0) :
    ∃ e st', execC (go n) mode GT false 19 n F107_L0 st = some (e, st') ∧ e ≠ .normal ∧ (e = .exit 0 ∧ st'.τ 3 = iV (armsSize l : Nat)) := by
  rw [F107_L0, execC_loop]
  refine iter_rule (fun k st => ∃ i, i + k = l.length ∧ st.τ 0 = .w (ksW l) ∧ st.τ 3 = iV (armsSize (l.take i) : Nat) ∧ st.τ 4 = iV i) ?_ n l.length st hn ⟨0, by omega, h0, by simpa [armsSize] using h3, by simpa using h4⟩
  rintro k ⟨τ, H, g, s⟩ ⟨i, hk, h0, h3, h4⟩
  simp only at h0 h3 h4
  cases k with
  | zero =>
    have : i = l.length := by omega
    subst this
    refine ⟨.exit 0, ?_⟩
    rw [List.take_length] at h3
    simp [F107_B0, h0, h3, h4]
  | succ k =>
    have hlt : i < l.length := by omega
    have hlt' : ((i : Int) < (l.length : Int)) = True := eq_true (by omega)
    have hg := List.getElem?_eq_getElem hlt
    have hmem := List.getElem_mem hlt
    have hw := wrap_succ (i := i) (by omega)
    have hs := armsSize_take hg
    have hs2 := armsSize_take_le l (i + 1)
    have w := hc _ hmem
    obtain ⟨k', op, as, nks, cs, ks, hx⟩ : ∃ k' op as nks cs ks, l[i] = .mk (.mk k' op as nks) cs ks := by
      cases hq : l[i] with | mk nn cs ks => cases nn; exact ⟨_, _, _, _, _, _, rfl⟩
    rw [hx] at hg w hs
    have hb := armRows_get hg
    generalize hz : Arm.size (.mk (.mk k' op as nks) cs ks) = z at w hs
    have hadd : IntKind.wrap .i64 ((armsSize (l.take i) : Int) + (z : Int)) = (armsSize (l.take (i + 1)) : Nat) := wrap_cast (by omega) (by omega)
    refine ⟨.normal, ?_⟩
    simp [-getElem?_pos, -Int.natCast_add, F107_B0, h0, h3, h4, hlt, hlt', hb, w, hw, hadd]
    exact ⟨k, by omega, i + 1, by omega, rfl, rfl⟩


theorem run_TreeSizeS (l : List Arm) (hm : armsWt l < 2 ^ 40) (n : Nat) (hn : 2 * armsWt l + 10 ≤ n) (s : Sup) : go n 107 [.w (ksW l)] [] s = some ⟨iV (armsSize l), [], []⟩ := by
  obtain ⟨n, rfl⟩ : ∃ k, n = k + 1 := ⟨n - 1, by omega⟩
  have hlen := armsWt_len l
  have hal := armsSize_le l
  have hc : ∀ x ∈ l, ∀ s, go n 122 [armX x] [] s = some ⟨iV x.size, [], []⟩ := fun x hx s => run_ArmSizeS (armsWt l) x (armsWt_mem hx) hm n (by omega) s
  simp [go_of FT_107 rfl, F107]
  generalize hst : St.mk _ _ _ _ = st
  obtain ⟨e, ⟨τ', H', g', s'⟩, hx, -, rfl, h3⟩ := loop107_0 (n := n) l hc (by omega) (by omega) (by omega) st (by simp [← hst]) (by simp [← hst]) (by simp [← hst])
  simp only at h3
  simp [hx, h3]

end Go.VM

/- Arms and ladders, reckoned: whether they are right; what the program and what the document says. Conditions: none. -/
namespace Go.VM
set_option linter.unusedSimpArgs false
set_option linter.unusedVariables false
set_option maxHeartbeats 8000000

abbrev bV (b : Bool) : V := .w (.d (.s (.bool b)))
mutual
theorem Arm.wrong_or (b : Bool) : ∀ a : Arm, a.wrong b = 0 ∨ a.wrong b = 2 ∨ a.wrong b = 3 ∨ a.wrong b = 4 ∨ a.wrong b = 5
  | .mk n cs ks => by
    have h1 := n.wrong_or
    have h2 := armsWrong_or ks
    unfold Arm.wrong
    split
    · simp
    · split
      · omega
      · split
        · simp
        · split
          · simp
          · exact h2
theorem armsWrong_or : ∀ l : List Arm, armsWrong l = 0 ∨ armsWrong l = 2 ∨ armsWrong l = 3 ∨ armsWrong l = 4 ∨ armsWrong l = 5
  | [] => by simp [armsWrong]
  | a :: r => by
    have h1 := a.wrong_or false
    have h2 := armsWrong_or r
    unfold armsWrong
    split
    · exact h1
    · exact h2
end
theorem armsWrong_append : ∀ l m : List Arm, armsWrong (l ++ m) = if armsWrong l ≠ 0 then armsWrong l else armsWrong m
  | [], m => by simp [armsWrong]
  | n :: r, m => by
    simp only [List.cons_append, armsWrong, armsWrong_append r m]
    by_cases h : n.wrong false = 0 <;> simp [h]
theorem armsWrong_take {l : List Arm} {i : Nat} {x : Arm} (h : l[i]? = some x) (h0 : armsWrong (l.take i) = 0) : armsWrong (l.take (i + 1)) = x.wrong false := by
  rw [List.take_add_one, h]; simp only [Option.toList_some, armsWrong_append, h0, armsWrong]
  by_cases hx : x.wrong false = 0 <;> simp [hx]
theorem armsWrong_hit {l : List Arm} {i : Nat} {x : Arm} (h0 : armsWrong (l.take i) = 0) (h : l[i]? = some x) (hx : x.wrong false ≠ 0) : armsWrong l = x.wrong false := by
  have e : l = l.take (i + 1) ++ l.drop (i + 1) := (List.take_append_drop _ _).symm
  rw [e, armsWrong_append, armsWrong_take h h0, if_pos hx]
theorem rungsWrong_append : ∀ l m : List Arm, rungsWrong (l ++ m) = if rungsWrong l ≠ 0 then rungsWrong l else rungsWrong m
  | [], m => by simp [rungsWrong]
  | n :: r, m => by
    simp only [List.cons_append, rungsWrong, rungsWrong_append r m]
    by_cases h : n.wrong true = 0 <;> simp [h]
theorem rungsWrong_take {l : List Arm} {i : Nat} {x : Arm} (h : l[i]? = some x) (h0 : rungsWrong (l.take i) = 0) : rungsWrong (l.take (i + 1)) = x.wrong true := by
  rw [List.take_add_one, h]; simp only [Option.toList_some, rungsWrong_append, h0, rungsWrong]
  by_cases hx : x.wrong true = 0 <;> simp [hx]
theorem rungsWrong_hit {l : List Arm} {i : Nat} {x : Arm} (h0 : rungsWrong (l.take i) = 0) (h : l[i]? = some x) (hx : x.wrong true ≠ 0) : rungsWrong l = x.wrong true := by
  have e : l = l.take (i + 1) ++ l.drop (i + 1) := (List.take_append_drop _ _).symm
  rw [e, rungsWrong_append, rungsWrong_take h h0, if_pos hx]

theorem loop172_0 {n : Nat} (l : List Arm) (hc : ∀ x ∈ l, ∀ s, go n 172 [armX x, bV false] [] s = some ⟨iV (x.wrong false), [], []⟩) (hn : l.length < n) (hl : l.length < 2 ^ 40) (st : St) (hx0 : True) (h39 : st.τ 39 = .w (ksW l)) (h40 : st.τ 40 = iV l.length) (h41 : st.τ 41 = iV 0) :
    ∃ e st', execC (go n) mode GT false 51 n F172_L0 st = some (e, st') ∧ e ≠ .normal ∧ ((e = .exit 0 ∧ armsWrong l = 0) ∨ (e = .ret ∧ armsWrong l ≠ 0 ∧ st'.τ 4 = iV (armsWrong l))) := by
  rw [F172_L0, execC_loop]
  refine iter_rule (fun k st => ∃ i, i + k = l.length ∧ armsWrong (l.take i) = 0 ∧ st.τ 39 = .w (ksW l) ∧ st.τ 40 = iV l.length ∧ st.τ 41 = iV i) ?_ n l.length st hn ⟨0, by omega, by simp [armsWrong], h39, h40, by simpa using h41⟩
  rintro k ⟨τ, H, g, s⟩ ⟨i, hk, hx0, h39, h40, h41⟩
  simp only at hx0 h39 h40 h41
  cases k with
  | zero =>
    have : i = l.length := by omega
    subst this
    refine ⟨.exit 0, ?_⟩
    rw [List.take_length] at hx0
    simp [F172_B0, h39, h40, h41, hx0]
  | succ k =>
    have hlt : i < l.length := by omega
    have hlt' : ((i : Int) < (l.length : Int)) = True := eq_true (by omega)
    have hg := List.getElem?_eq_getElem hlt
    have hmem := List.getElem_mem hlt
    have hw := wrap_succ (i := i) (by omega)
    have w := hc _ hmem
    have hor := Arm.wrong_or false l[i]
    generalize hcode : Arm.wrong false l[i] = c at w hor
    obtain ⟨k', op, as, nks, cs, ks, hx⟩ : ∃ k' op as nks cs ks, l[i] = .mk (.mk k' op as nks) cs ks := by
      cases hq : l[i] with | mk nn cs ks => cases nn; exact ⟨_, _, _, _, _, _, rfl⟩
    rw [hx] at hg w hcode
    have hb := armRows_get hg
    by_cases hz : c = 0
    · refine ⟨.normal, ?_⟩
      subst hz
      simp [-getElem?_pos, F172_B0, h39, h40, h41, hlt, hlt', hb, w, hw]
      exact ⟨k, by omega, i + 1, by omega, by rw [armsWrong_take hg hx0, hcode], rfl⟩
    · refine ⟨.ret, ?_⟩
      have hz' := eq_false hz
      have hpos : 0 < c := by omega
      have hpos' := eq_true hpos
      have hfin := armsWrong_hit hx0 hg (by rw [hcode]; exact hz)
      simp [-getElem?_pos, F172_B0, h39, h40, h41, hlt, hlt', hb, w, hw, hz', hpos']
      exact ⟨by rw [hfin, hcode]; exact hz, by rw [hfin, hcode]⟩

theorem loop121_1 {n : Nat} (l : List Arm) (hc : ∀ x ∈ l, ∀ s, go n 121 [armX x, bV false] [] s = some ⟨iV (x.wrong false), [], []⟩) (k0 op0 as0 nk0 c0 : W) (hn : l.length < n) (hl : l.length < 2 ^ 40) (st : St) (hx0 : True) (h2 : st.τ 2 = .w (.ptr 0 0)) (hH : st.H 0 = .cells [k0, op0, as0, nk0, c0, ksW l]) (h7 : st.τ 7 = iV 0) :
    ∃ e st', execC (go n) mode GT false 65 n F121_L1 st = some (e, st') ∧ e ≠ .normal ∧ ((e = .exit 2 ∧ armsWrong l = 0) ∨ (e = .ret ∧ armsWrong l ≠ 0 ∧ st'.τ 4 = iV (armsWrong l))) := by
  rw [F121_L1, execC_loop]
  refine iter_rule (fun k st => ∃ i, i + k = l.length ∧ armsWrong (l.take i) = 0 ∧ st.τ 2 = .w (.ptr 0 0) ∧ st.H 0 = .cells [k0, op0, as0, nk0, c0, ksW l] ∧ st.τ 7 = iV i) ?_ n l.length st hn ⟨0, by omega, by simp [armsWrong], h2, hH, by simpa using h7⟩
  rintro k ⟨τ, H, g, s⟩ ⟨i, hk, hx0, h2, hH, h7⟩
  simp only at hx0 h2 hH h7
  cases k with
  | zero =>
    have : i = l.length := by omega
    subst this
    refine ⟨.exit 2, ?_⟩
    rw [List.take_length] at hx0
    simp [F121_B1, h2, hH, h7, hx0]
  | succ k =>
    have hlt : i < l.length := by omega
    have hlt' : ((i : Int) < (l.length : Int)) = True := eq_true (by omega)
    have hg := List.getElem?_eq_getElem hlt
    have hmem := List.getElem_mem hlt
    have hw := wrap_succ (i := i) (by omega)
    have w := hc _ hmem
    have hor := Arm.wrong_or false l[i]
    generalize hcode : Arm.wrong false l[i] = c at w hor
    obtain ⟨k', op, as, nks, cs, ks, hx⟩ : ∃ k' op as nks cs ks, l[i] = .mk (.mk k' op as nks) cs ks := by
      cases hq : l[i] with | mk nn cs ks => cases nn; exact ⟨_, _, _, _, _, _, rfl⟩
    rw [hx] at hg w hcode
    have hb := armRows_get hg
    by_cases hz : c = 0
    · refine ⟨.normal, ?_⟩
      subst hz
      simp [-getElem?_pos, F121_B1, h2, hH, h7, hlt, hlt', hb, w, hw]
      exact ⟨k, by omega, i + 1, by omega, by rw [armsWrong_take hg hx0, hcode], rfl⟩
    · refine ⟨.ret, ?_⟩
      have hz' := eq_false hz
      have hpos : 0 < c := by omega
      have hpos' := eq_true hpos
      have hfin := armsWrong_hit hx0 hg (by rw [hcode]; exact hz)
      simp [-getElem?_pos, F121_B1, h2, hH, h7, hlt, hlt', hb, w, hw, hz', hpos']
      exact ⟨by rw [hfin, hcode]; exact hz, by rw [hfin, hcode]⟩

theorem loop121_0 {n : Nat} (l : List El) (h30 : 30 ≤ n) (k0 op0 as0 nk0 a0 : W) (hn : l.length < n) (hl : l.length < 2 ^ 40) (st : St) (hx0 : True) (h2 : st.τ 2 = .w (.ptr 0 0)) (hH : st.H 0 = .cells [k0, op0, as0, nk0, csW l, a0]) (h6 : st.τ 6 = iV 0) :
    ∃ e st', execC (go n) mode GT false 65 n F121_L0 st = some (e, st') ∧ e ≠ .normal ∧ ((e = .exit 0 ∧ l.all El.coil = true ∧ st'.τ 2 = .w (.ptr 0 0) ∧ st'.H 0 = .cells [k0, op0, as0, nk0, csW l, a0]) ∨ (e = .ret ∧ l.all El.coil = false ∧ st'.τ 4 = iV 3)) := by
  rw [F121_L0, execC_loop]
  refine iter_rule (fun k st => ∃ i, i + k = l.length ∧ (l.take i).all El.coil = true ∧ st.τ 2 = .w (.ptr 0 0) ∧ st.H 0 = .cells [k0, op0, as0, nk0, csW l, a0] ∧ st.τ 6 = iV i) ?_ n l.length st hn ⟨0, by omega, by simp, h2, hH, by simpa using h6⟩
  rintro k ⟨τ, H, g, s⟩ ⟨i, hk, hx0, h2, hH, h6⟩
  simp only at hx0 h2 hH h6
  cases k with
  | zero =>
    have : i = l.length := by omega
    subst this
    refine ⟨.exit 0, ?_⟩
    rw [List.take_length] at hx0
    simp [F121_B0, h2, hH, h6, hx0]
  | succ k =>
    have hlt : i < l.length := by omega
    have hlt' : ((i : Int) < (l.length : Int)) = True := eq_true (by omega)
    have hg := List.getElem?_eq_getElem hlt
    have hmem := List.getElem_mem hlt
    have hw := wrap_succ (i := i) (by omega)
    have w := run_ElemIsCoilS (n := n) (by omega) l[i]
    have hb := elRows_get hg
    cases he : El.coil l[i]
    · refine ⟨.ret, ?_⟩
      rw [he] at w
      simp [-getElem?_pos, F121_B0, h2, hH, h6, hlt, hlt', hb, w]
      exact ⟨l[i], hmem, he⟩
    · refine ⟨.normal, ?_⟩
      rw [he] at w
      simp [-getElem?_pos, F121_B0, h2, hH, h6, hlt, hlt', hb, w, hw]
      refine ⟨k, by omega, i + 1, by omega, ?_, rfl⟩
      rw [List.take_add_one, hg]
      intro x hx
      rcases List.mem_append.1 hx with hx | hx
      · exact List.all_eq_true.1 hx0 x hx
      · simp only [Option.toList_some, List.mem_singleton] at hx; subst hx; exact he


theorem run_armWrong : ∀ (m : Nat) (a : Arm), a.wt ≤ m → m < 2 ^ 39 → ∀ (b : Bool) (n : Nat), 2 * m + 80 ≤ n → ∀ s, go n 172 [armX a, bV b] [] s = some ⟨iV (a.wrong b), [], []⟩
  | 0, t, h, hm, b, n, hn, s => by have := t.wt_pos; omega
  | m + 1, .mk (.mk k op as nks) cs ks, h, hm, b, n, hn, s => by
    obtain ⟨n, rfl⟩ : ∃ k, n = k + 1 := ⟨n - 1, by omega⟩
    have hlen := armsWt_len ks
    have hcl := elsWt_len cs
    simp only [Arm.wt] at h
    have hc : ∀ x ∈ ks, ∀ s, go n 172 [armX x, bV false] [] s = some ⟨iV (x.wrong false), [], []⟩ := fun x hx s => run_armWrong m x (by have := armsWt_mem hx; omega) (by omega) false n (by omega) s
    have w1 := run_none (n := n) (by omega) (.mk k op as nks)
    have w2 := run_wrong (m + 1) (.mk k op as nks) (by omega) (by omega) n (by omega)
    have w3 := run_ContainsCoil (n := n) cs (by omega) (by omega)
    have hwo := Net.wrong_or (.mk k op as nks)
    unfold Arm.wrong
    generalize hnn : Net.none (.mk k op as nks) = nn at w1
    generalize hnw : Net.wrong (.mk k op as nks) = nw at w2 hwo
    cases nn
    · by_cases hz : nw = 0
      · subst hz
        cases b
        · cases hcc : cs.all El.coil
          · rw [hcc] at w3
            simp [go_of FT_172 rfl, F172, w1, w2, w3, hnn]
          · rw [hcc] at w3
            by_cases l1 : cs.length = 0
            · have l1i : ((cs.length : Int) = 0) = True := eq_true (by omega)
              have l1e : cs = [] := List.eq_nil_of_length_eq_zero l1
              by_cases l2 : ks.length = 0
              · have l2i : ((ks.length : Int) = 0) = True := eq_true (by omega)
                have l2e : ks = [] := List.eq_nil_of_length_eq_zero l2
                subst l1e l2e
                simp [go_of FT_172 rfl, F172, w1, w2, w3, hnn]
              · have l2i : ((ks.length : Int) = 0) = False := eq_false (by omega)
                have l2e : ks ≠ [] := fun e => l2 (by rw [e]; rfl)
                subst l1e
                simp [go_of FT_172 rfl, F172, w1, w2, w3, hnn, l2, l2i, l2e]
                generalize hst : St.mk _ _ _ _ = st
                obtain ⟨e, ⟨τ', H', g', s'⟩, hx, -, ⟨rfl, h0⟩ | ⟨rfl, h0, h2⟩⟩ := loop172_0 (n := n) ks hc (by omega) (by omega) st trivial (by simp [← hst]) (by simp [← hst]) (by simp [← hst])
                · simp [hx, h0]
                · simp only at h2
                  simp [hx, h2]
            · have l1i : ((cs.length : Int) = 0) = False := eq_false (by omega)
              have l1e : cs ≠ [] := fun e => l1 (by rw [e]; rfl)
              simp [go_of FT_172 rfl, F172, w1, w2, w3, hnn, l1, l1i, l1e]
              generalize hst : St.mk _ _ _ _ = st
              obtain ⟨e, ⟨τ', H', g', s'⟩, hx, -, ⟨rfl, h0⟩ | ⟨rfl, h0, h2⟩⟩ := loop172_0 (n := n) ks hc (by omega) (by omega) st trivial (by simp [← hst]) (by simp [← hst]) (by simp [← hst])
              · simp [hx, h0]
              · simp only at h2
                simp [hx, h2]
        · cases hcc : cs.all El.coil
          · rw [hcc] at w3
            simp [go_of FT_172 rfl, F172, w1, w2, w3, hnn]
          · rw [hcc] at w3
            by_cases l1 : cs.length = 0
            · have l1i : ((cs.length : Int) = 0) = True := eq_true (by omega)
              have l1e : cs = [] := List.eq_nil_of_length_eq_zero l1
              by_cases l2 : ks.length = 0
              · have l2i : ((ks.length : Int) = 0) = True := eq_true (by omega)
                have l2e : ks = [] := List.eq_nil_of_length_eq_zero l2
                subst l1e l2e
                simp [go_of FT_172 rfl, F172, w1, w2, w3, hnn]
              · have l2i : ((ks.length : Int) = 0) = False := eq_false (by omega)
                have l2e : ks ≠ [] := fun e => l2 (by rw [e]; rfl)
                subst l1e
                simp [go_of FT_172 rfl, F172, w1, w2, w3, hnn, l2, l2i, l2e]
                generalize hst : St.mk _ _ _ _ = st
                obtain ⟨e, ⟨τ', H', g', s'⟩, hx, -, ⟨rfl, h0⟩ | ⟨rfl, h0, h2⟩⟩ := loop172_0 (n := n) ks hc (by omega) (by omega) st trivial (by simp [← hst]) (by simp [← hst]) (by simp [← hst])
                · simp [hx, h0]
                · simp only at h2
                  simp [hx, h2]
            · have l1i : ((cs.length : Int) = 0) = False := eq_false (by omega)
              have l1e : cs ≠ [] := fun e => l1 (by rw [e]; rfl)
              simp [go_of FT_172 rfl, F172, w1, w2, w3, hnn, l1, l1i, l1e]
              generalize hst : St.mk _ _ _ _ = st
              obtain ⟨e, ⟨τ', H', g', s'⟩, hx, -, ⟨rfl, h0⟩ | ⟨rfl, h0, h2⟩⟩ := loop172_0 (n := n) ks hc (by omega) (by omega) st trivial (by simp [← hst]) (by simp [← hst]) (by simp [← hst])
              · simp [hx, h0]
              · simp only at h2
                simp [hx, h2]
      · have hz' := eq_false hz
        have hp : 0 < nw := by omega
        cases b <;> simp [go_of FT_172 rfl, F172, w1, w2, w3, hz', hz, hp]
    · cases b
      · cases hcc : cs.all El.coil
        · rw [hcc] at w3
          simp [go_of FT_172 rfl, F172, w1, w2, w3, hnn]
        · rw [hcc] at w3
          by_cases l1 : cs.length = 0
          · have l1i : ((cs.length : Int) = 0) = True := eq_true (by omega)
            have l1e : cs = [] := List.eq_nil_of_length_eq_zero l1
            by_cases l2 : ks.length = 0
            · have l2i : ((ks.length : Int) = 0) = True := eq_true (by omega)
              have l2e : ks = [] := List.eq_nil_of_length_eq_zero l2
              subst l1e l2e
              simp [go_of FT_172 rfl, F172, w1, w2, w3, hnn]
            · have l2i : ((ks.length : Int) = 0) = False := eq_false (by omega)
              have l2e : ks ≠ [] := fun e => l2 (by rw [e]; rfl)
              subst l1e
              simp [go_of FT_172 rfl, F172, w1, w2, w3, hnn, l2, l2i, l2e]
              generalize hst : St.mk _ _ _ _ = st
              obtain ⟨e, ⟨τ', H', g', s'⟩, hx, -, ⟨rfl, h0⟩ | ⟨rfl, h0, h2⟩⟩ := loop172_0 (n := n) ks hc (by omega) (by omega) st trivial (by simp [← hst]) (by simp [← hst]) (by simp [← hst])
              · simp [hx, h0]
              · simp only at h2
                simp [hx, h2]
          · have l1i : ((cs.length : Int) = 0) = False := eq_false (by omega)
            have l1e : cs ≠ [] := fun e => l1 (by rw [e]; rfl)
            simp [go_of FT_172 rfl, F172, w1, w2, w3, hnn, l1, l1i, l1e]
            generalize hst : St.mk _ _ _ _ = st
            obtain ⟨e, ⟨τ', H', g', s'⟩, hx, -, ⟨rfl, h0⟩ | ⟨rfl, h0, h2⟩⟩ := loop172_0 (n := n) ks hc (by omega) (by omega) st trivial (by simp [← hst]) (by simp [← hst]) (by simp [← hst])
            · simp [hx, h0]
            · simp only at h2
              simp [hx, h2]
      · simp [go_of FT_172 rfl, F172, w1, w2, w3]


theorem run_armWrongS : ∀ (m : Nat) (a : Arm), a.wt ≤ m → m < 2 ^ 39 → ∀ (b : Bool) (n : Nat), 2 * m + 80 ≤ n → ∀ s, go n 121 [armX a, bV b] [] s = some ⟨iV (a.wrong b), [], []⟩
  | 0, t, h, hm, b, n, hn, s => by have := t.wt_pos; omega
  | m + 1, .mk (.mk k op as nks) cs ks, h, hm, b, n, hn, s => by
    obtain ⟨n, rfl⟩ : ∃ k, n = k + 1 := ⟨n - 1, by omega⟩
    have hlen := armsWt_len ks
    have hcl := elsWt_len cs
    simp only [Arm.wt] at h
    have hc : ∀ x ∈ ks, ∀ s, go n 121 [armX x, bV false] [] s = some ⟨iV (x.wrong false), [], []⟩ := fun x hx s => run_armWrongS m x (by have := armsWt_mem hx; omega) (by omega) false n (by omega) s
    have w1 := run_noneS (n := n) (by omega) (.mk k op as nks)
    have w2 := run_wrongS (m + 1) (.mk k op as nks) (by omega) (by omega) n (by omega)
    have hwo := Net.wrong_or (.mk k op as nks)
    unfold Arm.wrong
    generalize hnn : Net.none (.mk k op as nks) = nn at w1
    generalize hnw : Net.wrong (.mk k op as nks) = nw at w2 hwo
    generalize hca : cs.all El.coil = ca
    cases nn
    · by_cases hz : nw = 0
      · subst hz
        cases b
        · simp [go_of FT_121 rfl, F121, w1, w2, hnn]
          generalize hst : St.mk _ _ _ _ = st
          obtain ⟨e, ⟨τ', H', g', s'⟩, hx, -, ⟨rfl, hcc, k2, kH⟩ | ⟨rfl, hcc, h4⟩⟩ := loop121_0 (n := n) cs (by omega) (iW k) (iW op) (asW as) (nsW nks) (ksW ks) (by omega) (by omega) st trivial (by simp [← hst]) (by simp [← hst]) (by simp [← hst])
          · rw [hca] at hcc
            subst hcc
            simp only at k2 kH
            by_cases l1 : cs.length = 0
            · have l1i : ((cs.length : Int) = 0) = True := eq_true (by omega)
              have l1e : cs = [] := List.eq_nil_of_length_eq_zero l1
              by_cases l2 : ks.length = 0
              · have l2e : ks = [] := List.eq_nil_of_length_eq_zero l2
                simp [hx, k2, kH, l1e, l2e]
              · have l2i : ((ks.length : Int) = 0) = False := eq_false (by omega)
                have l2e : ks ≠ [] := fun e => l2 (by rw [e]; rfl)
                subst l1e
                simp [hx, k2, kH, l2, l2i, l2e]
                clear hst hx
                generalize hst : St.mk _ _ _ _ = st2
                obtain ⟨e, ⟨τ2, H2, g2, s2⟩, hx, -, ⟨rfl, h0⟩ | ⟨rfl, h0, h2⟩⟩ := loop121_1 (n := n) ks hc (iW k) (iW op) (asW as) (nsW nks) (csW []) (by omega) (by omega) st2 trivial (by simp [← hst, k2]) (by simp [← hst, kH]) (by simp [← hst])
                · simp [hx, h0]
                · simp only at h2
                  simp [hx, h2]
            · have l1i : ((cs.length : Int) = 0) = False := eq_false (by omega)
              have l1e : cs ≠ [] := fun e => l1 (by rw [e]; rfl)
              simp [hx, k2, kH, l1, l1i, l1e]
              clear hst hx
              generalize hst : St.mk _ _ _ _ = st2
              obtain ⟨e, ⟨τ2, H2, g2, s2⟩, hx, -, ⟨rfl, h0⟩ | ⟨rfl, h0, h2⟩⟩ := loop121_1 (n := n) ks hc (iW k) (iW op) (asW as) (nsW nks) (csW cs) (by omega) (by omega) st2 trivial (by simp [← hst, k2]) (by simp [← hst, kH]) (by simp [← hst])
              · simp [hx, h0]
              · simp only at h2
                simp [hx, h2]
          · rw [hca] at hcc
            subst hcc
            simp only at h4
            simp [hx, h4]
        · simp [go_of FT_121 rfl, F121, w1, w2, hnn]
          generalize hst : St.mk _ _ _ _ = st
          obtain ⟨e, ⟨τ', H', g', s'⟩, hx, -, ⟨rfl, hcc, k2, kH⟩ | ⟨rfl, hcc, h4⟩⟩ := loop121_0 (n := n) cs (by omega) (iW k) (iW op) (asW as) (nsW nks) (ksW ks) (by omega) (by omega) st trivial (by simp [← hst]) (by simp [← hst]) (by simp [← hst])
          · rw [hca] at hcc
            subst hcc
            simp only at k2 kH
            by_cases l1 : cs.length = 0
            · have l1i : ((cs.length : Int) = 0) = True := eq_true (by omega)
              have l1e : cs = [] := List.eq_nil_of_length_eq_zero l1
              by_cases l2 : ks.length = 0
              · have l2e : ks = [] := List.eq_nil_of_length_eq_zero l2
                simp [hx, k2, kH, l1e, l2e]
              · have l2i : ((ks.length : Int) = 0) = False := eq_false (by omega)
                have l2e : ks ≠ [] := fun e => l2 (by rw [e]; rfl)
                subst l1e
                simp [hx, k2, kH, l2, l2i, l2e]
                clear hst hx
                generalize hst : St.mk _ _ _ _ = st2
                obtain ⟨e, ⟨τ2, H2, g2, s2⟩, hx, -, ⟨rfl, h0⟩ | ⟨rfl, h0, h2⟩⟩ := loop121_1 (n := n) ks hc (iW k) (iW op) (asW as) (nsW nks) (csW []) (by omega) (by omega) st2 trivial (by simp [← hst, k2]) (by simp [← hst, kH]) (by simp [← hst])
                · simp [hx, h0]
                · simp only at h2
                  simp [hx, h2]
            · have l1i : ((cs.length : Int) = 0) = False := eq_false (by omega)
              have l1e : cs ≠ [] := fun e => l1 (by rw [e]; rfl)
              simp [hx, k2, kH, l1, l1i, l1e]
              clear hst hx
              generalize hst : St.mk _ _ _ _ = st2
              obtain ⟨e, ⟨τ2, H2, g2, s2⟩, hx, -, ⟨rfl, h0⟩ | ⟨rfl, h0, h2⟩⟩ := loop121_1 (n := n) ks hc (iW k) (iW op) (asW as) (nsW nks) (csW cs) (by omega) (by omega) st2 trivial (by simp [← hst, k2]) (by simp [← hst, kH]) (by simp [← hst])
              · simp [hx, h0]
              · simp only at h2
                simp [hx, h2]
          · rw [hca] at hcc
            subst hcc
            simp only at h4
            simp [hx, h4]
      · have hz' := eq_false hz
        have hp : 0 < nw := by omega
        cases b <;> simp [go_of FT_121 rfl, F121, w1, w2, hz', hz, hp]
    · cases b
      · simp [go_of FT_121 rfl, F121, w1, w2, hnn]
        generalize hst : St.mk _ _ _ _ = st
        obtain ⟨e, ⟨τ', H', g', s'⟩, hx, -, ⟨rfl, hcc, k2, kH⟩ | ⟨rfl, hcc, h4⟩⟩ := loop121_0 (n := n) cs (by omega) (iW k) (iW op) (asW as) (nsW nks) (ksW ks) (by omega) (by omega) st trivial (by simp [← hst]) (by simp [← hst]) (by simp [← hst])
        · rw [hca] at hcc
          subst hcc
          simp only at k2 kH
          by_cases l1 : cs.length = 0
          · have l1i : ((cs.length : Int) = 0) = True := eq_true (by omega)
            have l1e : cs = [] := List.eq_nil_of_length_eq_zero l1
            by_cases l2 : ks.length = 0
            · have l2e : ks = [] := List.eq_nil_of_length_eq_zero l2
              simp [hx, k2, kH, l1e, l2e]
            · have l2i : ((ks.length : Int) = 0) = False := eq_false (by omega)
              have l2e : ks ≠ [] := fun e => l2 (by rw [e]; rfl)
              subst l1e
              simp [hx, k2, kH, l2, l2i, l2e]
              clear hst hx
              generalize hst : St.mk _ _ _ _ = st2
              obtain ⟨e, ⟨τ2, H2, g2, s2⟩, hx, -, ⟨rfl, h0⟩ | ⟨rfl, h0, h2⟩⟩ := loop121_1 (n := n) ks hc (iW k) (iW op) (asW as) (nsW nks) (csW []) (by omega) (by omega) st2 trivial (by simp [← hst, k2]) (by simp [← hst, kH]) (by simp [← hst])
              · simp [hx, h0]
              · simp only at h2
                simp [hx, h2]
          · have l1i : ((cs.length : Int) = 0) = False := eq_false (by omega)
            have l1e : cs ≠ [] := fun e => l1 (by rw [e]; rfl)
            simp [hx, k2, kH, l1, l1i, l1e]
            clear hst hx
            generalize hst : St.mk _ _ _ _ = st2
            obtain ⟨e, ⟨τ2, H2, g2, s2⟩, hx, -, ⟨rfl, h0⟩ | ⟨rfl, h0, h2⟩⟩ := loop121_1 (n := n) ks hc (iW k) (iW op) (asW as) (nsW nks) (csW cs) (by omega) (by omega) st2 trivial (by simp [← hst, k2]) (by simp [← hst, kH]) (by simp [← hst])
            · simp [hx, h0]
            · simp only at h2
              simp [hx, h2]
        · rw [hca] at hcc
          subst hcc
          simp only at h4
          simp [hx, h4]
      · simp [go_of FT_121 rfl, F121, w1, w2]


abbrev faultX (c r : Int) : V := .agg [iW c, iW r]

theorem loop145_0 {n : Nat} (l : List Arm) (hc : ∀ x ∈ l, ∀ s, go n 172 [armX x, bV true] [] s = some ⟨iV (x.wrong true), [], []⟩) (hn : l.length < n) (hl : l.length < 2 ^ 40) (st : St) (hx0 : True) (h15 : st.τ 15 = .w (ksW l)) (h16 : st.τ 16 = iV l.length) (h17 : st.τ 17 = iV 0) (h2 : st.τ 2 = .w (.ptr 0 0)) (hH : st.H 0 = .cells [iW 0, iW 0]) (hg0 : 0 < st.g) :
    ∃ e st', execC (go n) mode GT false 31 n F145_L0 st = some (e, st') ∧ e ≠ .normal ∧ ((e = .exit 0 ∧ rungsWrong l = 0 ∧ st'.τ 2 = .w (.ptr 0 0) ∧ st'.H 0 = .cells [iW 0, iW 0]) ∨ (e = .ret ∧ rungsWrong l ≠ 0 ∧ st'.τ 2 = .w (.ptr 0 0) ∧ ∃ r : Int, st'.H 0 = .cells [iW (rungsWrong l), iW r])) := by
  rw [F145_L0, execC_loop]
  refine iter_rule (fun k st => ∃ i, i + k = l.length ∧ rungsWrong (l.take i) = 0 ∧ st.τ 15 = .w (ksW l) ∧ st.τ 16 = iV l.length ∧ st.τ 17 = iV i ∧ st.τ 2 = .w (.ptr 0 0) ∧ st.H 0 = .cells [iW 0, iW 0] ∧ 0 < st.g) ?_ n l.length st hn ⟨0, by omega, by simp [rungsWrong], h15, h16, by simpa using h17, h2, hH, hg0⟩
  rintro k ⟨τ, H, g, s⟩ ⟨i, hk, hx0, h15, h16, h17, h2, hH, hg0⟩
  simp only at hx0 h15 h16 h17 h2 hH hg0
  cases k with
  | zero =>
    have : i = l.length := by omega
    subst this
    refine ⟨.exit 0, ?_⟩
    rw [List.take_length] at hx0
    simp [F145_B0, h15, h16, h17, h2, hH, hx0]
  | succ k =>
    have hlt : i < l.length := by omega
    have hlt' : ((i : Int) < (l.length : Int)) = True := eq_true (by omega)
    have hg := List.getElem?_eq_getElem hlt
    have hmem := List.getElem_mem hlt
    have hw := wrap_succ (i := i) (by omega)
    have hgn : ¬ g = 0 := by omega
    have hgn2 : (0 = g) = False := eq_false (by omega)
    have w := hc _ hmem
    have hor := Arm.wrong_or true l[i]
    generalize hcode : Arm.wrong true l[i] = c at w hor
    obtain ⟨k', op, as, nks, cs, ks, hx⟩ : ∃ k' op as nks cs ks, l[i] = .mk (.mk k' op as nks) cs ks := by
      cases hq : l[i] with | mk nn cs ks => cases nn; exact ⟨_, _, _, _, _, _, rfl⟩
    rw [hx] at hg w hcode
    have hb := armRows_get hg
    by_cases hz : c = 0
    · refine ⟨.normal, ?_⟩
      subst hz
      simp [-getElem?_pos, F145_B0, h15, h16, h17, h2, hH, hgn2, hlt, hlt', hb, w, hw]
      exact ⟨k, by omega, i + 1, by omega, by rw [rungsWrong_take hg hx0, hcode], rfl⟩
    · refine ⟨.ret, ?_⟩
      have hz' := eq_false hz
      have hpos : 0 < c := by omega
      have hpos' := eq_true hpos
      have hfin := rungsWrong_hit hx0 hg (by rw [hcode]; exact hz)
      simp [-getElem?_pos, F145_B0, h15, h16, h17, h2, hH, hgn2, hlt, hlt', hb, w, hw, hz', hpos']
      exact ⟨by rw [hfin, hcode]; exact hz, by rw [hfin, hcode]⟩

theorem loop106_0 {n : Nat} (l : List Arm) (hc : ∀ x ∈ l, ∀ s, go n 121 [armX x, bV true] [] s = some ⟨iV (x.wrong true), [], []⟩) (hn : l.length < n) (hl : l.length < 2 ^ 40) (st : St) (hx0 : True) (h0 : st.τ 0 = .w (ksW l)) (h3 : st.τ 3 = iV 0) (h2 : st.τ 2 = .w (.ptr 0 0)) (hH : st.H 0 = .cells [iW 0, iW 0]) (hg0 : 0 < st.g) :
    ∃ e st', execC (go n) mode GT false 31 n F106_L0 st = some (e, st') ∧ e ≠ .normal ∧ ((e = .exit 0 ∧ rungsWrong l = 0 ∧ st'.τ 2 = .w (.ptr 0 0) ∧ st'.H 0 = .cells [iW 0, iW 0]) ∨ (e = .ret ∧ rungsWrong l ≠ 0 ∧ st'.τ 2 = .w (.ptr 0 0) ∧ ∃ r : Int, st'.H 0 = .cells [iW (rungsWrong l), iW r])) := by
  rw [F106_L0, execC_loop]
  refine iter_rule (fun k st => ∃ i, i + k = l.length ∧ rungsWrong (l.take i) = 0 ∧ st.τ 0 = .w (ksW l) ∧ st.τ 3 = iV i ∧ st.τ 2 = .w (.ptr 0 0) ∧ st.H 0 = .cells [iW 0, iW 0] ∧ 0 < st.g) ?_ n l.length st hn ⟨0, by omega, by simp [rungsWrong], h0, by simpa using h3, h2, hH, hg0⟩
  rintro k ⟨τ, H, g, s⟩ ⟨i, hk, hx0, h0, h3, h2, hH, hg0⟩
  simp only at hx0 h0 h3 h2 hH hg0
  cases k with
  | zero =>
    have : i = l.length := by omega
    subst this
    refine ⟨.exit 0, ?_⟩
    rw [List.take_length] at hx0
    simp [F106_B0, h0, h3, h2, hH, hx0]
  | succ k =>
    have hlt : i < l.length := by omega
    have hlt' : ((i : Int) < (l.length : Int)) = True := eq_true (by omega)
    have hg := List.getElem?_eq_getElem hlt
    have hmem := List.getElem_mem hlt
    have hw := wrap_succ (i := i) (by omega)
    have hgn : ¬ g = 0 := by omega
    have hgn2 : (0 = g) = False := eq_false (by omega)
    have w := hc _ hmem
    have hor := Arm.wrong_or true l[i]
    generalize hcode : Arm.wrong true l[i] = c at w hor
    obtain ⟨k', op, as, nks, cs, ks, hx⟩ : ∃ k' op as nks cs ks, l[i] = .mk (.mk k' op as nks) cs ks := by
      cases hq : l[i] with | mk nn cs ks => cases nn; exact ⟨_, _, _, _, _, _, rfl⟩
    rw [hx] at hg w hcode
    have hb := armRows_get hg
    by_cases hz : c = 0
    · refine ⟨.normal, ?_⟩
      subst hz
      simp [-getElem?_pos, F106_B0, h0, h3, h2, hH, hgn2, hlt, hlt', hb, w, hw]
      exact ⟨k, by omega, i + 1, by omega, by rw [rungsWrong_take hg hx0, hcode], rfl⟩
    · refine ⟨.ret, ?_⟩
      have hz' := eq_false hz
      have hpos : 0 < c := by omega
      have hpos' := eq_true hpos
      have hfin := rungsWrong_hit hx0 hg (by rw [hcode]; exact hz)
      simp [-getElem?_pos, F106_B0, h0, h3, h2, hH, hgn2, hlt, hlt', hb, w, hw, hz', hpos']
      exact ⟨by rw [hfin, hcode]; exact hz, by rw [hfin, hcode]⟩


theorem run_TreeCheck (l : List Arm) (hm : armsWt l < 2 ^ 38) (n : Nat) (hn : 2 * armsWt l + 90 ≤ n) (s : Sup) : ∃ r : Int, (treeCode l = 0 → r = 0) ∧ go n 145 [.w (ksW l)] [] s = some ⟨faultX (treeCode l) r, [], []⟩ := by
  obtain ⟨n, rfl⟩ : ∃ k, n = k + 1 := ⟨n - 1, by omega⟩
  have hlen := armsWt_len l
  have w := run_TreeSize (armsWt l) l (Nat.le_refl _) (by omega) n (by omega)
  have hc : ∀ x ∈ l, ∀ s, go n 172 [armX x, bV true] [] s = some ⟨iV (x.wrong true), [], []⟩ := fun x hx s => run_armWrong (armsWt l) x (armsWt_mem hx) (by omega) true n (by omega) s
  unfold treeCode
  by_cases c1 : 40 < l.length
  · have c1i : ((40 : Int) < (l.length : Int)) = True := eq_true (by omega)
    refine ⟨0, fun _ => rfl, ?_⟩
    rw [if_pos (.inl c1)]
    simp [go_of FT_145 rfl, F145, c1, c1i]
  · have c1i : ((40 : Int) < (l.length : Int)) = False := eq_false (by omega)
    by_cases c2 : 400 < armsSize l
    · have c2i : ((400 : Int) < (armsSize l : Int)) = True := eq_true (by omega)
      refine ⟨0, fun _ => rfl, ?_⟩
      rw [if_pos (.inr c2)]
      simp [go_of FT_145 rfl, F145, c1, c1i, w, c2, c2i]
    · have c2i : ((400 : Int) < (armsSize l : Int)) = False := eq_false (by omega)
      rw [if_neg (by omega)]
      simp [go_of FT_145 rfl, F145, c1, c1i, w, c2, c2i]
      generalize hst : St.mk _ _ _ _ = st
      obtain ⟨e, ⟨τ', H', g', s'⟩, hx, -, ⟨rfl, h0, h2, hH⟩ | ⟨rfl, h0, h2, r, hH⟩⟩ := loop145_0 (n := n) l hc (by omega) (by omega) st trivial (by simp [← hst]) (by simp [← hst]) (by simp [← hst]) (by simp [← hst]) (by simp [← hst]) (by simp [← hst])
      · simp only at h2 hH
        refine ⟨0, fun _ => rfl, ?_⟩
        simp [hx, h0, h2, hH]
      · simp only at h2 hH
        refine ⟨r, fun e => absurd e h0, ?_⟩
        simp [hx, h2, hH]


theorem run_TreeCheckS (l : List Arm) (hm : armsWt l < 2 ^ 38) (n : Nat) (hn : 2 * armsWt l + 90 ≤ n) (s : Sup) : ∃ r : Int, (treeCode l = 0 → r = 0) ∧ go n 106 [.w (ksW l)] [] s = some ⟨faultX (treeCode l) r, [], []⟩ := by
  obtain ⟨n, rfl⟩ : ∃ k, n = k + 1 := ⟨n - 1, by omega⟩
  have hlen := armsWt_len l
  have w := run_TreeSizeS l (by omega) n (by omega)
  have hc : ∀ x ∈ l, ∀ s, go n 121 [armX x, bV true] [] s = some ⟨iV (x.wrong true), [], []⟩ := fun x hx s => run_armWrongS (armsWt l) x (armsWt_mem hx) (by omega) true n (by omega) s
  unfold treeCode
  by_cases c1 : 40 < l.length
  · have c1i : ((40 : Int) < (l.length : Int)) = True := eq_true (by omega)
    refine ⟨0, fun _ => rfl, ?_⟩
    rw [if_pos (.inl c1)]
    simp [go_of FT_106 rfl, F106, c1, c1i]
  · have c1i : ((40 : Int) < (l.length : Int)) = False := eq_false (by omega)
    by_cases c2 : 400 < armsSize l
    · have c2i : ((400 : Int) < (armsSize l : Int)) = True := eq_true (by omega)
      refine ⟨0, fun _ => rfl, ?_⟩
      rw [if_pos (.inr c2)]
      simp [go_of FT_106 rfl, F106, c1, c1i, w, c2, c2i]
    · have c2i : ((400 : Int) < (armsSize l : Int)) = False := eq_false (by omega)
      rw [if_neg (by omega)]
      simp [go_of FT_106 rfl, F106, c1, c1i, w, c2, c2i]
      generalize hst : St.mk _ _ _ _ = st
      obtain ⟨e, ⟨τ', H', g', s'⟩, hx, -, ⟨rfl, h0, h2, hH⟩ | ⟨rfl, h0, h2, r, hH⟩⟩ := loop106_0 (n := n) l hc (by omega) (by omega) st trivial (by simp [← hst]) (by simp [← hst]) (by simp [← hst]) (by simp [← hst]) (by simp [← hst])
      · simp only at h2 hH
        refine ⟨0, fun _ => rfl, ?_⟩
        simp [hx, h0, h2, hH]
      · simp only at h2 hH
        refine ⟨r, fun e => absurd e h0, ?_⟩
        simp [hx, h2, hH]


theorem run_accepted (l : List Arm) (hm : armsWt l < 2 ^ 38) (n : Nat) (hn : 2 * armsWt l + 91 ≤ n) (s : Sup) : go n 123 [.w (ksW l)] [] s = some ⟨sV (.bool (decide (treeCode l = 0))), [], []⟩ := by
  obtain ⟨n, rfl⟩ : ∃ k, n = k + 1 := ⟨n - 1, by omega⟩
  obtain ⟨r, hr⟩ := Classical.skolem.1 fun s => run_TreeCheck l hm n (by omega) s
  have w := fun s => (hr s).2
  by_cases h : treeCode l = 0
  · have hz := fun s => (hr s).1 h
    simp [go_of FT_123 rfl, F123, w, h, hz]
  · simp [go_of FT_123 rfl, F123, w, h]

end Go.VM

/- Ladders compared, reckoned. Conditions: none. -/
namespace Go.VM
set_option linter.unusedSimpArgs false
set_option linter.unusedVariables false
set_option maxHeartbeats 8000000

noncomputable def eqB {α : Type} (a b : α) : Bool := @decide (a = b) (Classical.propDecidable _)
theorem eqB_true {α : Type} {a b : α} (h : a = b) : eqB a b = true := by unfold eqB; exact @decide_eq_true _ (_) h
theorem eqB_false {α : Type} {a b : α} (h : a ≠ b) : eqB a b = false := by unfold eqB; exact @decide_eq_false _ (_) h
theorem eqB_iff {α : Type} {a b : α} : eqB a b = true ↔ a = b := by
  by_cases h : a = b
  · exact ⟨fun _ => h, fun _ => eqB_true h⟩
  · simp [eqB_false h, h]
theorem eqB_of {α : Type} {a b : α} {c : Bool} (h : c = true ↔ a = b) : c = eqB a b := by
  cases hc : c with
  | true => exact (eqB_true (h.1 hc)).symm
  | false =>
    refine (eqB_false fun e => ?_).symm
    have := h.2 e
    rw [hc] at this; cases this
theorem take_eq {α : Type} {l m : List α} {i : Nat} {x : α} (h : l.take i = m.take i) (h1 : l[i]? = some x) (h2 : m[i]? = some x) : l.take (i + 1) = m.take (i + 1) := by
  rw [List.take_add_one, List.take_add_one, h, h1, h2]

theorem loop176_0 {n : Nat} (l : List Arg) (m : List Arg) (hlm : l.length = m.length) (hn : l.length < n) (hl : l.length < 2 ^ 40) (st : St) (ht : True) (h0 : st.τ 0 = .w (asW l)) (h1 : st.τ 1 = .w (asW m)) (h12 : st.τ 12 = iV l.length) (h13 : st.τ 13 = iV 0) :
    ∃ e st', execC (go n) mode GT false 26 n F176_L0 st = some (e, st') ∧ e ≠ .normal ∧ ((e = .exit 0 ∧ l = m) ∨ (e = .ret ∧ l ≠ m ∧ st'.τ 4 = sV (.bool false))) := by
  rw [F176_L0, execC_loop]
  refine iter_rule (fun k st => ∃ i, i + k = l.length ∧ l.take i = m.take i ∧ st.τ 0 = .w (asW l) ∧ st.τ 1 = .w (asW m) ∧ st.τ 12 = iV l.length ∧ st.τ 13 = iV i) ?_ n l.length st hn ⟨0, by omega, by simp, h0, h1, h12, by simpa using h13⟩
  rintro k ⟨τ, H, g, s⟩ ⟨i, hk, ht, h0, h1, h12, h13⟩
  simp only at ht h0 h1 h12 h13
  cases k with
  | zero =>
    have : i = l.length := by omega
    subst this
    refine ⟨.exit 0, ?_⟩
    have hlm2 : l = m := by rw [List.take_length, hlm, List.take_length] at ht; exact ht
    simp [F176_B0, h0, h1, h12, h13, hlm2]
  | succ k =>
    have hlt : i < l.length := by omega
    have hlt' : ((i : Int) < (l.length : Int)) = True := eq_true (by omega)
    have hg := List.getElem?_eq_getElem hlt
    have hmem := List.getElem_mem hlt
    have hw := wrap_succ (i := i) (by omega)
    have hltm : i < m.length := by omega
    have hgm := List.getElem?_eq_getElem hltm
    have hb := argRows_get hg
    have hbm := argRows_get hgm
    by_cases he : l[i] = m[i]
    · refine ⟨.normal, ?_⟩
      have he1 : l[i].k = m[i].k := by rw [he]
      have he2 : l[i].n = m[i].n := by rw [he]
      have he3 : l[i].p = m[i].p := by rw [he]
      simp [-getElem?_pos, F176_B0, h0, h1, h12, h13, hlt, hlt', hb, hbm, he1, he2, he3, hw]
      exact ⟨k, by omega, i + 1, by omega, take_eq ht hg (by rw [hgm, he]), rfl⟩
    · refine ⟨.ret, ?_⟩
      have hne : ((l[i].k == m[i].k) && ((l[i].n == m[i].n) && (l[i].p == m[i].p))) = false := by
        rw [Bool.eq_false_iff]
        intro h
        simp only [Bool.and_eq_true, beq_iff_eq] at h
        refine he ?_
        generalize l[i] = x at h ⊢
        generalize m[i] = y at h ⊢
        cases x; cases y
        simp only at h
        rw [h.1, h.2.1, h.2.2]
      simp [-getElem?_pos, F176_B0, h0, h1, h12, h13, hlt, hlt', hb, hbm, hne]
      intro e; subst e; exact he rfl


theorem run_argsSame {n : Nat} (l m : List Arg) (hn : l.length + 2 ≤ n) (hl : l.length < 2 ^ 40) (s : Sup) : go n 176 [.w (asW l), .w (asW m)] [] s = some ⟨sV (.bool (decide (l = m))), [], []⟩ := by
  obtain ⟨n, rfl⟩ : ∃ k, n = k + 1 := ⟨n - 1, by omega⟩
  by_cases hlm : l.length = m.length
  · have hlmi : ((l.length : Int) = m.length) = True := eq_true (by omega)
    simp [go_of FT_176 rfl, F176, hlm, hlmi]
    generalize hst : St.mk _ _ _ _ = st
    obtain ⟨e, ⟨τ', H', g', s'⟩, hx, -, ⟨rfl, h⟩ | ⟨rfl, h, h4⟩⟩ := loop176_0 (n := n) l m hlm (by omega) hl st trivial (by simp [← hst]) (by simp [← hst]) (by simp [← hst, hlm]) (by simp [← hst])
    · simp [hx, h]
    · simp only at h4
      simp [hx, h, h4]
  · have hlmi : ((l.length : Int) = m.length) = False := eq_false (by omega)
    have : l ≠ m := fun e => hlm (by rw [e])
    simp [go_of FT_176 rfl, F176, hlm, hlmi, this]
theorem run_elemSame {n : Nat} (a b : El) (hn : a.as.length + 3 ≤ n) (hl : a.as.length < 2 ^ 40) (s : Sup) : go n 150 [elX a, elX b] [] s = some ⟨sV (.bool (decide (a = b))), [], []⟩ := by
  obtain ⟨n, rfl⟩ : ∃ k, n = k + 1 := ⟨n - 1, by omega⟩
  obtain ⟨p, x⟩ := a
  obtain ⟨q, y⟩ := b
  have w := run_argsSame (n := n) x y (by simp only at hn; omega) hl
  by_cases h : p = q
  · simp [go_of FT_150 rfl, F150, h, w]
  · simp [go_of FT_150 rfl, F150, h]

theorem loop175_0 {n : Nat} (l : List Net) (m : List Net) (hlm : l.length = m.length) (hc : ∀ x ∈ l, ∀ y s, go n 148 [netX x, netX y] [] s = some ⟨bV (eqB x y), [], []⟩) (hn : l.length < n) (hl : l.length < 2 ^ 40) (st : St) (ht : True) (h1 : st.τ 1 = .w (nsW m)) (h2 : st.τ 2 = .w (.fn 148 [])) (h15 : st.τ 15 = .w (nsW l)) (h16 : st.τ 16 = iV l.length) (h17 : st.τ 17 = iV 0) :
    ∃ e st', execC (go n) mode GT false 32 n F175_L0 st = some (e, st') ∧ e ≠ .normal ∧ ((e = .exit 0 ∧ l = m) ∨ (e = .ret ∧ l ≠ m ∧ st'.τ 6 = sV (.bool false))) := by
  rw [F175_L0, execC_loop]
  refine iter_rule (fun k st => ∃ i, i + k = l.length ∧ l.take i = m.take i ∧ st.τ 1 = .w (nsW m) ∧ st.τ 2 = .w (.fn 148 []) ∧ st.τ 15 = .w (nsW l) ∧ st.τ 16 = iV l.length ∧ st.τ 17 = iV i) ?_ n l.length st hn ⟨0, by omega, by simp, h1, h2, h15, h16, by simpa using h17⟩
  rintro k ⟨τ, H, g, s⟩ ⟨i, hk, ht, h1, h2, h15, h16, h17⟩
  simp only at ht h1 h2 h15 h16 h17
  cases k with
  | zero =>
    have : i = l.length := by omega
    subst this
    refine ⟨.exit 0, ?_⟩
    have hlm2 : l = m := by rw [List.take_length, hlm, List.take_length] at ht; exact ht
    simp [F175_B0, h1, h2, h15, h16, h17, hlm2]
  | succ k =>
    have hlt : i < l.length := by omega
    have hlt' : ((i : Int) < (l.length : Int)) = True := eq_true (by omega)
    have hg := List.getElem?_eq_getElem hlt
    have hmem := List.getElem_mem hlt
    have hw := wrap_succ (i := i) (by omega)
    have hltm : i < m.length := by omega
    have hgm := List.getElem?_eq_getElem hltm
    have w := hc _ hmem m[i]
    have hor : l[i] = m[i] ∨ l[i] ≠ m[i] := Classical.em _
    have hdiff : l[i] ≠ m[i] → l ≠ m := fun h e => by subst e; exact h rfl
    have htake : l[i] = m[i] → l.take (i + 1) = m.take (i + 1) := fun h => take_eq ht hg (by rw [hgm, h])
    obtain ⟨k1, op1, as1, ks1, hx⟩ : ∃ k' op as ks, l[i] = .mk k' op as ks := by cases l[i]; exact ⟨_, _, _, _, rfl⟩
    obtain ⟨k2, op2, as2, ks2, hy⟩ : ∃ k' op as ks, m[i] = .mk k' op as ks := by cases m[i]; exact ⟨_, _, _, _, rfl⟩
    rw [hx, hy] at hor w
    rw [hx, hy] at hdiff htake
    rw [hx] at hg
    rw [hy] at hgm
    have hb := netRows_get hg
    have hbm := netRows_get hgm
    rcases hor with he | he
    · refine ⟨.normal, ?_⟩
      rw [eqB_true he] at w
      simp [-getElem?_pos, F175_B0, h1, h2, h15, h16, h17, hlt, hlt', hb, hbm, w, hw]
      exact ⟨k, by omega, i + 1, by omega, htake he, rfl⟩
    · refine ⟨.ret, ?_⟩
      rw [eqB_false he] at w
      simp [-getElem?_pos, F175_B0, h1, h2, h15, h16, h17, hlt, hlt', hb, hbm, w, hdiff he]

theorem loop149_0 {n : Nat} (l : List El) (m : List El) (hlm : l.length = m.length) (hc : ∀ x ∈ l, ∀ y s, go n 150 [elX x, elX y] [] s = some ⟨bV (eqB x y), [], []⟩) (hn : l.length < n) (hl : l.length < 2 ^ 40) (st : St) (ht : True) (h1 : st.τ 1 = .w (csW m)) (h2 : st.τ 2 = .w (.fn 150 [])) (h15 : st.τ 15 = .w (csW l)) (h16 : st.τ 16 = iV l.length) (h17 : st.τ 17 = iV 0) :
    ∃ e st', execC (go n) mode GT false 32 n F149_L0 st = some (e, st') ∧ e ≠ .normal ∧ ((e = .exit 0 ∧ l = m) ∨ (e = .ret ∧ l ≠ m ∧ st'.τ 6 = sV (.bool false))) := by
  rw [F149_L0, execC_loop]
  refine iter_rule (fun k st => ∃ i, i + k = l.length ∧ l.take i = m.take i ∧ st.τ 1 = .w (csW m) ∧ st.τ 2 = .w (.fn 150 []) ∧ st.τ 15 = .w (csW l) ∧ st.τ 16 = iV l.length ∧ st.τ 17 = iV i) ?_ n l.length st hn ⟨0, by omega, by simp, h1, h2, h15, h16, by simpa using h17⟩
  rintro k ⟨τ, H, g, s⟩ ⟨i, hk, ht, h1, h2, h15, h16, h17⟩
  simp only at ht h1 h2 h15 h16 h17
  cases k with
  | zero =>
    have : i = l.length := by omega
    subst this
    refine ⟨.exit 0, ?_⟩
    have hlm2 : l = m := by rw [List.take_length, hlm, List.take_length] at ht; exact ht
    simp [F149_B0, h1, h2, h15, h16, h17, hlm2]
  | succ k =>
    have hlt : i < l.length := by omega
    have hlt' : ((i : Int) < (l.length : Int)) = True := eq_true (by omega)
    have hg := List.getElem?_eq_getElem hlt
    have hmem := List.getElem_mem hlt
    have hw := wrap_succ (i := i) (by omega)
    have hltm : i < m.length := by omega
    have hgm := List.getElem?_eq_getElem hltm
    have w := hc _ hmem m[i]
    have hor : l[i] = m[i] ∨ l[i] ≠ m[i] := Classical.em _
    have hdiff : l[i] ≠ m[i] → l ≠ m := fun h e => by subst e; exact h rfl
    have htake : l[i] = m[i] → l.take (i + 1) = m.take (i + 1) := fun h => take_eq ht hg (by rw [hgm, h])
    have hb := elRows_get hg
    have hbm := elRows_get hgm
    rcases hor with he | he
    · refine ⟨.normal, ?_⟩
      rw [eqB_true he] at w
      simp [-getElem?_pos, F149_B0, h1, h2, h15, h16, h17, hlt, hlt', hb, hbm, w, hw]
      exact ⟨k, by omega, i + 1, by omega, htake he, rfl⟩
    · refine ⟨.ret, ?_⟩
      rw [eqB_false he] at w
      simp [-getElem?_pos, F149_B0, h1, h2, h15, h16, h17, hlt, hlt', hb, hbm, w, hdiff he]

theorem loop126_0 {n : Nat} (l : List Arm) (m : List Arm) (hlm : l.length = m.length) (hc : ∀ x ∈ l, ∀ y s, go n 127 [armX x, armX y] [] s = some ⟨bV (eqB x y), [], []⟩) (hn : l.length < n) (hl : l.length < 2 ^ 40) (st : St) (ht : True) (h1 : st.τ 1 = .w (ksW m)) (h2 : st.τ 2 = .w (.fn 127 [])) (h15 : st.τ 15 = .w (ksW l)) (h16 : st.τ 16 = iV l.length) (h17 : st.τ 17 = iV 0) :
    ∃ e st', execC (go n) mode GT false 32 n F126_L0 st = some (e, st') ∧ e ≠ .normal ∧ ((e = .exit 0 ∧ l = m) ∨ (e = .ret ∧ l ≠ m ∧ st'.τ 6 = sV (.bool false))) := by
  rw [F126_L0, execC_loop]
  refine iter_rule (fun k st => ∃ i, i + k = l.length ∧ l.take i = m.take i ∧ st.τ 1 = .w (ksW m) ∧ st.τ 2 = .w (.fn 127 []) ∧ st.τ 15 = .w (ksW l) ∧ st.τ 16 = iV l.length ∧ st.τ 17 = iV i) ?_ n l.length st hn ⟨0, by omega, by simp, h1, h2, h15, h16, by simpa using h17⟩
  rintro k ⟨τ, H, g, s⟩ ⟨i, hk, ht, h1, h2, h15, h16, h17⟩
  simp only at ht h1 h2 h15 h16 h17
  cases k with
  | zero =>
    have : i = l.length := by omega
    subst this
    refine ⟨.exit 0, ?_⟩
    have hlm2 : l = m := by rw [List.take_length, hlm, List.take_length] at ht; exact ht
    simp [F126_B0, h1, h2, h15, h16, h17, hlm2]
  | succ k =>
    have hlt : i < l.length := by omega
    have hlt' : ((i : Int) < (l.length : Int)) = True := eq_true (by omega)
    have hg := List.getElem?_eq_getElem hlt
    have hmem := List.getElem_mem hlt
    have hw := wrap_succ (i := i) (by omega)
    have hltm : i < m.length := by omega
    have hgm := List.getElem?_eq_getElem hltm
    have w := hc _ hmem m[i]
    have hor : l[i] = m[i] ∨ l[i] ≠ m[i] := Classical.em _
    have hdiff : l[i] ≠ m[i] → l ≠ m := fun h e => by subst e; exact h rfl
    have htake : l[i] = m[i] → l.take (i + 1) = m.take (i + 1) := fun h => take_eq ht hg (by rw [hgm, h])
    obtain ⟨k1, op1, as1, nks1, cs1, ks1, hx⟩ : ∃ k' op as nks cs ks, l[i] = .mk (.mk k' op as nks) cs ks := by
      cases hq : l[i] with | mk nn cs ks => cases nn; exact ⟨_, _, _, _, _, _, rfl⟩
    obtain ⟨k2, op2, as2, nks2, cs2, ks2, hy⟩ : ∃ k' op as nks cs ks, m[i] = .mk (.mk k' op as nks) cs ks := by
      cases hq : m[i] with | mk nn cs ks => cases nn; exact ⟨_, _, _, _, _, _, rfl⟩
    rw [hx, hy] at hor w
    rw [hx, hy] at hdiff htake
    rw [hx] at hg
    rw [hy] at hgm
    have hb := armRows_get hg
    have hbm := armRows_get hgm
    rcases hor with he | he
    · refine ⟨.normal, ?_⟩
      rw [eqB_true he] at w
      simp [-getElem?_pos, F126_B0, h1, h2, h15, h16, h17, hlt, hlt', hb, hbm, w, hw]
      exact ⟨k, by omega, i + 1, by omega, htake he, rfl⟩
    · refine ⟨.ret, ?_⟩
      rw [eqB_false he] at w
      simp [-getElem?_pos, F126_B0, h1, h2, h15, h16, h17, hlt, hlt', hb, hbm, w, hdiff he]


theorem run_netsSame {n : Nat} (l m : List Net) (hc : ∀ x ∈ l, ∀ y s, go n 148 [netX x, netX y] [] s = some ⟨bV (eqB x y), [], []⟩) (hn : l.length < n) (hl : l.length < 2 ^ 40) (s : Sup) :
    go (n + 1) 175 [.w (nsW l), .w (nsW m), .w (.fn 148 [])] [] s = some ⟨bV (eqB l m), [], []⟩ := by
  by_cases hlm : l.length = m.length
  · have hlmi : ((l.length : Int) = m.length) = True := eq_true (by omega)
    simp [go_of FT_175 rfl, F175, hlm, hlmi]
    generalize hst : St.mk _ _ _ _ = st
    obtain ⟨e, ⟨τ', H', g', s'⟩, hx, -, ⟨rfl, h⟩ | ⟨rfl, h, h4⟩⟩ := loop175_0 (n := n) l m hlm hc (by omega) hl st trivial (by simp [← hst]) (by simp [← hst]) (by simp [← hst]) (by simp [← hst, hlm]) (by simp [← hst])
    · simp [hx, eqB_true h]
    · simp only at h4
      simp [hx, eqB_false h, h4]
  · have hlmi : ((l.length : Int) = m.length) = False := eq_false (by omega)
    have : l ≠ m := fun e => hlm (by rw [e])
    simp [go_of FT_175 rfl, F175, hlm, hlmi, eqB_false this]


theorem run_elsSame {n : Nat} (l m : List El) (hc : ∀ x ∈ l, ∀ y s, go n 150 [elX x, elX y] [] s = some ⟨bV (eqB x y), [], []⟩) (hn : l.length < n) (hl : l.length < 2 ^ 40) (s : Sup) :
    go (n + 1) 149 [.w (csW l), .w (csW m), .w (.fn 150 [])] [] s = some ⟨bV (eqB l m), [], []⟩ := by
  by_cases hlm : l.length = m.length
  · have hlmi : ((l.length : Int) = m.length) = True := eq_true (by omega)
    simp [go_of FT_149 rfl, F149, hlm, hlmi]
    generalize hst : St.mk _ _ _ _ = st
    obtain ⟨e, ⟨τ', H', g', s'⟩, hx, -, ⟨rfl, h⟩ | ⟨rfl, h, h4⟩⟩ := loop149_0 (n := n) l m hlm hc (by omega) hl st trivial (by simp [← hst]) (by simp [← hst]) (by simp [← hst]) (by simp [← hst, hlm]) (by simp [← hst])
    · simp [hx, eqB_true h]
    · simp only at h4
      simp [hx, eqB_false h, h4]
  · have hlmi : ((l.length : Int) = m.length) = False := eq_false (by omega)
    have : l ≠ m := fun e => hlm (by rw [e])
    simp [go_of FT_149 rfl, F149, hlm, hlmi, eqB_false this]


theorem run_armsSame {n : Nat} (l m : List Arm) (hc : ∀ x ∈ l, ∀ y s, go n 127 [armX x, armX y] [] s = some ⟨bV (eqB x y), [], []⟩) (hn : l.length < n) (hl : l.length < 2 ^ 40) (s : Sup) :
    go (n + 1) 126 [.w (ksW l), .w (ksW m), .w (.fn 127 [])] [] s = some ⟨bV (eqB l m), [], []⟩ := by
  by_cases hlm : l.length = m.length
  · have hlmi : ((l.length : Int) = m.length) = True := eq_true (by omega)
    simp [go_of FT_126 rfl, F126, hlm, hlmi]
    generalize hst : St.mk _ _ _ _ = st
    obtain ⟨e, ⟨τ', H', g', s'⟩, hx, -, ⟨rfl, h⟩ | ⟨rfl, h, h4⟩⟩ := loop126_0 (n := n) l m hlm hc (by omega) hl st trivial (by simp [← hst]) (by simp [← hst]) (by simp [← hst]) (by simp [← hst, hlm]) (by simp [← hst])
    · simp [hx, eqB_true h]
    · simp only at h4
      simp [hx, eqB_false h, h4]
  · have hlmi : ((l.length : Int) = m.length) = False := eq_false (by omega)
    have : l ≠ m := fun e => hlm (by rw [e])
    simp [go_of FT_126 rfl, F126, hlm, hlmi, eqB_false this]


theorem run_netSame : ∀ (m : Nat) (t u : Net), t.wt ≤ m → m < 2 ^ 39 → ∀ (n : Nat), 2 * m + 6 ≤ n → ∀ s, go n 148 [netX t, netX u] [] s = some ⟨bV (eqB t u), [], []⟩
  | 0, t, u, h, hm, n, hn, s => by have := t.wt_pos; omega
  | m + 1, .mk k op as ks, .mk k2 op2 as2 ks2, h, hm, n, hn, s => by
    obtain ⟨n, rfl⟩ : ∃ k, n = k + 2 := ⟨n - 2, by omega⟩
    have hlen := netsWt_len ks
    simp only [Net.wt] at h
    have hc : ∀ x ∈ ks, ∀ y s, go n 148 [netX x, netX y] [] s = some ⟨bV (eqB x y), [], []⟩ := fun x hx y s => run_netSame m x y (by have := netsWt_mem hx; omega) (by omega) n (by omega) s
    have w1 := run_netsSame (n := n) ks ks2 hc (by omega) (by omega)
    have w2 := run_elemSame (n := n + 1) ⟨op, as⟩ ⟨op2, as2⟩ (by simp only; omega) (by simp only; omega)
    by_cases h1 : k = k2
    · by_cases h2 : (⟨op, as⟩ : El) = ⟨op2, as2⟩
      · rw [decide_eq_true h2] at w2
        have e : eqB ks ks2 = eqB (Net.mk k op as ks) (Net.mk k2 op2 as2 ks2) := eqB_of (by rw [eqB_iff]; cases h2; subst h1; simp)
        rw [← e]
        simp [go_of FT_148 rfl, F148, h1, w1, w2]
      · rw [decide_eq_false h2] at w2
        rw [eqB_false (a := Net.mk k op as ks) (fun e => h2 (by cases e; rfl))]
        simp [go_of FT_148 rfl, F148, h1, w2]
    · rw [eqB_false (a := Net.mk k op as ks) (fun e => h1 (by cases e; rfl))]
      simp [go_of FT_148 rfl, F148, h1]

theorem run_arm1Same {n : Nat} (a b : Arm) (hk : ∀ s, go (n + 2) 109 [.w (ksW a.kids), .w (ksW b.kids)] [] s = some ⟨bV (eqB a.kids b.kids), [], []⟩) (hn : 2 * a.wt + 10 ≤ n) (hl : a.wt < 2 ^ 38) (s : Sup) :
    go (n + 3) 127 [armX a, armX b] [] s = some ⟨bV (eqB a b), [], []⟩ := by
  obtain ⟨⟨k, op, as, nks⟩, cs, ks⟩ := a
  obtain ⟨⟨k2, op2, as2, nks2⟩, cs2, ks2⟩ := b
  simp only [Arm.wt] at hn hl
  simp only [Arm.kids] at hk
  have hcl := elsWt_len cs
  have w1 := run_netSame (Net.wt (.mk k op as nks)) (.mk k op as nks) (.mk k2 op2 as2 nks2) (Nat.le_refl _) (by omega) (n + 2) (by omega)
  have w2 := run_elsSame (n := n + 1) cs cs2 (fun x hx y s => by
    have := elsWt_mem hx
    have e := run_elemSame (n := n + 1) x y (by simp only [El.wt] at this; omega) (by simp only [El.wt] at this; omega) s
    rw [e]
    have : decide (x = y) = eqB x y := eqB_of (by simp)
    rw [this]; rfl) (by omega) (by omega)
  by_cases h1 : (Net.mk k op as nks) = .mk k2 op2 as2 nks2
  · rw [eqB_true h1] at w1
    by_cases h2 : cs = cs2
    · rw [eqB_true h2] at w2
      have e : eqB ks ks2 = eqB (Arm.mk (.mk k op as nks) cs ks) (.mk (.mk k2 op2 as2 nks2) cs2 ks2) := eqB_of (by rw [eqB_iff]; cases h1; subst h2; simp)
      rw [← e]
      simp [go_of FT_127 rfl, F127, w1, w2, hk]
    · rw [eqB_false h2] at w2
      rw [eqB_false (a := Arm.mk (.mk k op as nks) cs ks) (fun e => h2 (by cases e; rfl))]
      simp [go_of FT_127 rfl, F127, w1, w2]
  · rw [eqB_false h1] at w1
    rw [eqB_false (a := Arm.mk (.mk k op as nks) cs ks) (fun e => h1 (by cases e; rfl))]
    simp [go_of FT_127 rfl, F127, w1]

theorem run_TreeSame : ∀ (m : Nat) (l u : List Arm), armsWt l ≤ m → m < 2 ^ 38 → ∀ (n : Nat), 3 * m + 20 ≤ n → ∀ s, go n 109 [.w (ksW l), .w (ksW u)] [] s = some ⟨bV (eqB l u), [], []⟩ := by
  intro m
  induction m with
  | zero =>
    intro l u h hm n hn s
    obtain ⟨n, rfl⟩ : ∃ k, n = k + 2 := ⟨n - 2, by omega⟩
    have e : l = [] := by
      cases l with
      | nil => rfl
      | cons a r => have := a.wt_pos; simp [armsWt] at h; omega
    subst e
    have w := run_armsSame (n := n) [] u (fun x hx => by cases hx) (by simp; omega) (by simp)
    simp [go_of FT_109 rfl, F109, w]
  | succ m ih =>
    intro l u h hm n hn s
    obtain ⟨n, rfl⟩ : ∃ k, n = k + 5 := ⟨n - 5, by omega⟩
    have hlen := armsWt_len l
    have w := run_armsSame (n := n + 3) l u (fun x hx y s => by
      have hx' := armsWt_mem hx
      refine run_arm1Same x y (fun s => ih x.kids y.kids ?_ (by omega) (n + 2) (by omega) s) (by omega) (by omega) s
      cases x; simp [Arm.wt] at hx'; simp [Arm.kids]; omega) (by omega) (by omega)
    simp [go_of FT_109 rfl, F109, w]

end Go.VM
