/- Nets, reckoned: how large, whether right; what the program and what the document says. Conditions: none. -/
import Derived.Test.YtfpkfcfiihfopaaDoorXVN2

namespace Go.VM
set_option linter.unusedSimpArgs false
set_option linter.unusedVariables false
set_option maxHeartbeats 8000000
abbrev nsW (l : List Net) : W := .d (.l 0 (netRows l))
abbrev asW (l : List Arg) : W := .d (.l 0 (argRows l))
abbrev netX : Net → V | .mk k op as ks => .agg [iW k, iW op, asW as, nsW ks]
theorem netsSize_take {l : List Net} {i : Nat} {x : Net} (h : l[i]? = some x) : netsSize (l.take (i + 1)) = netsSize (l.take i) + x.size := by
 rw [List.take_add_one, h]; simp [netsSize_append, netsSize]
mutual
theorem size_le : ∀ n : Net, n.size ≤ n.wt
 | .mk k op as ks => by have := netsSize_le ks; simp [Net.size, Net.wt]; omega
theorem netsSize_le : ∀ l : List Net, netsSize l ≤ netsWt l
 | [] => by simp [netsSize]
 | n :: r => by have := size_le n; have := netsSize_le r; simp [netsSize, netsWt]; omega
end
theorem netsSize_take_le (l : List Net) (i : Nat) : netsSize (l.take i) ≤ netsSize l := by
 have := netsSize_append (l.take i) (l.drop i); rw [List.take_append_drop] at this; omega
theorem wrap_cast {a : Int} {m : Nat} (h : a = m) (hm : m < 2 ^ 62) : IntKind.wrap .i64 a = m := by rw [h]; exact wrap_id (by omega) (by omega)
theorem loop118_0 {n : Nat} (l : List Net) (hc : ∀ x ∈ l, ∀ s, go n 118 [netX x] [] s = some ⟨iV x.size, [], []⟩) (hsz : netsSize l < 2 ^ 40) (hn : l.length < n) (hl : l.length < 2 ^ 40) (st : St) (h3 : st.τ 3 = iV 1) (h7 : st.τ 7 = .w (nsW l)) (h8 : st.τ 8 = iV l.length) (h9 : st.τ 9 = iV 0) :
 ∃ e st', execC (go n) mode GT false 19 n F118_L0 st = some (e, st') ∧ e ≠ .normal ∧ (e = .exit 0 ∧ st'.τ 3 = iV (1 + netsSize l : Nat)) := by
 rw [F118_L0, execC_loop]; refine iter_rule (fun k st => ∃ i, i + k = l.length ∧ st.τ 3 = iV (1 + netsSize (l.take i) : Nat) ∧ st.τ 7 = .w (nsW l) ∧ st.τ 8 = iV l.length ∧ st.τ 9 = iV i) ?_ n l.length st hn ⟨0, by omega, by simpa [netsSize] using h3, h7, h8, by simpa using h9⟩
 rintro k ⟨τ, H, g, s⟩ ⟨i, hk, h3, h7, h8, h9⟩; simp only at h3 h7 h8 h9; cases k with
 | zero =>
  have : i = l.length := by omega
  subst this; refine ⟨.exit 0, ?_⟩
  rw [List.take_length] at h3; simp [F118_B0, h3, h7, h8, h9]
 | succ k =>
  have hlt : i < l.length := by omega
  have hlt' := ltT hlt; have hg := List.getElem?_eq_getElem hlt; have hmem := List.getElem_mem hlt; have hw := wrap_succ (i := i) (by omega); have w := hc _ hmem; have hs := netsSize_take hg; have hs2 := netsSize_take_le l (i + 1); obtain ⟨k', op, as, ks, hx⟩ : ∃ k' op as ks, l[i] = .mk k' op as ks := by cases l[i]; exact ⟨_, _, _, _, rfl⟩
  rw [hx] at hg w hs; have hb := netRows_get hg; have hadd : IntKind.wrap .i64 ((1 + netsSize (l.take i) : Nat) + (Net.size (.mk k' op as ks) : Int)) = (1 + netsSize (l.take (i + 1)) : Nat) := wrap_cast (by omega) (by omega); refine ⟨.normal, ?_⟩
  simp [-getElem?_pos, -Int.natCast_add, F118_B0, h3, h7, h8, h9, hlt, hlt', hb, w, hw, hadd]; exact ⟨k, by omega, i + 1, by omega, rfl, rfl⟩
theorem loop144_0 {n : Nat} (l : List Net) (hc : ∀ x ∈ l, ∀ s, go n 144 [netX x] [] s = some ⟨iV x.size, [], []⟩) (hsz : netsSize l < 2 ^ 40) (k0 op0 : W) (as0 : W) (hn : l.length < n) (hl : l.length < 2 ^ 40) (st : St) (h1 : st.τ 1 = .w (.ptr 0 0)) (hH : st.H 0 = .cells [k0, op0, as0, nsW l]) (h3 : st.τ 3 = iV 1) (h4 : st.τ 4 = iV 0) :
 ∃ e st', execC (go n) mode GT false 21 n F144_L0 st = some (e, st') ∧ e ≠ .normal ∧ (e = .exit 0 ∧ st'.τ 3 = iV (1 + netsSize l : Nat)) := by
 rw [F144_L0, execC_loop]; refine iter_rule (fun k st => ∃ i, i + k = l.length ∧ st.τ 1 = .w (.ptr 0 0) ∧ st.H 0 = .cells [k0, op0, as0, nsW l] ∧ st.τ 3 = iV (1 + netsSize (l.take i) : Nat) ∧ st.τ 4 = iV i) ?_ n l.length st hn ⟨0, by omega, h1, hH, by simpa [netsSize] using h3, by simpa using h4⟩
 rintro k ⟨τ, H, g, s⟩ ⟨i, hk, h1, hH, h3, h4⟩; simp only at h1 hH h3 h4; cases k with
 | zero =>
  have : i = l.length := by omega
  subst this; refine ⟨.exit 0, ?_⟩
  rw [List.take_length] at h3; simp [F144_B0, h1, hH, h3, h4]
 | succ k =>
  have hlt : i < l.length := by omega
  have hlt' := ltT hlt; have hg := List.getElem?_eq_getElem hlt; have hmem := List.getElem_mem hlt; have hw := wrap_succ (i := i) (by omega); have w := hc _ hmem; have hs := netsSize_take hg; have hs2 := netsSize_take_le l (i + 1); obtain ⟨k', op, as, ks, hx⟩ : ∃ k' op as ks, l[i] = .mk k' op as ks := by cases l[i]; exact ⟨_, _, _, _, rfl⟩
  rw [hx] at hg w hs; have hb := netRows_get hg; have hadd : IntKind.wrap .i64 ((1 + netsSize (l.take i) : Nat) + (Net.size (.mk k' op as ks) : Int)) = (1 + netsSize (l.take (i + 1)) : Nat) := wrap_cast (by omega) (by omega); refine ⟨.normal, ?_⟩
  simp [-getElem?_pos, -Int.natCast_add, F144_B0, h1, hH, h3, h4, hlt, hlt', hb, w, hw, hadd]; exact ⟨k, by omega, i + 1, by omega, rfl, rfl⟩
theorem run_size : ∀ (m : Nat) (t : Net), t.wt ≤ m → m < 2 ^ 40 → ∀ (n : Nat), m + 4 ≤ n → ∀ s, go n 118 [netX t] [] s = some ⟨iV t.size, [], []⟩
 | 0, t, h, hm, n, hn, s => by have := t.wt_pos; omega
 | m + 1, .mk k op as ks, h, hm, n, hn, s => by
  obtain ⟨n, rfl⟩ : ∃ k, n = k + 1 := ⟨n - 1, by omega⟩; have hlen := netsWt_len ks; have hsl := netsSize_le ks; simp only [Net.wt] at h; have hc : ∀ x ∈ ks, ∀ s, go n 118 [netX x] [] s = some ⟨iV x.size, [], []⟩ := fun x hx s => run_size m x (by have := netsWt_mem hx; omega) (by omega) n (by omega) s
  simp [go_of FT_118 rfl, F118]; generalize hst : St.mk _ _ _ _ = st; obtain ⟨e, ⟨τ', H', g', s'⟩, hx, -, rfl, h3⟩ := loop118_0 (n := n) ks hc (by omega) (by omega) (by omega) st (by simp [← hst]) (by simp [← hst]) (by simp [← hst]) (by simp [← hst]); simp only at h3; simp [-Int.natCast_add, hx, h3, Net.size]
theorem run_sizeS : ∀ (m : Nat) (t : Net), t.wt ≤ m → m < 2 ^ 40 → ∀ (n : Nat), m + 4 ≤ n → ∀ s, go n 144 [netX t] [] s = some ⟨iV t.size, [], []⟩
 | 0, t, h, hm, n, hn, s => by have := t.wt_pos; omega
 | m + 1, .mk k op as ks, h, hm, n, hn, s => by
  obtain ⟨n, rfl⟩ : ∃ k, n = k + 1 := ⟨n - 1, by omega⟩; have hlen := netsWt_len ks; have hsl := netsSize_le ks; simp only [Net.wt] at h; have hc : ∀ x ∈ ks, ∀ s, go n 144 [netX x] [] s = some ⟨iV x.size, [], []⟩ := fun x hx s => run_sizeS m x (by have := netsWt_mem hx; omega) (by omega) n (by omega) s
  simp [go_of FT_144 rfl, F144]; generalize hst : St.mk _ _ _ _ = st; obtain ⟨e, ⟨τ', H', g', s'⟩, hx, -, rfl, h3⟩ := loop144_0 (n := n) ks hc (by omega) (iW k) (iW op) (asW as) (by omega) (by omega) st (by simp [← hst]) (by simp [← hst]) (by simp [← hst]) (by simp [← hst]); simp only at h3; simp [-Int.natCast_add, hx, h3, Net.size]
theorem len_beq {α : Type} (l : List α) : ((l.length : Int) == 0) = decide (l = []) := by
 cases l with
 | nil => rfl
 | cons a r => simp; omega
theorem run_bare {n : Nat} (hn : 1 ≤ n) (op : Int) (as : List Arg) (s : Sup) : go n 138 [elX ⟨op, as⟩] [] s = some ⟨sV (.bool (decide (op = 0 ∧ as = []))), [], []⟩ := by
 obtain ⟨n, rfl⟩ : ∃ k, n = k + 1 := ⟨n - 1, by omega⟩
 by_cases h : op = 0
 · simp [go_of FT_138 rfl, F138, h, len_beq]
 · simp [go_of FT_138 rfl, F138, h, len_beq]
theorem netsWrong_append : ∀ l m : List Net, netsWrong (l ++ m) = if netsWrong l ≠ 0 then netsWrong l else netsWrong m
 | [], m => by simp [netsWrong]
 | n :: r, m => by
  simp only [List.cons_append, netsWrong, netsWrong_append r m]
  by_cases h : n.wrong = 0 <;> simp [h]
theorem netsWrong_take {l : List Net} {i : Nat} {x : Net} (h : l[i]? = some x) (h0 : netsWrong (l.take i) = 0) : netsWrong (l.take (i + 1)) = x.wrong := by
 rw [List.take_add_one, h]; simp only [Option.toList_some, netsWrong_append, h0, netsWrong]
 by_cases hx : x.wrong = 0 <;> simp [hx]
theorem netsWrong_hit {l : List Net} {i : Nat} {x : Net} (h0 : netsWrong (l.take i) = 0) (h : l[i]? = some x) (hx : x.wrong ≠ 0) : netsWrong l = x.wrong := by
 have e : l = l.take (i + 1) ++ l.drop (i + 1) := (List.take_append_drop _ _).symm; rw [e, netsWrong_append, netsWrong_take h h0, if_pos hx]
theorem loop119_0 {n : Nat} (l : List Net) (hc : ∀ x ∈ l, ∀ s, go n 119 [netX x] [] s = some ⟨iV x.wrong, [], []⟩) (hn : l.length < n) (hl : l.length < 2 ^ 40) (st : St) (hx0 : True) (h47 : st.τ 47 = .w (nsW l)) (h48 : st.τ 48 = iV l.length) (h49 : st.τ 49 = iV 0) :
 ∃ e st', execC (go n) mode GT false 59 n F119_L0 st = some (e, st') ∧ e ≠ .normal ∧ ((e = .exit 1 ∧ netsWrong l = 0) ∨ (e = .ret ∧ netsWrong l ≠ 0 ∧ st'.τ 2 = iV (netsWrong l))) := by
 rw [F119_L0, execC_loop]; refine iter_rule (fun k st => ∃ i, i + k = l.length ∧ netsWrong (l.take i) = 0 ∧ st.τ 47 = .w (nsW l) ∧ st.τ 48 = iV l.length ∧ st.τ 49 = iV i) ?_ n l.length st hn ⟨0, by omega, by simp [netsWrong], h47, h48, by simpa using h49⟩
 rintro k ⟨τ, H, g, s⟩ ⟨i, hk, hx0, h47, h48, h49⟩; simp only at hx0 h47 h48 h49; cases k with
 | zero =>
  have : i = l.length := by omega
  subst this; refine ⟨.exit 1, ?_⟩
  rw [List.take_length] at hx0; simp [F119_B0, h47, h48, h49, hx0]
 | succ k =>
  have hlt : i < l.length := by omega
  have hlt' := ltT hlt; have hg := List.getElem?_eq_getElem hlt; have hmem := List.getElem_mem hlt; have hw := wrap_succ (i := i) (by omega); have w := hc _ hmem; have hor := Net.wrong_or l[i]; generalize hcode : Net.wrong l[i] = c at w hor; obtain ⟨k', op, as, ks, hx⟩ : ∃ k' op as ks, l[i] = .mk k' op as ks := by cases l[i]; exact ⟨_, _, _, _, rfl⟩
  rw [hx] at hg w hcode; have hb := netRows_get hg
  by_cases hz : c = 0
  · refine ⟨.normal, ?_⟩
    subst hz; simp [-getElem?_pos, F119_B0, h47, h48, h49, hlt, hlt', hb, w, hw]; exact ⟨k, by omega, i + 1, by omega, by rw [netsWrong_take hg hx0, hcode], rfl⟩
  · refine ⟨.ret, ?_⟩
    have hz' := eq_false hz; have hpos : 0 < c := by omega
    have hpos' := eq_true hpos; have hfin := netsWrong_hit hx0 hg (by rw [hcode]; exact hz); simp [-getElem?_pos, F119_B0, h47, h48, h49, hlt, hlt', hb, w, hw, hz', hpos']; exact ⟨by rw [hfin, hcode]; exact hz, by rw [hfin, hcode]⟩
theorem loop142_0 {n : Nat} (l : List Net) (hc : ∀ x ∈ l, ∀ s, go n 142 [netX x] [] s = some ⟨iV x.wrong, [], []⟩) (k0 op0 as0 : W) (hn : l.length < n) (hl : l.length < 2 ^ 40) (st : St) (hx0 : True) (h1 : st.τ 1 = .w (.ptr 0 0)) (hH : st.H 0 = .cells [k0, op0, as0, nsW l]) (h3 : st.τ 3 = iV 0) :
 ∃ e st', execC (go n) mode GT false 70 n F142_L0 st = some (e, st') ∧ e ≠ .normal ∧ ((e = .exit 0 ∧ netsWrong l = 0) ∨ (e = .ret ∧ netsWrong l ≠ 0 ∧ st'.τ 2 = iV (netsWrong l))) := by
 rw [F142_L0, execC_loop]; refine iter_rule (fun k st => ∃ i, i + k = l.length ∧ netsWrong (l.take i) = 0 ∧ st.τ 1 = .w (.ptr 0 0) ∧ st.H 0 = .cells [k0, op0, as0, nsW l] ∧ st.τ 3 = iV i) ?_ n l.length st hn ⟨0, by omega, by simp [netsWrong], h1, hH, by simpa using h3⟩
 rintro k ⟨τ, H, g, s⟩ ⟨i, hk, hx0, h1, hH, h3⟩; simp only at hx0 h1 hH h3; cases k with
 | zero =>
  have : i = l.length := by omega
  subst this; refine ⟨.exit 0, ?_⟩
  rw [List.take_length] at hx0; simp [F142_B0, h1, hH, h3, hx0]
 | succ k =>
  have hlt : i < l.length := by omega
  have hlt' := ltT hlt; have hg := List.getElem?_eq_getElem hlt; have hmem := List.getElem_mem hlt; have hw := wrap_succ (i := i) (by omega); have w := hc _ hmem; have hor := Net.wrong_or l[i]; generalize hcode : Net.wrong l[i] = c at w hor; obtain ⟨k', op, as, ks, hx⟩ : ∃ k' op as ks, l[i] = .mk k' op as ks := by cases l[i]; exact ⟨_, _, _, _, rfl⟩
  rw [hx] at hg w hcode; have hb := netRows_get hg
  by_cases hz : c = 0
  · refine ⟨.normal, ?_⟩
    subst hz; simp [-getElem?_pos, F142_B0, h1, hH, h3, hlt, hlt', hb, w, hw]; exact ⟨k, by omega, i + 1, by omega, by rw [netsWrong_take hg hx0, hcode], rfl⟩
  · refine ⟨.ret, ?_⟩
    have hz' := eq_false hz; have hpos : 0 < c := by omega
    have hpos' := eq_true hpos; have hfin := netsWrong_hit hx0 hg (by rw [hcode]; exact hz); simp [-getElem?_pos, F142_B0, h1, hH, h3, hlt, hlt', hb, w, hw, hz', hpos']; exact ⟨by rw [hfin, hcode]; exact hz, by rw [hfin, hcode]⟩
theorem run_wrong : ∀ (m : Nat) (t : Net), t.wt ≤ m → m < 2 ^ 40 → ∀ (n : Nat), m + 45 ≤ n → ∀ s, go n 119 [netX t] [] s = some ⟨iV t.wrong, [], []⟩
 | 0, t, h, hm, n, hn, s => by have := t.wt_pos; omega
 | m + 1, .mk k op as ks, h, hm, n, hn, s => by
  obtain ⟨n, rfl⟩ : ∃ k, n = k + 1 := ⟨n - 1, by omega⟩; have hlen := netsWt_len ks; simp only [Net.wt] at h; have hc : ∀ x ∈ ks, ∀ s, go n 119 [netX x] [] s = some ⟨iV x.wrong, [], []⟩ := fun x hx s => run_wrong m x (by have := netsWt_mem hx; omega) (by omega) n (by omega) s
  have wc := run_ElemIsContact (n := n) (by omega) ⟨op, as⟩ (by simp only; omega); unfold Net.wrong
  by_cases hk : k = 1
  · subst hk
    by_cases hl : 0 < ks.length
    · have hl' : ((0 : Int) < (ks.length : Int)) = True := eq_true (by omega)
      simp [go_of FT_119 rfl, F119, hl, hl']
    · have hl' : ((0 : Int) < (ks.length : Int)) = False := eq_false (by omega)
      cases hcn : El.contact ⟨op, as⟩ <;> rw [hcn] at wc <;> simp [go_of FT_119 rfl, F119, hl, hl', wc, hcn]
  · rw [if_neg hk]
    have w1 := run_within (n := n) (by omega); have w2 := run_bare (n := n) (by omega) op as
    by_cases c1 : 2 ≤ k ∧ k ≤ 4
    · have e1 : (decide (2 ≤ k) && decide (k ≤ 4)) = true := by simp; omega
      have c1a : 2 ≤ k := c1.1; have c1b : k ≤ 4 := c1.2
      by_cases c2 : op = 0 ∧ as = []
      · have w2' := w2
        rw [decide_eq_true c2] at w2'
        by_cases c3 : ks.length = 0
        · have c3i : ((ks.length : Int) = 0) = True := eq_true (by omega)
          rw [if_pos (.inr (.inr (.inl c3)))]; simp [go_of FT_119 rfl, F119, hk, w1, w2', c1a, c1b, c3, c3i]
        · have c3i : ((ks.length : Int) = 0) = False := eq_false (by omega)
          have c3k : ks ≠ [] := fun e => c3 (by rw [e]; rfl)
          by_cases c4 : k = 4 ∧ 1 < ks.length
          · rw [if_pos (.inr (.inr (.inr c4)))]
            have c4i : ((1 : Int) < (ks.length : Int)) = True := eq_true (by omega); simp [go_of FT_119 rfl, F119, hk, w1, w2', c1a, c1b, c3, c3i, c3k, c4.1, c4.2, c4i]
          · rw [if_neg (by simp only [not_or, Decidable.not_not]; exact ⟨c1, c2, c3, c4⟩)]
            have c4' : (if k = 4 then ((1 : Int) < (ks.length : Int)) else False) = False := by
             by_cases h4 : k = 4
             · rw [if_pos h4]; exact eq_false fun h => c4 ⟨h4, by omega⟩
             · rw [if_neg h4]
            have fin : ∀ (st : St), st.τ 47 = .w (nsW ks) → st.τ 48 = iV ks.length → st.τ 49 = iV 0 → _ := fun st a b c => loop119_0 (n := n) ks hc (by omega) (by omega) st trivial a b c
            by_cases h4 : k = 4
            · have h4l : ¬ (1 < ks.length) := fun h => c4 ⟨h4, h⟩
              have h4i : ((1 : Int) < (ks.length : Int)) = False := eq_false (by omega); subst h4; simp [go_of FT_119 rfl, F119, w1, w2', c3, c3i, c3k, h4l, h4i]; generalize hst : St.mk _ _ _ _ = st; obtain ⟨e, ⟨τ', H', g', s'⟩, hx, -, ⟨rfl, h0⟩ | ⟨rfl, h0, h2⟩⟩ := fin st (by simp [← hst]) (by simp [← hst]) (by simp [← hst])
              · simp [hx, h0]
              · simp only at h2
                simp [hx, h2]
            · simp [go_of FT_119 rfl, F119, hk, w1, w2', c1a, c1b, c3, c3i, c3k, h4]
              generalize hst : St.mk _ _ _ _ = st; obtain ⟨e, ⟨τ', H', g', s'⟩, hx, -, ⟨rfl, h0⟩ | ⟨rfl, h0, h2⟩⟩ := fin st (by simp [← hst]) (by simp [← hst]) (by simp [← hst])
              · simp [hx, h0]
              · simp only at h2
                simp [hx, h2]
      · have w2' := w2
        rw [decide_eq_false c2] at w2'; rw [if_pos (.inr (.inl c2))]; simp [go_of FT_119 rfl, F119, hk, w1, w2', c1a, c1b]
    · have e1 : (decide (2 ≤ k) && decide (k ≤ 4)) = false := by simp; omega
      rw [if_pos (.inl c1)]; simp [go_of FT_119 rfl, F119, hk, w1, e1]
theorem run_wrongS : ∀ (m : Nat) (t : Net), t.wt ≤ m → m < 2 ^ 40 → ∀ (n : Nat), m + 45 ≤ n → ∀ s, go n 142 [netX t] [] s = some ⟨iV t.wrong, [], []⟩
 | 0, t, h, hm, n, hn, s => by have := t.wt_pos; omega
 | m + 1, .mk k op as ks, h, hm, n, hn, s => by
  obtain ⟨n, rfl⟩ : ∃ k, n = k + 1 := ⟨n - 1, by omega⟩; have hlen := netsWt_len ks; simp only [Net.wt] at h; have hc : ∀ x ∈ ks, ∀ s, go n 142 [netX x] [] s = some ⟨iV x.wrong, [], []⟩ := fun x hx s => run_wrongS m x (by have := netsWt_mem hx; omega) (by omega) n (by omega) s
  have wc := run_ElemIsContactS (n := n) (by omega) ⟨op, as⟩; unfold Net.wrong
  by_cases hk : k = 1
  · subst hk
    by_cases hl : 0 < ks.length
    · have hl' : ((0 : Int) < (ks.length : Int)) = True := eq_true (by omega)
      simp [go_of FT_142 rfl, F142, hl, hl']
    · have hl' : ((0 : Int) < (ks.length : Int)) = False := eq_false (by omega)
      cases hcn : El.contact ⟨op, as⟩ <;> rw [hcn] at wc <;> simp [go_of FT_142 rfl, F142, hl, hl', wc, hcn]
  · rw [if_neg hk]
    by_cases c1 : 2 ≤ k ∧ k ≤ 4
    · have c1a : (k < 2) = False := eq_false (by omega)
      have c1b : (4 < k) = False := eq_false (by omega)
      by_cases c2 : op = 0 ∧ as = []
      · obtain ⟨rfl, rfl⟩ := c2
        by_cases c3 : ks.length = 0
        · have c3i : ((ks.length : Int) = 0) = True := eq_true (by omega)
          rw [if_pos (.inr (.inr (.inl c3)))]; simp [go_of FT_142 rfl, F142, hk, c1a, c1b, c3, c3i]
        · have c3i : ((ks.length : Int) = 0) = False := eq_false (by omega)
          have c3k : ks ≠ [] := fun e => c3 (by rw [e]; rfl)
          by_cases c4 : k = 4 ∧ 1 < ks.length
          · rw [if_pos (.inr (.inr (.inr c4)))]
            have c4i : ((ks.length : Int) = 1) = False := eq_false (by omega); have c4n : (ks.length = 1) = False := eq_false (by omega); simp [go_of FT_142 rfl, F142, hk, c1a, c1b, c3, c3i, c3k, c4.1, c4i, c4n]
          · rw [if_neg (by simp only [not_or, Decidable.not_not]; exact ⟨c1, ⟨trivial, trivial⟩, c3, c4⟩)]
            have fin : ∀ (st : St), st.τ 1 = .w (.ptr 0 0) → st.H 0 = .cells [iW k, iW 0, asW [], nsW ks] → st.τ 3 = iV 0 → _ := fun st a b c => loop142_0 (n := n) ks hc (iW k) (iW 0) (asW []) (by omega) (by omega) st trivial a b c
            by_cases h4 : k = 4
            · have h4l : (ks.length = 1) = True := eq_true (by have : ¬ (1 < ks.length) := fun h => c4 ⟨h4, h⟩; omega)
              have h4i : ((ks.length : Int) = 1) = True := eq_true (by simp at h4l; omega); subst h4; simp [go_of FT_142 rfl, F142, c3, c3i, c3k, h4l, h4i]; generalize hst : St.mk _ _ _ _ = st; obtain ⟨e, ⟨τ', H', g', s'⟩, hx, -, ⟨rfl, h0⟩ | ⟨rfl, h0, h2⟩⟩ := fin st (by simp [← hst]) (by simp [← hst]) (by simp [← hst])
              · simp [hx, h0]
              · simp only at h2
                simp [hx, h2]
            · simp [go_of FT_142 rfl, F142, hk, c1a, c1b, c3, c3i, c3k, h4]
              generalize hst : St.mk _ _ _ _ = st; obtain ⟨e, ⟨τ', H', g', s'⟩, hx, -, ⟨rfl, h0⟩ | ⟨rfl, h0, h2⟩⟩ := fin st (by simp [← hst]) (by simp [← hst]) (by simp [← hst])
              · simp [hx, h0]
              · simp only at h2
                simp [hx, h2]
      · rw [if_pos (.inr (.inl c2))]
        by_cases c2a : op = 0
        · have c2b : as ≠ [] := fun e => c2 ⟨c2a, e⟩
          have c2l : 0 < as.length := List.length_pos_iff.2 c2b; have c2i : ((0 : Int) < (as.length : Int)) = True := eq_true (by omega); simp [go_of FT_142 rfl, F142, hk, c1a, c1b, c2a, c2b, c2l, c2i]
        · simp [go_of FT_142 rfl, F142, hk, c1a, c1b, c2a]
    · rw [if_pos (.inl c1)]
      by_cases c1a : k < 2
      · simp [go_of FT_142 rfl, F142, hk, c1a]
      · have c1b : 4 < k := by omega
        simp [go_of FT_142 rfl, F142, hk, c1a, c1b]
end Go.VM
