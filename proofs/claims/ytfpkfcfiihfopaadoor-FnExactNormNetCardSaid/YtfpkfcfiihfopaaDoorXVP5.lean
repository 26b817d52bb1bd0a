/- The normal form of nets, as the document has it. Conditions: none. -/
import Derived.Test.YtfpkfcfiihfopaaDoorXVZ1
import Derived.Test.YtfpkfcfiihfopaaDoorXVS2
import Derived.Test.YtfpkfcfiihfopaaDoorXVY8

namespace Go.VM
set_option linter.unusedSimpArgs false
set_option linter.unusedVariables false
set_option maxHeartbeats 16000000
def NSlot (H : Nat → Box) (g lo : Nat) (cw : W) (l : List Net) : Prop := (l = [] ∧ cw = .nil) ∨ ∃ bx, lo < bx ∧ bx < g ∧ cw = .own bx 0 l.length none ∧ H bx = .row none 4 (netRows l) 0
theorem loop218 {n : Nat} (l : List Net) (k0 : Int) (hc : ∀ x ∈ l, ∀ s, go n 214 [netX x] [] s = some ⟨netX x.norm, [], []⟩) (hr : ∀ x ∈ l, x.wrong = 0) (hwt : netsWt l < 2 ^ 29) (hn : l.length < n) (st : St)
 (h0 : st.τ 0 = iV k0) (h1 : st.τ 1 = .w (nsW l)) (h4 : st.τ 4 = .w (.ptr 0 0)) (h5 : st.τ 5 = .w (.ptr 192 0)) (h6 : st.τ 6 = iV 0) (hC : st.H 0 = .cells [iW 0, iW 0, .nil, .nil]) (hA : st.H 192 = .cells [iW k0, iW 0, .nil, .nil]) (hgg : 192 < st.g) :
 ∃ e st', execC (go n) mode GT false 46 n F218_L0 st = some (e, st') ∧ e ≠ .normal ∧ (e = .exit 0 ∧ st'.τ 4 = .w (.ptr 0 0) ∧ st'.τ 5 = .w (.ptr 192 0) ∧ st'.H 0 = .cells [iW 0, iW 0, .nil, .nil] ∧ 192 < st'.g ∧ ∃ cw, st'.H 192 = .cells [iW k0, iW 0, .nil, cw] ∧ NSlot st'.H st'.g 192 cw (accN k0 l l.length)) := by
 have hl := netsWt_len l; rw [F218_L0, execC_loop]; refine iter_rule (fun k st => ∃ i, i + k = l.length ∧ st.τ 0 = iV k0 ∧ st.τ 1 = .w (nsW l) ∧ st.τ 4 = .w (.ptr 0 0) ∧ st.τ 5 = .w (.ptr 192 0) ∧ st.τ 6 = iV i ∧ st.H 0 = .cells [iW 0, iW 0, .nil, .nil] ∧ 192 < st.g ∧ ∃ cw, st.H 192 = .cells [iW k0, iW 0, .nil, cw] ∧ NSlot st.H st.g 192 cw (accN k0 l i)) ?_ n l.length st hn
  ⟨0, by omega, h0, h1, h4, h5, by simpa using h6, hC, hgg, .nil, hA, .inl ⟨by simp [accN, netsNorm], rfl⟩⟩
 clear h0 h1 h4 h5 h6 hC hA hgg; rintro k ⟨τ, H, g, s⟩ ⟨i, hk, h0, h1, h4, h5, h6, hC, hgg, cw, hA, hcw⟩; simp only at h0 h1 h4 h5 h6 hC hgg hA hcw; cases k with
 | zero =>
  have : i = l.length := by omega
  subst this; refine ⟨.exit 0, ⟨upd (upd (upd (upd τ 10 (iV l.length)) 11 (.w (nsW l))) 12 (iV l.length)) 13 (.w (.d (.s (.bool false)))), H, g + 256, restS s⟩, ?_, by simp, fun _ => ⟨rfl, by simpa using h4, by simpa using h5, hC, by simp only; omega, cw, hA, ?_⟩⟩
  · simp [F218_B0, h0, h1, h4, h5, h6]
  · rcases hcw with hcw | ⟨bx, hb1, hb2, hb3, hb4⟩
    · exact .inl hcw
    · exact .inr ⟨bx, hb1, by simp only; omega, hb3, hb4⟩
 | succ k =>
  have hlt : i < l.length := by omega
  have hlt' := ltT hlt; have hg := List.getElem?_eq_getElem hlt; have hmem := List.getElem_mem hlt; have hw := wrap_succ (i := i) (by omega); have w := hc _ hmem; have hstep := accN_step (k := k0) hg; have hwtA := accN_wt (k := k0) hr (i + 1); rw [hstep, netsWt_append] at hwtA; have hlA := netsWt_len (accN k0 l i); obtain ⟨k', op, as, ks, hx⟩ : ∃ k' op as ks, l[i] = .mk k' op as ks := by cases l[i]; exact ⟨_, _, _, _, rfl⟩
  rw [hx] at hg w hstep hwtA; generalize Net.norm (.mk k' op as ks) = y at w hstep hwtA; obtain ⟨k2, op2, as2, ks2⟩ := y; have hb := netRows_get hg; have fgX := far (show 192 < g by omega); have fzX := far (show 0 < g by omega); generalize accN k0 l i = A at hcw hstep hwtA hlA
  by_cases hkk : k2 = k0
  · subst hkk
    have ho : Net.open k2 (.mk k2 op2 as2 ks2) = ks2 := by simp [Net.open, Net.kind, Net.kids]
    rw [ho] at hstep hwtA; have hl2 := netsWt_len ks2; have al := eq_true (len_of4 ks2); have rm : room (A.length + ks2.length) 64 = true := room_of (by omega) (by omega); have rm2 : room ks2.length 64 = true := room_of (by omega) (by omega); refine ⟨.normal, ?_⟩
    rcases hcw with ⟨rfl, rfl⟩ | ⟨bx, hb1, hb2, rfl, hB⟩
    · simp [-getElem?_pos, F218_B0, h0, h1, h4, h5, h6, hA, hC, hlt, hlt', hb, w, hw, al, rm2, fgX, fzX]
      refine ⟨k, by omega, i + 1, by omega, by simp, ?_⟩
      rw [hstep]; refine .inr ⟨_, ?_, ?_, rfl, ?_⟩
      · omega
      · omega
      · simp [fgX]; try rfl
    · have fbX := far hb2
      have b1 : (192 = bx) = False := eq_false (by omega); have b2 : (0 = bx) = False := eq_false (by omega); have b4 : (bx = 192) = False := eq_false (by omega); have b5 : (bx = 0) = False := eq_false (by omega); simp [-getElem?_pos, F218_B0, h0, h1, h4, h5, h6, hA, hC, hB, hlt, hlt', hb, w, hw, al, rm, b1, b2, b4, b5, fgX, fzX, fbX]; refine ⟨k, by omega, i + 1, by omega, by simp, ?_⟩
      rw [hstep]; refine .inr ⟨_, ?_, ?_, (by rw [List.length_append]; try rfl), ?_⟩
      · omega
      · omega
      · simp [netRows_append, netRows, Net.row, fgX]; try rfl
  · have ho : Net.open k0 (.mk k2 op2 as2 ks2) = [.mk k2 op2 as2 ks2] := by simp [Net.open, Net.kind, hkk]
    rw [ho] at hstep hwtA; have hkk' := eq_false hkk; have rm : room (A.length + 1) 64 = true := room_of (by simp [netsWt] at hwtA; omega) (by omega); have rm2 : room 1 64 = true := by decide
    refine ⟨.normal, ?_⟩
    rcases hcw with ⟨rfl, rfl⟩ | ⟨bx, hb1, hb2, rfl, hB⟩
    · simp [-getElem?_pos, F218_B0, h0, h1, h4, h5, h6, hA, hC, hlt, hlt', hb, w, hw, rm2, hkk', fgX, fzX]
      refine ⟨k, by omega, i + 1, by omega, by simp, ?_⟩
      rw [hstep]; refine .inr ⟨_, ?_, ?_, rfl, ?_⟩
      · omega
      · omega
      · simp [netRows_append, netRows, Net.row, fgX]; try rfl
    · have fbX := far hb2
      have b1 : (192 = bx) = False := eq_false (by omega); have b2 : (0 = bx) = False := eq_false (by omega); have b4 : (bx = 192) = False := eq_false (by omega); have b5 : (bx = 0) = False := eq_false (by omega); simp [-getElem?_pos, F218_B0, h0, h1, h4, h5, h6, hA, hC, hB, hlt, hlt', hb, w, hw, rm, rm2, hkk', b1, b2, b4, b5, fgX, fzX, fbX]; refine ⟨k, by omega, i + 1, by omega, by simp, ?_⟩
      rw [hstep]; refine .inr ⟨_, ?_, ?_, (by rw [List.length_append]; try rfl), ?_⟩
      · omega
      · omega
      · simp [netRows_append, netRows, Net.row, fgX]; try rfl
theorem accN_all (k : Int) (l : List Net) : accN k l l.length = (netsNorm l).flatMap (Net.open k) := by
 simp [accN]
theorem run_l9Flat {n : Nat} (l : List Net) (k : Int) (hc : ∀ x ∈ l, ∀ s, go n 214 [netX x] [] s = some ⟨netX x.norm, [], []⟩) (hr : ∀ x ∈ l, x.wrong = 0) (hwt : netsWt l < 2 ^ 29) (hn : l.length < n) (s : Sup) :
 go (n + 1) 218 [iV k, .w (nsW l)] [] s = some ⟨netX (netOf k ((netsNorm l).flatMap (Net.open k))), [], []⟩ := by
 simp [go_of FT_218 rfl, F218]; generalize hst : St.mk _ _ _ _ = st; obtain ⟨e, ⟨τ', H', g', s'⟩, hx, -, rfl, f4, f5, fC, fg, cw, fA, hcw⟩ := loop218 (n := n) l k hc hr hwt hn st (by simp [← hst]) (by simp [← hst]) (by simp [← hst]) (by simp [← hst]) (by simp [← hst]) (by simp [← hst]) (by simp [← hst]) (by simp [← hst]); simp only at f4 f5 fC fg fA hcw; clear hst; rw [accN_all] at hcw; generalize (netsNorm l).flatMap (Net.open k) = A at hcw ⊢; rcases hcw with ⟨rfl, rfl⟩ | ⟨bx, hb1, hb2, rfl, hB⟩
 · simp [hx, f4, f5, fC, fA, netOf, netRows, argRows]
 · have b1 : (192 = bx) = False := eq_false (by omega)
   have b2 : (0 = bx) = False := eq_false (by omega); have b4 : (bx = 192) = False := eq_false (by omega); have b5 : (bx = 0) = False := eq_false (by omega); have glt : ∀ m : Nat, m ≤ 192 → (m < g') = True := fun m h => eq_true (by omega)
   match A, hB with
   | [], hB => simp [hx, f4, f5, fC, fA, hB, netOf, netRows, argRows, b1, b2, b4, b5]
   | [.mk xk xo xa xks], hB => simp [hx, f4, f5, fC, fA, hB, netOf, netRows, Net.row, b1, b2, b4, b5, glt]
   | x :: y :: r, hB =>
    have h1 : ((r.length : Int) + 1 + 1 = 1) = False := eq_false (by omega); have tk := take_netRows (x :: y :: r); simp only [List.length_cons] at tk; simp [hx, f4, f5, fC, fA, hB, netOf, argRows, h1, tk, b1, b2, b4, b5]
theorem one_kids {op : Int} {as : List Arg} {ks : List Net} (h : (Net.mk 1 op as ks).wrong = 0) : ks = [] := by
 cases ks with
 | nil => rfl
 | cons a r => exfalso; simp [Net.wrong] at h
theorem run_l9Net : ∀ (m : Nat) (t : Net), t.wt ≤ m → m < 2 ^ 29 → t.wrong = 0 → ∀ (n : Nat), 2 * m + 12 ≤ n → ∀ s, go n 214 [netX t] [] s = some ⟨netX t.norm, [], []⟩
 | 0, t, h, hm, hr, n, hn, s => by have := t.wt_pos; omega
 | m + 1, .mk k op as ks, h, hm, hr, n, hn, s => by
  obtain ⟨n, rfl⟩ : ∃ k, n = k + 2 := ⟨n - 2, by omega⟩; have hlen := netsWt_len ks; have hw0 := h; simp only [Net.wt] at h
  by_cases hk : k = 1
  · subst hk
    have hks : ks = [] := one_kids hr; subst hks; have al := eq_true (len_of3 as); have rm : room as.length 24 = true := room_of (by omega) (by omega); simp [go_of FT_214 rfl, F214, Net.norm, al, rm, netRows]
  · obtain ⟨h1, rfl, rfl, h4, h5, h6⟩ := right_kids hr hk
    have hc : ∀ n, 2 * m + 12 ≤ n → ∀ x ∈ ks, ∀ s, go n 214 [netX x] [] s = some ⟨netX x.norm, [], []⟩ := fun n hn x hx s => run_l9Net m x (by have := netsWt_mem hx; omega) (by omega) (h6 x hx) n (by omega) s
    by_cases hk4 : k = 4
    · subst hk4
      have hl1 := h5 rfl
      match ks, hl1, hc (n + 1) (by omega) with
      | [x], _, hc =>
       have w := hc x (by simp); have e : Net.norm (.mk 4 0 [] [x]) = .mk 4 0 [] [x.norm] := by simp [Net.norm, netsNorm]
       rw [e]; generalize x.norm = y at w; obtain ⟨k1, op1, as1, ks1⟩ := x; obtain ⟨k2, op2, as2, ks2⟩ := y; simp [go_of (n := n + 1) FT_214 rfl, F214, netRows, Net.row, w, show argRows [] = [] from rfl]
    · have e : Net.norm (.mk k 0 [] ks) = netOf k ((netsNorm ks).flatMap (Net.open k)) := by simp [Net.norm, hk, hk4]
      have w := run_l9Flat (n := n) ks k (hc n (by omega)) h6 (by omega) (by omega); rw [← e] at w; generalize Net.norm (.mk k 0 [] ks) = y at w; obtain ⟨k2, op2, as2, ks2⟩ := y; have hk23 : k = 2 ∨ k = 3 := by omega
      rcases hk23 with rfl | rfl <;> simp [go_of FT_214 rfl, F214, w]
end Go.VM
