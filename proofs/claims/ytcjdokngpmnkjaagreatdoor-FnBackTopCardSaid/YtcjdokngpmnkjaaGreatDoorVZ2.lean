/- Draws: coils, and what is spoilt; they come to an end and are of their shape. Conditions: none. -/
import Derived.Test.YtcjdokngpmnkjaaGreatDoorVS1

namespace Go.VM
set_option linter.unusedSimpArgs false
set_option linter.unusedVariables false
set_option maxHeartbeats 8000000
theorem ku8 {b : List Int} (hb : RD b) (a : Arg) (p : Nat) (hp : p < 2 ^ 38) (n : Nat) (hn : 4 ≤ n) :
 ∃ (a' : Arg) (q : Nat), q ≤ p + 2 ∧ ∀ s, go n 154 [pV, argX a] [rB b p] s = some ⟨argX a', [rB b q], []⟩ := by
 obtain ⟨n, rfl⟩ : ∃ k, n = k + 1 := ⟨n - 1, by omega⟩; obtain ⟨k, m, pp⟩ := a; obtain ⟨v, q, h1, h2, h3, w⟩ := k06 hb 6 p (by omega) n (by omega); have wd := kf9 (n := n) (by omega) k
 by_cases c0 : v = 0
 · obtain ⟨u, q2, g1, g2, g3, w2⟩ := k06 hb 16 q (by omega) n (by omega)
   refine ⟨⟨IntKind.wrap .i64 (u - 1), m, pp⟩, q2, by omega, fun s => ?_⟩
   simp [go_of FT_154 rfl, F154, w, w2, c0]
 by_cases c1 : v = 1
 · obtain ⟨u, q2, g1, g2, w2⟩ := k54 hb [-1, 4, 5, 15, 16, 31, 32, 63, 64, 255, 32768, -32769, 1000000000, -1000000000, 20, 10] (by simp) q (by omega) n (by omega)
   simp only [lV, List.map_cons, List.map_nil] at w2; refine ⟨⟨k, u, pp⟩, q2, by omega, fun s => ?_⟩
   simp [go_of FT_154 rfl, F154, w, w2, c0, c1, List.replicate]
 by_cases c2 : v = 2
 · obtain ⟨u, q2, g1, g2, w2⟩ := k54 hb [-1, 0, 1, 6, 7] (by simp) q (by omega) n (by omega)
   simp only [lV, List.map_cons, List.map_nil] at w2; refine ⟨⟨k, m, u⟩, q2, by omega, fun s => ?_⟩
   simp [go_of FT_154 rfl, F154, w, w2, c0, c1, c2, List.replicate]
 by_cases c3 : v = 3
 · refine ⟨⟨k, devSize k, pp⟩, q, by omega, fun s => ?_⟩
   simp [go_of FT_154 rfl, F154, w, wd, c0, c1, c2, c3]
 by_cases c4 : v = 4
 · refine ⟨⟨k, IntKind.wrap .i64 (devSize k - 1), pp⟩, q, by omega, fun s => ?_⟩
   simp [go_of FT_154 rfl, F154, w, wd, c0, c1, c2, c3, c4]
 · refine ⟨⟨k, IntKind.wrap .i64 (-m), pp⟩, q, by omega, fun s => ?_⟩
   have hneg : unV .neg (.w (iW m)) = some (.w (.d (.s (.int .i64 (IntKind.wrap .i64 (-m)))))) := by
    show some (sV (.int .i64 (IntKind.wrap .i64 (0 - m)))) = _
    rw [Int.zero_sub]; rfl
   simp [go_of FT_154 rfl, F154, w, wd, c0, c1, c2, c3, c4, hneg]
theorem kJ5 {b : List Int} (hb : RD b) (p : Nat) (hp : p < 2 ^ 37) (n : Nat) (hn : 5 ≤ n) :
 ∃ (a : Arg) (q : Nat), q ≤ p + 8 ∧ ∀ s, go n 129 [pV] [rB b p] s = some ⟨argX a, [rB b q], []⟩ := by
 obtain ⟨n, rfl⟩ : ∃ k, n = k + 1 := ⟨n - 1, by omega⟩; obtain ⟨v, q, h1, h2, h3, w⟩ := k06 hb 13 p (by omega) n (by omega); obtain ⟨a, q2, g1, w2⟩ := k22 hb (IntKind.wrap .i64 (1 + v)) q (by omega) n (by omega); obtain ⟨u, q3, h4, h5, h6, w3⟩ := k06 hb 20 q2 (by omega) n (by omega)
 by_cases c : u = 0
 · obtain ⟨a2, q4, g2, w4⟩ := ku8 hb a q3 (by omega) n (by omega)
   refine ⟨a2, q4, by omega, fun s => ?_⟩
   simp [go_of FT_129 rfl, F129, w, w2, w3, w4, c]
 · refine ⟨a, q3, by omega, fun s => ?_⟩
   simp [go_of FT_129 rfl, F129, w, w2, w3, c]
theorem kv6 (l : List Arg) (i : Nat) (a : Arg) : (argRows l).set i [iD a.k, iD a.n, iD a.p] = argRows (l.set i a) := by
 simp [argRows, List.map_set, Arg.row]
theorem argRows_append (l m : List Arg) : argRows (l ++ m) = argRows l ++ argRows m := by simp [argRows]
theorem kG7 (l : List Arg) : ∀ x ∈ argRows l, x.length = 3 := fun x hx => by
 simp only [argRows, List.mem_map] at hx; obtain ⟨a, _, rfl⟩ := hx
 rfl
theorem kx9 {b : List Int} (hb : RD b) (e : El) (hl : e.as.length < 2 ^ 20) (p : Nat) (hp : p < 2 ^ 36) (n : Nat) (hn : 6 ≤ n) :
 ∃ (e' : El) (q : Nat), e'.as.length ≤ e.as.length + 1 ∧ q ≤ p + 20 ∧ ∀ s, go n 136 [pV, elX e] [rB b p] s = some ⟨elX e', [rB b q], []⟩ := by
 obtain ⟨n, rfl⟩ : ∃ k, n = k + 1 := ⟨n - 1, by omega⟩; obtain ⟨op, as⟩ := e; simp only at hl; obtain ⟨v, q, h1, h2, h3, w⟩ := k06 hb 6 p (by omega) n (by omega); have al := eq_true (kG7 as); have rm : room as.length 24 = true := k08 (by omega) (by omega)
 by_cases c0 : v = 0
 · obtain ⟨u, q2, g1, g2, w2⟩ := k54 hb [-1, 0, 1, 5, 11, 20, 21, 26, 37, 38] (by simp) q (by omega) n (by omega)
   simp only [lV, List.map_cons, List.map_nil] at w2; refine ⟨⟨u, as⟩, q2, by simp, by omega, fun s => ?_⟩
   simp [go_of FT_136 rfl, F136, w, w2, c0, List.replicate, al, rm]
 by_cases c1 : v = 1
 · obtain ⟨a, q2, g2, w2⟩ := kJ5 hb q (by omega) n (by omega)
   have rm2 : room (as.length + 1) 24 = true := k08 (by omega) (by omega); have tk : List.take (as.length + 1) (argRows as ++ [[iD a.k, iD a.n, iD a.p]]) = argRows as ++ [[iD a.k, iD a.n, iD a.p]] := by rw [List.take_of_length_le (by simp)]
   refine ⟨⟨op, as ++ [a]⟩, q2, by simp, by omega, fun s => ?_⟩
   simp [go_of FT_136 rfl, F136, w, w2, c0, c1, List.replicate, al, rm, rm2, argRows_append, tk]; simp [argRows, Arg.row]
 by_cases c2 : v = 2
 · refine ⟨⟨op, []⟩, q, by simp, by omega, fun s => ?_⟩
   simp [go_of FT_136 rfl, F136, w, c0, c1, c2, List.replicate, al, rm, show argRows [] = [] from rfl]
 · by_cases c3 : 0 < as.length
   · have c3i : ((0 : Int) < (as.length : Int)) = True := eq_true (by omega)
     obtain ⟨u, q2, g1, g2, g3, w2⟩ := k06 hb as.length q (by omega) n (by omega); have g2 := g2 (by omega); obtain ⟨j, rfl⟩ : ∃ j : Nat, u = j := ⟨u.toNat, by omega⟩; have hj : j < as.length := by omega
     have hg := List.getElem?_eq_getElem hj; have hb1 := ka9 hg; obtain ⟨a, q3, g4, w3⟩ := ku8 hb as[j] q2 (by omega) n (by omega); obtain ⟨u2, q4, g5, g6, g7, w4⟩ := k06 hb 2 q3 (by omega) n (by omega); have hs1 := kv6 as j a
     by_cases c4 : u2 = 0
     · obtain ⟨a2, q5, g8, w5⟩ := kJ5 hb q4 (by omega) n (by omega)
       have hs2 := kv6 (as.set j a) j a2; have hb2 := ka9 (l := as.set j a) (i := j) (a := a) (by simp [hj]); refine ⟨⟨op, (as.set j a).set j a2⟩, q5, by simp, by omega, fun s => ?_⟩
       have tk := ko8 ((as.set j a).set j a2); simp only [List.length_set] at tk; simp [-getElem?_pos, -List.getElem?_set_self, -List.set_set, go_of FT_136 rfl, F136, w, w2, w3, w4, w5, c0, c1, c2, c3, c3i, c4, List.replicate, al, rm, hj, hb1, hb2, hs1, hs2, tk]
     · refine ⟨⟨op, as.set j a⟩, q4, by simp, by omega, fun s => ?_⟩
       have tk := ko8 (as.set j a); simp only [List.length_set] at tk; simp [-getElem?_pos, go_of FT_136 rfl, F136, w, w2, w3, w4, c0, c1, c2, c3, c3i, c4, List.replicate, al, rm, hj, hb1, hs1, tk]
   · have c3i : ((0 : Int) < (as.length : Int)) = False := eq_false (by omega)
     have c3e : as = [] := List.eq_nil_of_length_eq_zero (by omega); subst c3e; refine ⟨⟨op, []⟩, q, by simp, by omega, fun s => ?_⟩
     simp [go_of FT_136 rfl, F136, w, c0, c1, c2, List.replicate, argRows, show room 0 24 = true by decide]
set_option maxHeartbeats 16000000
def NSlot (H : Nat → Box) (g lo : Nat) (cw : W) (l : List Net) : Prop := (l = [] ∧ cw = .nil) ∨ ∃ bx, lo < bx ∧ bx < g ∧ cw = .own bx 0 l.length none ∧ H bx = .row none 4 (netRows l) 0
theorem loop218 {n : Nat} (l : List Net) (k0 : Int) (hc : ∀ x ∈ l, ∀ s, go n 214 [netX x] [] s = some ⟨netX x.norm, [], []⟩) (hr : ∀ x ∈ l, x.wrong = 0) (hwt : netsWt l < 2 ^ 29) (hn : l.length < n) (st : St)
 (h0 : st.τ 0 = iV k0) (h1 : st.τ 1 = .w (nsW l)) (h4 : st.τ 4 = .w (.ptr 0 0)) (h5 : st.τ 5 = .w (.ptr 192 0)) (h6 : st.τ 6 = iV 0) (hC : st.H 0 = .cells [iW 0, iW 0, .nil, .nil]) (hA : st.H 192 = .cells [iW k0, iW 0, .nil, .nil]) (hgg : 192 < st.g) :
 ∃ e st', execC (go n) mode GT false 46 n F218_L0 st = some (e, st') ∧ e ≠ .normal ∧ (e = .exit 0 ∧ st'.τ 4 = .w (.ptr 0 0) ∧ st'.τ 5 = .w (.ptr 192 0) ∧ st'.H 0 = .cells [iW 0, iW 0, .nil, .nil] ∧ 192 < st'.g ∧ ∃ cw, st'.H 192 = .cells [iW k0, iW 0, .nil, cw] ∧ NSlot st'.H st'.g 192 cw (accN k0 l l.length)) := by
 have hl := k27 l; rw [F218_L0, k00]; refine k03 (fun k st => ∃ i, i + k = l.length ∧ st.τ 0 = iV k0 ∧ st.τ 1 = .w (nsW l) ∧ st.τ 4 = .w (.ptr 0 0) ∧ st.τ 5 = .w (.ptr 192 0) ∧ st.τ 6 = iV i ∧ st.H 0 = .cells [iW 0, iW 0, .nil, .nil] ∧ 192 < st.g ∧ ∃ cw, st.H 192 = .cells [iW k0, iW 0, .nil, cw] ∧ NSlot st.H st.g 192 cw (accN k0 l i)) ?_ n l.length st hn
  ⟨0, by omega, h0, h1, h4, h5, by simpa using h6, hC, hgg, .nil, hA, .inl ⟨by simp [accN, netsNorm], rfl⟩⟩
 clear h0 h1 h4 h5 h6 hC hA hgg; rintro k ⟨τ, H, g, s⟩ ⟨i, hk, h0, h1, h4, h5, h6, hC, hgg, cw, hA, hcw⟩; simp only at h0 h1 h4 h5 h6 hC hgg hA hcw; cases k with
 | zero =>
  have : i = l.length := by omega
  subst this; refine ⟨.exit 0, ⟨upd (upd (upd (upd τ 10 (iV l.length)) 11 (.w (nsW l))) 12 (iV l.length)) 13 (.w (.d (.s (.bool false)))), H, g + 256, restS s⟩, ?_, by simp, fun _ => ⟨rfl, by simpa using h4, by simpa using h5, hC, by simp only; omega, cw, hA, ?_⟩⟩
  · simp [F218_B0, h0, h1, h4, h5, h6]
  · rcases hcw with hcw | ⟨bx, hb1, hb2, hb3, hb4⟩
    · exact .inl hcw
    · exact .inr ⟨bx, hb1, by simp only; omega, hb3, hb4⟩
 | succ k =>
  have hlt : i < l.length := by omega
  have hlt' := ltT hlt; have hg := List.getElem?_eq_getElem hlt; have hmem := List.getElem_mem hlt; have hw := k04 (i := i) (by omega); have w := hc _ hmem; have hstep := kF8 (k := k0) hg; have hwtA := kH3 (k := k0) hr (i + 1); rw [hstep, k46] at hwtA; have hlA := k27 (accN k0 l i); obtain ⟨k', op, as, ks, hx⟩ : ∃ k' op as ks, l[i] = .mk k' op as ks := by cases l[i]; exact ⟨_, _, _, _, rfl⟩
  rw [hx] at hg w hstep hwtA; generalize Net.norm (.mk k' op as ks) = y at w hstep hwtA; obtain ⟨k2, op2, as2, ks2⟩ := y; have hb := k31 hg; have fgX := far (show 192 < g by omega); have fzX := far (show 0 < g by omega); generalize accN k0 l i = A at hcw hstep hwtA hlA
  by_cases hkk : k2 = k0
  · subst hkk
    have ho : Net.open k2 (.mk k2 op2 as2 ks2) = ks2 := by simp [Net.open, Net.kind, Net.kids]
    rw [ho] at hstep hwtA; have hl2 := k27 ks2; have al := eq_true (ku4 ks2); have rm : room (A.length + ks2.length) 64 = true := k08 (by omega) (by omega); have rm2 : room ks2.length 64 = true := k08 (by omega) (by omega); refine ⟨.normal, ?_⟩
    rcases hcw with ⟨rfl, rfl⟩ | ⟨bx, hb1, hb2, rfl, hB⟩
    · simp [-getElem?_pos, F218_B0, h0, h1, h4, h5, h6, hA, hC, hlt, hlt', hb, w, hw, al, rm2, fgX, fzX]
      refine ⟨k, by omega, i + 1, by omega, by simp, ?_⟩
      rw [hstep]; refine .inr ⟨_, ?_, ?_, rfl, ?_⟩
      · omega
      · omega
      · simp [fgX]; try rfl
    · have fbX := far hb2
      have b1 : (192 = bx) = False := eq_false (by omega); have b2 : (0 = bx) = False := eq_false (by omega); have b4 : (bx = 192) = False := eq_false (by omega); have b5 : (bx = 0) = False := eq_false (by omega); simp [-getElem?_pos, F218_B0, h0, h1, h4, h5, h6, hA, hC, hB, hlt, hlt', hb, w, hw, al, rm, b1, b2, b4, b5, fgX, fzX, fbX]; refine ⟨k, by omega, i + 1, by omega, by simp, ?_⟩
      rw [hstep]; refine .inr ⟨_, ?_, ?_, (by rw [List.length_append]; try rfl), ?_⟩
      · omega
      · omega
      · simp [k16, netRows, Net.row, fgX]; try rfl
  · have ho : Net.open k0 (.mk k2 op2 as2 ks2) = [.mk k2 op2 as2 ks2] := by simp [Net.open, Net.kind, hkk]
    rw [ho] at hstep hwtA; have hkk' := eq_false hkk; have rm : room (A.length + 1) 64 = true := k08 (by simp [netsWt] at hwtA; omega) (by omega); have rm2 : room 1 64 = true := by decide
    refine ⟨.normal, ?_⟩
    rcases hcw with ⟨rfl, rfl⟩ | ⟨bx, hb1, hb2, rfl, hB⟩
    · simp [-getElem?_pos, F218_B0, h0, h1, h4, h5, h6, hA, hC, hlt, hlt', hb, w, hw, rm2, hkk', fgX, fzX]
      refine ⟨k, by omega, i + 1, by omega, by simp, ?_⟩
      rw [hstep]; refine .inr ⟨_, ?_, ?_, rfl, ?_⟩
      · omega
      · omega
      · simp [k16, netRows, Net.row, fgX]; try rfl
    · have fbX := far hb2
      have b1 : (192 = bx) = False := eq_false (by omega); have b2 : (0 = bx) = False := eq_false (by omega); have b4 : (bx = 192) = False := eq_false (by omega); have b5 : (bx = 0) = False := eq_false (by omega); simp [-getElem?_pos, F218_B0, h0, h1, h4, h5, h6, hA, hC, hB, hlt, hlt', hb, w, hw, rm, rm2, hkk', b1, b2, b4, b5, fgX, fzX, fbX]; refine ⟨k, by omega, i + 1, by omega, by simp, ?_⟩
      rw [hstep]; refine .inr ⟨_, ?_, ?_, (by rw [List.length_append]; try rfl), ?_⟩
      · omega
      · omega
      · simp [k16, netRows, Net.row, fgX]; try rfl
theorem accN_all (k : Int) (l : List Net) : accN k l l.length = (netsNorm l).flatMap (Net.open k) := by
 simp [accN]
theorem kw4 {n : Nat} (l : List Net) (k : Int) (hc : ∀ x ∈ l, ∀ s, go n 214 [netX x] [] s = some ⟨netX x.norm, [], []⟩) (hr : ∀ x ∈ l, x.wrong = 0) (hwt : netsWt l < 2 ^ 29) (hn : l.length < n) (s : Sup) :
 go (n + 1) 218 [iV k, .w (nsW l)] [] s = some ⟨netX (netOf k ((netsNorm l).flatMap (Net.open k))), [], []⟩ := by
 simp [go_of FT_218 rfl, F218]; generalize hst : St.mk _ _ _ _ = st; obtain ⟨e, ⟨τ', H', g', s'⟩, hx, -, rfl, f4, f5, fC, fg, cw, fA, hcw⟩ := loop218 (n := n) l k hc hr hwt hn st (by simp [← hst]) (by simp [← hst]) (by simp [← hst]) (by simp [← hst]) (by simp [← hst]) (by simp [← hst]) (by simp [← hst]) (by simp [← hst]); simp only at f4 f5 fC fg fA hcw; clear hst; rw [accN_all] at hcw; generalize (netsNorm l).flatMap (Net.open k) = A at hcw ⊢; rcases hcw with ⟨rfl, rfl⟩ | ⟨bx, hb1, hb2, rfl, hB⟩
 · simp [hx, f4, f5, fC, fA, netOf, netRows, argRows]
 · have b1 : (192 = bx) = False := eq_false (by omega)
   have b2 : (0 = bx) = False := eq_false (by omega); have b4 : (bx = 192) = False := eq_false (by omega); have b5 : (bx = 0) = False := eq_false (by omega); have glt : ∀ m : Nat, m ≤ 192 → (m < g') = True := fun m h => eq_true (by omega)
   match A, hB with
   | [], hB => simp [hx, f4, f5, fC, fA, hB, netOf, netRows, argRows, b1, b2, b4, b5]
   | [.mk xk xo xa xks], hB => simp [hx, f4, f5, fC, fA, hB, netOf, netRows, Net.row, b1, b2, b4, b5, glt]
   | x :: y :: r, hB =>
    have h1 : ((r.length : Int) + 1 + 1 = 1) = False := eq_false (by omega); have tk := k64 (x :: y :: r); simp only [List.length_cons] at tk; simp [hx, f4, f5, fC, fA, hB, netOf, argRows, h1, tk, b1, b2, b4, b5]
theorem one_kids {op : Int} {as : List Arg} {ks : List Net} (h : (Net.mk 1 op as ks).wrong = 0) : ks = [] := by
 cases ks with
 | nil => rfl
 | cons a r => exfalso; simp [Net.wrong] at h
theorem kl1 : ∀ (m : Nat) (t : Net), t.wt ≤ m → m < 2 ^ 29 → t.wrong = 0 → ∀ (n : Nat), 2 * m + 12 ≤ n → ∀ s, go n 214 [netX t] [] s = some ⟨netX t.norm, [], []⟩
 | 0, t, h, hm, hr, n, hn, s => by have := t.wt_pos; omega
 | m + 1, .mk k op as ks, h, hm, hr, n, hn, s => by
  obtain ⟨n, rfl⟩ : ∃ k, n = k + 2 := ⟨n - 2, by omega⟩; have hlen := k27 ks; have hw0 := h; simp only [Net.wt] at h
  by_cases hk : k = 1
  · subst hk
    have hks : ks = [] := one_kids hr; subst hks; have al := eq_true (kG7 as); have rm : room as.length 24 = true := k08 (by omega) (by omega); simp [go_of FT_214 rfl, F214, Net.norm, al, rm, netRows]
  · obtain ⟨h1, rfl, rfl, h4, h5, h6⟩ := k45 hr hk
    have hc : ∀ n, 2 * m + 12 ≤ n → ∀ x ∈ ks, ∀ s, go n 214 [netX x] [] s = some ⟨netX x.norm, [], []⟩ := fun n hn x hx s => kl1 m x (by have := k38 hx; omega) (by omega) (h6 x hx) n (by omega) s
    by_cases hk4 : k = 4
    · subst hk4
      have hl1 := h5 rfl
      match ks, hl1, hc (n + 1) (by omega) with
      | [x], _, hc =>
       have w := hc x (by simp); have e : Net.norm (.mk 4 0 [] [x]) = .mk 4 0 [] [x.norm] := by simp [Net.norm, netsNorm]
       rw [e]; generalize x.norm = y at w; obtain ⟨k1, op1, as1, ks1⟩ := x; obtain ⟨k2, op2, as2, ks2⟩ := y; simp [go_of (n := n + 1) FT_214 rfl, F214, netRows, Net.row, w, show argRows [] = [] from rfl]
    · have e : Net.norm (.mk k 0 [] ks) = netOf k ((netsNorm ks).flatMap (Net.open k)) := by simp [Net.norm, hk, hk4]
      have w := kw4 (n := n) ks k (hc n (by omega)) h6 (by omega) (by omega); rw [← e] at w; generalize Net.norm (.mk k 0 [] ks) = y at w; obtain ⟨k2, op2, as2, ks2⟩ := y; have hk23 : k = 2 ∨ k = 3 := by omega
      rcases hk23 with rfl | rfl <;> simp [go_of FT_214 rfl, F214, w]
end Go.VM
