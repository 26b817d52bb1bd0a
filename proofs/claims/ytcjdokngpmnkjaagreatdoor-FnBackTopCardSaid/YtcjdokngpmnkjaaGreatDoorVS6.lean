/- Draws: forks. Conditions: none. -/
import Derived.Test.YtcjdokngpmnkjaaGreatDoorVS5

namespace Go.VM
set_option linter.unusedSimpArgs false
set_option linter.unusedVariables false
set_option maxHeartbeats 16000000
structure FK where
 e1 : El
 e2 : El
 e3 : Option El
def FK.net (x : FK) : Net := match x.e3 with | some e => .mk 1 e.op e.as [] | none => .mk 0 0 [] []
def FK.step (o : Arm) (x : FK) : Arm := .mk x.net [] [o, .mk (.mk 1 x.e1.op x.e1.as []) [x.e2] []]
def forkF : Arm → List FK → Arm
 | o, [] => o
 | o, x :: r => forkF (x.step o) r
def FK.wt (x : FK) : Nat := x.e1.as.length + x.e2.as.length + (match x.e3 with | some e => e.as.length | none => 0)
theorem FK.step_wt (o : Arm) (x : FK) : (x.step o).wt ≤ o.wt + 6 + x.wt := by
 obtain ⟨⟨o1, a1⟩, ⟨o2, a2⟩, e3⟩ := x; cases e3 <;> simp [FK.step, FK.net, FK.wt, Arm.wt, armsWt, Net.wt, netsWt, elsWt, El.wt] <;> omega
theorem kJ1 : ∀ (l : List FK) (o : Arm) (W : Nat), (∀ x ∈ l, x.wt ≤ W) → (forkF o l).wt ≤ o.wt + l.length * (6 + W)
 | [], o, W, h => by simp [forkF]
 | x :: r, o, W, h => by
  have h1 := h x (List.mem_cons_self ..); have h2 := kJ1 r (x.step o) W fun y hy => h y (List.mem_cons_of_mem _ hy)
  have h3 := x.step_wt o; simp only [forkF, List.length_cons, Nat.add_mul]; omega
def ForkR (b : List Int) (n : Nat) (p : Nat) (x : FK) (q : Nat) : Prop := ∃ q1 q2 q3 v, (∀ s, go n 134 [pV] [rB b p] s = some ⟨elX x.e1, [rB b q1], []⟩) ∧ (∀ s, go n 135 [pV] [rB b q1] s = some ⟨elX x.e2, [rB b q2], []⟩) ∧ (∀ s, go n 67 [pV, iV 2] [rB b q2] s = some ⟨iV v, [rB b q3], []⟩) ∧
 ((v = 0 ∧ ∃ e, x.e3 = some e ∧ ∀ s, go n 134 [pV] [rB b q3] s = some ⟨elX e, [rB b q], []⟩) ∨ (v ≠ 0 ∧ x.e3 = none ∧ q = q3))
theorem draw_FK {b : List Int} (hb : RD b) (p : Nat) (hp : p < 2 ^ 35) (n : Nat) (hn : 8 ≤ n) : ∃ (x : FK) (q : Nat), x.wt ≤ 7 ∧ q ≤ p + 100 ∧ ForkR b n p x q := by
 obtain ⟨e1, q1, g1, g2, w1⟩ := k41 hb p (by omega) n (by omega); obtain ⟨e2, q2, g3, g4, w2⟩ := k57 hb q1 (by omega) n (by omega); obtain ⟨v, q3, h1, h2, h3, w3⟩ := k06 hb 2 q2 (by omega) n (by omega)
 by_cases hv : v = 0
 · obtain ⟨e3, q4, g5, g6, w4⟩ := k41 hb q3 (by omega) n (by omega)
   exact ⟨⟨e1, e2, some e3⟩, q4, by simp only [FK.wt]; omega, by omega, q1, q2, q3, v, w1, w2, w3, .inl ⟨hv, e3, rfl, w4⟩⟩
 · exact ⟨⟨e1, e2, none⟩, q3, by simp only [FK.wt]; omega, by omega, q1, q2, q3, v, w1, w2, w3, .inr ⟨hv, rfl, rfl⟩⟩
def ForkAt (H : Nat → Box) (g : Nat) : Arm → Prop
 | .mk (.mk ok oo oa oks) cs ks => oks = [] ∧ ∃ bx aw, bx ≠ 513 ∧ bx ≠ 0 ∧ bx ≠ 1 ∧ bx < g ∧ (aw = asW oa ∨ (aw = .nil ∧ oa = [])) ∧
  ((H 513 = .cells [iW ok, iW oo, aw, .nil, .own bx 0 1 (some 1), .nil] ∧ cs.length = 1 ∧ ks = [] ∧ H bx = .row none 2 (elRows cs) 0) ∨
   (H 513 = .cells [iW ok, iW oo, aw, .nil, .nil, .own bx 0 2 (some 2)] ∧ cs = [] ∧ ks.length = 2 ∧ H bx = .row none 6 (armRows ks) 0))
theorem ForkAt.mono {H : Nat → Box} {g g' : Nat} (h : g ≤ g') : ∀ {o : Arm}, ForkAt H g o → ForkAt H g' o
 | .mk (.mk _ _ _ _) _ _, ⟨x, bx, aw, h1, h2, h3, h4, h5⟩ => ⟨x, bx, aw, h1, h2, h3, by omega, h5⟩
theorem ForkAt.kids {H : Nat → Box} {g : Nat} {ok oo : Int} {oa : List Arg} {x y : Arm} (aw : W) (bx : Nat) (h1 : bx ≠ 513) (h2 : bx ≠ 0) (h3 : bx ≠ 1) (h4 : bx < g) (haw : aw = asW oa ∨ (aw = .nil ∧ oa = []))
 (hB : H 513 = .cells [iW ok, iW oo, aw, .nil, .nil, .own bx 0 2 (some 2)]) (hX : H bx = .row none 6 (armRows [x, y]) 0) : ForkAt H g (.mk (.mk ok oo oa []) [] [x, y]) :=
 ⟨rfl, bx, aw, h1, h2, h3, h4, haw, .inr ⟨hB, rfl, rfl, hX⟩⟩
theorem loop177 {b : List Int} {n : Nat} (N : Nat) (es : List FK) (hN : N = es.length) (hNb : N ≤ 1000) (r : Nat) (hn : 1100 ≤ n) (o0 : Arm) (st : St) (p : Nat) (hS : Seq (ForkR b n) p es r)
 (h0 : st.τ 0 = pV) (h1 : st.τ 1 = iV N) (h4 : st.τ 4 = .w (.ptr 1 0)) (h5 : st.τ 5 = .w (.ptr 513 0)) (h6 : st.τ 6 = iV 0) (hA : st.H 0 = rB b p) (hC : st.H 1 = .cells [iW 0, iW 0, .nil, .nil, .nil, .nil]) (hB : ForkAt st.H st.g o0) (hg : 513 < st.g) :
 ∃ e st', execC (go n) mode GT false 41 n F177_L0 st = some (e, st') ∧ e ≠ .normal ∧ (e = .exit 0 ∧ st'.τ 0 = pV ∧ st'.τ 4 = .w (.ptr 1 0) ∧ st'.τ 5 = .w (.ptr 513 0) ∧ st'.H 0 = rB b r ∧ st'.H 1 = .cells [iW 0, iW 0, .nil, .nil, .nil, .nil] ∧ 513 < st'.g ∧
  ForkAt st'.H st'.g (forkF o0 es)) := by
 rw [F177_L0, k00]; refine k03 (fun k st => ∃ i o rest q, rest.length = k ∧ i + rest.length = N ∧ forkF o rest = forkF o0 es ∧ Seq (ForkR b n) q rest r ∧ st.τ 0 = pV ∧ st.τ 1 = iV N ∧ st.τ 4 = .w (.ptr 1 0) ∧ st.τ 5 = .w (.ptr 513 0) ∧ st.τ 6 = iV i ∧ st.H 0 = rB b q ∧
  st.H 1 = .cells [iW 0, iW 0, .nil, .nil, .nil, .nil] ∧ ForkAt st.H st.g o ∧ 513 < st.g) ?_ n es.length st (by omega)
  ⟨0, o0, es, p, rfl, by omega, rfl, hS, h0, h1, h4, h5, by simpa using h6, hA, hC, hB, hg⟩
 clear h0 h1 h4 h5 h6 hA hC hB hg hS; rintro k ⟨τ, H, g, s⟩ ⟨i, o, rest, q, hr, hi, hst, hS, h0, h1, h4, h5, h6, hA, hC, hB, hg⟩; simp only at h0 h1 h4 h5 h6 hA hC hB hg; cases hS with
 | nil =>
  simp only [forkF] at hst; subst hst; have : i = N := by simpa using hi
  subst this; refine ⟨.exit 0, ⟨upd (upd (upd τ 14 (iV i)) 15 (iV i)) 16 (.w (.d (.s (.bool false)))), H, g + 192, restS s⟩, ?_, by simp, fun _ => ⟨rfl, by simpa using h0, by simpa using h4, by simpa using h5, hA, hC, by simp only; omega, hB.mono (by simp only; omega)⟩⟩
  simp [F177_B0, h0, h1, h4, h5, h6]
 | @cons _ q2 _ x rest2 w hS2 =>
  obtain ⟨p1, p2, p3, v, w1, w2, w3, hfin⟩ := w; simp only [List.length_cons] at hi hr; have hlt : ((i : Int) < (N : Int)) = True := eq_true (by omega); have hltn : (i < N) = True := eq_true (by omega); have hwr := k04 (i := i) (by omega); obtain ⟨⟨o1, a1⟩, ⟨o2, a2⟩, e3⟩ := x; obtain ⟨⟨ok, oo, oa, oks⟩, cs, ks⟩ := o; have hgo : forkF _ rest2 = forkF o0 es := hst; obtain ⟨rfl, bx, aw, hb1, hb2, hb3, hb4, haw, hcase⟩ := hB; have fgX := far (show 513 < g by omega); have feX := far (show 1 < g by omega); have fzX := far (show 0 < g by omega); have fbX := far hb4; refine ⟨.normal, ?_⟩
  simp only at hfin w1 w2; have b1 : (513 = bx) = False := eq_false (fun e => hb1 e.symm); have b2 : (1 = bx) = False := eq_false (fun e => hb3 e.symm); have b3 : (0 = bx) = False := eq_false (fun e => hb2 e.symm); have b4 : (bx = 513) = False := eq_false hb1; have b5 : (bx = 0) = False := eq_false hb2; have b6 : (bx = 1) = False := eq_false hb3; rcases hfin with ⟨rfl, e3, rfl, w4⟩ | ⟨hv, rfl, rfl⟩
  · rcases haw with rfl | ⟨rfl, rfl⟩
    · rcases hcase with ⟨hB, hcl, rfl, hBX⟩ | ⟨hB, rfl, hkl, hBX⟩
      · have tkE : List.take 1 (elRows cs) = elRows cs := List.take_of_length_le (by rw [k21]; omega)
        have h1l : 1 ≤ cs.length := by omega
        simp [-getElem?_pos, F177_B0, h0, h1, h4, h5, h6, hA, hC, hB, hBX, tkE, h1l, hcl, hlt, hltn, w1, w2, w3, w4, hwr, b1, b2, b3, b4, b5, b6, fgX, feX, fzX, fbX]; refine ⟨rest2.length, by omega, i + 1, _, rest2, rfl, by omega, hgo, q2, hS2, by simp, rfl, ?_⟩
        exact ForkAt.kids (asW e3.as) (g + 192 + 512) (by omega) (by omega) (by omega) (by omega) (.inl rfl) (by simp; try rfl) (by simp [armRows, Arm.row, elRows, El.row, fgX]; try rfl)
      · have tkA : List.take 2 (armRows ks) = armRows ks := List.take_of_length_le (by rw [k15]; omega)
        have h1l : 2 ≤ ks.length := by omega
        simp [-getElem?_pos, F177_B0, h0, h1, h4, h5, h6, hA, hC, hB, hBX, tkA, h1l, hkl, hlt, hltn, w1, w2, w3, w4, hwr, b1, b2, b3, b4, b5, b6, fgX, feX, fzX, fbX]; refine ⟨rest2.length, by omega, i + 1, _, rest2, rfl, by omega, hgo, q2, hS2, by simp, rfl, ?_⟩
        exact ForkAt.kids (asW e3.as) (g + 192 + 512) (by omega) (by omega) (by omega) (by omega) (.inl rfl) (by simp; try rfl) (by simp [armRows, Arm.row, elRows, El.row, fgX]; try rfl)
    · rcases hcase with ⟨hB, hcl, rfl, hBX⟩ | ⟨hB, rfl, hkl, hBX⟩
      · have tkE : List.take 1 (elRows cs) = elRows cs := List.take_of_length_le (by rw [k21]; omega)
        have h1l : 1 ≤ cs.length := by omega
        simp [-getElem?_pos, F177_B0, h0, h1, h4, h5, h6, hA, hC, hB, hBX, tkE, h1l, hcl, hlt, hltn, w1, w2, w3, w4, hwr, b1, b2, b3, b4, b5, b6, fgX, feX, fzX, fbX]; refine ⟨rest2.length, by omega, i + 1, _, rest2, rfl, by omega, hgo, q2, hS2, by simp, rfl, ?_⟩
        exact ForkAt.kids (asW e3.as) (g + 192 + 512) (by omega) (by omega) (by omega) (by omega) (.inl rfl) (by simp; try rfl) (by simp [armRows, Arm.row, elRows, El.row, fgX]; try rfl)
      · have tkA : List.take 2 (armRows ks) = armRows ks := List.take_of_length_le (by rw [k15]; omega)
        have h1l : 2 ≤ ks.length := by omega
        simp [-getElem?_pos, F177_B0, h0, h1, h4, h5, h6, hA, hC, hB, hBX, tkA, h1l, hkl, hlt, hltn, w1, w2, w3, w4, hwr, b1, b2, b3, b4, b5, b6, fgX, feX, fzX, fbX]; refine ⟨rest2.length, by omega, i + 1, _, rest2, rfl, by omega, hgo, q2, hS2, by simp, rfl, ?_⟩
        exact ForkAt.kids (asW e3.as) (g + 192 + 512) (by omega) (by omega) (by omega) (by omega) (.inl rfl) (by simp; try rfl) (by simp [armRows, Arm.row, elRows, El.row, fgX]; try rfl)
  · rcases haw with rfl | ⟨rfl, rfl⟩
    · rcases hcase with ⟨hB, hcl, rfl, hBX⟩ | ⟨hB, rfl, hkl, hBX⟩
      · have tkE : List.take 1 (elRows cs) = elRows cs := List.take_of_length_le (by rw [k21]; omega)
        have h1l : 1 ≤ cs.length := by omega
        simp [-getElem?_pos, F177_B0, h0, h1, h4, h5, h6, hA, hC, hB, hBX, tkE, h1l, hcl, hlt, hltn, w1, w2, w3, hv, hwr, b1, b2, b3, b4, b5, b6, fgX, feX, fzX, fbX]; refine ⟨rest2.length, by omega, i + 1, _, rest2, rfl, by omega, hgo, q2, hS2, by simp, rfl, ?_⟩
        exact ForkAt.kids (.nil) (g + 192 + 512) (by omega) (by omega) (by omega) (by omega) (.inr ⟨rfl, rfl⟩) (by simp; try rfl) (by simp [armRows, Arm.row, elRows, El.row, fgX]; try rfl)
      · have tkA : List.take 2 (armRows ks) = armRows ks := List.take_of_length_le (by rw [k15]; omega)
        have h1l : 2 ≤ ks.length := by omega
        simp [-getElem?_pos, F177_B0, h0, h1, h4, h5, h6, hA, hC, hB, hBX, tkA, h1l, hkl, hlt, hltn, w1, w2, w3, hv, hwr, b1, b2, b3, b4, b5, b6, fgX, feX, fzX, fbX]; refine ⟨rest2.length, by omega, i + 1, _, rest2, rfl, by omega, hgo, q2, hS2, by simp, rfl, ?_⟩
        exact ForkAt.kids (.nil) (g + 192 + 512) (by omega) (by omega) (by omega) (by omega) (.inr ⟨rfl, rfl⟩) (by simp; try rfl) (by simp [armRows, Arm.row, elRows, El.row, fgX]; try rfl)
    · rcases hcase with ⟨hB, hcl, rfl, hBX⟩ | ⟨hB, rfl, hkl, hBX⟩
      · have tkE : List.take 1 (elRows cs) = elRows cs := List.take_of_length_le (by rw [k21]; omega)
        have h1l : 1 ≤ cs.length := by omega
        simp [-getElem?_pos, F177_B0, h0, h1, h4, h5, h6, hA, hC, hB, hBX, tkE, h1l, hcl, hlt, hltn, w1, w2, w3, hv, hwr, b1, b2, b3, b4, b5, b6, fgX, feX, fzX, fbX]; refine ⟨rest2.length, by omega, i + 1, _, rest2, rfl, by omega, hgo, q2, hS2, by simp, rfl, ?_⟩
        exact ForkAt.kids (.nil) (g + 192 + 512) (by omega) (by omega) (by omega) (by omega) (.inr ⟨rfl, rfl⟩) (by simp; try rfl) (by simp [armRows, Arm.row, elRows, El.row, fgX]; try rfl)
      · have tkA : List.take 2 (armRows ks) = armRows ks := List.take_of_length_le (by rw [k15]; omega)
        have h1l : 2 ≤ ks.length := by omega
        simp [-getElem?_pos, F177_B0, h0, h1, h4, h5, h6, hA, hC, hB, hBX, tkA, h1l, hkl, hlt, hltn, w1, w2, w3, hv, hwr, b1, b2, b3, b4, b5, b6, fgX, feX, fzX, fbX]; refine ⟨rest2.length, by omega, i + 1, _, rest2, rfl, by omega, hgo, q2, hS2, by simp, rfl, ?_⟩
        exact ForkAt.kids (.nil) (g + 192 + 512) (by omega) (by omega) (by omega) (by omega) (.inr ⟨rfl, rfl⟩) (by simp; try rfl) (by simp [armRows, Arm.row, elRows, El.row, fgX]; try rfl)
def Arm.setNet (e : El) : Arm → Arm | .mk _ cs ks => .mk (.mk 1 e.op e.as []) cs ks
theorem setNet_wt (e : El) (o : Arm) : (o.setNet e).wt ≤ o.wt + 1 + e.as.length := by
 obtain ⟨t, cs, ks⟩ := o; have := t.wt_pos; simp only [Arm.setNet, Arm.wt, Net.wt, netsWt]; omega
def forkV : Arm → V
 | .mk (.mk k op as _) cs ks => if ks = [] then .agg [iW k, iW op, asW as, .nil, .own 1 0 1 (some 1), .nil] else .agg [iW k, iW op, asW as, .nil, .nil, .own 1 0 2 (some 2)]
def forkB : Arm → Box
 | .mk _ cs ks => if ks = [] then .row none 2 (elRows cs) 0 else .row none 6 (armRows ks) 0
def ForkOk : Arm → Prop
 | .mk (.mk _ _ _ nks) cs ks => nks = [] ∧ ((cs.length = 1 ∧ ks = []) ∨ (cs = [] ∧ ks.length = 2))
theorem draw_Forks {b : List Int} (hb : RD b) (N : Nat) (hN : N ≤ 100) (n : Nat) (hn : 1300 ≤ n) (p : Nat) (hp : p < 2 ^ 34) :
 ∃ (t : Arm) (q : Nat), t.wt ≤ 40 + 20 * N ∧ q ≤ p + 200 + 100 * N ∧ ∀ s, ForkOk t ∧ go n 177 [pV, iV N] [rB b p] s = some ⟨forkV t, [rB b q], [forkB t]⟩ := by
 obtain ⟨n, rfl⟩ : ∃ k, n = k + 1 := ⟨n - 1, by omega⟩; obtain ⟨⟨eo, ea⟩, q1, g1, g2, w1⟩ := k41 hb p (by omega) n (by omega); obtain ⟨⟨co, ca⟩, q2, g3, g4, w2⟩ := k57 hb q1 (by omega) n (by omega); obtain ⟨es, r, k1, k2, k3, k4⟩ := Seq.have (R := ForkR b n) (wt := FK.wt) (W := 7) (P := 100) (B := 2 ^ 35) (fun p hp => draw_FK hb p hp n (by omega)) N q2 (by omega); obtain ⟨⟨fo, fa⟩, q3, g5, g6, w3⟩ := k41 hb r (by omega) n (by omega); have hwt := kJ1 es (.mk (.mk 1 eo ea []) [⟨co, ca⟩] []) 7 k2; have hsw := setNet_wt ⟨fo, fa⟩ (forkF (.mk (.mk 1 eo ea []) [⟨co, ca⟩] []) es); simp only at g1 g3 g5
 refine ⟨(forkF (.mk (.mk 1 eo ea []) [⟨co, ca⟩] []) es).setNet ⟨fo, fa⟩, q3, ?_, by omega, fun s => ?_⟩
 · have e0 : (Arm.mk (.mk 1 eo ea []) [⟨co, ca⟩] []).wt ≤ 8 := by simp only [Arm.wt, Net.wt, netsWt, elsWt, El.wt, armsWt]; omega
   rw [k1] at hwt; simp only at hsw; omega
 simp [go_of FT_177 rfl, F177, w1, w2]; generalize hst : St.mk _ _ _ _ = st; obtain ⟨e, ⟨τ', H', g', s'⟩, hx, -, rfl, e0, e4, e5, eA, eC, eg, eB⟩ := loop177 N es (by omega) (by omega) r (by omega) (.mk (.mk 1 eo ea []) [⟨co, ca⟩] []) st q2 k4 (by simp [← hst]) (by simp [← hst]) (by simp [← hst]) (by simp [← hst]) (by simp [← hst]) (by simp [← hst]) (by simp [← hst]) (by subst hst; exact ⟨rfl, 385, asW ea, by decide, by decide, by decide, by simp, .inl rfl, .inl ⟨by simp, rfl, rfl, by simp [elRows, El.row]⟩⟩) (by simp [← hst]); simp only at e0 e4 e5 eA eC eg eB; clear hst; generalize forkF (.mk (.mk 1 eo ea []) [⟨co, ca⟩] []) es = T at eB ⊢; obtain ⟨⟨ok, oo, oa, oks⟩, cs, ks⟩ := T
 obtain ⟨rfl, bx, aw, hb1, hb2, hb3, hb4, haw, hcase⟩ := eB; have b1 : (513 = bx) = False := eq_false (fun e => hb1 e.symm); have b2 : (1 = bx) = False := eq_false (fun e => hb3 e.symm); have b3 : (0 = bx) = False := eq_false (fun e => hb2 e.symm); have b4 : (bx = 513) = False := eq_false hb1; have b5 : (bx = 0) = False := eq_false hb2; have b6 : (bx = 1) = False := eq_false hb3; have fgX := far (show 513 < g' by omega); have fzX := far (show 0 < g' by omega); have fbX := far hb4; rcases hcase with ⟨hB, hcl, rfl, hBX⟩ | ⟨hB, rfl, hkl, hBX⟩
 · refine ⟨⟨rfl, .inl ⟨hcl, rfl⟩⟩, ?_⟩
   have tkE : List.take 1 (elRows cs) = elRows cs := List.take_of_length_le (by rw [k21]; omega); rcases haw with rfl | ⟨rfl, rfl⟩ <;> simp [hx, e0, e4, e5, eA, eC, hB, hBX, w3, tkE, hcl, b1, b2, b3, b4, b5, b6, Arm.setNet, forkV, forkB, fgX, fzX, fbX]
 · refine ⟨⟨rfl, .inr ⟨rfl, hkl⟩⟩, ?_⟩
   have hkn : ks ≠ [] := fun e => by rw [e] at hkl; cases hkl
   have tkA : List.take 2 (armRows ks) = armRows ks := List.take_of_length_le (by rw [k15]; omega); rcases haw with rfl | ⟨rfl, rfl⟩ <;> simp [hx, e0, e4, e5, eA, eC, hB, hBX, w3, tkA, hkl, hkn, b1, b2, b3, b4, b5, b6, Arm.setNet, forkV, forkB, fgX, fzX, fbX]
end Go.VM
