/- Draws: forks. Conditions: none. -/
import Derived.Test.YtcjdokngpmnkjaaGreatDoorVS5

namespace Go.VM
set_option linter.unusedSimpArgs false
set_option linter.unusedVariables false
set_option maxHeartbeats 16000000
structure FK where
 e1 : El
 e2 : El
 e3 : Option El
def FK.net (x : FK) : Net := match x.e3 with | some e => .mk 1 e.op e.as [] | none => .mk 0 0 [] []
def FK.step (o : Arm) (x : FK) : Arm := .mk x.net [] [o, .mk (.mk 1 x.e1.op x.e1.as []) [x.e2] []]
def forkF : Arm → List FK → Arm
 | o, [] => o
 | o, x :: r => forkF (x.step o) r
def FK.wt (x : FK) : Nat := x.e1.as.length + x.e2.as.length + (match x.e3 with | some e => e.as.length | none => 0)
theorem FK.step_wt (o : Arm) (x : FK) : (x.step o).wt ≤ o.wt + 6 + x.wt := by
 obtain ⟨⟨o1, a1⟩, ⟨o2, a2⟩, e3⟩ := x
 cases e3 <;> simp [FK.step, FK.net, FK.wt, Arm.wt, armsWt, Net.wt, netsWt, elsWt, El.wt] <;> omega
theorem forkF_wt : ∀ (l : List FK) (o : Arm) (W : Nat), (∀ x ∈ l, x.wt ≤ W) → (forkF o l).wt ≤ o.wt + l.length * (6 + W)
 | [], o, W, h => by simp [forkF]
 | x :: r, o, W, h => by
  have h1 := h x (List.mem_cons_self ..)
  have h2 := forkF_wt r (x.step o) W fun y hy => h y (List.mem_cons_of_mem _ hy)
  have h3 := x.step_wt o
  simp only [forkF, List.length_cons, Nat.add_mul]; omega
/-- One fork's draws. -/
def ForkR (b : List Int) (n : Nat) (p : Nat) (x : FK) (q : Nat) : Prop := ∃ q1 q2 q3 v, (∀ s, go n 134 [pV] [rB b p] s = some ⟨elX x.e1, [rB b q1], []⟩) ∧ (∀ s, go n 135 [pV] [rB b q1] s = some ⟨elX x.e2, [rB b q2], []⟩) ∧ (∀ s, go n 67 [pV, iV 2] [rB b q2] s = some ⟨iV v, [rB b q3], []⟩) ∧
 ((v = 0 ∧ ∃ e, x.e3 = some e ∧ ∀ s, go n 134 [pV] [rB b q3] s = some ⟨elX e, [rB b q], []⟩) ∨ (v ≠ 0 ∧ x.e3 = none ∧ q = q3))
theorem draw_FK {b : List Int} (hb : RD b) (p : Nat) (hp : p < 2 ^ 35) (n : Nat) (hn : 8 ≤ n) : ∃ (x : FK) (q : Nat), x.wt ≤ 7 ∧ q ≤ p + 100 ∧ ForkR b n p x q := by
 obtain ⟨e1, q1, g1, g2, w1⟩ := draw_Contact hb p (by omega) n (by omega)
 obtain ⟨e2, q2, g3, g4, w2⟩ := draw_Coil hb q1 (by omega) n (by omega)
 obtain ⟨v, q3, h1, h2, h3, w3⟩ := draw_pick hb 2 q2 (by omega) n (by omega)
 by_cases hv : v = 0
 · obtain ⟨e3, q4, g5, g6, w4⟩ := draw_Contact hb q3 (by omega) n (by omega)
   exact ⟨⟨e1, e2, some e3⟩, q4, by simp only [FK.wt]; omega, by omega, q1, q2, q3, v, w1, w2, w3, .inl ⟨hv, e3, rfl, w4⟩⟩
 · exact ⟨⟨e1, e2, none⟩, q3, by simp only [FK.wt]; omega, by omega, q1, q2, q3, v, w1, w2, w3, .inr ⟨hv, rfl, rfl⟩⟩
/-- How the arm lies that forks are built of. -/
def ForkAt (H : Nat → Box) (g : Nat) : Arm → Prop
 | .mk (.mk ok oo oa oks) cs ks => oks = [] ∧ ∃ bx aw, bx ≠ 513 ∧ bx ≠ 0 ∧ bx ≠ 1 ∧ bx < g ∧ (aw = asW oa ∨ (aw = .nil ∧ oa = [])) ∧
  ((H 513 = .cells [iW ok, iW oo, aw, .nil, .own bx 0 1 (some 1), .nil] ∧ cs.length = 1 ∧ ks = [] ∧ H bx = .row none 2 (elRows cs) 0) ∨
   (H 513 = .cells [iW ok, iW oo, aw, .nil, .nil, .own bx 0 2 (some 2)] ∧ cs = [] ∧ ks.length = 2 ∧ H bx = .row none 6 (armRows ks) 0))
theorem ForkAt.mono {H : Nat → Box} {g g' : Nat} (h : g ≤ g') : ∀ {o : Arm}, ForkAt H g o → ForkAt H g' o
 | .mk (.mk _ _ _ _) _ _, ⟨x, bx, aw, h1, h2, h3, h4, h5⟩ => ⟨x, bx, aw, h1, h2, h3, by omega, h5⟩
theorem ForkAt.kids {H : Nat → Box} {g : Nat} {ok oo : Int} {oa : List Arg} {x y : Arm} (aw : W) (bx : Nat) (h1 : bx ≠ 513) (h2 : bx ≠ 0) (h3 : bx ≠ 1) (h4 : bx < g) (haw : aw = asW oa ∨ (aw = .nil ∧ oa = []))
 (hB : H 513 = .cells [iW ok, iW oo, aw, .nil, .nil, .own bx 0 2 (some 2)]) (hX : H bx = .row none 6 (armRows [x, y]) 0) : ForkAt H g (.mk (.mk ok oo oa []) [] [x, y]) :=
 ⟨rfl, bx, aw, h1, h2, h3, h4, haw, .inr ⟨hB, rfl, rfl, hX⟩⟩
theorem loop177 {b : List Int} {n : Nat} (N : Nat) (es : List FK) (hN : N = es.length) (hNb : N ≤ 1000) (r : Nat) (hn : 1100 ≤ n) (o0 : Arm) (st : St) (p : Nat) (hS : Seq (ForkR b n) p es r)
 (h0 : st.τ 0 = pV) (h1 : st.τ 1 = iV N) (h4 : st.τ 4 = .w (.ptr 1 0)) (h5 : st.τ 5 = .w (.ptr 513 0)) (h6 : st.τ 6 = iV 0) (hA : st.H 0 = rB b p) (hC : st.H 1 = .cells [iW 0, iW 0, .nil, .nil, .nil, .nil]) (hB : ForkAt st.H st.g o0) (hg : 513 < st.g) :
 ∃ e st', execC (go n) mode GT false 41 n F177_L0 st = some (e, st') ∧ e ≠ .normal ∧ (e = .exit 0 ∧ st'.τ 0 = pV ∧ st'.τ 4 = .w (.ptr 1 0) ∧ st'.τ 5 = .w (.ptr 513 0) ∧ st'.H 0 = rB b r ∧ st'.H 1 = .cells [iW 0, iW 0, .nil, .nil, .nil, .nil] ∧ 513 < st'.g ∧
  ForkAt st'.H st'.g (forkF o0 es)) := by
 rw [F177_L0, execC_loop]
 refine iter_rule (fun k st => ∃ i o rest q, rest.length = k ∧ i + rest.length = N ∧ forkF o rest = forkF o0 es ∧ Seq (ForkR b n) q rest r ∧ st.τ 0 = pV ∧ st.τ 1 = iV N ∧ st.τ 4 = .w (.ptr 1 0) ∧ st.τ 5 = .w (.ptr 513 0) ∧ st.τ 6 = iV i ∧ st.H 0 = rB b q ∧
  st.H 1 = .cells [iW 0, iW 0, .nil, .nil, .nil, .nil] ∧ ForkAt st.H st.g o ∧ 513 < st.g) ?_ n es.length st (by omega)
  ⟨0, o0, es, p, rfl, by omega, rfl, hS, h0, h1, h4, h5, by simpa using h6, hA, hC, hB, hg⟩
 clear h0 h1 h4 h5 h6 hA hC hB hg hS
 rintro k ⟨τ, H, g, s⟩ ⟨i, o, rest, q, hr, hi, hst, hS, h0, h1, h4, h5, h6, hA, hC, hB, hg⟩
 simp only at h0 h1 h4 h5 h6 hA hC hB hg
 cases hS with
 | nil =>
  simp only [forkF] at hst
  subst hst
  have : i = N := by simpa using hi
  subst this
  refine ⟨.exit 0, ⟨upd (upd (upd τ 14 (iV i)) 15 (iV i)) 16 (.w (.d (.s (.bool false)))), H, g + 192, restS s⟩, ?_, by simp, fun _ => ⟨rfl, by simpa using h0, by simpa using h4, by simpa using h5, hA, hC, by simp only; omega, hB.mono (by simp only; omega)⟩⟩
  simp [F177_B0, h0, h1, h4, h5, h6]
 | @cons _ q2 _ x rest2 w hS2 =>
  obtain ⟨p1, p2, p3, v, w1, w2, w3, hfin⟩ := w
  simp only [List.length_cons] at hi hr
  have hlt : ((i : Int) < (N : Int)) = True := eq_true (by omega)
  have hltn : (i < N) = True := eq_true (by omega)
  have hwr := wrap_succ (i := i) (by omega)
  obtain ⟨⟨o1, a1⟩, ⟨o2, a2⟩, e3⟩ := x
  obtain ⟨⟨ok, oo, oa, oks⟩, cs, ks⟩ := o
  have hgo : forkF _ rest2 = forkF o0 es := hst
  obtain ⟨rfl, bx, aw, hb1, hb2, hb3, hb4, haw, hcase⟩ := hB
  have fgX := far (show 513 < g by omega)
  have feX := far (show 1 < g by omega)
  have fzX := far (show 0 < g by omega)
  have fbX := far hb4
  refine ⟨.normal, ?_⟩
  simp only at hfin w1 w2
  have b1 : (513 = bx) = False := eq_false (fun e => hb1 e.symm)
  have b2 : (1 = bx) = False := eq_false (fun e => hb3 e.symm)
  have b3 : (0 = bx) = False := eq_false (fun e => hb2 e.symm)
  have b4 : (bx = 513) = False := eq_false hb1
  have b5 : (bx = 0) = False := eq_false hb2
  have b6 : (bx = 1) = False := eq_false hb3
  rcases hfin with ⟨rfl, e3, rfl, w4⟩ | ⟨hv, rfl, rfl⟩
  · rcases haw with rfl | ⟨rfl, rfl⟩
    · rcases hcase with ⟨hB, hcl, rfl, hBX⟩ | ⟨hB, rfl, hkl, hBX⟩
      · have tkE : List.take 1 (elRows cs) = elRows cs := List.take_of_length_le (by rw [elRows_length]; omega)
        have h1l : 1 ≤ cs.length := by omega
        simp [-getElem?_pos, F177_B0, h0, h1, h4, h5, h6, hA, hC, hB, hBX, tkE, h1l, hcl, hlt, hltn, w1, w2, w3, w4, hwr, b1, b2, b3, b4, b5, b6, fgX, feX, fzX, fbX]
        refine ⟨rest2.length, by omega, i + 1, _, rest2, rfl, by omega, hgo, q2, hS2, by simp, rfl, ?_⟩
        exact ForkAt.kids (asW e3.as) (g + 192 + 512) (by omega) (by omega) (by omega) (by omega) (.inl rfl) (by simp; try rfl) (by simp [armRows, Arm.row, elRows, El.row, fgX]; try rfl)
      · have tkA : List.take 2 (armRows ks) = armRows ks := List.take_of_length_le (by rw [armRows_length]; omega)
        have h1l : 2 ≤ ks.length := by omega
        simp [-getElem?_pos, F177_B0, h0, h1, h4, h5, h6, hA, hC, hB, hBX, tkA, h1l, hkl, hlt, hltn, w1, w2, w3, w4, hwr, b1, b2, b3, b4, b5, b6, fgX, feX, fzX, fbX]
        refine ⟨rest2.length, by omega, i + 1, _, rest2, rfl, by omega, hgo, q2, hS2, by simp, rfl, ?_⟩
        exact ForkAt.kids (asW e3.as) (g + 192 + 512) (by omega) (by omega) (by omega) (by omega) (.inl rfl) (by simp; try rfl) (by simp [armRows, Arm.row, elRows, El.row, fgX]; try rfl)
    · rcases hcase with ⟨hB, hcl, rfl, hBX⟩ | ⟨hB, rfl, hkl, hBX⟩
      · have tkE : List.take 1 (elRows cs) = elRows cs := List.take_of_length_le (by rw [elRows_length]; omega)
        have h1l : 1 ≤ cs.length := by omega
        simp [-getElem?_pos, F177_B0, h0, h1, h4, h5, h6, hA, hC, hB, hBX, tkE, h1l, hcl, hlt, hltn, w1, w2, w3, w4, hwr, b1, b2, b3, b4, b5, b6, fgX, feX, fzX, fbX]
        refine ⟨rest2.length, by omega, i + 1, _, rest2, rfl, by omega, hgo, q2, hS2, by simp, rfl, ?_⟩
        exact ForkAt.kids (asW e3.as) (g + 192 + 512) (by omega) (by omega) (by omega) (by omega) (.inl rfl) (by simp; try rfl) (by simp [armRows, Arm.row, elRows, El.row, fgX]; try rfl)
      · have tkA : List.take 2 (armRows ks) = armRows ks := List.take_of_length_le (by rw [armRows_length]; omega)
        have h1l : 2 ≤ ks.length := by omega
        simp [-getElem?_pos, F177_B0, h0, h1, h4, h5, h6, hA, hC, hB, hBX, tkA, h1l, hkl, hlt, hltn, w1, w2, w3, w4, hwr, b1, b2, b3, b4, b5, b6, fgX, feX, fzX, fbX]
        refine ⟨rest2.length, by omega, i + 1, _, rest2, rfl, by omega, hgo, q2, hS2, by simp, rfl, ?_⟩
        exact ForkAt.kids (asW e3.as) (g + 192 + 512) (by omega) (by omega) (by omega) (by omega) (.inl rfl) (by simp; try rfl) (by simp [armRows, Arm.row, elRows, El.row, fgX]; try rfl)
  · rcases haw with rfl | ⟨rfl, rfl⟩
    · rcases hcase with ⟨hB, hcl, rfl, hBX⟩ | ⟨hB, rfl, hkl, hBX⟩
      · have tkE : List.take 1 (elRows cs) = elRows cs := List.take_of_length_le (by rw [elRows_length]; omega)
        have h1l : 1 ≤ cs.length := by omega
        simp [-getElem?_pos, F177_B0, h0, h1, h4, h5, h6, hA, hC, hB, hBX, tkE, h1l, hcl, hlt, hltn, w1, w2, w3, hv, hwr, b1, b2, b3, b4, b5, b6, fgX, feX, fzX, fbX]
        refine ⟨rest2.length, by omega, i + 1, _, rest2, rfl, by omega, hgo, q2, hS2, by simp, rfl, ?_⟩
        exact ForkAt.kids (.nil) (g + 192 + 512) (by omega) (by omega) (by omega) (by omega) (.inr ⟨rfl, rfl⟩) (by simp; try rfl) (by simp [armRows, Arm.row, elRows, El.row, fgX]; try rfl)
      · have tkA : List.take 2 (armRows ks) = armRows ks := List.take_of_length_le (by rw [armRows_length]; omega)
        have h1l : 2 ≤ ks.length := by omega
        simp [-getElem?_pos, F177_B0, h0, h1, h4, h5, h6, hA, hC, hB, hBX, tkA, h1l, hkl, hlt, hltn, w1, w2, w3, hv, hwr, b1, b2, b3, b4, b5, b6, fgX, feX, fzX, fbX]
        refine ⟨rest2.length, by omega, i + 1, _, rest2, rfl, by omega, hgo, q2, hS2, by simp, rfl, ?_⟩
        exact ForkAt.kids (.nil) (g + 192 + 512) (by omega) (by omega) (by omega) (by omega) (.inr ⟨rfl, rfl⟩) (by simp; try rfl) (by simp [armRows, Arm.row, elRows, El.row, fgX]; try rfl)
    · rcases hcase with ⟨hB, hcl, rfl, hBX⟩ | ⟨hB, rfl, hkl, hBX⟩
      · have tkE : List.take 1 (elRows cs) = elRows cs := List.take_of_length_le (by rw [elRows_length]; omega)
        have h1l : 1 ≤ cs.length := by omega
        simp [-getElem?_pos, F177_B0, h0, h1, h4, h5, h6, hA, hC, hB, hBX, tkE, h1l, hcl, hlt, hltn, w1, w2, w3, hv, hwr, b1, b2, b3, b4, b5, b6, fgX, feX, fzX, fbX]
        refine ⟨rest2.length, by omega, i + 1, _, rest2, rfl, by omega, hgo, q2, hS2, by simp, rfl, ?_⟩
        exact ForkAt.kids (.nil) (g + 192 + 512) (by omega) (by omega) (by omega) (by omega) (.inr ⟨rfl, rfl⟩) (by simp; try rfl) (by simp [armRows, Arm.row, elRows, El.row, fgX]; try rfl)
      · have tkA : List.take 2 (armRows ks) = armRows ks := List.take_of_length_le (by rw [armRows_length]; omega)
        have h1l : 2 ≤ ks.length := by omega
        simp [-getElem?_pos, F177_B0, h0, h1, h4, h5, h6, hA, hC, hB, hBX, tkA, h1l, hkl, hlt, hltn, w1, w2, w3, hv, hwr, b1, b2, b3, b4, b5, b6, fgX, feX, fzX, fbX]
        refine ⟨rest2.length, by omega, i + 1, _, rest2, rfl, by omega, hgo, q2, hS2, by simp, rfl, ?_⟩
        exact ForkAt.kids (.nil) (g + 192 + 512) (by omega) (by omega) (by omega) (by omega) (.inr ⟨rfl, rfl⟩) (by simp; try rfl) (by simp [armRows, Arm.row, elRows, El.row, fgX]; try rfl)
def Arm.setNet (e : El) : Arm → Arm | .mk _ cs ks => .mk (.mk 1 e.op e.as []) cs ks
theorem setNet_wt (e : El) (o : Arm) : (o.setNet e).wt ≤ o.wt + 1 + e.as.length := by
 obtain ⟨t, cs, ks⟩ := o
 have := t.wt_pos
 simp only [Arm.setNet, Arm.wt, Net.wt, netsWt]; omega
/-- What l7Forks hands back: its one slice stays its own. -/
def forkV : Arm → V
 | .mk (.mk k op as _) cs ks => if ks = [] then .agg [iW k, iW op, asW as, .nil, .own 1 0 1 (some 1), .nil] else .agg [iW k, iW op, asW as, .nil, .nil, .own 1 0 2 (some 2)]
def forkB : Arm → Box
 | .mk _ cs ks => if ks = [] then .row none 2 (elRows cs) 0 else .row none 6 (armRows ks) 0
def ForkOk : Arm → Prop
 | .mk (.mk _ _ _ nks) cs ks => nks = [] ∧ ((cs.length = 1 ∧ ks = []) ∨ (cs = [] ∧ ks.length = 2))
theorem draw_Forks {b : List Int} (hb : RD b) (N : Nat) (hN : N ≤ 100) (n : Nat) (hn : 1300 ≤ n) (p : Nat) (hp : p < 2 ^ 34) :
 ∃ (t : Arm) (q : Nat), t.wt ≤ 40 + 20 * N ∧ q ≤ p + 200 + 100 * N ∧ ∀ s, ForkOk t ∧ go n 177 [pV, iV N] [rB b p] s = some ⟨forkV t, [rB b q], [forkB t]⟩ := by
 obtain ⟨n, rfl⟩ : ∃ k, n = k + 1 := ⟨n - 1, by omega⟩
 obtain ⟨⟨eo, ea⟩, q1, g1, g2, w1⟩ := draw_Contact hb p (by omega) n (by omega)
 obtain ⟨⟨co, ca⟩, q2, g3, g4, w2⟩ := draw_Coil hb q1 (by omega) n (by omega)
 obtain ⟨es, r, k1, k2, k3, k4⟩ := Seq.have (R := ForkR b n) (wt := FK.wt) (W := 7) (P := 100) (B := 2 ^ 35) (fun p hp => draw_FK hb p hp n (by omega)) N q2 (by omega)
 obtain ⟨⟨fo, fa⟩, q3, g5, g6, w3⟩ := draw_Contact hb r (by omega) n (by omega)
 have hwt := forkF_wt es (.mk (.mk 1 eo ea []) [⟨co, ca⟩] []) 7 k2
 have hsw := setNet_wt ⟨fo, fa⟩ (forkF (.mk (.mk 1 eo ea []) [⟨co, ca⟩] []) es)
 simp only at g1 g3 g5
 refine ⟨(forkF (.mk (.mk 1 eo ea []) [⟨co, ca⟩] []) es).setNet ⟨fo, fa⟩, q3, ?_, by omega, fun s => ?_⟩
 · have e0 : (Arm.mk (.mk 1 eo ea []) [⟨co, ca⟩] []).wt ≤ 8 := by simp only [Arm.wt, Net.wt, netsWt, elsWt, El.wt, armsWt]; omega
   rw [k1] at hwt
   simp only at hsw
   omega
 simp [go_of FT_177 rfl, F177, w1, w2]
 generalize hst : St.mk _ _ _ _ = st
 obtain ⟨e, ⟨τ', H', g', s'⟩, hx, -, rfl, e0, e4, e5, eA, eC, eg, eB⟩ := loop177 N es (by omega) (by omega) r (by omega) (.mk (.mk 1 eo ea []) [⟨co, ca⟩] []) st q2 k4 (by simp [← hst]) (by simp [← hst]) (by simp [← hst]) (by simp [← hst]) (by simp [← hst]) (by simp [← hst]) (by simp [← hst]) (by subst hst; exact ⟨rfl, 385, asW ea, by decide, by decide, by decide, by simp, .inl rfl, .inl ⟨by simp, rfl, rfl, by simp [elRows, El.row]⟩⟩) (by simp [← hst])
 simp only at e0 e4 e5 eA eC eg eB
 clear hst
 generalize forkF (.mk (.mk 1 eo ea []) [⟨co, ca⟩] []) es = T at eB ⊢
 obtain ⟨⟨ok, oo, oa, oks⟩, cs, ks⟩ := T
 obtain ⟨rfl, bx, aw, hb1, hb2, hb3, hb4, haw, hcase⟩ := eB
 have b1 : (513 = bx) = False := eq_false (fun e => hb1 e.symm)
 have b2 : (1 = bx) = False := eq_false (fun e => hb3 e.symm)
 have b3 : (0 = bx) = False := eq_false (fun e => hb2 e.symm)
 have b4 : (bx = 513) = False := eq_false hb1
 have b5 : (bx = 0) = False := eq_false hb2
 have b6 : (bx = 1) = False := eq_false hb3
 have fgX := far (show 513 < g' by omega)
 have fzX := far (show 0 < g' by omega)
 have fbX := far hb4
 rcases hcase with ⟨hB, hcl, rfl, hBX⟩ | ⟨hB, rfl, hkl, hBX⟩
 · refine ⟨⟨rfl, .inl ⟨hcl, rfl⟩⟩, ?_⟩
   have tkE : List.take 1 (elRows cs) = elRows cs := List.take_of_length_le (by rw [elRows_length]; omega)
   rcases haw with rfl | ⟨rfl, rfl⟩ <;> simp [hx, e0, e4, e5, eA, eC, hB, hBX, w3, tkE, hcl, b1, b2, b3, b4, b5, b6, Arm.setNet, forkV, forkB, fgX, fzX, fbX]
 · refine ⟨⟨rfl, .inr ⟨rfl, hkl⟩⟩, ?_⟩
   have hkn : ks ≠ [] := fun e => by rw [e] at hkl; cases hkl
   have tkA : List.take 2 (armRows ks) = armRows ks := List.take_of_length_le (by rw [armRows_length]; omega)
   rcases haw with rfl | ⟨rfl, rfl⟩ <;> simp [hx, e0, e4, e5, eA, eC, hB, hBX, w3, tkA, hkl, hkn, b1, b2, b3, b4, b5, b6, Arm.setNet, forkV, forkB, fgX, fzX, fbX]
def RootR (b : List Int) (n : Nat) (p : Nat) (t : Arm) (q : Nat) : Prop := ∀ s, go n 178 [pV, iV 2, bV true] [rB b p] s = some ⟨armX t, [rB b q], []⟩
/-- A slice of one's own: of a new box, or none yet. -/
def Held (H : Nat → Box) (g : Nat) (v : V) (ks : List Arm) : Prop := ∃ bx c, bx ≠ 0 ∧ bx < g ∧ v = .w (.own bx 0 ks.length c) ∧ H bx = .row none 6 (armRows ks) 0 ∧ (c = none ∨ (c = some 0 ∧ ks = []))
/-- A slice of one's own that was read. -/
def Kept (H : Nat → Box) (g : Nat) (v : V) (L : List Arm) (j : Nat) : Prop := ∃ bx c o m, bx ≠ 0 ∧ bx < g ∧ v = .w (.own bx 0 j c) ∧ H bx = .row o 6 (armRows L) m ∧ (o = none ∨ o = some 0)
def dropF (L : List Arm) : Nat → Nat
 | 0 => 0
 | j + 1 => if 400 < armsSize (L.take (j + 1)) then dropF L j else j + 1
theorem dropF_le (L : List Arm) : ∀ j, dropF L j ≤ j
 | 0 => Nat.le_refl _
 | j + 1 => by have := dropF_le L j; simp only [dropF]; split <;> omega
theorem armsWt_take_le (l : List Arm) (i : Nat) : armsWt (l.take i) ≤ armsWt l := by
 have := armsWt_append (l.take i) (l.drop i)
 rw [List.take_append_drop] at this; omega
theorem loop151_0 {b : List Int} {n : Nat} (ts : List Arm) (r : Nat) (h3l : ts.length ≤ 4) (hn : 8 ≤ n) (st : St) (p : Nat) (hS : Seq (RootR b n) p ts r)
 (h0 : st.τ 0 = pV) (h4 : st.τ 4 = iV ts.length) (hA : st.H 0 = rB b p) (hg : 0 < st.g) (h3 : Held st.H st.g (st.τ 3) []) :
 ∃ e st', execC (go n) mode GT false 61 n F151_L0 st = some (e, st') ∧ e ≠ .normal ∧ (e = .exit 1 ∧ st'.H 0 = rB b r ∧ 0 < st'.g ∧ Held st'.H st'.g (st'.τ 3) ts) := by
 rw [F151_L0, execC_loop]
 refine iter_rule (fun k st => ∃ ks rest q, ts = ks ++ rest ∧ rest.length = k ∧ Seq (RootR b n) q rest r ∧ st.τ 0 = pV ∧ st.τ 4 = iV rest.length ∧ st.H 0 = rB b q ∧ 0 < st.g ∧ Held st.H st.g (st.τ 3) ks) ?_ n ts.length st (by omega)
  ⟨[], ts, p, rfl, rfl, hS, h0, h4, hA, hg, h3⟩
 clear h0 h4 hA hg hS h3
 rintro k ⟨τ, H, g, s⟩ ⟨ks, rest, q, hts, hr, hS, h0, h4, hA, hg, bx, c, hb0, hb2, h3, hBX, hc⟩
 simp only at h0 h3 h4 hA hg hb2 hBX
 cases hS with
 | nil =>
  rw [List.append_nil] at hts
  subst hts
  refine ⟨.exit 1, ⟨upd (upd τ 38 (iV 0)) 39 (.w (.d (.s (.bool false)))), H, g + 128, restS s⟩, ?_, by simp, fun _ => ⟨rfl, hA, by simp only; omega, bx, c, hb0, by simp only; omega, by simpa using h3, hBX, hc⟩⟩
  simp [F151_B0, h0, h3, h4]
 | @cons _ q2 _ t rest2 w hS2 =>
  have w : ∀ s, _ := w
  have hlen : ts.length = ks.length + (rest2.length + 1) := by rw [hts]; simp
  have hlt : ((0 : Int) < (rest2.length : Int) + 1) = True := eq_true (by omega)
  have hwr : IntKind.wrap .i64 ((rest2.length : Int) + 1 - 1) = (rest2.length : Int) := by rw [Int.add_sub_cancel]; exact wrap_id (by omega) (by omega)
  have hwr2 : IntKind.wrap .i64 (rest2.length : Int) = (rest2.length : Int) := wrap_id (by omega) (by omega)
  obtain ⟨⟨tk, to, ta, tks⟩, tcs, tkk⟩ := t
  have fzX := far (show 0 < g by omega)
  have fbX := far hb2
  have rm : room (ks.length + 1) 112 = true := room_of (by omega) (by omega)
  have rm1 : room 1 112 = true := by decide
  have hk : rest2.length < k := by simp at hr; omega
  have b3 : (0 = bx) = False := eq_false (fun e => hb0 e.symm)
  have b5 : (bx = 0) = False := eq_false hb0
  refine ⟨.normal, ?_⟩
  rcases hc with rfl | ⟨rfl, rfl⟩
  · simp [-getElem?_pos, F151_B0, h0, h3, h4, hA, hBX, hlt, w, hwr, hwr2, rm, b3, b5, fzX, fbX]
    refine ⟨rest2.length, hk, ks ++ [.mk (.mk tk to ta tks) tcs tkk], rest2, by rw [hts]; simp, rfl, q2, hS2, rfl, rfl, _, none, ?_, ?_, (by rw [List.length_append]; rfl), ?_, .inl rfl⟩
    · omega
    · omega
    · simp [armRows_append, armRows, Arm.row]; try rfl
  · simp [-getElem?_pos, F151_B0, h0, h3, h4, hA, hBX, hlt, w, hwr, hwr2, rm1, armRows, b3, b5, fzX, fbX]
    refine ⟨rest2.length, hk, [.mk (.mk tk to ta tks) tcs tkk], rest2, by rw [hts]; simp, rfl, q2, hS2, rfl, rfl, _, none, ?_, ?_, rfl, ?_, .inl rfl⟩
    · omega
    · omega
    · simp [armRows_append, armRows, Arm.row]; try rfl
theorem loop151_1 {b : List Int} {n : Nat} (L : List Arm) (hn : L.length < n) (hL : armsWt L < 2 ^ 38) (hL4 : L.length ≤ 4) (hw : ∀ j, ∀ s, go n 107 [.w (.d (.l 0 (List.take j (armRows L))))] [] s = some ⟨iV (armsSize (L.take j)), [], []⟩) (st : St) (p : Nat)
 (hA : st.H 0 = rB b p) (hg : 0 < st.g) (h3 : Held st.H st.g (st.τ 3) L) :
 ∃ e st', execC (go n) mode GT false 61 n F151_L1 st = some (e, st') ∧ e ≠ .normal ∧ (e = .exit 3 ∧ st'.H 0 = rB b p ∧ Kept st'.H st'.g (st'.τ 3) L (dropF L L.length)) := by
 obtain ⟨bx, c, hb0, hb2, h3, hBX, hc⟩ := h3
 rw [F151_L1, execC_loop]
 refine iter_rule (fun k st => k ≤ L.length ∧ dropF L k = dropF L L.length ∧ st.H 0 = rB b p ∧ bx < st.g ∧ st.τ 3 = .w (.own bx 0 k c) ∧ ∃ o m, st.H bx = .row o 6 (armRows L) m ∧ (o = none ∨ o = some 0)) ?_ n L.length st (by omega)
  ⟨Nat.le_refl _, rfl, hA, hb2, h3, none, 0, hBX, .inl rfl⟩
 clear hA hg h3 hb2 hBX
 rintro k ⟨τ, H, g, s⟩ ⟨hk, hd, hA, hb2, h3, o, m, hBX, ho⟩
 simp only at h3 hA hb2 hBX
 have b3 : (0 = bx) = False := eq_false (fun e => hb0 e.symm)
 have b5 : (bx = 0) = False := eq_false hb0
 have fbX := far hb2
 cases k with
 | zero =>
  have hd : dropF L L.length = 0 := hd.symm
  refine ⟨.exit 3, ?_⟩
  simp [F151_B1, h3, hA, hd]
  exact ⟨bx, c, o, m, hb0, by omega, rfl, hBX, ho⟩
 | succ k =>
  have hki : ((0 : Int) < (k : Int) + 1) = True := eq_true (by omega)
  have hwk : IntKind.wrap .i64 (k : Int) = k := wrap_id (by omega) (by omega)
  have w := hw (k + 1)
  have hkL : k + 1 ≤ L.length := hk
  have hkL3 : k < L.length := hk
  have hkL2 : k ≤ L.length := by omega
  have hkk : ((k : Int) ≤ (k : Int) + 1) = True := eq_true (by omega)
  have hc2 : c = none := by
   rcases hc with h | ⟨_, h⟩
   · exact h
   · subst h; simp at hk
  subst hc2
  by_cases hz : 400 < armsSize (L.take (k + 1))
  · have hzi : ((400 : Int) < (armsSize (L.take (k + 1)) : Int)) = True := eq_true (by omega)
    have hd2 : dropF L k = dropF L L.length := by rw [← hd]; simp only [dropF]; rw [if_pos hz]
    refine ⟨.normal, ?_⟩
    rcases ho with rfl | rfl <;> simp [-getElem?_pos, F151_B1, h3, hA, hBX, hki, hwk, w, hz, hzi, hkL, hkL2, hkL3, hkk, b3, b5, fbX] <;> exact ⟨k, by omega, by omega, hd2, by omega, rfl⟩
  · have hzi : ((400 : Int) < (armsSize (L.take (k + 1)) : Int)) = False := eq_false (by omega)
    have hd2 : dropF L L.length = k + 1 := by rw [← hd]; simp only [dropF]; rw [if_neg hz]
    refine ⟨.exit 3, ?_⟩
    rcases ho with rfl | rfl <;> simp [-getElem?_pos, F151_B1, h3, hA, hBX, hki, hwk, w, hz, hzi, hkL, hkL2, hkL3, hkk, hd2, b3, b5, fbX] <;> exact ⟨bx, none, some 0, _, hb0, by omega, rfl, by simp; try rfl, .inr rfl⟩
theorem draw_Ladder {b : List Int} (hb : RD b) (n : Nat) (hn : 40000 ≤ n) (p : Nat) (hp : p < 2 ^ 30) :
 ∃ (l : List Arm) (q : Nat), armsWt l ≤ 13000 ∧ q ≤ p + 2 ^ 18 ∧ ∀ s, go n 151 [pV] [rB b p] s = some ⟨.w (ksW l), [rB b q], []⟩ := by
 obtain ⟨n, rfl⟩ : ∃ k, n = k + 1 := ⟨n - 1, by omega⟩
 obtain ⟨v, q1, h1, h2, h3, w1⟩ := draw_pick hb 24 p (by omega) n (by omega)
 have rm1 : room 1 112 = true := by decide
 by_cases c0 : v = 0
 · obtain ⟨u, q2, hu, k2, w2⟩ := draw_num hb [9, 15, 16, 17, 18, 30] (by simp) q1 (by omega) n (by omega)
   simp only [lV, List.map_cons, List.map_nil] at w2
   have hu2 : u = 9 ∨ u = 15 ∨ u = 16 ∨ u = 17 ∨ u = 18 ∨ u = 30 := by simpa using hu
   obtain ⟨N, rfl, hN1, hN2⟩ : ∃ N : Nat, u = N ∧ 1 ≤ N ∧ N ≤ 30 := ⟨u.toNat, by omega, by omega, by omega⟩
   obtain ⟨t, q3, k3, k4, w3⟩ := draw_Stair hb N hN1 (by omega) n (by omega) q2 (by omega)
   obtain ⟨⟨co, ca⟩, q4, k5, k6, w4⟩ := draw_Coil hb q3 (by omega) n (by omega)
   simp only at k5
   refine ⟨[.mk t [⟨co, ca⟩] []], q4, by simp only [armsWt, Arm.wt, elsWt, El.wt]; omega, by omega, fun s => ?_⟩
   obtain ⟨tk, to, ta, tks⟩ := t
   subst c0
   simp [go_of FT_151 rfl, F151, w1, w2, w3, w4, rm1, armRows, Arm.row, elRows, El.row, List.replicate]
 by_cases c1 : v = 1
 · obtain ⟨u, q2, hu, k2, w2⟩ := draw_num hb [5, 7, 8, 9, 12] (by simp) q1 (by omega) n (by omega)
   simp only [lV, List.map_cons, List.map_nil] at w2
   have hu2 : u = 5 ∨ u = 7 ∨ u = 8 ∨ u = 9 ∨ u = 12 := by simpa using hu
   obtain ⟨N, rfl, hN1, hN2⟩ : ∃ N : Nat, u = N ∧ 1 ≤ N ∧ N ≤ 12 := ⟨u.toNat, by omega, by omega, by omega⟩
   obtain ⟨t, q3, k3, k4, w3⟩ := draw_Forks hb N (by omega) n (by omega) q2 (by omega)
   refine ⟨[t], q3, by simp only [armsWt]; omega, by omega, fun s => ?_⟩
   have hok := (w3 s).1
   have w3 := fun s => (w3 s).2
   obtain ⟨⟨tk, to, ta, tks⟩, tcs, tkk⟩ := t
   obtain ⟨rfl, ⟨hc1, rfl⟩ | ⟨rfl, hk2⟩⟩ := hok
   · have tkE : List.take 1 (elRows tcs) = elRows tcs := List.take_of_length_le (by rw [elRows_length]; omega)
     subst c1
     simp [go_of FT_151 rfl, F151, w1, w2, w3, forkV, forkB, tkE, hc1, rm1, armRows, Arm.row, List.replicate]
   · have tkA : List.take 2 (armRows tkk) = armRows tkk := List.take_of_length_le (by rw [armRows_length]; omega)
     have hkn : tkk ≠ [] := fun e => by rw [e] at hk2; cases hk2
     subst c1
     simp [go_of FT_151 rfl, F151, w1, w2, w3, forkV, forkB, tkA, hk2, hkn, rm1, armRows, Arm.row, List.replicate]
 by_cases c2 : v = 2
 · refine ⟨[], q1, by simp [armsWt], by omega, fun s => ?_⟩
   subst c2
   simp [go_of FT_151 rfl, F151, w1, armRows]
 · obtain ⟨u, q2, u1, u2, u3, w2⟩ := draw_pick hb 4 q1 (by omega) n (by omega)
   have u2 := u2 (by omega)
   obtain ⟨K, hK, hK1, hK2⟩ : ∃ K : Nat, u = (K : Int) - 1 ∧ 1 ≤ K ∧ K ≤ 4 := ⟨(u + 1).toNat, by omega, by omega, by omega⟩
   have hKw : IntKind.wrap .i64 (1 + u) = (K : Int) := by rw [hK]; rw [wrap_id (by omega) (by omega)]; omega
   obtain ⟨L, r, kl, kw, kp, hS⟩ := Seq.have (R := RootR b n) (wt := Arm.wt) (W := 3200) (P := 32000) (B := 2 ^ 33) (fun p hp => by
    obtain ⟨t, q, g1, g2, g3⟩ := draw_ArmS hb 2 (by omega) n (by omega) p (by omega) true
    exact ⟨t, q, by omega, by omega, g3⟩) K q2 (by omega)
   have kww := armsWt_le kw
   have hdl := dropF_le L L.length
   have htw := armsWt_take_le L (dropF L L.length)
   refine ⟨L.take (dropF L L.length), r, by omega, by omega, fun s => ?_⟩
   have hw : ∀ j, ∀ s, go n 107 [.w (.d (.l 0 (List.take j (armRows L))))] [] s = some ⟨iV (armsSize (L.take j)), [], []⟩ := fun j s => by
    have e : List.take j (armRows L) = armRows (L.take j) := by rw [armRows_map, armRows_map, List.map_take]
    have := armsWt_take_le L j
    rw [e]
    exact run_TreeSizeS (L.take j) (by omega) n (by omega) s
   simp [go_of FT_151 rfl, F151, w1, w2, c0, c1, c2, hKw]
   generalize hst : St.mk _ _ _ _ = st
   obtain ⟨e1, st1, hx1, -, rfl, fA, fg, f3⟩ := loop151_0 L r (by omega) (by omega) st q2 hS (by simp [← hst]) (by simp [← hst, kl]) (by simp [← hst]) (by simp [← hst]) (by subst hst; exact ⟨65, some 0, by decide, by simp, by simp, by simp [armRows], .inr ⟨rfl, rfl⟩⟩)
   obtain ⟨e2, ⟨τ2, H2, g2, s2⟩, hx2, -, rfl, gA, bx, c, o, m, hb0, hb2, i3, hBX, ho⟩ := loop151_1 L (by omega) (by omega) (by omega) hw st1 r fA fg f3
   simp only at gA hb2 i3 hBX
   have b3 : (0 = bx) = False := eq_false (fun e => hb0 e.symm)
   have b5 : (bx = 0) = False := eq_false hb0
   have e : List.take (dropF L L.length) (armRows L) = armRows (L.take (dropF L L.length)) := by rw [armRows_map, armRows_map, List.map_take]
   rcases ho with rfl | rfl <;> simp [hx1, hx2, gA, i3, hBX, b3, b5, hdl, e]
end Go.VM
