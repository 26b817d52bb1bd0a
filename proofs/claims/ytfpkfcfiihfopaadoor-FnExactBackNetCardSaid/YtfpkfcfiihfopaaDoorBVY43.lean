/- BackNet as the document has it, run. Conditions: none. -/
import Derived.Test.YtfpkfcfiihfopaaDoorBVY42

namespace Go.VM
set_option linter.unusedSimpArgs false
set_option linter.unusedVariables false
set_option maxHeartbeats 16000000
theorem ok_code' {i : Ins} (h : i.ok = true) : 1 ≤ i.c := by
 unfold Ins.ok at h; split at h
 · omega
 · split at h
   · omega
   · simp only [Bool.and_eq_true, decide_eq_true_eq] at h; omega
theorem goodS_kind {s : List Net} (h : GoodS s) : ∀ x ∈ s, x.kind ≠ 0 := fun x hx => by
 rcases right_kind (h x hx).1 with e | e | e | e <;> omega
def BsAt (st : St) (s : List Net) : Prop := st.τ 2 = .w (.ptr 0 0) ∧ st.τ 3 = bV false ∧ st.H 0 = .cells [iW 0, iW 0, .nil, .nil] ∧ 0 < st.g ∧ ∃ b c R, b ≠ 0 ∧ b < st.g ∧ st.τ 4 = .w (.own b 0 s.length c) ∧ st.H b = .row none 4 R 0 ∧ R.take s.length = netRows s.reverse
theorem loop288_0 {n : Nat} (l : List Ins) (ha : ∀ x ∈ l, x.e.as.length < 2 ^ 30) (hW : lWt l < 2 ^ 27) (hl : l.length < 2 ^ 40) (hn : l.length + 70 < n) (st : St) (h13 : st.τ 0 = .w (isW l)) (h15 : st.τ 5 = iV 0) (hB : BsAt st []) :
 ∃ e st', execC (go n) mode GT false 61 n F288_L0 st = some (e, st') ∧ e ≠ .normal ∧ ((e = .exit 0 ∧ ∃ s, backGo [] l = some s ∧ netsWt s ≤ lWt l ∧ BsAt st' s) ∨ (e = .ret ∧ backGo [] l = none ∧ RetNone st')) := by
 rw [F288_L0, execC_loop]; refine iter_rule (fun m st => ∃ i s, i + m = l.length ∧ st.τ 0 = .w (isW l) ∧ st.τ 5 = iV i ∧ backGo [] l = backGo s (l.drop i) ∧ netsWt s + lWt (l.drop i) ≤ lWt l ∧ GoodS s ∧ BsAt st s) ?_ n l.length st (by omega)
  ⟨0, [], by omega, h13, by simpa using h15, rfl, by simp [netsWt], fun x hx => (by cases hx), hB⟩
 clear h13 h15 hB; rintro m ⟨τ, H, g, sp⟩ ⟨i, s, hm, h13, h15, e1, hI, hgood, h2, h3, h0, hg, b, c, R, hb0, hbg, h4, hB, hR⟩; simp only at h13 h15 h2 h3 h0 hg hbg h4 hB; have zX := far hg; have bX := far hbg; have bN := ne2 hb0; have hle := take_len hR (by rw [netRows_length, List.length_reverse]); cases m with
 | zero =>
  have : i = l.length := by omega
  subst this; refine ⟨.exit 0, ?_⟩
  rw [List.drop_length] at e1 hI; simp [F288_B0, h13, h15, insRows_length]; exact ⟨s, by rw [e1]; rfl, by omega, by simp [h2], by simp [h3], h0, by simp only; omega, b, c, R, hb0, by simp only; omega, by simp [h4], hB, hR⟩
 | succ m =>
  have hlt : i < l.length := by omega
  have hlt' := ltT hlt; have hgt := List.getElem?_eq_getElem hlt; have hmem := List.getElem_mem hlt; have hw := wrap_succ (i := i) (by omega); have hstep : l.drop i = l[i] :: l.drop (i + 1) := drop_at hgt; have hal := ha _ hmem; rw [hstep] at e1 hI; generalize l[i] = x at hgt hstep hal e1 hI; have w1 : ∀ s, go n 317 [insX x] [] s = some ⟨bV x.ok, [], []⟩ := fun s => by
   have := run_ListOkS (n := n - 1) (by omega) x s
   rwa [show n - 1 + 1 = n by omega] at this
  have w2 : ∀ s, go n 318 [iV x.c] [] s = some ⟨iV (needsI x.c), [], []⟩ := fun s => by
   have := run_needsS (n := n - 1) x.c s
   rwa [show n - 1 + 1 = n by omega] at this
  have hsw := step_wt s x; have hsl := netsLen_wt s; have hW2 : netsWt (stepR s x) + lWt (l.drop (i + 1)) ≤ lWt l := by simp only [lWt] at hI; omega
  simp only [backGo] at e1
  by_cases hbad : x.ok = false ∨ 6 < x.c ∨ (s.length : Int) < needsI x.c
  · rw [if_pos hbad] at e1
    refine ⟨.ret, ?_⟩
    obtain ⟨xc, xo, xa⟩ := x; have hrow := insRows_get hgt; simp only at hbad w2; generalize Ins.ok ⟨xc, ⟨xo, xa⟩⟩ = ok at w1 hbad; generalize needsI xc = nd at w2 hbad; cases ok with
    | false =>
     simp [-getElem?_pos, F288_B0, h2, h3, h4, h13, h15, h0, hB, hlt, hlt', hrow, w1, zX, bX, bN, insRows_length]; exact ⟨e1, by simp [h2], by simp, by simp [h0, zX, bN]⟩
    | true =>
     by_cases h7 : 7 ≤ xc
     · simp [-getElem?_pos, F288_B0, h2, h3, h4, h13, h15, h0, hB, hlt, hlt', hrow, w1, h7, zX, bX, bN, insRows_length]
       exact ⟨e1, by simp [h2], by simp, by simp [h0, zX, bN]⟩
     · have h7' : (7 ≤ xc) = False := eq_false h7
       have hq : ((s.length : Int) < nd) = True := eq_true (by rcases hbad with h | h | h; cases h; omega; exact h); simp [-getElem?_pos, F288_B0, h2, h3, h4, h13, h15, h0, hB, hlt, hlt', hrow, w1, w2, h7', hq, zX, bX, bN, insRows_length]; exact ⟨e1, by simp [h2], by simp, by simp [h0, zX, bN]⟩
  · rw [if_neg hbad] at e1
    have hok : x.ok = true := by simpa using fun e => hbad (.inl e)
    have h6n : ¬ 6 < x.c := fun e => hbad (.inr (.inl e))
    have hnd : ¬ (s.length : Int) < needsI x.c := fun e => hbad (.inr (.inr e))
    have hc1 := ok_code' hok; obtain ⟨hg2, -⟩ := step_good hgood hbad; rw [hok] at w1; obtain ⟨rs, hout, ws⟩ := do_own (n := n - 3) x s c R hR (by omega) (by omega) hal ⟨hc1, by omega⟩ (by omega) (goodS_kind hgood); rw [show n - 3 + 3 = n by omega] at ws
    suffices hsuf : ∃ st', execC (go n) mode GT false 61 n F288_B0 ⟨τ, H, g, sp⟩ = some (.normal, st') ∧ st'.τ 0 = .w (isW l) ∧ st'.τ 5 = iV ((i + 1 : Nat) : Int) ∧ BsAt st' (stepR s x) by
     obtain ⟨st', b0, b1, b2, b3⟩ := hsuf; rw [b0]; exact ⟨.normal, st', rfl, fun _ => ⟨m, by omega, i + 1, stepR s x, by omega, b1, b2, e1, hW2, hg2, b3⟩, fun h => absurd rfl h⟩
    rcases hout with rfl | ⟨R', c', rfl, hR'⟩
    · generalize stepR s x = s' at ws ⊢
      obtain ⟨xc, xo, xa⟩ := x; have hrow := insRows_get hgt; have h7' : (7 ≤ xc) = False := eq_false (by simp only at h6n; omega); simp only at hnd w2; have hq : ((s.length : Int) < needsI xc) = False := eq_false hnd; generalize needsI xc = nd at w2 hq; simp [-getElem?_pos, F288_B0, h2, h3, h4, h13, h15, h0, hB, hlt, hlt', hrow, w1, w2, ws, h7', hq, hw, zX, bX, bN, insRows_length]; exact ⟨by simp [h2], by simp [h3], by simp [h0, zX, bN], by simp only; omega, g + 2048, none, netRows s'.reverse, by omega, by simp only; omega, by simp, by simp [bX, bN], List.take_of_length_le (by simp [netRows_length])⟩
    · generalize stepR s x = s' at ws hR' ⊢
      obtain ⟨xc, xo, xa⟩ := x; have hrow := insRows_get hgt; have h7' : (7 ≤ xc) = False := eq_false (by simp only at h6n; omega); simp only at hnd w2; have hq : ((s.length : Int) < needsI xc) = False := eq_false hnd; generalize needsI xc = nd at w2 hq; simp [-getElem?_pos, F288_B0, h2, h3, h4, h13, h15, h0, hB, hlt, hlt', hrow, w1, w2, ws, h7', hq, hw, zX, bX, bN, insRows_length]; exact ⟨by simp [h2], by simp [h3], by simp [h0, zX, bN], by simp only; omega, b, c', R', hb0, by simp only; omega, by simp, by simp [bX, bN], hR'⟩
theorem run_BackNetS {n : Nat} (l : List Ins) (ha : ∀ x ∈ l, x.e.as.length < 2 ^ 30) (hW : lWt l < 2 ^ 27) (hl : l.length < 2 ^ 40) (hn : l.length + lWt l + 100 < n) (s : Sup) :
 go (n + 1) 288 [.w (isW l)] [] s = some ⟨.tup [netP ((backNetL l).getD Net.nil), (false, [.d (.s (.bool (backNetL l).isSome))])], [], []⟩ := by
 unfold backNetL
 by_cases h : 1000 < l.length
 · have hi : ((1000 : Int) < (l.length : Int)) = True := eq_true (by omega)
   simp [go_of (n := n) FT_288 rfl, F288, insRows_length, h, hi, Net.nil, Net.kind, Net.op, Net.as, Net.kids]
 · have hi : ((1000 : Int) < (l.length : Int)) = False := eq_false (by omega)
   rw [if_neg h]; simp [go_of (n := n) FT_288 rfl, F288, insRows_length, hi]; generalize hst : St.mk _ _ _ _ = st; obtain ⟨e, ⟨τ', H', g', s'⟩, hx, -, ⟨rfl, t, ht, hwt, h2, h3, h0, hg, b, c, R, hb0, hbg, h4, hB, hR⟩ | ⟨rfl, ht, h2, h3, h0⟩⟩ := loop288_0 (n := n) l ha hW hl (by omega) st (by simp [← hst]) (by simp [← hst]) (by subst hst; exact ⟨by simp, by simp, by simp, by simp, 320, some 0, [], by omega, by simp, by simp, by simp, by simp⟩)
   · simp only at h2 h3 h0 hg hbg h4 hB
     clear hst; rw [ht]; have zX := far hg; have bN := ne2 hb0
     match t, hwt, h4, hR with
     | [], hwt, h4, hR =>
      simp only [List.length_nil] at h4; simp [hx, h2, h3, h4, h0, hB, bN, Net.nil, Net.kind, Net.op, Net.as, Net.kids]
     | [x], hwt, h4, hR =>
      simp only [List.length_singleton] at h4 hR; simp only [netsWt] at hwt; have hg1 := get_top (R := R) (r := []) (a := x) (by simpa using hR); simp only [List.length_nil] at hg1; have hle := take_len hR (by simp [netRows_length]); have w1 := run_sizeS (lWt l) x (by omega) (by omega) n (by omega)
      by_cases hs : x.size ≤ 400
      · have hs' : ((400 : Int) < (x.size : Int)) = False := eq_false (by omega)
        simp only [if_pos hs]; generalize x.size = sz at w1 hs'; obtain ⟨xk, xo, xa, xs⟩ := x; simp only [Net.row] at hg1; simp [-getElem?_pos, hx, h2, h3, h4, h0, hB, hg1, hle, w1, hs', bN, Net.kind, Net.op, Net.as, Net.kids]
      · have hs' : ((400 : Int) < (x.size : Int)) = True := eq_true (by omega)
        simp only [if_neg hs]; generalize x.size = sz at w1 hs'; obtain ⟨xk, xo, xa, xs⟩ := x; simp only [Net.row] at hg1; simp [-getElem?_pos, hx, h2, h3, h4, h0, hB, hg1, hle, w1, hs', bN, Net.nil, Net.kind, Net.op, Net.as, Net.kids]
     | x :: y :: r, hwt, h4, hR =>
      simp only [List.length_cons] at h4; have q1 : ((((r.length : Int) + 1 + 1) = 1)) = False := eq_false (by omega); simp [-getElem?_pos, hx, h2, h3, h4, h0, hB, q1, bN, Net.nil, Net.kind, Net.op, Net.as, Net.kids]
   · simp only at h2 h3 h0
     clear hst; rw [ht]; simp [hx, h2, h3, h0, Net.nil, Net.kind, Net.op, Net.as, Net.kids]
end Go.VM
