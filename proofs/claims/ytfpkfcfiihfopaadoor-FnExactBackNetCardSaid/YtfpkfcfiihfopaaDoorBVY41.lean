/- BackNet, run. Conditions: none. -/
import Derived.Test.YtfpkfcfiihfopaaDoorBVW3
import Derived.Test.YtfpkfcfiihfopaaDoorBVW2
import Derived.Test.YtfpkfcfiihfopaaDoorBVZ1

namespace Go.VM
set_option linter.unusedSimpArgs false
set_option linter.unusedVariables false
set_option maxHeartbeats 16000000
abbrev netP (N : Net) : Bool × List W := (true, [iW N.kind, iW N.op, asW N.as, nsW N.kids])
def RetNone (st : St) : Prop := st.τ 2 = .w (.ptr 0 0) ∧ st.τ 3 = bV false ∧ st.H 0 = .cells [iW 0, iW 0, .nil, .nil]
def BkAt (st : St) (s : List Net) : Prop := st.τ 2 = .w (.ptr 0 0) ∧ st.τ 3 = bV false ∧ st.H 0 = .cells [iW 0, iW 0, .nil, .nil] ∧ 0 < st.g ∧ StkAt st 4 0 0 s
theorem loop287_0 {n : Nat} (l : List Ins) (ha : ∀ x ∈ l, x.e.as.length < 2 ^ 40) (hW : lWt l < 2 ^ 27) (hl : l.length < 2 ^ 40) (hn : l.length + 70 < n) (st : St) (h13 : st.τ 13 = .w (isW l)) (h14 : st.τ 14 = iV l.length) (h15 : st.τ 15 = iV 0) (hB : BkAt st []) :
 ∃ e st', execC (go n) mode GT false 54 n F287_L0 st = some (e, st') ∧ e ≠ .normal ∧ ((e = .exit 0 ∧ ∃ s, backGo [] l = some s ∧ netsWt s ≤ lWt l ∧ BkAt st' s) ∨ (e = .ret ∧ backGo [] l = none ∧ RetNone st')) := by
 rw [F287_L0, execC_loop]; refine iter_rule (fun m st => ∃ i s, i + m = l.length ∧ st.τ 13 = .w (isW l) ∧ st.τ 14 = iV l.length ∧ st.τ 15 = iV i ∧ backGo [] l = backGo s (l.drop i) ∧ netsWt s + lWt (l.drop i) ≤ lWt l ∧ BkAt st s) ?_ n l.length st (by omega)
  ⟨0, [], by omega, h13, h14, by simpa using h15, rfl, by simp [netsWt], hB⟩
 clear h13 h14 h15 hB; rintro m ⟨τ, H, g, sp⟩ ⟨i, s, hm, h13, h14, h15, e1, hI, h2, h3, h0, hg, hS⟩; simp only at h13 h14 h15 h2 h3 h0 hg; cases m with
 | zero =>
  have : i = l.length := by omega
  subst this; refine ⟨.exit 0, ?_⟩
  rw [List.drop_length] at e1 hI; simp [F287_B0, h14, h15]; exact ⟨s, by rw [e1]; rfl, by omega, by simp [h2], by simp [h3], h0, by simp only; omega, hS.keep (by simp) (fun b hb _ _ _ => rfl) (by simp only; omega)⟩
 | succ m =>
  have hlt : i < l.length := by omega
  have hlt' := ltT hlt; have hgt := List.getElem?_eq_getElem hlt; have hmem := List.getElem_mem hlt; have hw := wrap_succ (i := i) (by omega); have hstep : l.drop i = l[i] :: l.drop (i + 1) := drop_at hgt; have hal := ha _ hmem; rw [hstep] at e1 hI; generalize l[i] = x at hgt hstep hal e1 hI; have w1 : ∀ s, go n 315 [insX x] [] s = some ⟨bV x.ok, [], []⟩ := fun s => by
   have := run_ListOk (n := n - 1) (by omega) x (by omega) s
   rwa [show n - 1 + 1 = n by omega] at this
  have hsw := step_wt s x; have hsl := netsLen_wt s; have hW2 : netsWt (stepR s x) + lWt (l.drop (i + 1)) ≤ lWt l := by simp only [lWt] at hI; omega
  have hWs : netsWt s < 2 ^ 27 := by omega
  have zX := far hg; simp only [backGo] at e1; have hdec : decide (needsI x.c ≤ (s.length : Int)) = !decide ((s.length : Int) < needsI x.c) := by
   by_cases h : (s.length : Int) < needsI x.c
   · rw [decide_eq_true h, decide_eq_false (by omega)]; rfl
   · rw [decide_eq_false h, decide_eq_true (by omega)]; rfl
  by_cases hbad : x.ok = false ∨ 6 < x.c
  · rw [if_pos (by rcases hbad with h | h; exact .inl h; exact .inr (.inl h))] at e1
    refine ⟨.ret, ?_⟩
    obtain ⟨xc, xo, xa⟩ := x; have hrow := insRows_get hgt; simp only at hbad; generalize Ins.ok ⟨xc, ⟨xo, xa⟩⟩ = ok at w1 hbad; cases ok with
    | false =>
     simp [-getElem?_pos, F287_B0, h2, h13, h14, h15, h0, hlt, hlt', hrow, w1, zX]; exact ⟨e1, by simp [h2], by simp, by simp⟩
    | true =>
     have h6 : (6 < xc) = True := eq_true (by simpa using hbad); simp [-getElem?_pos, F287_B0, h2, h13, h14, h15, h0, hlt, hlt', hrow, w1, h6, zX]; exact ⟨e1, by simp [h2], by simp, by simp⟩
  · have hok : x.ok = true := by simpa using fun e => hbad (.inl e)
    have h6n : ¬ 6 < x.c := fun e => hbad (.inr e)
    rw [hok] at w1; rcases hS with ⟨rfl, h4⟩ | ⟨b, c, R, hb0, hbp, hbq, hbg, h4, hB, hR⟩
    · simp only at h4
      have ws : ∀ s, go n 316 [.w .nil, insX x] [] s = some (if x.c = 1 then ⟨.tup [(false, [.own 0 0 1 none]), (false, [.d (.s (.bool true))])], [], [.row none 4 [Net.row (.mk 1 x.e.op x.e.as [])] 0]⟩ else ⟨.tup [(false, [.nil]), (false, [.d (.s (.bool false))])], [], []⟩) := fun s => by
       have := step_nil (n := n - 2) x s
       rwa [show n - 2 + 2 = n by omega] at this
      by_cases k1 : x.c = 1
      · rw [if_pos k1] at ws
        have est : stepR [] x = [.mk 1 x.e.op x.e.as []] := by unfold stepR; rw [if_pos k1]
        rw [if_neg (by rw [hok]; simp; rw [k1]; simp [needsI])] at e1
        suffices hsuf : ∃ st', execC (go n) mode GT false 54 n F287_B0 ⟨τ, H, g, sp⟩ = some (.normal, st') ∧ st'.τ 13 = .w (isW l) ∧ st'.τ 14 = iV l.length ∧ st'.τ 15 = iV ((i + 1 : Nat) : Int) ∧ BkAt st' (stepR [] x) by
         obtain ⟨st', b0, b1, b2, b3, b4⟩ := hsuf; rw [b0]; exact ⟨.normal, st', rfl, fun _ => ⟨m, by omega, i + 1, stepR [] x, by omega, b1, b2, b3, e1, hW2, b4⟩, fun h => absurd rfl h⟩
        rw [est]; obtain ⟨xc, xo, xa⟩ := x; have hrow := insRows_get hgt; have h6 : (6 < xc) = False := eq_false h6n; simp [-getElem?_pos, F287_B0, h2, h3, h4, h13, h14, h15, h0, hlt, hlt', hrow, w1, ws, h6, hw, zX]; exact ⟨by simp [h2], by simp [h3], by simp [h0, zX], by simp only; omega, .inr ⟨g + 960, none, [Net.row (.mk 1 xo xa [])], by omega, by omega, by omega, by simp only; omega, by simp, by simp, by simp [netRows_one]⟩⟩
      · rw [if_neg k1] at ws
        have hnd : ((([] : List Net).length : Nat) : Int) < needsI x.c := by unfold needsI; rw [if_neg k1]; simp; split <;> omega
        rw [if_pos (.inr (.inr hnd))] at e1; refine ⟨.ret, ?_⟩
        obtain ⟨xc, xo, xa⟩ := x; have hrow := insRows_get hgt; have h6 : (6 < xc) = False := eq_false h6n; simp [-getElem?_pos, F287_B0, h2, h3, h4, h13, h14, h15, h0, hlt, hlt', hrow, w1, ws, h6, hw, zX]; exact ⟨e1, by simp [h2], by simp, by simp⟩
    · simp only at hbg h4 hB
      have hle := take_len hR (by rw [netRows_length, List.length_reverse]); obtain ⟨rs, hout, ws⟩ := step_own (n := n - 2) x s c R hR (by omega) (by omega) (by omega); rw [show n - 2 + 2 = n by omega] at ws; have bX := far hbg; have bN := ne2 hb0
      by_cases hnd : (s.length : Int) < needsI x.c
      · rw [if_pos (.inr (.inr hnd))] at e1
        have hd : decide (needsI x.c ≤ (s.length : Int)) = false := by rw [hdec, decide_eq_true hnd]; rfl
        rw [hd] at hout; refine ⟨.ret, ?_⟩
        rcases hout with ⟨h, -⟩ | ⟨R', c', rfl, hR'⟩
        · cases h
        · generalize stepR s x = s' at ws hR'
          obtain ⟨xc, xo, xa⟩ := x; have hrow := insRows_get hgt; have h6 : (6 < xc) = False := eq_false h6n; simp [-getElem?_pos, F287_B0, h2, h3, h4, h13, h14, h15, h0, hB, hlt, hlt', hrow, w1, ws, h6, hw, zX, bX, bN]; exact ⟨e1, by simp [h2], by simp, by simp⟩
      · rw [if_neg (by rw [hok]; simp; exact ⟨by omega, by omega⟩)] at e1
        have hd : decide (needsI x.c ≤ (s.length : Int)) = true := by rw [hdec, decide_eq_false hnd]; rfl
        rw [hd] at hout
        suffices hsuf : ∃ st', execC (go n) mode GT false 54 n F287_B0 ⟨τ, H, g, sp⟩ = some (.normal, st') ∧ st'.τ 13 = .w (isW l) ∧ st'.τ 14 = iV l.length ∧ st'.τ 15 = iV ((i + 1 : Nat) : Int) ∧ BkAt st' (stepR s x) by
         obtain ⟨st', b0, b1, b2, b3, b4⟩ := hsuf; rw [b0]; exact ⟨.normal, st', rfl, fun _ => ⟨m, by omega, i + 1, stepR s x, by omega, b1, b2, b3, e1, hW2, b4⟩, fun h => absurd rfl h⟩
        rcases hout with ⟨-, rfl⟩ | ⟨R', c', rfl, hR'⟩
        · generalize stepR s x = s' at ws ⊢
          obtain ⟨xc, xo, xa⟩ := x; have hrow := insRows_get hgt; have h6 : (6 < xc) = False := eq_false h6n; simp [-getElem?_pos, F287_B0, h2, h3, h4, h13, h14, h15, h0, hB, hlt, hlt', hrow, w1, ws, h6, hw, zX, bX, bN]; exact ⟨by simp [h2], by simp [h3], by simp [h0, zX, bN], by simp only; omega, .inr ⟨g + 960, none, netRows s'.reverse, by omega, by omega, by omega, by simp only; omega, by simp, by simp [bX, bN], List.take_of_length_le (by simp [netRows_length])⟩⟩
        · generalize stepR s x = s' at ws hR' ⊢
          obtain ⟨xc, xo, xa⟩ := x; have hrow := insRows_get hgt; have h6 : (6 < xc) = False := eq_false h6n; simp [-getElem?_pos, F287_B0, h2, h3, h4, h13, h14, h15, h0, hB, hlt, hlt', hrow, w1, ws, h6, hw, zX, bX, bN]; exact ⟨by simp [h2], by simp [h3], by simp [h0, zX, bN], by simp only; omega, .inr ⟨b, c', R', hb0, hbp, hbq, by simp only; omega, by simp, by simp [bX, bN], hR'⟩⟩
end Go.VM
