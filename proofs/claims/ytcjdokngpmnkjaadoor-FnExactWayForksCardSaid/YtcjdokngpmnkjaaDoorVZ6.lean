/- The normal form of arms, as the document has it: kids. Conditions: none. -/
import Derived.Test.YtcjdokngpmnkjaaDoorVZ5

namespace Go.VM
set_option linter.unusedSimpArgs false
set_option linter.unusedVariables false
set_option maxHeartbeats 16000000

/-- Arms that are being gathered. -/
def ASlot (H : Nat → Box) (g lo av : Nat) (cw : W) (l : List Arm) : Prop := (l = [] ∧ cw = .nil) ∨ ∃ bx, l ≠ [] ∧ bx ≠ av ∧ lo < bx ∧ bx < g ∧ cw = .own bx 0 l.length none ∧ H bx = .row none 6 (armRows l) 0

theorem loop211_0 {n : Nat} (l : List Arm) (w0 w1 w2 w3 cc : W) (X0 X2 Xc : Box) (c0 c1 c2 c3 c4 : W) (a2 b3 bc : Nat) (h2p : 0 < a2) (h23 : a2 < b3) (hcb : bc ≠ b3) (hX0 : X0 = .cells [c0, c1, c2, c3, c4, ksW l]) (hc : ∀ x ∈ l, ∀ s, go n 211 [armX x] [] s = some ⟨armX x.norm, [], []⟩) (hl : l.length < 2 ^ 28) (hn : l.length < n) (st : St)
    (h1 : st.τ 1 = .w (.ptr 0 0)) (h2 : st.τ 2 = .w (.ptr a2 0)) (h3 : st.τ 3 = .w (.ptr b3 0)) (h4 : st.τ 4 = iV 0) (hA : st.H 0 = X0) (hC : st.H a2 = X2) (hX : st.H bc = Xc) (hbc : bc < st.g) (hB : st.H b3 = .cells [w0, w1, w2, w3, cc, .nil]) (hg : b3 < st.g) :
    ∃ e st', execC (go n) mode GT false 74 n F211_L0 st = some (e, st') ∧ e ≠ .normal ∧ (e = .exit 0 ∧ st'.τ 2 = .w (.ptr a2 0) ∧ st'.τ 3 = .w (.ptr b3 0) ∧ st'.H a2 = X2 ∧ st'.H bc = Xc ∧ bc < st'.g ∧ b3 < st'.g ∧ ∃ cw, st'.H b3 = .cells [w0, w1, w2, w3, cc, cw] ∧ ASlot st'.H st'.g b3 bc cw (armsNorm l)) := by
  subst hX0
  rw [F211_L0, execC_loop]
  refine iter_rule (fun k st => ∃ i, i + k = l.length ∧ st.τ 1 = .w (.ptr 0 0) ∧ st.τ 2 = .w (.ptr a2 0) ∧ st.τ 3 = .w (.ptr b3 0) ∧ st.τ 4 = iV i ∧ st.H 0 = .cells [c0, c1, c2, c3, c4, ksW l] ∧ st.H a2 = X2 ∧ st.H bc = Xc ∧ bc < st.g ∧ b3 < st.g ∧ ∃ cw, st.H b3 = .cells [w0, w1, w2, w3, cc, cw] ∧ ASlot st.H st.g b3 bc cw (armsNorm (l.take i))) ?_ n l.length st hn
    ⟨0, by omega, h1, h2, h3, by simpa using h4, hA, hC, hX, hbc, hg, .nil, hB, .inl ⟨by simp [armsNorm], rfl⟩⟩
  clear h1 h2 h3 h4 hA hC hX hbc hB hg
  rintro k ⟨τ, H, g, s⟩ ⟨i, hk, h1, h2, h3, h4, hA, hC, hX, hbc, hg, cw, hB, hcw⟩
  simp only at h1 h2 h3 h4 hA hC hX hbc hB hg hcw
  have htl : (armsNorm (l.take i)).length = i := by rw [armsNorm_map]; simp; omega
  cases k with
  | zero =>
    have : i = l.length := by omega
    subst this
    rw [List.take_length] at hcw
    refine ⟨.exit 0, ⟨upd (upd (upd (upd (upd τ 18 (iV l.length)) 19 (.w (.ptr 0 5))) 20 (.w (ksW l))) 21 (iV l.length)) 22 (.w (.d (.s (.bool false)))), H, g + 320, restS s⟩, ?_, by simp, fun _ => ⟨rfl, by simpa using h2, by simpa using h3, hC, hX, by simp only; omega, by simp only; omega, cw, hB, ?_⟩⟩
    · simp [F211_B0, h1, h4, hA]
    · rcases hcw with hcw | ⟨bx, hn0, hb0, hb1, hb2, hb3, hb4⟩
      · exact .inl hcw
      · exact .inr ⟨bx, hn0, hb0, hb1, by simp only; omega, hb3, hb4⟩
  | succ k =>
    have hlt : i < l.length := by omega
    have hlt' : ((i : Int) < (l.length : Int)) = True := eq_true (by omega)
    have hgt := List.getElem?_eq_getElem hlt
    have hw := wrap_succ (i := i) (by omega)
    have w := hc _ (List.getElem_mem hlt)
    have hstep : armsNorm (l.take (i + 1)) = armsNorm (l.take i) ++ [(l[i]).norm] := by
      rw [List.take_add_one, hgt, armsNorm_map, armsNorm_map, List.map_append]; rfl
    obtain ⟨k', op, as, nks, cs, ks, hx⟩ : ∃ k' op as nks cs ks, l[i] = .mk (.mk k' op as nks) cs ks := by
      cases hq : l[i] with | mk nn cs ks => cases nn; exact ⟨_, _, _, _, _, _, rfl⟩
    rw [hx] at hgt w hstep
    have hb := armRows_get hgt
    generalize Arm.norm (.mk (.mk k' op as nks) cs ks) = y at w hstep
    obtain ⟨⟨yk, yo, ya, yks⟩, ycs, ykk⟩ := y
    have fgX := far (show b3 < g by omega)
    have feX := far (show a2 < g by omega)
    have fzX := far (show 0 < g by omega)
    have fxX := far (show bc < g by omega)
    have lq1 : ∀ x : Nat, (b3 < g + x) = True := fun x => eq_true (by omega)
    have lq2 : ∀ x y : Nat, (b3 < g + x + y) = True := fun x y => eq_true (by omega)
    have rm : room (i + 1) 112 = true := room_of (by omega) (by omega)
    have rm1 : room 1 112 = true := by decide
    have a1 : (a2 = b3) = False := eq_false (by omega)
    have a2' : (b3 = a2) = False := eq_false (by omega)
    have a3 : (0 = b3) = False := eq_false (by omega)
    have a4 : (b3 = 0) = False := eq_false (by omega)
    have a5 : (bc = b3) = False := eq_false hcb
    have a6 : (b3 = bc) = False := eq_false (fun e => hcb e.symm)
    generalize armsNorm (l.take i) = A at hcw hstep htl
    refine ⟨.normal, ?_⟩
    rcases hcw with ⟨rfl, rfl⟩ | ⟨bx, hn0, hb0, hb1, hb2, rfl, hBX⟩
    · have hi : i = 0 := by simpa using htl.symm
      subst hi
      simp [-getElem?_pos, F211_B0, h1, h2, h3, h4, hA, hC, hX, hB, hlt, hlt', hb, w, hw, rm1, lq1, lq2, a1, a2', a3, a4, a5, a6, fgX, feX, fzX, fxX]
      refine ⟨k, by omega, 1, by omega, by decide, by omega, by omega, ?_⟩
      rw [show armsNorm (l.take 1) = _ from hstep]
      refine .inr ⟨_, by simp, ?_, ?_, ?_, rfl, ?_⟩
      · omega
      · omega
      · omega
      · simp [armRows, Arm.row, fgX]; try rfl
    · have fbX := far hb2
      have b1 : (b3 = bx) = False := eq_false (by omega)
      have b2 : (a2 = bx) = False := eq_false (by omega)
      have b3' : (0 = bx) = False := eq_false (by omega)
      have b4 : (bx = b3) = False := eq_false (by omega)
      have b5 : (bx = 0) = False := eq_false (by omega)
      have b6 : (bx = a2) = False := eq_false (by omega)
      have b7 : (bx = bc) = False := eq_false hb0
      have b8 : (bc = bx) = False := eq_false (fun e => hb0 e.symm)
      rw [htl] at hB
      simp [-getElem?_pos, F211_B0, h1, h2, h3, h4, hA, hC, hX, hB, hBX, hlt, hlt', hb, w, hw, rm, htl, lq1, lq2, a1, a2', a3, a4, a5, a6, b1, b2, b3', b4, b5, b6, b7, b8, fgX, feX, fzX, fxX, fbX]
      refine ⟨k, by omega, i + 1, by omega, by simp, by omega, by omega, ?_⟩
      rw [hstep]
      refine .inr ⟨g + 320 + 576, by simp, by omega, by omega, by omega, (by rw [List.length_append, htl]; try rfl), ?_⟩
      rw [List.take_of_length_le (show (armRows A).length ≤ i by rw [armRows_length]; omega)]
      simp [armRows_append, armRows, Arm.row, fgX]
      try rfl

end Go.VM
