/- The normal form of arms, as the document has it: kids. Conditions: none. -/
import Derived.Test.YtfpkfcfiihfopaaGreatDoorVZ5

namespace Go.VM
set_option linter.unusedSimpArgs false
set_option linter.unusedVariables false
set_option maxHeartbeats 16000000
def ASlot (H : Nat → Box) (g lo av : Nat) (cw : W) (l : List Arm) : Prop := (l = [] ∧ cw = .nil) ∨ ∃ bx, l ≠ [] ∧ bx ≠ av ∧ lo < bx ∧ bx < g ∧ cw = .own bx 0 l.length none ∧ H bx = .row none 6 (armRows l) 0
theorem loop211_0 {n : Nat} (l : List Arm) (w0 w1 w2 w3 cc : W) (X0 X2 Xc : Box) (c0 c1 c2 c3 c4 : W) (a2 b3 bc : Nat) (h2p : 0 < a2) (h23 : a2 < b3) (hcb : bc ≠ b3) (hX0 : X0 = .cells [c0, c1, c2, c3, c4, ksW l]) (hc : ∀ x ∈ l, ∀ s, go n 211 [armX x] [] s = some ⟨armX x.norm, [], []⟩) (hl : l.length < 2 ^ 28) (hn : l.length < n) (st : St)
 (h1 : st.τ 1 = .w (.ptr 0 0)) (h2 : st.τ 2 = .w (.ptr a2 0)) (h3 : st.τ 3 = .w (.ptr b3 0)) (h4 : st.τ 4 = iV 0) (hA : st.H 0 = X0) (hC : st.H a2 = X2) (hX : st.H bc = Xc) (hbc : bc < st.g) (hB : st.H b3 = .cells [w0, w1, w2, w3, cc, .nil]) (hg : b3 < st.g) :
 ∃ e st', execC (go n) mode GT false 74 n F211_L0 st = some (e, st') ∧ e ≠ .normal ∧ (e = .exit 0 ∧ st'.τ 2 = .w (.ptr a2 0) ∧ st'.τ 3 = .w (.ptr b3 0) ∧ st'.H a2 = X2 ∧ st'.H bc = Xc ∧ bc < st'.g ∧ b3 < st'.g ∧ ∃ cw, st'.H b3 = .cells [w0, w1, w2, w3, cc, cw] ∧ ASlot st'.H st'.g b3 bc cw (armsNorm l)) := by
 subst hX0; rw [F211_L0, execC_loop]; refine iter_rule (fun k st => ∃ i, i + k = l.length ∧ st.τ 1 = .w (.ptr 0 0) ∧ st.τ 2 = .w (.ptr a2 0) ∧ st.τ 3 = .w (.ptr b3 0) ∧ st.τ 4 = iV i ∧ st.H 0 = .cells [c0, c1, c2, c3, c4, ksW l] ∧ st.H a2 = X2 ∧ st.H bc = Xc ∧ bc < st.g ∧ b3 < st.g ∧ ∃ cw, st.H b3 = .cells [w0, w1, w2, w3, cc, cw] ∧ ASlot st.H st.g b3 bc cw (armsNorm (l.take i))) ?_ n l.length st hn
  ⟨0, by omega, h1, h2, h3, by simpa using h4, hA, hC, hX, hbc, hg, .nil, hB, .inl ⟨by simp [armsNorm], rfl⟩⟩
 clear h1 h2 h3 h4 hA hC hX hbc hB hg; rintro k ⟨τ, H, g, s⟩ ⟨i, hk, h1, h2, h3, h4, hA, hC, hX, hbc, hg, cw, hB, hcw⟩; simp only at h1 h2 h3 h4 hA hC hX hbc hB hg hcw; have htl : (armsNorm (l.take i)).length = i := by rw [armsNorm_map]; simp; omega
 cases k with
 | zero =>
  have : i = l.length := by omega
  subst this; rw [List.take_length] at hcw; refine ⟨.exit 0, ⟨upd (upd (upd (upd (upd τ 18 (iV l.length)) 19 (.w (.ptr 0 5))) 20 (.w (ksW l))) 21 (iV l.length)) 22 (.w (.d (.s (.bool false)))), H, g + 320, restS s⟩, ?_, by simp, fun _ => ⟨rfl, by simpa using h2, by simpa using h3, hC, hX, by simp only; omega, by simp only; omega, cw, hB, ?_⟩⟩
  · simp [F211_B0, h1, h4, hA]
  · rcases hcw with hcw | ⟨bx, hn0, hb0, hb1, hb2, hb3, hb4⟩
    · exact .inl hcw
    · exact .inr ⟨bx, hn0, hb0, hb1, by simp only; omega, hb3, hb4⟩
 | succ k =>
  have hlt : i < l.length := by omega
  have hlt' := ltT hlt; have hgt := List.getElem?_eq_getElem hlt; have hw := wrap_succ (i := i) (by omega); have w := hc _ (List.getElem_mem hlt); have hstep : armsNorm (l.take (i + 1)) = armsNorm (l.take i) ++ [(l[i]).norm] := by
   rw [List.take_add_one, hgt, armsNorm_map, armsNorm_map, List.map_append]; rfl
  obtain ⟨k', op, as, nks, cs, ks, hx⟩ : ∃ k' op as nks cs ks, l[i] = .mk (.mk k' op as nks) cs ks := by
   cases hq : l[i] with | mk nn cs ks => cases nn; exact ⟨_, _, _, _, _, _, rfl⟩
  rw [hx] at hgt w hstep; have hb := armRows_get hgt; generalize Arm.norm (.mk (.mk k' op as nks) cs ks) = y at w hstep; obtain ⟨⟨yk, yo, ya, yks⟩, ycs, ykk⟩ := y; have fgX := far (show b3 < g by omega); have feX := far (show a2 < g by omega); have fzX := far (show 0 < g by omega); have fxX := far (show bc < g by omega); have lq1 : ∀ x : Nat, (b3 < g + x) = True := fun x => eq_true (by omega)
  have lq2 : ∀ x y : Nat, (b3 < g + x + y) = True := fun x y => eq_true (by omega)
  have rm : room (i + 1) 112 = true := room_of (by omega) (by omega); have rm1 : room 1 112 = true := by decide
  have a1 : (a2 = b3) = False := eq_false (by omega); have a2' : (b3 = a2) = False := eq_false (by omega); have a3 : (0 = b3) = False := eq_false (by omega); have a4 : (b3 = 0) = False := eq_false (by omega); have a5 : (bc = b3) = False := eq_false hcb; have a6 : (b3 = bc) = False := eq_false (fun e => hcb e.symm); generalize armsNorm (l.take i) = A at hcw hstep htl; refine ⟨.normal, ?_⟩
  rcases hcw with ⟨rfl, rfl⟩ | ⟨bx, hn0, hb0, hb1, hb2, rfl, hBX⟩
  · have hi : i = 0 := by simpa using htl.symm
    subst hi; simp [-getElem?_pos, F211_B0, h1, h2, h3, h4, hA, hC, hX, hB, hlt, hlt', hb, w, hw, rm1, lq1, lq2, a1, a2', a3, a4, a5, a6, fgX, feX, fzX, fxX]; refine ⟨k, by omega, 1, by omega, by decide, by omega, by omega, ?_⟩
    rw [show armsNorm (l.take 1) = _ from hstep]; refine .inr ⟨_, by simp, ?_, ?_, ?_, rfl, ?_⟩
    · omega
    · omega
    · omega
    · simp [armRows, Arm.row, fgX]; try rfl
  · have fbX := far hb2
    have b1 : (b3 = bx) = False := eq_false (by omega); have b2 : (a2 = bx) = False := eq_false (by omega); have b3' : (0 = bx) = False := eq_false (by omega); have b4 : (bx = b3) = False := eq_false (by omega); have b5 : (bx = 0) = False := eq_false (by omega); have b6 : (bx = a2) = False := eq_false (by omega); have b7 : (bx = bc) = False := eq_false hb0; have b8 : (bc = bx) = False := eq_false (fun e => hb0 e.symm); rw [htl] at hB; simp [-getElem?_pos, F211_B0, h1, h2, h3, h4, hA, hC, hX, hB, hBX, hlt, hlt', hb, w, hw, rm, htl, lq1, lq2, a1, a2', a3, a4, a5, a6, b1, b2, b3', b4, b5, b6, b7, b8, fgX, feX, fzX, fxX, fbX]; refine ⟨k, by omega, i + 1, by omega, by simp, by omega, by omega, ?_⟩
    rw [hstep]; refine .inr ⟨g + 320 + 576, by simp, by omega, by omega, by omega, (by rw [List.length_append, htl]; try rfl), ?_⟩
    rw [List.take_of_length_le (show (armRows A).length ≤ i by rw [armRows_length]; omega)]; simp [armRows_append, armRows, Arm.row, fgX]
    try rfl
def AHeld (H : Nat → Box) (g : Nat) (v : V) (ks : List Arm) : Prop := ∃ bx c, bx < g ∧ v = .w (.own bx 0 ks.length c) ∧ H bx = .row none 6 (armRows ks) 0 ∧ (c = none ∨ (c = some 0 ∧ ks = []))
theorem loop208 {n : Nat} (l : List Arm) (hc : ∀ x ∈ l, ∀ s, go n 211 [armX x] [] s = some ⟨armX x.norm, [], []⟩) (hl : l.length < 2 ^ 28) (hn : l.length < n) (st : St) (h0 : st.τ 0 = .w (ksW l)) (h4 : st.τ 4 = iV 0) (h3 : AHeld st.H st.g (st.τ 3) []) :
 ∃ e st', execC (go n) mode GT false 25 n F208_L0 st = some (e, st') ∧ e ≠ .normal ∧ (e = .exit 0 ∧ AHeld st'.H st'.g (st'.τ 3) (armsNorm l)) := by
 rw [F208_L0, execC_loop]; refine iter_rule (fun k st => ∃ i, i + k = l.length ∧ st.τ 0 = .w (ksW l) ∧ st.τ 4 = iV i ∧ AHeld st.H st.g (st.τ 3) (armsNorm (l.take i))) ?_ n l.length st hn
  ⟨0, by omega, h0, by simpa using h4, by simpa [armsNorm] using h3⟩
 clear h0 h4 h3; rintro k ⟨τ, H, g, s⟩ ⟨i, hk, h0, h4, bx, c, hb2, h3, hB, hcc⟩; simp only at h0 h3 h4 hb2 hB; have htl : (armsNorm (l.take i)).length = i := by rw [armsNorm_map]; simp; omega
 rw [htl] at h3; cases k with
 | zero =>
  have : i = l.length := by omega
  subst this; rw [List.take_length] at hB hcc htl; refine ⟨.exit 0, ⟨upd (upd (upd (upd τ 10 (iV l.length)) 11 (.w (ksW l))) 12 (iV l.length)) 13 (.w (.d (.s (.bool false)))), H, g + 256, restS s⟩, ?_, by simp, fun _ => ⟨rfl, bx, c, by simp only; omega, by rw [htl]; simpa using h3, hB, hcc⟩⟩
  simp [F208_B0, h0, h4]
 | succ k =>
  have hlt : i < l.length := by omega
  have hlt' := ltT hlt; have hgt := List.getElem?_eq_getElem hlt; have hw := wrap_succ (i := i) (by omega); have w := hc _ (List.getElem_mem hlt); have hstep : armsNorm (l.take (i + 1)) = armsNorm (l.take i) ++ [(l[i]).norm] := by
   rw [List.take_add_one, hgt, armsNorm_map, armsNorm_map, List.map_append]; rfl
  obtain ⟨k', op, as, nks, cs, ks, hx⟩ : ∃ k' op as nks cs ks, l[i] = .mk (.mk k' op as nks) cs ks := by
   cases hq : l[i] with | mk nn cs ks => cases nn; exact ⟨_, _, _, _, _, _, rfl⟩
  rw [hx] at hgt w hstep; have hb := armRows_get hgt; generalize Arm.norm (.mk (.mk k' op as nks) cs ks) = y at w hstep; obtain ⟨⟨yk, yo, ya, yks⟩, ycs, ykk⟩ := y; have fbX := far hb2; have rm : room (i + 1) 112 = true := room_of (by omega) (by omega); have rm1 : room 1 112 = true := by decide
  generalize armsNorm (l.take i) = A at hB hcc hstep htl; refine ⟨.normal, ?_⟩
  rcases hcc with rfl | ⟨rfl, rfl⟩
  · simp [-getElem?_pos, F208_B0, h0, h3, h4, hB, hlt, hlt', hb, w, hw, rm, htl, fbX]
    refine ⟨k, by omega, i + 1, by omega, by simp, ?_⟩
    rw [hstep]; refine ⟨_, none, ?_, (by rw [List.length_append, htl]; try rfl), ?_, .inl rfl⟩
    · omega
    · rw [List.take_of_length_le (show (armRows A).length ≤ i by rw [armRows_length]; omega)]
      simp [armRows_append, armRows, Arm.row]
  · have hi : i = 0 := by simpa using htl.symm
    subst hi; simp [-getElem?_pos, F208_B0, h0, h3, h4, hB, hlt, hlt', hb, w, hw, rm1, fbX]; refine ⟨k, by omega, 1, by omega, by decide, ?_⟩
    rw [show armsNorm (l.take 1) = _ from hstep]; refine ⟨_, none, ?_, rfl, ?_, .inl rfl⟩
    · omega
    · simp [armRows, Arm.row]
theorem run_NormMakeS_of {n : Nat} (l : List Arm) (hm : armsWt l < 2 ^ 27) (hn : 2 * armsWt l + 100 ≤ n) (hc : treeCode l = 0 → ∀ x ∈ l, ∀ s, go n 211 [armX x] [] s = some ⟨armX x.norm, [], []⟩) (s : Sup) :
 go (n + 1) 208 [.w (ksW l)] [] s = some ⟨.w (ksW (if treeCode l = 0 then armsNorm l else [])), [], []⟩ := by
 have hlen := armsWt_len l; obtain ⟨r, hr⟩ := Classical.skolem.1 fun s => run_TreeCheckS l (by omega) n (by omega) s
 have w1 := fun s => (hr s).2
 by_cases hcode : treeCode l = 0
 · rw [if_pos hcode]
   rw [hcode] at w1; simp [go_of FT_208 rfl, F208, w1]; generalize hst : St.mk _ _ _ _ = st; obtain ⟨e, ⟨τ', H', g', s'⟩, hx, -, rfl, bx, c, hb2, h3, hB, hcc⟩ := loop208 (n := n) l (hc hcode) (by omega) (by omega) st (by simp [← hst]) (by simp [← hst]) (by subst hst; exact ⟨320, some 0, by simp, by simp, by simp [armRows], .inr ⟨rfl, rfl⟩⟩); simp only at hb2 h3 hB; clear hst; simp [hx, h3, hB]
 · have hcp : (0 : Int) < treeCode l := by
    unfold treeCode at hcode ⊢; split
    · omega
    · rename_i h
      rw [if_neg h] at hcode; have : ∀ l : List Arm, 0 ≤ rungsWrong l := fun l => by
       induction l with
       | nil => simp [rungsWrong]
       | cons a r ih => have h1 := Arm.wrong_or true a; simp only [rungsWrong]; split <;> omega
      have := this l; omega
   have hcpi := eq_true hcp; rw [if_neg hcode]; generalize treeCode l = c at w1 hcpi; simp [go_of FT_208 rfl, F208, w1, hcpi, armRows]
theorem rungs_ok : ∀ l : List Arm, (∀ a ∈ l, a.wrong true = 0) → (∀ a ∈ armsNorm l, a.wrong true = 0 ∧ a.wn = true) ∧ armsSize (armsNorm l) ≤ armsSize l ∧ armsWt (armsNorm l) ≤ armsWt l
 | [], h => by simp [armsNorm]
 | m :: r, h => by
  obtain ⟨a1, a2, a3, a4⟩ := arm_norm_ok true m (h m (List.mem_cons_self ..)); obtain ⟨b1, b2, b3⟩ := rungs_ok r fun k hk => h k (List.mem_cons_of_mem _ hk)
  simp only [armsNorm, armsSize, armsWt]; refine ⟨fun x hx => ?_, by omega, by omega⟩
  rcases List.mem_cons.1 hx with rfl | hx
  · exact ⟨a1, a2⟩
  · exact b1 x hx
theorem treeCode_right {l : List Arm} (h : treeCode l = 0) : ∀ a ∈ l, a.wrong true = 0 := by
 unfold treeCode at h; split at h
 · simp at h
 · exact (rungsWrong_all l).1 h
end Go.VM
