/- Draws: ladders that are right. Conditions: none. -/
import Derived.Test.YtcjdokngpmnkjaaGreatDoorVS6

namespace Go.VM
set_option linter.unusedSimpArgs false
set_option linter.unusedVariables false
set_option maxHeartbeats 16000000

def RootR (b : List Int) (n : Nat) (p : Nat) (t : Arm) (q : Nat) : Prop := ∀ s, go n 178 [pV, iV 2, bV true] [rB b p] s = some ⟨armX t, [rB b q], []⟩
/-- A slice of one's own: of a new box, or none yet. -/
def Held (H : Nat → Box) (g : Nat) (v : V) (ks : List Arm) : Prop := ∃ bx c, bx ≠ 0 ∧ bx < g ∧ v = .w (.own bx 0 ks.length c) ∧ H bx = .row none 6 (armRows ks) 0 ∧ (c = none ∨ (c = some 0 ∧ ks = []))
/-- A slice of one's own that was read. -/
def Kept (H : Nat → Box) (g : Nat) (v : V) (L : List Arm) (j : Nat) : Prop := ∃ bx c o m, bx ≠ 0 ∧ bx < g ∧ v = .w (.own bx 0 j c) ∧ H bx = .row o 6 (armRows L) m ∧ (o = none ∨ o = some 0)
def dropF (L : List Arm) : Nat → Nat
  | 0 => 0
  | j + 1 => if 400 < armsSize (L.take (j + 1)) then dropF L j else j + 1
theorem dropF_le (L : List Arm) : ∀ j, dropF L j ≤ j
  | 0 => Nat.le_refl _
  | j + 1 => by have := dropF_le L j; simp only [dropF]; split <;> omega
theorem armsWt_take_le (l : List Arm) (i : Nat) : armsWt (l.take i) ≤ armsWt l := by
  have := armsWt_append (l.take i) (l.drop i)
  rw [List.take_append_drop] at this; omega


theorem loop151_0 {b : List Int} {n : Nat} (ts : List Arm) (r : Nat) (h3l : ts.length ≤ 4) (hn : 8 ≤ n) (st : St) (p : Nat) (hS : Seq (RootR b n) p ts r)
    (h0 : st.τ 0 = pV) (h4 : st.τ 4 = iV ts.length) (hA : st.H 0 = rB b p) (hg : 0 < st.g) (h3 : Held st.H st.g (st.τ 3) []) :
    ∃ e st', execC (go n) mode GT false 61 n F151_L0 st = some (e, st') ∧ e ≠ .normal ∧ (e = .exit 1 ∧ st'.H 0 = rB b r ∧ 0 < st'.g ∧ Held st'.H st'.g (st'.τ 3) ts) := by
  rw [F151_L0, execC_loop]
  refine iter_rule (fun k st => ∃ ks rest q, ts = ks ++ rest ∧ rest.length = k ∧ Seq (RootR b n) q rest r ∧ st.τ 0 = pV ∧ st.τ 4 = iV rest.length ∧ st.H 0 = rB b q ∧ 0 < st.g ∧ Held st.H st.g (st.τ 3) ks) ?_ n ts.length st (by omega)
    ⟨[], ts, p, rfl, rfl, hS, h0, h4, hA, hg, h3⟩
  clear h0 h4 hA hg hS h3
  rintro k ⟨τ, H, g, s⟩ ⟨ks, rest, q, hts, hr, hS, h0, h4, hA, hg, bx, c, hb0, hb2, h3, hBX, hc⟩
  simp only at h0 h3 h4 hA hg hb2 hBX
  cases hS with
  | nil =>
    rw [List.append_nil] at hts
    subst hts
    refine ⟨.exit 1, ⟨upd (upd τ 38 (iV 0)) 39 (.w (.d (.s (.bool false)))), H, g + 128, restS s⟩, ?_, by simp, fun _ => ⟨rfl, hA, by simp only; omega, bx, c, hb0, by simp only; omega, by simpa using h3, hBX, hc⟩⟩
    simp [F151_B0, h0, h3, h4]
  | @cons _ q2 _ t rest2 w hS2 =>
    have w : ∀ s, _ := w
    have hlen : ts.length = ks.length + (rest2.length + 1) := by rw [hts]; simp
    have hlt : ((0 : Int) < (rest2.length : Int) + 1) = True := eq_true (by omega)
    have hwr : IntKind.wrap .i64 ((rest2.length : Int) + 1 - 1) = (rest2.length : Int) := by rw [Int.add_sub_cancel]; exact wrap_id (by omega) (by omega)
    have hwr2 : IntKind.wrap .i64 (rest2.length : Int) = (rest2.length : Int) := wrap_id (by omega) (by omega)
    obtain ⟨⟨tk, to, ta, tks⟩, tcs, tkk⟩ := t
    have fzX := far (show 0 < g by omega)
    have fbX := far hb2
    have rm : room (ks.length + 1) 112 = true := room_of (by omega) (by omega)
    have rm1 : room 1 112 = true := by decide
    have hk : rest2.length < k := by simp at hr; omega
    have b3 : (0 = bx) = False := eq_false (fun e => hb0 e.symm)
    have b5 : (bx = 0) = False := eq_false hb0
    refine ⟨.normal, ?_⟩
    rcases hc with rfl | ⟨rfl, rfl⟩
    · simp [-getElem?_pos, F151_B0, h0, h3, h4, hA, hBX, hlt, w, hwr, hwr2, rm, b3, b5, fzX, fbX]
      refine ⟨rest2.length, hk, ks ++ [.mk (.mk tk to ta tks) tcs tkk], rest2, by rw [hts]; simp, rfl, q2, hS2, rfl, rfl, _, none, ?_, ?_, (by rw [List.length_append]; rfl), ?_, .inl rfl⟩
      · omega
      · omega
      · simp [armRows_append, armRows, Arm.row]; try rfl
    · simp [-getElem?_pos, F151_B0, h0, h3, h4, hA, hBX, hlt, w, hwr, hwr2, rm1, armRows, b3, b5, fzX, fbX]
      refine ⟨rest2.length, hk, [.mk (.mk tk to ta tks) tcs tkk], rest2, by rw [hts]; simp, rfl, q2, hS2, rfl, rfl, _, none, ?_, ?_, rfl, ?_, .inl rfl⟩
      · omega
      · omega
      · simp [armRows_append, armRows, Arm.row]; try rfl

theorem loop151_1 {b : List Int} {n : Nat} (L : List Arm) (hn : L.length < n) (hL : armsWt L < 2 ^ 38) (hL4 : L.length ≤ 4) (hw : ∀ j, ∀ s, go n 107 [.w (.d (.l 0 (List.take j (armRows L))))] [] s = some ⟨iV (armsSize (L.take j)), [], []⟩) (st : St) (p : Nat)
    (hA : st.H 0 = rB b p) (hg : 0 < st.g) (h3 : Held st.H st.g (st.τ 3) L) :
    ∃ e st', execC (go n) mode GT false 61 n F151_L1 st = some (e, st') ∧ e ≠ .normal ∧ (e = .exit 3 ∧ st'.H 0 = rB b p ∧ Kept st'.H st'.g (st'.τ 3) L (dropF L L.length)) := by
  obtain ⟨bx, c, hb0, hb2, h3, hBX, hc⟩ := h3
  rw [F151_L1, execC_loop]
  refine iter_rule (fun k st => k ≤ L.length ∧ dropF L k = dropF L L.length ∧ st.H 0 = rB b p ∧ bx < st.g ∧ st.τ 3 = .w (.own bx 0 k c) ∧ ∃ o m, st.H bx = .row o 6 (armRows L) m ∧ (o = none ∨ o = some 0)) ?_ n L.length st (by omega)
    ⟨Nat.le_refl _, rfl, hA, hb2, h3, none, 0, hBX, .inl rfl⟩
  clear hA hg h3 hb2 hBX
  rintro k ⟨τ, H, g, s⟩ ⟨hk, hd, hA, hb2, h3, o, m, hBX, ho⟩
  simp only at h3 hA hb2 hBX
  have b3 : (0 = bx) = False := eq_false (fun e => hb0 e.symm)
  have b5 : (bx = 0) = False := eq_false hb0
  have fbX := far hb2
  cases k with
  | zero =>
    have hd : dropF L L.length = 0 := hd.symm
    refine ⟨.exit 3, ?_⟩
    simp [F151_B1, h3, hA, hd]
    exact ⟨bx, c, o, m, hb0, by omega, rfl, hBX, ho⟩
  | succ k =>
    have hki : ((0 : Int) < (k : Int) + 1) = True := eq_true (by omega)
    have hwk : IntKind.wrap .i64 (k : Int) = k := wrap_id (by omega) (by omega)
    have w := hw (k + 1)
    have hkL : k + 1 ≤ L.length := hk
    have hkL3 : k < L.length := hk
    have hkL2 : k ≤ L.length := by omega
    have hkk : ((k : Int) ≤ (k : Int) + 1) = True := eq_true (by omega)
    have hc2 : c = none := by
      rcases hc with h | ⟨_, h⟩
      · exact h
      · subst h; simp at hk
    subst hc2
    by_cases hz : 400 < armsSize (L.take (k + 1))
    · have hzi : ((400 : Int) < (armsSize (L.take (k + 1)) : Int)) = True := eq_true (by omega)
      have hd2 : dropF L k = dropF L L.length := by rw [← hd]; simp only [dropF]; rw [if_pos hz]
      refine ⟨.normal, ?_⟩
      rcases ho with rfl | rfl <;> simp [-getElem?_pos, F151_B1, h3, hA, hBX, hki, hwk, w, hz, hzi, hkL, hkL2, hkL3, hkk, b3, b5, fbX] <;> exact ⟨k, by omega, by omega, hd2, by omega, rfl⟩
    · have hzi : ((400 : Int) < (armsSize (L.take (k + 1)) : Int)) = False := eq_false (by omega)
      have hd2 : dropF L L.length = k + 1 := by rw [← hd]; simp only [dropF]; rw [if_neg hz]
      refine ⟨.exit 3, ?_⟩
      rcases ho with rfl | rfl <;> simp [-getElem?_pos, F151_B1, h3, hA, hBX, hki, hwk, w, hz, hzi, hkL, hkL2, hkL3, hkk, hd2, b3, b5, fbX] <;> exact ⟨bx, none, some 0, _, hb0, by omega, rfl, by simp; try rfl, .inr rfl⟩


theorem draw_Ladder {b : List Int} (hb : RD b) (n : Nat) (hn : 40000 ≤ n) (p : Nat) (hp : p < 2 ^ 30) :
    ∃ (l : List Arm) (q : Nat), armsWt l ≤ 13000 ∧ q ≤ p + 2 ^ 18 ∧ ∀ s, go n 151 [pV] [rB b p] s = some ⟨.w (ksW l), [rB b q], []⟩ := by
  obtain ⟨n, rfl⟩ : ∃ k, n = k + 1 := ⟨n - 1, by omega⟩
  obtain ⟨v, q1, h1, h2, h3, w1⟩ := draw_pick hb 24 p (by omega) n (by omega)
  have rm1 : room 1 112 = true := by decide
  by_cases c0 : v = 0
  · obtain ⟨u, q2, hu, k2, w2⟩ := draw_num hb [9, 15, 16, 17, 18, 30] (by simp) q1 (by omega) n (by omega)
    simp only [lV, List.map_cons, List.map_nil] at w2
    have hu2 : u = 9 ∨ u = 15 ∨ u = 16 ∨ u = 17 ∨ u = 18 ∨ u = 30 := by simpa using hu
    obtain ⟨N, rfl, hN1, hN2⟩ : ∃ N : Nat, u = N ∧ 1 ≤ N ∧ N ≤ 30 := ⟨u.toNat, by omega, by omega, by omega⟩
    obtain ⟨t, q3, k3, k4, w3⟩ := draw_Stair hb N hN1 (by omega) n (by omega) q2 (by omega)
    obtain ⟨⟨co, ca⟩, q4, k5, k6, w4⟩ := draw_Coil hb q3 (by omega) n (by omega)
    simp only at k5
    refine ⟨[.mk t [⟨co, ca⟩] []], q4, by simp only [armsWt, Arm.wt, elsWt, El.wt]; omega, by omega, fun s => ?_⟩
    obtain ⟨tk, to, ta, tks⟩ := t
    subst c0
    simp [go_of FT_151 rfl, F151, w1, w2, w3, w4, rm1, armRows, Arm.row, elRows, El.row, List.replicate]
  by_cases c1 : v = 1
  · obtain ⟨u, q2, hu, k2, w2⟩ := draw_num hb [5, 7, 8, 9, 12] (by simp) q1 (by omega) n (by omega)
    simp only [lV, List.map_cons, List.map_nil] at w2
    have hu2 : u = 5 ∨ u = 7 ∨ u = 8 ∨ u = 9 ∨ u = 12 := by simpa using hu
    obtain ⟨N, rfl, hN1, hN2⟩ : ∃ N : Nat, u = N ∧ 1 ≤ N ∧ N ≤ 12 := ⟨u.toNat, by omega, by omega, by omega⟩
    obtain ⟨t, q3, k3, k4, w3⟩ := draw_Forks hb N (by omega) n (by omega) q2 (by omega)
    refine ⟨[t], q3, by simp only [armsWt]; omega, by omega, fun s => ?_⟩
    obtain ⟨⟨tk, to, ta, tks⟩, tcs, tkk⟩ := t
    subst c1
    simp [go_of FT_151 rfl, F151, w1, w2, w3, rm1, armRows, Arm.row, List.replicate]
  by_cases c2 : v = 2
  · refine ⟨[], q1, by simp [armsWt], by omega, fun s => ?_⟩
    subst c2
    simp [go_of FT_151 rfl, F151, w1, armRows]
  · obtain ⟨u, q2, u1, u2, u3, w2⟩ := draw_pick hb 4 q1 (by omega) n (by omega)
    have u2 := u2 (by omega)
    obtain ⟨K, hK, hK1, hK2⟩ : ∃ K : Nat, u = (K : Int) - 1 ∧ 1 ≤ K ∧ K ≤ 4 := ⟨(u + 1).toNat, by omega, by omega, by omega⟩
    have hKw : IntKind.wrap .i64 (1 + u) = (K : Int) := by rw [hK]; rw [wrap_id (by omega) (by omega)]; omega
    obtain ⟨L, r, kl, kw, kp, hS⟩ := Seq.have (R := RootR b n) (wt := Arm.wt) (W := 3200) (P := 32000) (B := 2 ^ 33) (fun p hp => by
      obtain ⟨t, q, g1, g2, g3⟩ := draw_ArmS hb 2 (by omega) n (by omega) p (by omega) true
      exact ⟨t, q, by omega, by omega, g3⟩) K q2 (by omega)
    have kww := armsWt_le kw
    have hdl := dropF_le L L.length
    have htw := armsWt_take_le L (dropF L L.length)
    refine ⟨L.take (dropF L L.length), r, by omega, by omega, fun s => ?_⟩
    have hw : ∀ j, ∀ s, go n 107 [.w (.d (.l 0 (List.take j (armRows L))))] [] s = some ⟨iV (armsSize (L.take j)), [], []⟩ := fun j s => by
      have e : List.take j (armRows L) = armRows (L.take j) := by rw [armRows_map, armRows_map, List.map_take]
      have := armsWt_take_le L j
      rw [e]
      exact run_TreeSizeS (L.take j) (by omega) n (by omega) s
    simp [go_of FT_151 rfl, F151, w1, w2, c0, c1, c2, hKw]
    generalize hst : St.mk _ _ _ _ = st
    obtain ⟨e1, st1, hx1, -, rfl, fA, fg, f3⟩ := loop151_0 L r (by omega) (by omega) st q2 hS (by simp [← hst]) (by simp [← hst, kl]) (by simp [← hst]) (by simp [← hst]) (by subst hst; exact ⟨65, some 0, by decide, by simp, by simp, by simp [armRows], .inr ⟨rfl, rfl⟩⟩)
    obtain ⟨e2, ⟨τ2, H2, g2, s2⟩, hx2, -, rfl, gA, bx, c, o, m, hb0, hb2, i3, hBX, ho⟩ := loop151_1 L (by omega) (by omega) (by omega) hw st1 r fA fg f3
    simp only at gA hb2 i3 hBX
    have b3 : (0 = bx) = False := eq_false (fun e => hb0 e.symm)
    have b5 : (bx = 0) = False := eq_false hb0
    have e : List.take (dropF L L.length) (armRows L) = armRows (L.take (dropF L L.length)) := by rw [armRows_map, armRows_map, List.map_take]
    rcases ho with rfl | rfl <;> simp [hx1, hx2, gA, i3, hBX, b3, b5, hdl, e]

end Go.VM
