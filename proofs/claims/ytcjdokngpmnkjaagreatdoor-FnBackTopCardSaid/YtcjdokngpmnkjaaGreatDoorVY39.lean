/- Draws: ladders that are right. Conditions: none. -/
import Derived.Test.YtcjdokngpmnkjaaGreatDoorVS6
import Derived.Test.YtcjdokngpmnkjaaGreatDoorVS9
import Derived.Test.YtcjdokngpmnkjaaGreatDoorVS3
import Derived.Test.YtcjdokngpmnkjaaGreatDoorVY25

namespace Go.VM
set_option linter.unusedSimpArgs false
set_option linter.unusedVariables false
set_option maxHeartbeats 16000000
def RootR (b : List Int) (n : Nat) (p : Nat) (t : Arm) (q : Nat) : Prop := ∀ s, go n 178 [pV, iV 2, bV true] [rB b p] s = some ⟨armX t, [rB b q], []⟩
def Held (H : Nat → Box) (g : Nat) (v : V) (ks : List Arm) : Prop := ∃ bx c, bx ≠ 0 ∧ bx < g ∧ v = .w (.own bx 0 ks.length c) ∧ H bx = .row none 6 (armRows ks) 0 ∧ (c = none ∨ (c = some 0 ∧ ks = []))
def Kept (H : Nat → Box) (g : Nat) (v : V) (L : List Arm) (j : Nat) : Prop := ∃ bx c o m, bx ≠ 0 ∧ bx < g ∧ v = .w (.own bx 0 j c) ∧ H bx = .row o 6 (armRows L) m ∧ (o = none ∨ o = some 0)
def dropF (L : List Arm) : Nat → Nat
 | 0 => 0
 | j + 1 => if 400 < armsSize (L.take (j + 1)) then dropF L j else j + 1
theorem kJ2 (L : List Arm) : ∀ j, dropF L j ≤ j
 | 0 => Nat.le_refl _
 | j + 1 => by have := kJ2 L j; simp only [dropF]; split <;> omega
theorem kj1 (l : List Arm) (i : Nat) : armsWt (l.take i) ≤ armsWt l := by
 have := k94 (l.take i) (l.drop i); rw [List.take_append_drop] at this; omega
theorem loop151_0 {b : List Int} {n : Nat} (ts : List Arm) (r : Nat) (h3l : ts.length ≤ 4) (hn : 8 ≤ n) (st : St) (p : Nat) (hS : Seq (RootR b n) p ts r)
 (h0 : st.τ 0 = pV) (h4 : st.τ 4 = iV ts.length) (hA : st.H 0 = rB b p) (hg : 0 < st.g) (h3 : Held st.H st.g (st.τ 3) []) :
 ∃ e st', execC (go n) mode GT false 61 n F151_L0 st = some (e, st') ∧ e ≠ .normal ∧ (e = .exit 1 ∧ st'.H 0 = rB b r ∧ 0 < st'.g ∧ Held st'.H st'.g (st'.τ 3) ts) := by
 rw [F151_L0, k00]; refine k03 (fun k st => ∃ ks rest q, ts = ks ++ rest ∧ rest.length = k ∧ Seq (RootR b n) q rest r ∧ st.τ 0 = pV ∧ st.τ 4 = iV rest.length ∧ st.H 0 = rB b q ∧ 0 < st.g ∧ Held st.H st.g (st.τ 3) ks) ?_ n ts.length st (by omega)
  ⟨[], ts, p, rfl, rfl, hS, h0, h4, hA, hg, h3⟩
 clear h0 h4 hA hg hS h3; rintro k ⟨τ, H, g, s⟩ ⟨ks, rest, q, hts, hr, hS, h0, h4, hA, hg, bx, c, hb0, hb2, h3, hBX, hc⟩; simp only at h0 h3 h4 hA hg hb2 hBX; cases hS with
 | nil =>
  rw [List.append_nil] at hts; subst hts; refine ⟨.exit 1, ⟨upd (upd τ 38 (iV 0)) 39 (.w (.d (.s (.bool false)))), H, g + 128, restS s⟩, ?_, by simp, fun _ => ⟨rfl, hA, by simp only; omega, bx, c, hb0, by simp only; omega, by simpa using h3, hBX, hc⟩⟩
  simp [F151_B0, h0, h3, h4]
 | @cons _ q2 _ t rest2 w hS2 =>
  have w : ∀ s, _ := w; have hlen : ts.length = ks.length + (rest2.length + 1) := by rw [hts]; simp
  have hlt : ((0 : Int) < (rest2.length : Int) + 1) = True := eq_true (by omega); have hwr : IntKind.wrap .i64 ((rest2.length : Int) + 1 - 1) = (rest2.length : Int) := by rw [Int.add_sub_cancel]; exact k29 (by omega) (by omega)
  have hwr2 : IntKind.wrap .i64 (rest2.length : Int) = (rest2.length : Int) := k29 (by omega) (by omega); obtain ⟨⟨tk, to, ta, tks⟩, tcs, tkk⟩ := t; have fzX := far (show 0 < g by omega); have fbX := far hb2; have rm : room (ks.length + 1) 112 = true := k08 (by omega) (by omega); have rm1 : room 1 112 = true := by decide
  have hk : rest2.length < k := by simp at hr; omega
  have b3 : (0 = bx) = False := eq_false (fun e => hb0 e.symm); have b5 : (bx = 0) = False := eq_false hb0; refine ⟨.normal, ?_⟩
  rcases hc with rfl | ⟨rfl, rfl⟩
  · simp [-getElem?_pos, F151_B0, h0, h3, h4, hA, hBX, hlt, w, hwr, hwr2, rm, b3, b5, fzX, fbX]
    refine ⟨rest2.length, hk, ks ++ [.mk (.mk tk to ta tks) tcs tkk], rest2, by rw [hts]; simp, rfl, q2, hS2, rfl, rfl, _, none, ?_, ?_, (by rw [List.length_append]; rfl), ?_, .inl rfl⟩
    · omega
    · omega
    · simp [k28, armRows, Arm.row]; try rfl
  · simp [-getElem?_pos, F151_B0, h0, h3, h4, hA, hBX, hlt, w, hwr, hwr2, rm1, armRows, b3, b5, fzX, fbX]
    refine ⟨rest2.length, hk, [.mk (.mk tk to ta tks) tcs tkk], rest2, by rw [hts]; simp, rfl, q2, hS2, rfl, rfl, _, none, ?_, ?_, rfl, ?_, .inl rfl⟩
    · omega
    · omega
    · simp [k28, armRows, Arm.row]; try rfl
theorem loop151_1 {b : List Int} {n : Nat} (L : List Arm) (hn : L.length < n) (hL : armsWt L < 2 ^ 38) (hL4 : L.length ≤ 4) (hw : ∀ j, ∀ s, go n 107 [.w (.d (.l 0 (List.take j (armRows L))))] [] s = some ⟨iV (armsSize (L.take j)), [], []⟩) (st : St) (p : Nat)
 (hA : st.H 0 = rB b p) (hg : 0 < st.g) (h3 : Held st.H st.g (st.τ 3) L) :
 ∃ e st', execC (go n) mode GT false 61 n F151_L1 st = some (e, st') ∧ e ≠ .normal ∧ (e = .exit 3 ∧ st'.H 0 = rB b p ∧ Kept st'.H st'.g (st'.τ 3) L (dropF L L.length)) := by
 obtain ⟨bx, c, hb0, hb2, h3, hBX, hc⟩ := h3; rw [F151_L1, k00]; refine k03 (fun k st => k ≤ L.length ∧ dropF L k = dropF L L.length ∧ st.H 0 = rB b p ∧ bx < st.g ∧ st.τ 3 = .w (.own bx 0 k c) ∧ ∃ o m, st.H bx = .row o 6 (armRows L) m ∧ (o = none ∨ o = some 0)) ?_ n L.length st (by omega)
  ⟨Nat.le_refl _, rfl, hA, hb2, h3, none, 0, hBX, .inl rfl⟩
 clear hA hg h3 hb2 hBX; rintro k ⟨τ, H, g, s⟩ ⟨hk, hd, hA, hb2, h3, o, m, hBX, ho⟩; simp only at h3 hA hb2 hBX; have b3 : (0 = bx) = False := eq_false (fun e => hb0 e.symm); have b5 : (bx = 0) = False := eq_false hb0; have fbX := far hb2; cases k with
 | zero =>
  have hd : dropF L L.length = 0 := hd.symm; refine ⟨.exit 3, ?_⟩
  simp [F151_B1, h3, hA, hd]; exact ⟨bx, c, o, m, hb0, by omega, rfl, hBX, ho⟩
 | succ k =>
  have hki : ((0 : Int) < (k : Int) + 1) = True := eq_true (by omega); have hwk : IntKind.wrap .i64 (k : Int) = k := k29 (by omega) (by omega); have w := hw (k + 1); have hkL : k + 1 ≤ L.length := hk; have hkL3 : k < L.length := hk; have hkL2 : k ≤ L.length := by omega
  have hkk : ((k : Int) ≤ (k : Int) + 1) = True := eq_true (by omega); have hc2 : c = none := by
   rcases hc with h | ⟨_, h⟩
   · exact h
   · subst h; simp at hk
  subst hc2
  by_cases hz : 400 < armsSize (L.take (k + 1))
  · have hzi : ((400 : Int) < (armsSize (L.take (k + 1)) : Int)) = True := eq_true (by omega)
    have hd2 : dropF L k = dropF L L.length := by rw [← hd]; simp only [dropF]; rw [if_pos hz]
    refine ⟨.normal, ?_⟩
    rcases ho with rfl | rfl <;> simp [-getElem?_pos, F151_B1, h3, hA, hBX, hki, hwk, w, hz, hzi, hkL, hkL2, hkL3, hkk, b3, b5, fbX] <;> exact ⟨k, by omega, by omega, hd2, by omega, rfl⟩
  · have hzi : ((400 : Int) < (armsSize (L.take (k + 1)) : Int)) = False := eq_false (by omega)
    have hd2 : dropF L L.length = k + 1 := by rw [← hd]; simp only [dropF]; rw [if_neg hz]
    refine ⟨.exit 3, ?_⟩
    rcases ho with rfl | rfl <;> simp [-getElem?_pos, F151_B1, h3, hA, hBX, hki, hwk, w, hz, hzi, hkL, hkL2, hkL3, hkk, hd2, b3, b5, fbX] <;> exact ⟨bx, none, some 0, _, hb0, by omega, rfl, by simp; try rfl, .inr rfl⟩
theorem draw_Ladder {b : List Int} (hb : RD b) (n : Nat) (hn : 40000 ≤ n) (p : Nat) (hp : p < 2 ^ 30) :
 ∃ (l : List Arm) (q : Nat), armsWt l ≤ 13000 ∧ q ≤ p + 2 ^ 18 ∧ ∀ s, go n 151 [pV] [rB b p] s = some ⟨.w (ksW l), [rB b q], []⟩ := by
 obtain ⟨n, rfl⟩ : ∃ k, n = k + 1 := ⟨n - 1, by omega⟩; obtain ⟨v, q1, h1, h2, h3, w1⟩ := k06 hb 24 p (by omega) n (by omega); have rm1 : room 1 112 = true := by decide
 by_cases c0 : v = 0
 · obtain ⟨u, q2, hu, k2, w2⟩ := k54 hb [9, 15, 16, 17, 18, 30] (by simp) q1 (by omega) n (by omega)
   simp only [lV, List.map_cons, List.map_nil] at w2; have hu2 : u = 9 ∨ u = 15 ∨ u = 16 ∨ u = 17 ∨ u = 18 ∨ u = 30 := by simpa using hu
   obtain ⟨N, rfl, hN1, hN2⟩ : ∃ N : Nat, u = N ∧ 1 ≤ N ∧ N ≤ 30 := ⟨u.toNat, by omega, by omega, by omega⟩; obtain ⟨t, q3, k3, k4, w3⟩ := draw_Stair hb N hN1 (by omega) n (by omega) q2 (by omega); obtain ⟨⟨co, ca⟩, q4, k5, k6, w4⟩ := k57 hb q3 (by omega) n (by omega); simp only at k5; refine ⟨[.mk t [⟨co, ca⟩] []], q4, by simp only [armsWt, Arm.wt, elsWt, El.wt]; omega, by omega, fun s => ?_⟩
   obtain ⟨tk, to, ta, tks⟩ := t; subst c0; simp [go_of FT_151 rfl, F151, w1, w2, w3, w4, rm1, armRows, Arm.row, elRows, El.row, List.replicate]
 by_cases c1 : v = 1
 · obtain ⟨u, q2, hu, k2, w2⟩ := k54 hb [5, 7, 8, 9, 12] (by simp) q1 (by omega) n (by omega)
   simp only [lV, List.map_cons, List.map_nil] at w2; have hu2 : u = 5 ∨ u = 7 ∨ u = 8 ∨ u = 9 ∨ u = 12 := by simpa using hu
   obtain ⟨N, rfl, hN1, hN2⟩ : ∃ N : Nat, u = N ∧ 1 ≤ N ∧ N ≤ 12 := ⟨u.toNat, by omega, by omega, by omega⟩; obtain ⟨t, q3, k3, k4, w3⟩ := draw_Forks hb N (by omega) n (by omega) q2 (by omega); refine ⟨[t], q3, by simp only [armsWt]; omega, by omega, fun s => ?_⟩
   have hok := (w3 s).1; have w3 := fun s => (w3 s).2
   obtain ⟨⟨tk, to, ta, tks⟩, tcs, tkk⟩ := t; obtain ⟨rfl, ⟨hc1, rfl⟩ | ⟨rfl, hk2⟩⟩ := hok
   · have tkE : List.take 1 (elRows tcs) = elRows tcs := List.take_of_length_le (by rw [k21]; omega)
     subst c1; simp [go_of FT_151 rfl, F151, w1, w2, w3, forkV, forkB, tkE, hc1, rm1, armRows, Arm.row, List.replicate]
   · have tkA : List.take 2 (armRows tkk) = armRows tkk := List.take_of_length_le (by rw [k15]; omega)
     have hkn : tkk ≠ [] := fun e => by rw [e] at hk2; cases hk2
     subst c1; simp [go_of FT_151 rfl, F151, w1, w2, w3, forkV, forkB, tkA, hk2, hkn, rm1, armRows, Arm.row, List.replicate]
 by_cases c2 : v = 2
 · refine ⟨[], q1, by simp [armsWt], by omega, fun s => ?_⟩
   subst c2; simp [go_of FT_151 rfl, F151, w1, armRows]
 · obtain ⟨u, q2, u1, u2, u3, w2⟩ := k06 hb 4 q1 (by omega) n (by omega)
   have u2 := u2 (by omega); obtain ⟨K, hK, hK1, hK2⟩ : ∃ K : Nat, u = (K : Int) - 1 ∧ 1 ≤ K ∧ K ≤ 4 := ⟨(u + 1).toNat, by omega, by omega, by omega⟩; have hKw : IntKind.wrap .i64 (1 + u) = (K : Int) := by rw [hK]; rw [k29 (by omega) (by omega)]; omega
   obtain ⟨L, r, kl, kw, kp, hS⟩ := Seq.have (R := RootR b n) (wt := Arm.wt) (W := 3200) (P := 32000) (B := 2 ^ 33) (fun p hp => by
    obtain ⟨t, q, g1, g2, g3⟩ := draw_ArmS hb 2 (by omega) n (by omega) p (by omega) true; exact ⟨t, q, by omega, by omega, g3⟩) K q2 (by omega)
   have kww := kv1 kw; have hdl := kJ2 L L.length; have htw := kj1 L (dropF L L.length); refine ⟨L.take (dropF L L.length), r, by omega, by omega, fun s => ?_⟩
   have hw : ∀ j, ∀ s, go n 107 [.w (.d (.l 0 (List.take j (armRows L))))] [] s = some ⟨iV (armsSize (L.take j)), [], []⟩ := fun j s => by
    have e : List.take j (armRows L) = armRows (L.take j) := by rw [k48, k48, List.map_take]
    have := kj1 L j; rw [e]; exact kd8 (L.take j) (by omega) n (by omega) s
   simp [go_of FT_151 rfl, F151, w1, w2, c0, c1, c2, hKw]; generalize hst : St.mk _ _ _ _ = st; obtain ⟨e1, st1, hx1, -, rfl, fA, fg, f3⟩ := loop151_0 L r (by omega) (by omega) st q2 hS (by simp [← hst]) (by simp [← hst, kl]) (by simp [← hst]) (by simp [← hst]) (by subst hst; exact ⟨65, some 0, by decide, by simp, by simp, by simp [armRows], .inr ⟨rfl, rfl⟩⟩); obtain ⟨e2, ⟨τ2, H2, g2, s2⟩, hx2, -, rfl, gA, bx, c, o, m, hb0, hb2, i3, hBX, ho⟩ := loop151_1 L (by omega) (by omega) (by omega) hw st1 r fA fg f3; simp only at gA hb2 i3 hBX; have b3 : (0 = bx) = False := eq_false (fun e => hb0 e.symm); have b5 : (bx = 0) = False := eq_false hb0
   have e : List.take (dropF L L.length) (armRows L) = armRows (L.take (dropF L L.length)) := by rw [k48, k48, List.map_take]
   rcases ho with rfl | rfl <;> simp [hx1, hx2, gA, i3, hBX, b3, b5, hdl, e]
theorem draw_Spoil2 {b : List Int} (hb : RD b) (l : List Arm) (hl : armsWt l ≤ 20000) (n : Nat) (hn : 60001 ≤ n) (p : Nat) (hp : p < 2 ^ 30) :
 ∃ (l' : List Arm) (q : Nat), armsWt l' ≤ armsWt l + 2000 ∧ q ≤ p + 2 ^ 23 ∧ ∀ s, go n 152 [pV, .w (ksW l)] [rB b p] s = some ⟨.w (ksW l'), [rB b q], []⟩ := by
 obtain ⟨n, rfl⟩ : ∃ k, n = k + 1 := ⟨n - 1, by omega⟩; obtain ⟨l', q, h1, h2, w⟩ := draw_SpoilL hb l hl n (by omega) p hp; exact ⟨l', q, h1, h2, fun s => (go_sp FT_152 rfl rfl).trans (w s)⟩
theorem draw_LAny {b : List Int} (hb : RD b) (n : Nat) (hn : 70000 ≤ n) (p : Nat) (hp : p < 2 ^ 29) :
 ∃ (l : List Arm) (q : Nat), armsWt l ≤ 15000 ∧ q ≤ p + 2 ^ 24 ∧ ∀ s, go n 128 [pV] [rB b p] s = some ⟨.w (ksW l), [rB b q], []⟩ := by
 obtain ⟨n, rfl⟩ : ∃ k, n = k + 1 := ⟨n - 1, by omega⟩; obtain ⟨l, q1, h1, h2, w1⟩ := draw_Ladder hb n (by omega) p (by omega); obtain ⟨v, q2, v1, v2, v3, w2⟩ := k06 hb 16 q1 (by omega) n (by omega)
 by_cases c : v = 0
 · obtain ⟨l', q3, k1, k2, w3⟩ := draw_Spoil2 hb l (by omega) n (by omega) q2 (by omega)
   refine ⟨l', q3, by omega, by omega, fun s => ?_⟩
   subst c; simp [go_of FT_128 rfl, F128, w1, w2, w3]
 · refine ⟨l, q2, by omega, by omega, fun s => ?_⟩
   simp [go_of FT_128 rfl, F128, w1, w2, c]
theorem draw_DrawWayDown {b : List Int} (hl : b.length < 2 ^ 40) (hb : ∀ x ∈ b, 0 ≤ x ∧ x < 256) (n : Nat) (hn : 80000 ≤ n) : ∃ l : List Arm, armsWt l ≤ 15000 ∧ ∀ s, go n 270 [.w (bW 0 b)] [] s = some ⟨.w (ksW l), [], []⟩ := by
 obtain ⟨n, rfl⟩ : ∃ k, n = k + 1 := ⟨n - 1, by omega⟩; obtain ⟨b2, hR, w0⟩ := draw_open hl hb n (by omega); obtain ⟨l, q, g1, g2, w1⟩ := draw_LAny hR n (by omega) 0 (by omega); have w1 : ∀ s, go n 128 [pV] [.cells [.d (.l 0 (byt b2)), .d (.s (.int .i64 0))]] s = some ⟨.w (ksW l), [rB b2 q], []⟩ := w1; exact ⟨l, g1, fun s => by simp [go_of FT_270 rfl, F270, w0, w1]⟩
theorem kt9 {l : List Arm} (h : treeCode l = 0) : normOf (normOf l) = normOf l := by
 have e : normOf l = armsNorm l := by unfold normOf; rw [if_pos h]
 obtain ⟨b1, b2, b3⟩ := kh1 l (k44 h); have hs := kw0 (armsNorm l) (fun a ha => (b1 a ha).1) (fun a ha => (b1 a ha).2); have hc := kk9 h; rw [e]; unfold normOf; rw [if_pos hc, hs]
theorem kk3 {l : List Arm} (h : treeCode l = 0) : treeCode (normOf l) = 0 := by
 unfold normOf; rw [if_pos h]; exact kk9 h
theorem km8 {l : List Arm} (h : treeCode l = 0) : downCode (normOf l) = downCode l := by
 unfold downCode; rw [kk3 h, kt9 h, h]
theorem downList_norm {l : List Arm} (h : treeCode l = 0) : downList (normOf l) = downList l := by
 unfold downList; rw [km8 h, kt9 h]
theorem ke2 (l : List Arm) : ∀ x ∈ downList l, x.e.as.length ≤ armsWt l := fun x hx => by
 unfold downList at hx; split at hx
 · exact Nat.le_trans (kw9 _ x hx) (k61 l)
 · cases hx
theorem km9 {L : List Arm} (h : downCode L = 0) : treeCode L = 0 ∧ bitsOf (normOf L) ≤ 16 ∧ forksOf (normOf L) ≤ 8 := by
 unfold downCode at h; split at h
 · rename_i h0
   split at h
   · cases h
   · exact ⟨h0, by omega, by omega⟩
 · cases h
theorem plain_short {l : List Arm} (h : treeCode l = 0) : (plainOf l).length ≤ 800 := by
 have h1 := ka3 l (k44 h); unfold treeCode at h; split at h
 · cases h
 · omega
theorem ky0 {L : List Arm} (h : downCode L = 0) : checkL (downList L) = (0, 0) ∧ rungsL (downList L) = (normOf L).map Arm.plain ∧ (downList L).length ≤ 800 := by
 obtain ⟨h0, h1, h2⟩ := km9 h; have e : downList L = plainOf (normOf L) := by unfold downList; rw [if_pos h]
 have hs := plain_short (kk3 h0); rw [e]; exact ⟨(check_plain _ (k50 L) (by omega)).2 h1 h2, kl0 _ (k50 L), hs⟩
theorem rgRows_get {P : List (List Ins)} {i : Nat} {p : List Ins} (h : P[i]? = some p) : (rgRows P)[i]? = some [.l 0 (insRows p)] := by simp [rgRows, h]
def AccA (τ : Nat → V) (H : Nat → Box) (g t : Nat) (L : List Arm) : Prop := (L = [] ∧ τ t = .w .nil) ∨ ∃ b, b < g ∧ τ t = .w (.own b 0 L.length none) ∧ H b = .row none 6 (armRows L) 0
theorem AccA.keep {τ τ' : Nat → V} {H H' : Nat → Box} {g g' t : Nat} {L : List Arm} (h : AccA τ H g t L) (e : τ' t = τ t) (eH : ∀ b, b < g → H' b = H b) (hg : g ≤ g') : AccA τ' H' g' t L := by
  rcases h with ⟨h1, h2⟩ | ⟨b, h2, h3, h4⟩
  · exact .inl ⟨h1, e.trans h2⟩
  · exact .inr ⟨b, by omega, e.trans h3, (eH b h2).trans h4⟩
theorem AccA.mk {τ : Nat → V} {H : Nat → Box} {g t n b : Nat} {L : List Arm} (h2 : τ t = .w (.own b 0 n none)) (h1 : b < g) (hn : n = L.length) (h3 : H b = .row none 6 (armRows L) 0) : AccA τ H g t L :=
  .inr ⟨b, h1, by rw [h2, hn], h3⟩
theorem loop285_0 {n : Nat} (P : List (List Ins)) (R : List Ins → Arm × List Ins) (hc : ∀ x ∈ P, ∀ s, go n 312 [.w (.ptr 0 0), .w .nil] [.cells [isW x]] s = some ⟨armX (R x).1, [.cells [isW (R x).2]], []⟩) (hn : P.length < n) (hl : P.length < 2 ^ 28) (st : St) (h12 : st.τ 12 = .w (rgW P)) (h13 : st.τ 13 = iV P.length) (h14 : st.τ 14 = iV 0) (h : AccA st.τ st.H st.g 4 []) :
    ∃ e st', execC (go n) mode GT false 32 n F285_L0 st = some (e, st') ∧ e ≠ .normal ∧ (e = .exit 0 ∧ AccA st'.τ st'.H st'.g 4 (P.map fun x => (R x).1)) := by
  rw [F285_L0, k00]; refine k03 (fun m st => ∃ i, i + m = P.length ∧ st.τ 12 = .w (rgW P) ∧ st.τ 13 = iV P.length ∧ st.τ 14 = iV i ∧ AccA st.τ st.H st.g 4 ((P.take i).map fun x => (R x).1)) ?_ n P.length st hn
    ⟨0, by omega, h12, h13, by simpa using h14, by simpa using h⟩
  clear h12 h13 h14 h; rintro m ⟨τ, H, g, s⟩ ⟨i, hm, h12, h13, h14, hacc⟩; simp only at h12 h13 h14 hacc; cases m with
  | zero =>
    have : i = P.length := by omega
    subst this; rw [List.take_length] at hacc; refine ⟨.exit 0, ?_⟩
    simp [F285_B0, h13, h14]; exact hacc.keep rfl (fun _ _ => rfl) (Nat.le_add_right _ _)
  | succ m =>
    have hlt : i < P.length := by omega
    have hlt' : ((i : Int) < (P.length : Int)) = True := eq_true (by omega); have hgt := List.getElem?_eq_getElem hlt; have hmem := List.getElem_mem hlt; have hw := k04 (i := i) (by omega); have w := hc _ hmem; have hrow := rgRows_get hgt; have hstep : ((P.take (i + 1)).map fun x => (R x).1) = ((P.take i).map fun x => (R x).1) ++ [(R P[i]).1] := by rw [List.take_add_one, hgt, List.map_append]; rfl
    generalize P[i] = x at w hrow hstep; generalize (R x).2 = l' at w; generalize (R x).1 = A at w hstep; have hSl : ((P.take i).map fun x => (R x).1).length = i := by rw [List.length_map, List.length_take]; omega
    generalize ((P.take i).map fun x => (R x).1) = S at hacc hstep hSl; obtain ⟨⟨ak, ao, aa, aks⟩, acs, akk⟩ := A; have rm1 : room 1 112 = true := by decide
    have rmS : room (S.length + 1) 112 = true := k08 (by omega) (by omega); have n1 : armRows [.mk (.mk ak ao aa aks) acs akk] = [[iD ak, iD ao, .l 0 (argRows aa), .l 0 (netRows aks), .l 0 (elRows acs), .l 0 (armRows akk)]] := by simp [armRows, Arm.row]
    suffices hsuf : ∃ st', execC (go n) mode GT false 32 n F285_B0 ⟨τ, H, g, s⟩ = some (.normal, st') ∧ AccA st'.τ st'.H st'.g 4 (S ++ [.mk (.mk ak ao aa aks) acs akk]) ∧ st'.τ 12 = .w (rgW P) ∧ st'.τ 13 = iV P.length ∧ st'.τ 14 = iV ((i + 1 : Nat) : Int) by
      obtain ⟨st', a0, a1, a2, a3, a4⟩ := hsuf; rw [a0]; exact ⟨.normal, st', rfl, fun _ => ⟨m, by omega, i + 1, by omega, a2, a3, a4, by rw [hstep]; exact a1⟩, fun h => absurd rfl h⟩
    rcases hacc with ⟨rfl, h4⟩ | ⟨b, hbg, h4, hB⟩
    · simp [-getElem?_pos, F285_B0, h4, h12, h13, h14, hlt, hlt', hrow, hw, w, rm1]
      exact AccA.mk rfl (by omega) (by simp) (by simp [n1])
    · have bX := far hbg
      have tkS : List.take S.length (armRows S) = armRows S := List.take_of_length_le (by simp); simp [-getElem?_pos, F285_B0, h4, h12, h13, h14, hB, hlt, hlt', hrow, hw, w, rmS, tkS, bX]; exact AccA.mk rfl (by omega) (by simp) (by simp [n1, k28, bX])
def upArms (F : Nat) (l : List Ins) : List Arm := (rungsL l).map fun x => (readArm F [] x).1
theorem kw5 {n : Nat} (l : List Ins) (hv : (checkL l).1 = 0) (ha : ∀ x ∈ l, x.e.as.length < 2 ^ 30) (hr : ∀ x ∈ rungsL l, LsOk x) (hrl : ∀ x ∈ rungsL l, x.length ≤ 1000) (F : Nat) (hF : 1000 < F) (hn : 4500 + 2 * armsWt (upArms F l) + 100 ≤ n) (hl : l.length ≤ 1000) (hu : armsWt (upArms F l) < 2 ^ 28) (hc : treeCode (upArms F l) = 0) (s : Sup) :
    go (n + 1) 285 [.w (isW l)] [] s = some ⟨.tup [(false, [ksW (upArms F l)]), (false, [iW 0])], [], []⟩ := by
  have w1 : ∀ s, go n 305 [.w (isW l)] [] s = some ⟨bV true, [], []⟩ := fun s => by
    have := run_verified (n := n - 1) l (fun x hx => by have := ha x hx; omega) (by omega) (by omega) (by omega) s
    rwa [show n - 1 + 1 = n by omega, decide_eq_true hv] at this
  have w2 : ∀ s, go n 306 [.w (isW l)] [] s = some ⟨.w (rgW (rungsL l)), [], []⟩ := fun s => by
    have := run_rungsOf (n := n - 1) l ha (by omega) (by omega) (by omega) s
    rwa [show n - 1 + 1 = n by omega] at this
  have hlr : (rungsL l).length ≤ l.length := kd6 l []; have hlp := loop285_0 (n := n) (rungsL l) (fun x => readArm F [] x) (fun x hx s => (kK2 1000 x (hrl x hx) (by omega) (hr x hx) F (by have := hrl x hx; omega) n (by omega)).2 s) (by omega) (by omega); have w3 := kf8 (upArms F l) (by omega) n (by omega); rw [decide_eq_true hc] at w3; have w4 := kp7 (armsWt (upArms F l)) (upArms F l) (Nat.le_refl _) (by omega) n (by omega); have e : (rungsL l).map (fun x => (readArm F [] x).1) = upArms F l := rfl; rw [e] at hlp; generalize upArms F l = A at hlp w3 w4 ⊢; generalize rungsL l = P at w2 hlp; simp [go_of (n := n) FT_285 rfl, F285, w1, w2, k51]
  generalize hst : St.mk _ _ _ _ = st; obtain ⟨e, ⟨τ', H', g', s'⟩, hx, -, rfl, hacc⟩ := hlp st (by simp [← hst]) (by simp [← hst]) (by simp [← hst]) (by subst hst; exact .inl ⟨rfl, by simp⟩); simp only at hacc; clear hst; rcases hacc with ⟨rfl, h4⟩ | ⟨b, hbg, h4, hB⟩
  · have w3' : ∀ s, go n 123 [.w (.d (.l 0 []))] [] s = some ⟨sV (.bool true), [], []⟩ := fun s => by have := w3 s; simpa [ksW] using this
    have w4' : ∀ s, go n 125 [.w (.d (.l 0 []))] [] s = some ⟨.w (.d (.l 0 [])), [], []⟩ := fun s => by have := w4 s; simpa [ksW] using this
    simp [hx, h4, w3', w4']
  · have tkA : List.take A.length (armRows A) = armRows A := List.take_of_length_le (by simp)
    simp [hx, h4, hB, tkA, w3, w4]
end Go.VM
