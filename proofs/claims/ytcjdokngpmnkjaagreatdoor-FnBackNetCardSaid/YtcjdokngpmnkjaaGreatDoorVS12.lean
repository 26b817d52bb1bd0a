/- Draws: nets that have the shape of nets; their lists. Conditions: none. -/
import Derived.Test.YtcjdokngpmnkjaaGreatDoorVS10
import Derived.Test.YtcjdokngpmnkjaaGreatDoorVY20

namespace Go.VM
set_option linter.unusedSimpArgs false
set_option linter.unusedVariables false
set_option maxHeartbeats 16000000
mutual
def Net.shp : Net → Bool
 | .mk k _ as [] => decide (k = 1 ∧ as.length ≤ 4)
 | .mk k _ _ (x :: r) => decide (k = 2 ∨ k = 3 ∨ (k = 4 ∧ r.length = 0)) && x.shp && netsShp r
def netsShp : List Net → Bool
 | [] => true
 | x :: r => x.shp && netsShp r
end
theorem netsShp_all : ∀ l : List Net, netsShp l = true ↔ ∀ x ∈ l, x.shp = true
 | [] => by simp [netsShp]
 | x :: r => by simp [netsShp, netsShp_all r]
theorem shp_mk {k op : Int} {as : List Arg} {ts : List Net} (hk : k = 2 ∨ k = 3) (h0 : ts ≠ []) (h : ∀ t ∈ ts, t.shp = true) : (Net.mk k op as ts).shp = true := by
 cases ts with
 | nil => exact absurd rfl h0
 | cons x r =>
  have h1 := h x (List.mem_cons_self ..); have h2 := (netsShp_all r).2 fun y hy => h y (List.mem_cons_of_mem _ hy)
  simp only [Net.shp, h1, h2, Bool.and_true, decide_eq_true_eq]; omega
def Net.ws (t : Net) : Nat := if t.shp = true then t.wt else 10 ^ 9
theorem Net.ws_of {t : Net} (h : t.shp = true) : t.ws = t.wt := by unfold Net.ws; rw [if_pos h]
theorem Net.of_ws {t : Net} {k : Nat} (h : t.ws ≤ k) (hk : k < 10 ^ 9) : t.wt ≤ k ∧ t.shp = true := by
 unfold Net.ws at h; split at h
 · rename_i h2; exact ⟨h, h2⟩
 · omega
theorem draw_NetS {b : List Int} (hb : RD b) : ∀ (d : Nat), d ≤ 4 → ∀ (n : Nat), d + 20 ≤ n → ∀ p, p + 200 * 4 ^ d < 2 ^ 34 → ∃ (t : Net) (q : Nat), t.ws ≤ 4 * 4 ^ d ∧ q ≤ p + 40 * 4 ^ d ∧ NetR b n d p t q := by
 intro d
 induction d with
 | zero =>
  intro _ n hn p hp; obtain ⟨n, rfl⟩ : ∃ k, n = k + 1 := ⟨n - 1, by omega⟩; obtain ⟨v, q, h1, h2, h3, w⟩ := draw_pick hb 7 p (by omega) n (by omega); obtain ⟨⟨op, as⟩, q2, g1, g2, w2⟩ := draw_Contact hb q (by omega) n (by omega); simp only at g1; refine ⟨.mk 1 op as [], q2, by rw [Net.ws_of (by simp [Net.shp]; omega)]; simp [Net.wt, netsWt]; omega, by omega, fun s => ?_⟩
  simp [go_of FT_115 rfl, F115, w, w2]
 | succ d ih =>
  intro hd n hn p hp; obtain ⟨n, rfl⟩ : ∃ k, n = k + 1 := ⟨n - 1, by omega⟩; have ih := ih (by omega) n (by omega); have hpow : 4 ^ (d + 1) = 4 * 4 ^ d := by rw [Nat.pow_succ, Nat.mul_comm]
  have hp1 : 1 ≤ 4 ^ d := Nat.pos_of_ne_zero (by simp); have hp2 : 4 ^ d ≤ 4 ^ 3 := Nat.pow_le_pow_right (by decide) (by omega); have hdw : IntKind.wrap .i64 ((d : Int) + 1 - 1) = d := by rw [Int.add_sub_cancel]; exact wrap_id (by omega) (by omega)
  have hd0 : (((d : Int) + 1) ≤ 0) = False := eq_false (by omega); obtain ⟨v, q, h1, h2, h3, w⟩ := draw_pick hb 7 p (by omega) n (by omega); have h2 := h2 (by omega)
  by_cases c1 : v < 3
  · obtain ⟨⟨op, as⟩, q2, g1, g2, w2⟩ := draw_Contact hb q (by omega) n (by omega)
    simp only at g1; refine ⟨.mk 1 op as [], q2, by rw [Net.ws_of (by simp [Net.shp]; omega)]; simp [Net.wt, netsWt]; omega, by omega, fun s => ?_⟩
    simp [go_of FT_115 rfl, F115, w, w2, hd0, c1]
  by_cases c2 : v = 6
  · obtain ⟨t, q2, g1, g2, w2⟩ := ih q (by omega)
    have w2 : ∀ s, _ := w2; have hdw2 : IntKind.wrap .i64 (d : Int) = d := wrap_id (by omega) (by omega); refine ⟨.mk 4 0 [] [t], q2, by rw [hpow, Net.ws_of (by simp [Net.shp, netsShp, (Net.of_ws g1 (by omega)).2])]; have := (Net.of_ws g1 (by omega)).1; simp only [Net.wt, netsWt, List.length_nil]; omega, by omega, fun s => ?_⟩
    obtain ⟨tk, to, ta, tks⟩ := t; subst c2; simp [go_of FT_115 rfl, F115, w, w2, hd0, hdw, hdw2, netRows, Net.row, List.replicate]
  · obtain ⟨u, q2, g1, g2, g3, w2⟩ := draw_pick hb 2 q (by omega) n (by omega)
    have g2 := g2 (by omega); obtain ⟨u2, q3, g4, g5, g6, w3⟩ := draw_pick hb 8 q2 (by omega) n (by omega); have body : ∀ M : Nat, 1 ≤ M → M ≤ 3 → (∃ (ts : List Net) (r : Nat), ts.length = M ∧ (∀ t ∈ ts, t.ws ≤ 4 * 4 ^ d) ∧ r ≤ q3 + M * (40 * 4 ^ d) ∧ Seq (NetR b n d) q3 ts r) := fun M h1 h3 =>
     Seq.have (B := 2 ^ 34 - 200 * 4 ^ d) (fun p hp => ih p (by omega)) M q3 (by have : M * (40 * 4 ^ d) ≤ 3 * (40 * 4 ^ d) := Nat.mul_le_mul h3 (Nat.le_refl _); omega)
    have close : ∀ (M : Nat) (ts : List Net) (r : Nat), 1 ≤ M → M ≤ 3 → ts.length = M → (∀ t ∈ ts, t.ws ≤ 4 * 4 ^ d) → r ≤ q3 + M * (40 * 4 ^ d) → (Net.mk (IntKind.wrap .i64 (2 + v.tmod 2)) 0 [] ts).ws ≤ 4 * 4 ^ (d + 1) ∧ r ≤ p + 40 * 4 ^ (d + 1) := by
     intro M ts r hM0 hM hl hw hr; have hw1 : ∀ t ∈ ts, t.wt ≤ 4 * 4 ^ d := fun t ht => (Net.of_ws (hw t ht) (by omega)).1
     have hw2 : ∀ t ∈ ts, t.shp = true := fun t ht => (Net.of_ws (hw t ht) (by omega)).2
     have hsh : (Net.mk (IntKind.wrap .i64 (2 + v.tmod 2)) 0 [] ts).shp = true := by
      have hv : v = 3 ∨ v = 4 ∨ v = 5 := by omega
      have hk : IntKind.wrap .i64 (2 + v.tmod 2) = 2 ∨ IntKind.wrap .i64 (2 + v.tmod 2) = 3 := by rcases hv with rfl | rfl | rfl <;> decide
      exact shp_mk hk (by intro e; rw [e] at hl; simp at hl; omega) hw2
     have := netsWt_le hw1; have e1 : ts.length * (4 * 4 ^ d) ≤ 3 * (4 * 4 ^ d) := Nat.mul_le_mul (by omega) (Nat.le_refl _); have e2 : M * (40 * 4 ^ d) ≤ 3 * (40 * 4 ^ d) := Nat.mul_le_mul hM (Nat.le_refl _); refine ⟨by rw [Net.ws_of hsh]; simp only [Net.wt, List.length_nil]; omega, by omega⟩
    by_cases c3 : u2 = 0
    · obtain ⟨ts, r, k1, k2, k3, k4⟩ := body 1 (by omega) (by omega)
      have hcl := close 1 ts r (by omega) (by omega) k1 k2 k3; refine ⟨.mk (IntKind.wrap .i64 (2 + v.tmod 2)) 0 [] ts, r, hcl.1, hcl.2, fun s => ?_⟩
      rw [← hdw] at k4; simp [go_of FT_115 rfl, F115, w, w2, w3, hd0, c1, c2, c3]; generalize hst : St.mk _ _ _ _ = st; obtain ⟨e, ⟨τ', H', g', s'⟩, hx, -, rfl, e4, e6, eA, eC, cw, eB, ecw⟩ := loop115 ((d : Int) + 1) (IntKind.wrap .i64 (2 + v.tmod 2)) ts r (by omega) (by omega) st q3 k4 (by simp [← hst]) (by simp [← hst]) (by simp [← hst]) (by simp [← hst]) (by simp [← hst, k1]) (by simp [← hst]) (by simp [← hst]) (by simp [← hst]) (by simp [← hst]) (by simp [← hst]); simp only at e4 e6 eA eC eB ecw; rcases ecw with ⟨rfl, _⟩ | ⟨bx, hb1, hb2, rfl, hBX⟩
      · simp at k1
      · have b1 : (1025 = bx) = False := eq_false (by omega)
        have b2 : (1 = bx) = False := eq_false (by omega); have b3 : (0 = bx) = False := eq_false (by omega); have b4 : (bx = 1025) = False := eq_false (by omega); have b5 : (bx = 0) = False := eq_false (by omega); have b6 : (bx = 1) = False := eq_false (by omega); simp [hx, e4, e6, eA, eC, eB, hBX, b1, b2, b3, b4, b5, b6]
    · obtain ⟨M, hM⟩ : ∃ M : Nat, u = (M : Int) - 2 ∧ 2 ≤ M ∧ M ≤ 3 := ⟨(u + 2).toNat, by omega, by omega, by omega⟩
      obtain ⟨hM1, hM2, hM3⟩ := hM; have hMw : IntKind.wrap .i64 (2 + u) = (M : Int) := by rw [hM1]; rw [wrap_id (by omega) (by omega)]; omega
      obtain ⟨ts, r, k1, k2, k3, k4⟩ := body M (by omega) hM3; have hcl := close M ts r (by omega) hM3 k1 k2 k3; refine ⟨.mk (IntKind.wrap .i64 (2 + v.tmod 2)) 0 [] ts, r, hcl.1, hcl.2, fun s => ?_⟩
      rw [← hdw] at k4; simp [go_of FT_115 rfl, F115, w, w2, w3, hd0, c1, c2, c3, hMw]; generalize hst : St.mk _ _ _ _ = st; obtain ⟨e, ⟨τ', H', g', s'⟩, hx, -, rfl, e4, e6, eA, eC, cw, eB, ecw⟩ := loop115 ((d : Int) + 1) (IntKind.wrap .i64 (2 + v.tmod 2)) ts r (by omega) (by omega) st q3 k4 (by simp [← hst]) (by simp [← hst]) (by simp [← hst]) (by simp [← hst]) (by simp [← hst, k1]) (by simp [← hst]) (by simp [← hst]) (by simp [← hst]) (by simp [← hst]) (by simp [← hst]); simp only at e4 e6 eA eC eB ecw; rcases ecw with ⟨rfl, _⟩ | ⟨bx, hb1, hb2, rfl, hBX⟩
      · simp at k1; omega
      · have b1 : (1025 = bx) = False := eq_false (by omega)
        have b2 : (1 = bx) = False := eq_false (by omega); have b3 : (0 = bx) = False := eq_false (by omega); have b4 : (bx = 1025) = False := eq_false (by omega); have b5 : (bx = 0) = False := eq_false (by omega); have b6 : (bx = 1) = False := eq_false (by omega); simp [hx, e4, e6, eA, eC, eB, hBX, b1, b2, b3, b4, b5, b6]
theorem shp_leaf {k op : Int} {as : List Arg} (h : Net.shp (.mk k op as []) = true) : k = 1 ∧ as.length ≤ 4 := by simpa [Net.shp] using h
theorem shp_kids {k op : Int} {as : List Arg} {x : Net} {r : List Net} (h : Net.shp (.mk k op as (x :: r)) = true) : (k = 2 ∨ k = 3 ∨ k = 4) ∧ x.shp = true ∧ (∀ y ∈ r, y.shp = true) ∧ (k = 4 → r = []) := by
 simp only [Net.shp, Bool.and_eq_true, decide_eq_true_eq] at h; refine ⟨by omega, h.1.2, (netsShp_all r).1 h.2, fun e => ?_⟩
 have := h.1.1; exact List.eq_nil_of_length_eq_zero (by omega)
theorem run_l14NetW : ∀ (m : Nat) (t : Net), t.wt ≤ m → m < 2 ^ 27 → t.shp = true → ∀ (n : Nat), 3 * m + 10 ≤ n → ∀ s, go n 301 [netX t] [] s = some (insOwn t.begins t.capB)
 | 0, t, h, hm, hr, n, hn, s => by have := t.wt_pos; omega
 | m + 1, .mk k op ars [], h, hm, hr, n, hn, s => by
  obtain ⟨n, rfl⟩ : ∃ k, n = k + 2 := ⟨n - 2, by omega⟩; have := (shp_leaf hr).1; subst this; simp only [Net.wt] at h; have w2 := run_l14Copy (n := n) ⟨op, ars⟩ (by simp only; omega); simp [go_of (n := n + 1) FT_301 rfl, F301, w2, Net.begins, Net.capB, insRows, Ins.row]
 | m + 1, .mk k op ars (x :: r), h, hm, hr, n, hn, s => by
  obtain ⟨hk, hx, hall, h4⟩ := shp_kids hr; have hlb := len_begins (.mk k op ars (x :: r)); have hsw := (Net.mk k op ars (x :: r)).size_wt; simp only [Net.wt, netsWt] at h hsw; obtain ⟨n, rfl⟩ : ∃ k, n = k + 3 := ⟨n - 3, by omega⟩; have w1 := run_l14NetW m x (by omega) (by omega) hx (n + 2) (by omega); have hxl := len_begins x; have hxs := x.size_wt; have hk1 : (k = 1) = False := eq_false (by omega); obtain ⟨xk, xo, xa, xks⟩ := x
  by_cases e4 : k = 4
  · have := h4 e4
    subst this; subst e4; simp only [Net.begins, Net.capB, if_true]; generalize Net.begins (.mk xk xo xa xks) = L at w1 hxl ⊢; generalize Net.capB (.mk xk xo xa xks) = c at w1; have rm : room (L.length + 1) 40 = true := room_of (by omega) (by omega); have tk := take_insRows L; simp [go_of (n := n + 2) FT_301 rfl, F301, w1, netRows, Net.row, rm, insRows_length, insRows_append, insRows_one, Ins.row, ar0, tk]
  · have hk4 : (k = 4) = False := eq_false e4
    have e4r : (if k = 4 then [Ins.bare 6] else netsTaken k r) = netsTaken k r := if_neg e4; simp only [Net.begins, Net.capB, e4r, if_neg e4]; have hb : ∀ y ∈ r, ∀ s, go (n + 2) 332 [iV k, netX y] [] s = some (insOwn (y.taken k) (if y.kind = 1 then some 1 else none)) := fun y hy s => by
     have hyw := netsWt_mem hy; have hyl := len_begins y; have hys := y.size_wt; have hya : y.as.length ≤ y.wt := by cases y; simp only [Net.as, Net.wt]; omega
     exact run_l14More (n := n) k y (by omega) (fun _ s => run_l14NetW m y (by omega) (by omega) (hall y hy) (n + 1) (by omega) s) (by omega) (by omega) s
    have hlen := netsWt_len r; have hlr : (Net.begins (.mk xk xo xa xks)).length + (netsTaken k r).length < 2 ^ 29 := by
     simp only [Net.begins, e4r, List.length_append] at hlb; omega
    generalize hLB : Net.begins (.mk xk xo xa xks) = L at w1 hlr ⊢; generalize Net.capB (.mk xk xo xa xks) = c at w1 ⊢; simp [go_of (n := n + 2) FT_301 rfl, F301, w1, netRows, Net.row, hk1, hk4, netRows_length]; generalize hst : St.mk _ _ _ _ = st; obtain ⟨e, ⟨τ', H', g', s'⟩, hx, -, rfl, b, hb0, hbg, h3, hB⟩ := loop301 (n := n + 2) k L c op ars (.mk xk xo xa xks) r (by omega) hb hlr (by omega) (by omega) st (by simp [← hst]) (by simp [← hst]) (by simp [← hst, netRows, Net.row]) (by subst hst; exact OwnI.mk rfl (by omega) (by simp only; omega) rfl (by simp)); simp only at hbg h3 hB; clear hst
    have ec : (if r.length = 0 then c else Option.none) = (if r = [] then c else Option.none) := by cases r <;> rfl
    rw [ec] at h3; generalize (if r = [] then c else Option.none) = cc at h3 ⊢; generalize L ++ netsTaken k r = M at h3 hB ⊢; have tkM := take_insRows M; simp [hx, h3, hB, tkM]
theorem draw_Inst {b : List Int} (hb : RD b) (p : Nat) (hp : p < 2 ^ 34) (n : Nat) (hn : 100 ≤ n) : ∃ (i : Ins) (q : Nat), i.e.as.length ≤ 3 ∧ q ≤ p + 60 ∧ ∀ s, go n 313 [pV] [rB b p] s = some ⟨insX i, [rB b q], []⟩ := by
 obtain ⟨n, rfl⟩ : ∃ k, n = k + 1 := ⟨n - 1, by omega⟩; obtain ⟨v, q1, hv, k2, w1⟩ := draw_num hb [1, 1, 1, 2, 2, 2, 3, 3, 4, 5, 6, 7, 8, 9, 10, 10, 10, 11] (by simp) p (by omega) n (by omega); simp only [lV, List.map_cons, List.map_nil] at w1
 by_cases c1 : v ≤ 3
 · obtain ⟨⟨eo, ea⟩, q2, g1, g2, w2⟩ := draw_Contact hb q1 (by omega) n (by omega)
   simp only at g1; exact ⟨⟨v, ⟨eo, ea⟩⟩, q2, by simp only; omega, by omega, fun s => by simp [go_of FT_313 rfl, F313, w1, w2, c1]⟩
 by_cases c2 : v = 10
 · obtain ⟨⟨eo, ea⟩, q2, g1, g2, w2⟩ := draw_Coil hb q1 (by omega) n (by omega)
   simp only at g1; subst c2; exact ⟨⟨10, ⟨eo, ea⟩⟩, q2, by simp only; omega, by omega, fun s => by simp [go_of FT_313 rfl, F313, w1, w2]⟩
 · exact ⟨⟨v, ⟨0, []⟩⟩, q1, by simp, by omega, fun s => by simp [go_of FT_313 rfl, F313, w1, c1, c2]⟩
theorem draw_El4 {b : List Int} (hb : RD b) (p : Nat) (hp : p < 2 ^ 34) (n : Nat) (hn : 100 ≤ n) : ∃ (e : El) (q : Nat), e.as.length ≤ 4 ∧ q ≤ p + 100 ∧ ∀ s, go n 340 [pV] [rB b p] s = some ⟨elX e, [rB b q], []⟩ := by
 obtain ⟨n, rfl⟩ : ∃ k, n = k + 1 := ⟨n - 1, by omega⟩; obtain ⟨⟨co, ca⟩, q1, g1, g2, w1⟩ := draw_Coil hb p (by omega) n (by omega); obtain ⟨v, q2, v1, v2, v3, w2⟩ := draw_pick hb 2 q1 (by omega) n (by omega); simp only at g1
 by_cases c0 : v = 0
 · obtain ⟨⟨eo, ea⟩, q3, g3, g4, w3⟩ := draw_Contact hb q2 (by omega) n (by omega)
   obtain ⟨u, q4, u1, u2, u3, w4⟩ := draw_pick hb 16 q3 (by omega) n (by omega); simp only at g3
   by_cases c1 : u = 0
   · obtain ⟨⟨fo, fa⟩, q5, g5, g6, w5⟩ := draw_Spoil hb ⟨eo, ea⟩ (by simp only; omega) q4 (by omega) n (by omega)
     simp only at g5; exact ⟨⟨fo, fa⟩, q5, by simp only; omega, by omega, fun s => by simp [go_of FT_340 rfl, F340, w1, w2, w3, w4, w5, c0, c1]⟩
   · exact ⟨⟨eo, ea⟩, q4, by simp only; omega, by omega, fun s => by simp [go_of FT_340 rfl, F340, w1, w2, w3, w4, c0, c1]⟩
 · obtain ⟨u, q4, u1, u2, u3, w4⟩ := draw_pick hb 16 q2 (by omega) n (by omega)
   by_cases c1 : u = 0
   · obtain ⟨⟨fo, fa⟩, q5, g5, g6, w5⟩ := draw_Spoil hb ⟨co, ca⟩ (by simp only; omega) q4 (by omega) n (by omega)
     simp only at g5; exact ⟨⟨fo, fa⟩, q5, by simp only; omega, by omega, fun s => by simp [go_of FT_340 rfl, F340, w1, w2, w4, w5, c0, c1]⟩
   · exact ⟨⟨co, ca⟩, q4, by simp only; omega, by omega, fun s => by simp [go_of FT_340 rfl, F340, w1, w2, w4, c0, c1]⟩
end Go.VM
