/- The document's WayPlain and WayDown, run. Conditions: none. -/
import Derived.Test.YtcjdokngpmnkjaaGreatDoorVY19
import Derived.Test.YtcjdokngpmnkjaaGreatDoorVY24
import Derived.Test.YtcjdokngpmnkjaaGreatDoorVQ8
import Derived.Test.YtcjdokngpmnkjaaGreatDoorVS1

namespace Go.VM
set_option linter.unusedSimpArgs false
set_option linter.unusedVariables false
set_option maxHeartbeats 16000000
theorem loop274_0 {n : Nat} (l : List Arm) (hc : ∀ x ∈ l, ∀ s, go n 302 [armX x] [] s = some ⟨.w (isW x.tail), [], []⟩) (hb : ∀ x ∈ l, ∀ s, ∃ c, go n 301 [netX x.net] [] s = some (insOwn x.net.begins c))
 (hlen : (plainOf l).length < 2 ^ 29) (hn : l.length < n) (hl : l.length < 2 ^ 40) (st : St) (h3 : st.τ 3 = .w (ksW l)) (h5 : st.τ 5 = iV 0) (h : OwnE st 4 []) :
 ∃ e st', execC (go n) mode GT false 35 n F274_L0 st = some (e, st') ∧ e ≠ .normal ∧ (e = .exit 0 ∧ OwnE st' 4 (plainOf l)) := by
 rw [F274_L0, k00]; refine k03 (fun m st => ∃ i, i + m = l.length ∧ st.τ 3 = .w (ksW l) ∧ st.τ 5 = iV i ∧ OwnE st 4 (plainOf (l.take i))) ?_ n l.length st hn
  ⟨0, by omega, h3, by simpa using h5, by simpa [plainOf] using h⟩
 clear h3 h5 h; rintro m ⟨τ, H, g, s⟩ ⟨i, hm, h3, h5, b, ci, hb0, hbg, h4, hB⟩; simp only at h3 h5 hbg h4 hB; cases m with
 | zero =>
  have : i = l.length := by omega
  subst this; rw [List.take_length] at h4 hB; refine ⟨.exit 0, ?_⟩
  simp [F274_B0, h3, h5]; exact OwnE.mk (by simp only [upd_at]; simpa using h4) hb0 (by simp only; omega) rfl hB
 | succ m =>
  have hlt : i < l.length := by omega
  have hlt' := ltT hlt; have hgt := List.getElem?_eq_getElem hlt; have hmem := List.getElem_mem hlt; have hw := k04 (i := i) (by omega); obtain ⟨xk, xo, xa, xns, xcs, xks, hx⟩ : ∃ xk xo xa xns xcs xks, l[i] = .mk (.mk xk xo xa xns) xcs xks := by
   cases hq : l[i] with | mk nn cs ks => cases nn; exact ⟨_, _, _, _, _, _, rfl⟩
  have w := hc _ hmem; have wb := hb _ hmem; rw [hx] at hgt w wb; have hstep := kq4 hgt; have hle := kx0 l (i + 1); rw [hstep, List.length_append, List.length_append, List.length_append] at hle; have hrow := k18 hgt; rw [show Arm.net (.mk (.mk xk xo xa xns) xcs xks) = .mk xk xo xa xns from rfl] at wb hstep hle; generalize Net.begins (.mk xk xo xa xns) = N at wb hstep hle; generalize Arm.tail (.mk (.mk xk xo xa xns) xcs xks) = T at w hstep hle; generalize plainOf (l.take i) = S at h4 hB hstep hle; simp only [List.length_singleton] at hle; have zX := far (show 0 < g by omega); have rm1 : room (S.length + N.length) 40 = true := k08 (by omega) (by omega)
  have rm2 : room (S.length + N.length + T.length) 40 = true := k08 (by omega) (by omega); have rm3 : room (S.length + N.length + T.length + 1) 40 = true := k08 (by omega) (by omega); have tkS := k05 S; have tkN := k05 N; have tkT := k05 T; have uSN : List.take (S.length + N.length) (insRows S ++ insRows N) = insRows S ++ insRows N := List.take_of_length_le (by simp [k02]); have uSNT : List.take (S.length + N.length + T.length) (insRows S ++ (insRows N ++ insRows T)) = insRows S ++ (insRows N ++ insRows T) := List.take_of_length_le (by simp [k02]; omega); have alN := eq_true (k42 N); have alT := eq_true (k42 T)
  have q3 : (S.length + N.length + T.length ≤ S.length + (N.length + T.length)) = True := eq_true (by omega); have bX := far hbg; have e1 : (0 = b) = False := eq_false (by omega); have e3 : (b = 0) = False := eq_false (by omega); have wb' : ∃ f : Sup → Option Nat, ∀ s, go n 301 [netX (.mk xk xo xa xns)] [] s = some (insOwn N (f s)) := ⟨fun s => (wb s).choose, fun s => (wb s).choose_spec⟩; obtain ⟨f, wb'⟩ := wb'; refine ⟨.normal, ?_⟩
  simp [-getElem?_pos, F274_B0, h3, h4, h5, hB, hlt, hlt', hrow, hw, w, wb', rm1, rm2, rm3, tkS, tkN, tkT, alN, alT, k02, k12, uSN, uSNT, q3, e1, e3, bX, zX]; exact ⟨m, by omega, i + 1, by omega, by simp, OwnE.mk rfl (by omega) (by simp only; omega) (by rw [hstep]; simp; try omega) (by simp [hstep, k12, k34, Ins.row, ar0, uSN, uSNT, e1, e3, bX, zX])⟩
theorem run_WayPlainS (l : List Arm) (hm : armsWt l < 2 ^ 25) (n : Nat) (hn : 5 * armsWt l + 400 ≤ n) (s : Sup) : go n 274 [.w (ksW l)] [] s = some ⟨.w (isW (plainOf (normOf l))), [], []⟩ := by
 obtain ⟨n, rfl⟩ : ∃ k, n = k + 2 := ⟨n - 2, by omega⟩; have w0 := k91 l hm (n + 1) (by omega); have hright := k50 l; have hwt := k61 l; generalize normOf l = y at w0 hright hwt ⊢; have hlen := k19 y; have hlp := ka3 y hright; have hsz := k47 y; have hc : ∀ x ∈ y, ∀ s, go (n + 1) 302 [armX x] [] s = some ⟨.w (isW x.tail), [], []⟩ := fun x hx s => kt1 (armsWt y) x (k07 hx) (by omega) (k95 (hright x hx)) (n + 1) (by omega) s
 have hb : ∀ x ∈ y, ∀ s, ∃ c, go (n + 1) 301 [netX x.net] [] s = some (insOwn x.net.begins c) := fun x hx s => by
  have h1 := k07 hx; have h2 := kz5 (hright x hx); obtain ⟨xn, xc, xk⟩ := x; simp only [Arm.wt] at h1; exact ⟨_, kh2 (armsWt y) xn (by omega) (by omega) h2 (n + 1) (by omega) s⟩
 simp [go_of (n := n + 1) FT_274 rfl, F274, w0]; generalize hst : St.mk _ _ _ _ = st; obtain ⟨e, ⟨τ', H', g', s'⟩, hx, -, rfl, b, c, hb0, hbg, h3, hB⟩ := loop274_0 (n := n + 1) y hc hb (by omega) (by omega) (by omega) st (by simp [← hst]) (by simp [← hst]) (by subst hst; exact OwnE.mk rfl (by omega) (by simp only; omega) rfl (by simp [insRows])); simp only at hbg h3 hB; clear hst; generalize plainOf y = L at h3 hB; have tkL := k05 L; simp [hx, h3, hB, tkL, k02]
theorem run_WayDownS (l : List Arm) (hm : armsWt l < 2 ^ 25) (n : Nat) (hn : 6 * armsWt l + 500 ≤ n) (s : Sup) : go n 278 [.w (ksW l)] [] s = some ⟨.tup [(false, [isW (downList l)]), (false, [iW (downCode l)])], [], []⟩ := by
 obtain ⟨n, rfl⟩ : ∃ k, n = k + 2 := ⟨n - 2, by omega⟩; obtain ⟨r, hr⟩ := Classical.skolem.1 fun s => ki3 l (by omega) (n + 1) (by omega) s
 have w1 := fun s => (hr s).2
 unfold downList downCode
 by_cases h : treeCode l = 0
 · have w2 := run_WayPlainS l hm (n + 1) (by omega)
   have w3 := run_WayBitsS l hm (n + 1) (by omega); have w4 := run_WayForksS l hm (n + 1) (by omega); rw [if_pos h]; rw [h] at w1; generalize normOf l = y at w2 w3 w4
   by_cases hb : 16 < bitsOf y
   · have hb' : ((16 : Int) < (bitsOf y : Int)) = True := eq_true (by omega)
     simp [go_of (n := n + 1) FT_278 rfl, F278, w1, w2, w3, w4, hb, hb', insRows]
   · have hb' : ((16 : Int) < (bitsOf y : Int)) = False := eq_false (by omega)
     by_cases hf : 8 < forksOf y
     · have hf' : ((8 : Int) < (forksOf y : Int)) = True := eq_true (by omega)
       simp [go_of (n := n + 1) FT_278 rfl, F278, w1, w2, w3, w4, hb, hb', hf, hf', insRows]
     · have hf' : ((8 : Int) < (forksOf y : Int)) = False := eq_false (by omega)
       simp [go_of (n := n + 1) FT_278 rfl, F278, w1, w2, w3, w4, hb, hb', hf, hf']
 · have hcp : (0 : Int) < treeCode l := by have := treeCode_nn l; omega
   have hcpi := eq_true hcp; rw [if_neg h]; generalize treeCode l = c at w1 hcpi; simp [go_of (n := n + 1) FT_278 rfl, F278, w1, hcpi, insRows]
theorem run_instSame1 {n : Nat} (a b : Ins) (hn : a.e.as.length + 3 ≤ n) (hl : a.e.as.length < 2 ^ 40) (s : Sup) : go (n + 1) 300 [insX a, insX b] [] s = some ⟨bV (eqB a b), [], []⟩ := by
 obtain ⟨p, e⟩ := a; obtain ⟨q, f⟩ := b; have w := kf5 (n := n) e f hn hl; obtain ⟨o1, x⟩ := e; obtain ⟨o2, y⟩ := f
 by_cases h : p = q
 · by_cases h2 : (⟨o1, x⟩ : El) = ⟨o2, y⟩
   · have e1 : (⟨p, ⟨o1, x⟩⟩ : Ins) = ⟨q, ⟨o2, y⟩⟩ := by rw [h, h2]
     rw [k52 e1]; rw [decide_eq_true h2] at w; simp [go_of FT_300 rfl, F300, h, w]
   · have e1 : (⟨p, ⟨o1, x⟩⟩ : Ins) ≠ ⟨q, ⟨o2, y⟩⟩ := fun e => h2 (congrArg Ins.e e)
     rw [k33 e1]; rw [decide_eq_false h2] at w; simp [go_of FT_300 rfl, F300, h, w]
 · have e1 : (⟨p, ⟨o1, x⟩⟩ : Ins) ≠ ⟨q, ⟨o2, y⟩⟩ := fun e => h (congrArg Ins.c e)
   rw [k33 e1]; simp [go_of FT_300 rfl, F300, h]
theorem loop299_0 {n : Nat} (l : List Ins) (m : List Ins) (hlm : l.length = m.length) (hc : ∀ x ∈ l, ∀ y s, go n 300 [insX x, insX y] [] s = some ⟨bV (eqB x y), [], []⟩) (hn : l.length < n) (hl : l.length < 2 ^ 40) (st : St) (ht : True) (h1 : st.τ 1 = .w (isW m)) (h2 : st.τ 2 = .w (.fn 300 [])) (h15 : st.τ 15 = .w (isW l)) (h16 : st.τ 16 = iV l.length) (h17 : st.τ 17 = iV 0) :
 ∃ e st', execC (go n) mode GT false 32 n F299_L0 st = some (e, st') ∧ e ≠ .normal ∧ ((e = .exit 0 ∧ l = m) ∨ (e = .ret ∧ l ≠ m ∧ st'.τ 6 = sV (.bool false))) := by
 rw [F299_L0, k00]; refine k03 (fun k st => ∃ i, i + k = l.length ∧ l.take i = m.take i ∧ st.τ 1 = .w (isW m) ∧ st.τ 2 = .w (.fn 300 []) ∧ st.τ 15 = .w (isW l) ∧ st.τ 16 = iV l.length ∧ st.τ 17 = iV i) ?_ n l.length st hn ⟨0, by omega, by simp, h1, h2, h15, h16, by simpa using h17⟩
 rintro k ⟨τ, H, g, s⟩ ⟨i, hk, ht, h1, h2, h15, h16, h17⟩; simp only at ht h1 h2 h15 h16 h17; cases k with
 | zero =>
  have : i = l.length := by omega
  subst this; refine ⟨.exit 0, ?_⟩
  have hlm2 : l = m := by rw [List.take_length, hlm, List.take_length] at ht; exact ht
  simp [F299_B0, h1, h2, h15, h16, h17, hlm2]
 | succ k =>
  have hlt : i < l.length := by omega
  have hlt' := ltT hlt; have hg := List.getElem?_eq_getElem hlt; have hmem := List.getElem_mem hlt; have hw := k04 (i := i) (by omega); have hltm : i < m.length := by omega
  have hgm := List.getElem?_eq_getElem hltm; have w := hc _ hmem m[i]; have hor : l[i] = m[i] ∨ l[i] ≠ m[i] := Classical.em _; have hdiff : l[i] ≠ m[i] → l ≠ m := fun h e => by subst e; exact h rfl
  have htake : l[i] = m[i] → l.take (i + 1) = m.take (i + 1) := fun h => ks5 ht hg (by rw [hgm, h])
  obtain ⟨c1, o1, a1, hx⟩ : ∃ c o a, l[i] = (⟨c, ⟨o, a⟩⟩ : Ins) := ⟨_, _, _, rfl⟩; obtain ⟨c2, o2, a2, hy⟩ : ∃ c o a, m[i] = (⟨c, ⟨o, a⟩⟩ : Ins) := ⟨_, _, _, rfl⟩; rw [hx, hy] at hor w hdiff htake; rw [hx] at hg; rw [hy] at hgm; have hb := ka4 hg; have hbm := ka4 hgm; rcases hor with he | he
  · refine ⟨.normal, ?_⟩
    rw [k52 he] at w; simp [-getElem?_pos, F299_B0, h1, h2, h15, h16, h17, hlt, hlt', hb, hbm, w, hw]; exact ⟨k, by omega, i + 1, by omega, htake he, rfl⟩
  · refine ⟨.ret, ?_⟩
    rw [k33 he] at w; simp [-getElem?_pos, F299_B0, h1, h2, h15, h16, h17, hlt, hlt', hb, hbm, w, hdiff he]
theorem run_instsSame {n : Nat} (l m : List Ins) (hc : ∀ x ∈ l, ∀ y s, go n 300 [insX x, insX y] [] s = some ⟨bV (eqB x y), [], []⟩) (hn : l.length < n) (hl : l.length < 2 ^ 40) (s : Sup) :
 go (n + 1) 299 [.w (isW l), .w (isW m), .w (.fn 300 [])] [] s = some ⟨bV (eqB l m), [], []⟩ := by
 by_cases hlm : l.length = m.length
 · have hlmi : ((l.length : Int) = m.length) = True := eq_true (by omega)
   simp [go_of FT_299 rfl, F299, hlm, hlmi, k02]; generalize hst : St.mk _ _ _ _ = st; obtain ⟨e, ⟨τ', H', g', s'⟩, hx, -, ⟨rfl, h⟩ | ⟨rfl, h, h4⟩⟩ := loop299_0 (n := n) l m hlm hc (by omega) hl st trivial (by simp [← hst]) (by simp [← hst]) (by simp [← hst]) (by simp [← hst, hlm]) (by simp [← hst])
   · simp [hx, k52 h]
   · simp only at h4
     simp [hx, k33 h, h4]
 · have hlmi : ((l.length : Int) = m.length) = False := eq_false (by omega)
   have : l ≠ m := fun e => hlm (by rw [e])
   simp [go_of FT_299 rfl, F299, hlm, hlmi, k02, k33 this]
theorem run_ListSame (a b : List Ins) (k : Nat) (h1 : ∀ x ∈ a, x.e.as.length ≤ k) (n : Nat) (hn : a.length + k + 6 ≤ n) (hk : k < 2 ^ 30) (hl : a.length < 2 ^ 40) (s : Sup) : go n 272 [.w (isW a), .w (isW b)] [] s = some ⟨bV (eqB a b), [], []⟩ := by
 obtain ⟨n, rfl⟩ : ∃ k, n = k + 3 := ⟨n - 3, by omega⟩; have w := run_instsSame (n := n + 1) a b (fun x hx y s => run_instSame1 (n := n) x y (by have := h1 x hx; omega) (by have := h1 x hx; omega) s) (by omega) hl; simp [go_of (n := n + 2) FT_272 rfl, F272, w]
set_option maxHeartbeats 8000000
theorem k57 {b : List Int} (hb : RD b) (p : Nat) (hp : p < 2 ^ 36) (n : Nat) (hn : 6 ≤ n) : ∃ (e : El) (q : Nat), e.as.length ≤ 3 ∧ q ≤ p + 40 ∧ ∀ s, go n 135 [pV] [rB b p] s = some ⟨elX e, [rB b q], []⟩ := by
 obtain ⟨n, rfl⟩ : ∃ k, n = k + 1 := ⟨n - 1, by omega⟩; obtain ⟨op, q0, hop, hq0, w0⟩ := k54 hb [21, 21, 21, 22, 23, 24, 25, 26, 26, 27, 28, 29, 29, 30, 31, 31, 32, 33, 34, 35, 36, 37] (by simp) p (by omega) n (by omega); simp only [lV, List.map_cons, List.map_nil] at w0; obtain ⟨u0, q1, _, _, hq1, w1⟩ := k06 hb 2 q0 (by omega) n (by omega); obtain ⟨bit, q2, hq2, w2⟩ := k22 hb (IntKind.wrap .i64 (2 + u0)) q1 (by omega) n (by omega); obtain ⟨⟨prk, prn, prp⟩, q3, hq3, w3⟩ := k22 hb 11 q2 (by omega) n (by omega)
 have hops : op = 21 ∨ op = 22 ∨ op = 23 ∨ op = 24 ∨ op = 25 ∨ op = 26 ∨ op = 27 ∨ op = 28 ∨ op = 29 ∨ op = 30 ∨ (31 ≤ op ∧ op ≤ 34) ∨ op = 35 ∨ op = 36 ∨ op = 37 := by
  simp at hop; omega
 have war := kb5 (n := n) (by omega)
 by_cases cn : prn < 0
 · obtain ⟨u1, q4, _, _, hq4, w4⟩ := k06 hb 9 q3 (by omega) n (by omega)
   rcases hops with rfl | rfl | rfl | rfl | rfl | rfl | rfl | rfl | rfl | rfl | ⟨ho1, ho2⟩ | rfl | rfl | rfl
   · refine ⟨⟨21, [bit]⟩, q4, by simp, by omega, fun s => ?_⟩
     simp [go_of FT_135 rfl, F135, w0, w1, w2, w3, w4, cn, List.replicate, argRows, Arg.row, w0]
   · obtain ⟨x1, r1, _, _, hr1, y1⟩ := k06 hb 3 q4 (by omega) n (by omega)
     obtain ⟨a1, r2, hr2, y2⟩ := k22 hb (IntKind.wrap .i64 (2 + x1)) r1 (by omega) n (by omega); refine ⟨⟨22, [a1]⟩, r2, by simp, by omega, fun s => ?_⟩
     simp [go_of FT_135 rfl, F135, w0, w1, w2, w3, w4, cn, List.replicate, argRows, Arg.row, y1, y2]
   · obtain ⟨x1, r1, _, hr1, y1⟩ := k54 hb [2, 3, 4, 7, 8] (by simp) q4 (by omega) n (by omega)
     simp only [lV, List.map_cons, List.map_nil] at y1; obtain ⟨a1, r2, hr2, y2⟩ := k22 hb x1 r1 (by omega) n (by omega); refine ⟨⟨23, [a1]⟩, r2, by simp, by omega, fun s => ?_⟩
     simp [go_of FT_135 rfl, F135, w0, w1, w2, w3, w4, cn, List.replicate, argRows, Arg.row, y1, y2]
   · obtain ⟨a1, r1, hr1, y1⟩ := k22 hb 5 q4 (by omega) n (by omega)
     refine ⟨⟨24, [bit, a1]⟩, r1, by simp, by omega, fun s => ?_⟩
     simp [go_of FT_135 rfl, F135, w0, w1, w2, w3, w4, cn, List.replicate, argRows, Arg.row, y1]
   · obtain ⟨a1, r1, hr1, y1⟩ := k22 hb 4 q4 (by omega) n (by omega)
     refine ⟨⟨25, [a1]⟩, r1, by simp, by omega, fun s => ?_⟩
     simp [go_of FT_135 rfl, F135, w0, w1, w2, w3, w4, cn, List.replicate, argRows, Arg.row, y1]
   · obtain ⟨a1, r1, hr1, y1⟩ := k22 hb 7 q4 (by omega) n (by omega)
     refine ⟨⟨26, [a1, ⟨prk, u1, prp⟩]⟩, r1, by simp, by omega, fun s => ?_⟩
     simp [go_of FT_135 rfl, F135, w0, w1, w2, w3, w4, cn, List.replicate, argRows, Arg.row, y1]
   · obtain ⟨a1, r1, hr1, y1⟩ := k22 hb 7 q4 (by omega) n (by omega)
     refine ⟨⟨27, [a1, ⟨prk, u1, prp⟩]⟩, r1, by simp, by omega, fun s => ?_⟩
     simp [go_of FT_135 rfl, F135, w0, w1, w2, w3, w4, cn, List.replicate, argRows, Arg.row, y1]
   · obtain ⟨a1, r1, hr1, y1⟩ := k22 hb 7 q4 (by omega) n (by omega)
     refine ⟨⟨28, [a1, ⟨prk, u1, prp⟩]⟩, r1, by simp, by omega, fun s => ?_⟩
     simp [go_of FT_135 rfl, F135, w0, w1, w2, w3, w4, cn, List.replicate, argRows, Arg.row, y1]
   · obtain ⟨a1, r1, hr1, y1⟩ := k22 hb 8 q4 (by omega) n (by omega)
     refine ⟨⟨29, [a1, ⟨prk, u1, prp⟩]⟩, r1, by simp, by omega, fun s => ?_⟩
     simp [go_of FT_135 rfl, F135, w0, w1, w2, w3, w4, cn, List.replicate, argRows, Arg.row, y1]
   · obtain ⟨x1, r1, _, _, hr1, y1⟩ := k06 hb 2 q4 (by omega) n (by omega)
     by_cases c : x1 = 0
     · obtain ⟨a1, r2, hr2, y2⟩ := k22 hb 9 r1 (by omega) n (by omega)
       obtain ⟨a2, r3, hr3, y3⟩ := k39 hb r2 (by omega) n (by omega); obtain ⟨a3, r4, hr4, y4⟩ := k39 hb r3 (by omega) n (by omega); refine ⟨⟨30, [a1, a2]⟩, r4, by simp, by omega, fun s => ?_⟩
       simp [go_of FT_135 rfl, F135, w0, w1, w2, w3, w4, cn, List.replicate, argRows, Arg.row, y1, y2, y3, y4, c, war, arity]
     · obtain ⟨a1, r2, hr2, y2⟩ := k22 hb 10 r1 (by omega) n (by omega)
       obtain ⟨a2, r3, hr3, y3⟩ := k53 hb r2 (by omega) n (by omega); obtain ⟨a3, r4, hr4, y4⟩ := k53 hb r3 (by omega) n (by omega); refine ⟨⟨30, [a1, a2]⟩, r4, by simp, by omega, fun s => ?_⟩
       simp [go_of FT_135 rfl, F135, w0, w1, w2, w3, w4, cn, List.replicate, argRows, Arg.row, y1, y2, y3, y4, c, war, arity]
   · obtain ⟨x1, r1, _, _, hr1, y1⟩ := k06 hb 2 q4 (by omega) n (by omega)
     have har : arity op = 3 := by unfold arity; rw [if_neg (by omega), if_pos (by omega)]
     have hk : ∀ m : Int, m ≤ 30 ∨ 35 ≤ m → (op = m) = False := fun m hm => eq_false fun e => by omega
     by_cases c : x1 = 0
     · obtain ⟨a1, r2, hr2, y2⟩ := k22 hb 9 r1 (by omega) n (by omega)
       obtain ⟨a2, r3, hr3, y3⟩ := k39 hb r2 (by omega) n (by omega); obtain ⟨a3, r4, hr4, y4⟩ := k39 hb r3 (by omega) n (by omega); refine ⟨⟨op, [a1, a2, a3]⟩, r4, by simp, by omega, fun s => ?_⟩
       simp [go_of FT_135 rfl, F135, w0, w1, w2, w3, w4, cn, List.replicate, argRows, Arg.row, y1, y2, y3, y4, c, war, har, hk]
     · obtain ⟨a1, r2, hr2, y2⟩ := k22 hb 10 r1 (by omega) n (by omega)
       obtain ⟨a2, r3, hr3, y3⟩ := k53 hb r2 (by omega) n (by omega); obtain ⟨a3, r4, hr4, y4⟩ := k53 hb r3 (by omega) n (by omega); refine ⟨⟨op, [a1, a2, a3]⟩, r4, by simp, by omega, fun s => ?_⟩
       simp [go_of FT_135 rfl, F135, w0, w1, w2, w3, w4, cn, List.replicate, argRows, Arg.row, y1, y2, y3, y4, c, war, har, hk]
   · obtain ⟨a1, r2, hr2, y2⟩ := k22 hb 9 q4 (by omega) n (by omega)
     obtain ⟨a2, r3, hr3, y3⟩ := k39 hb r2 (by omega) n (by omega); obtain ⟨a3, r4, hr4, y4⟩ := k39 hb r3 (by omega) n (by omega); refine ⟨⟨35, [a1, a2, a3]⟩, r4, by simp, by omega, fun s => ?_⟩
     simp [go_of FT_135 rfl, F135, w0, w1, w2, w3, w4, cn, List.replicate, argRows, Arg.row, y2, y3, y4, war, arity]
   · obtain ⟨a1, r2, hr2, y2⟩ := k22 hb 10 q4 (by omega) n (by omega)
     obtain ⟨a2, r3, hr3, y3⟩ := k39 hb r2 (by omega) n (by omega); refine ⟨⟨36, [a1, a2]⟩, r3, by simp, by omega, fun s => ?_⟩
     simp [go_of FT_135 rfl, F135, w0, w1, w2, w3, w4, cn, List.replicate, argRows, Arg.row, y2, y3]
   · obtain ⟨a1, r2, hr2, y2⟩ := k22 hb 9 q4 (by omega) n (by omega)
     obtain ⟨a2, r3, hr3, y3⟩ := k53 hb r2 (by omega) n (by omega); refine ⟨⟨37, [a1, a2]⟩, r3, by simp, by omega, fun s => ?_⟩
     simp [go_of FT_135 rfl, F135, w0, w1, w2, w3, w4, cn, List.replicate, argRows, Arg.row, y2, y3]
 · skip
   rcases hops with rfl | rfl | rfl | rfl | rfl | rfl | rfl | rfl | rfl | rfl | ⟨ho1, ho2⟩ | rfl | rfl | rfl
   · refine ⟨⟨21, [bit]⟩, q3, by simp, by omega, fun s => ?_⟩
     simp [go_of FT_135 rfl, F135, w0, w1, w2, w3, cn, List.replicate, argRows, Arg.row, w0]
   · obtain ⟨x1, r1, _, _, hr1, y1⟩ := k06 hb 3 q3 (by omega) n (by omega)
     obtain ⟨a1, r2, hr2, y2⟩ := k22 hb (IntKind.wrap .i64 (2 + x1)) r1 (by omega) n (by omega); refine ⟨⟨22, [a1]⟩, r2, by simp, by omega, fun s => ?_⟩
     simp [go_of FT_135 rfl, F135, w0, w1, w2, w3, cn, List.replicate, argRows, Arg.row, y1, y2]
   · obtain ⟨x1, r1, _, hr1, y1⟩ := k54 hb [2, 3, 4, 7, 8] (by simp) q3 (by omega) n (by omega)
     simp only [lV, List.map_cons, List.map_nil] at y1; obtain ⟨a1, r2, hr2, y2⟩ := k22 hb x1 r1 (by omega) n (by omega); refine ⟨⟨23, [a1]⟩, r2, by simp, by omega, fun s => ?_⟩
     simp [go_of FT_135 rfl, F135, w0, w1, w2, w3, cn, List.replicate, argRows, Arg.row, y1, y2]
   · obtain ⟨a1, r1, hr1, y1⟩ := k22 hb 5 q3 (by omega) n (by omega)
     refine ⟨⟨24, [bit, a1]⟩, r1, by simp, by omega, fun s => ?_⟩
     simp [go_of FT_135 rfl, F135, w0, w1, w2, w3, cn, List.replicate, argRows, Arg.row, y1]
   · obtain ⟨a1, r1, hr1, y1⟩ := k22 hb 4 q3 (by omega) n (by omega)
     refine ⟨⟨25, [a1]⟩, r1, by simp, by omega, fun s => ?_⟩
     simp [go_of FT_135 rfl, F135, w0, w1, w2, w3, cn, List.replicate, argRows, Arg.row, y1]
   · obtain ⟨a1, r1, hr1, y1⟩ := k22 hb 7 q3 (by omega) n (by omega)
     refine ⟨⟨26, [a1, ⟨prk, prn, prp⟩]⟩, r1, by simp, by omega, fun s => ?_⟩
     simp [go_of FT_135 rfl, F135, w0, w1, w2, w3, cn, List.replicate, argRows, Arg.row, y1]
   · obtain ⟨a1, r1, hr1, y1⟩ := k22 hb 7 q3 (by omega) n (by omega)
     refine ⟨⟨27, [a1, ⟨prk, prn, prp⟩]⟩, r1, by simp, by omega, fun s => ?_⟩
     simp [go_of FT_135 rfl, F135, w0, w1, w2, w3, cn, List.replicate, argRows, Arg.row, y1]
   · obtain ⟨a1, r1, hr1, y1⟩ := k22 hb 7 q3 (by omega) n (by omega)
     refine ⟨⟨28, [a1, ⟨prk, prn, prp⟩]⟩, r1, by simp, by omega, fun s => ?_⟩
     simp [go_of FT_135 rfl, F135, w0, w1, w2, w3, cn, List.replicate, argRows, Arg.row, y1]
   · obtain ⟨a1, r1, hr1, y1⟩ := k22 hb 8 q3 (by omega) n (by omega)
     refine ⟨⟨29, [a1, ⟨prk, prn, prp⟩]⟩, r1, by simp, by omega, fun s => ?_⟩
     simp [go_of FT_135 rfl, F135, w0, w1, w2, w3, cn, List.replicate, argRows, Arg.row, y1]
   · obtain ⟨x1, r1, _, _, hr1, y1⟩ := k06 hb 2 q3 (by omega) n (by omega)
     by_cases c : x1 = 0
     · obtain ⟨a1, r2, hr2, y2⟩ := k22 hb 9 r1 (by omega) n (by omega)
       obtain ⟨a2, r3, hr3, y3⟩ := k39 hb r2 (by omega) n (by omega); obtain ⟨a3, r4, hr4, y4⟩ := k39 hb r3 (by omega) n (by omega); refine ⟨⟨30, [a1, a2]⟩, r4, by simp, by omega, fun s => ?_⟩
       simp [go_of FT_135 rfl, F135, w0, w1, w2, w3, cn, List.replicate, argRows, Arg.row, y1, y2, y3, y4, c, war, arity]
     · obtain ⟨a1, r2, hr2, y2⟩ := k22 hb 10 r1 (by omega) n (by omega)
       obtain ⟨a2, r3, hr3, y3⟩ := k53 hb r2 (by omega) n (by omega); obtain ⟨a3, r4, hr4, y4⟩ := k53 hb r3 (by omega) n (by omega); refine ⟨⟨30, [a1, a2]⟩, r4, by simp, by omega, fun s => ?_⟩
       simp [go_of FT_135 rfl, F135, w0, w1, w2, w3, cn, List.replicate, argRows, Arg.row, y1, y2, y3, y4, c, war, arity]
   · obtain ⟨x1, r1, _, _, hr1, y1⟩ := k06 hb 2 q3 (by omega) n (by omega)
     have har : arity op = 3 := by unfold arity; rw [if_neg (by omega), if_pos (by omega)]
     have hk : ∀ m : Int, m ≤ 30 ∨ 35 ≤ m → (op = m) = False := fun m hm => eq_false fun e => by omega
     by_cases c : x1 = 0
     · obtain ⟨a1, r2, hr2, y2⟩ := k22 hb 9 r1 (by omega) n (by omega)
       obtain ⟨a2, r3, hr3, y3⟩ := k39 hb r2 (by omega) n (by omega); obtain ⟨a3, r4, hr4, y4⟩ := k39 hb r3 (by omega) n (by omega); refine ⟨⟨op, [a1, a2, a3]⟩, r4, by simp, by omega, fun s => ?_⟩
       simp [go_of FT_135 rfl, F135, w0, w1, w2, w3, cn, List.replicate, argRows, Arg.row, y1, y2, y3, y4, c, war, har, hk]
     · obtain ⟨a1, r2, hr2, y2⟩ := k22 hb 10 r1 (by omega) n (by omega)
       obtain ⟨a2, r3, hr3, y3⟩ := k53 hb r2 (by omega) n (by omega); obtain ⟨a3, r4, hr4, y4⟩ := k53 hb r3 (by omega) n (by omega); refine ⟨⟨op, [a1, a2, a3]⟩, r4, by simp, by omega, fun s => ?_⟩
       simp [go_of FT_135 rfl, F135, w0, w1, w2, w3, cn, List.replicate, argRows, Arg.row, y1, y2, y3, y4, c, war, har, hk]
   · obtain ⟨a1, r2, hr2, y2⟩ := k22 hb 9 q3 (by omega) n (by omega)
     obtain ⟨a2, r3, hr3, y3⟩ := k39 hb r2 (by omega) n (by omega); obtain ⟨a3, r4, hr4, y4⟩ := k39 hb r3 (by omega) n (by omega); refine ⟨⟨35, [a1, a2, a3]⟩, r4, by simp, by omega, fun s => ?_⟩
     simp [go_of FT_135 rfl, F135, w0, w1, w2, w3, cn, List.replicate, argRows, Arg.row, y2, y3, y4, war, arity]
   · obtain ⟨a1, r2, hr2, y2⟩ := k22 hb 10 q3 (by omega) n (by omega)
     obtain ⟨a2, r3, hr3, y3⟩ := k39 hb r2 (by omega) n (by omega); refine ⟨⟨36, [a1, a2]⟩, r3, by simp, by omega, fun s => ?_⟩
     simp [go_of FT_135 rfl, F135, w0, w1, w2, w3, cn, List.replicate, argRows, Arg.row, y2, y3]
   · obtain ⟨a1, r2, hr2, y2⟩ := k22 hb 9 q3 (by omega) n (by omega)
     obtain ⟨a2, r3, hr3, y3⟩ := k53 hb r2 (by omega) n (by omega); refine ⟨⟨37, [a1, a2]⟩, r3, by simp, by omega, fun s => ?_⟩
     simp [go_of FT_135 rfl, F135, w0, w1, w2, w3, cn, List.replicate, argRows, Arg.row, y2, y3]
end Go.VM
