/- The document's list of an arm behind its net. Conditions: none. -/
import Derived.Test.YtcjdokngpmnkjaaGreatDoorVY18

namespace Go.VM
set_option linter.unusedSimpArgs false
set_option linter.unusedVariables false
set_option maxHeartbeats 16000000
def F302_K1 : C := (.seq (.reg [om 38 5, oo 39 (.bin .eql .one (.t 38) (xi 1)), om 37 39]) (.cond (.t 37) .skip (.seq (.reg [om 41 6, oo 42 (.bin .eql .one (.t 41) (xi 0)), om 40 42]) (.cond (.t 40) (.reg [om 43 3, oo 44 (.bld [(wi 0), (wi 0), .nil] [(0, 1, (xi 7))]), oo 45 (.bsl 3 1 [(.s (.int .i64 0)), (.s (.int .i64 0)), (.l 0 [])] [(0, (.t 44))]), oo 46 (.app 3 40 [(.s (.int .i64 0)), (.s (.int .i64 0)), (.l 0 [])] (.t 43) (.t 45)), om 3 46]) (.seq (.reg [om 48 6, om 49 5, oo 50 (.bin .sub .one (.t 49) (xi 1)), oo 51 (.bin .eql .one (.t 48) (.t 50)), om 47 51]) (.cond (.t 47) (.reg [om 52 3, oo 53 (.bld [(wi 0), (wi 0), .nil] [(0, 1, (xi 9))]), oo 54 (.bsl 3 1 [(.s (.int .i64 0)), (.s (.int .i64 0)), (.l 0 [])] [(0, (.t 53))]), oo 55 (.app 3 40 [(.s (.int .i64 0)), (.s (.int .i64 0)), (.l 0 [])] (.t 52) (.t 54)), om 3 55]) (.reg [om 33 3, oo 34 (.bld [(wi 0), (wi 0), .nil] [(0, 1, (xi 8))]), oo 35 (.bsl 3 1 [(.s (.int .i64 0)), (.s (.int .i64 0)), (.l 0 [])] [(0, (.t 34))]), oo 36 (.app 3 40 [(.s (.int .i64 0)), (.s (.int .i64 0)), (.l 0 [])] (.t 33) (.t 35)), om 3 36])))))))
def F302_K2 : C := (.seq (.reg [om 56 3, oo 57 (.fa 5 (.t 1)), oo 58 (.ld false 1 (.t 57)), om 59 6, oo 60 (.ia 6 (.t 58) (.t 59)), oo 61 (.fa 0 (.t 60)), oo 62 (.ld true 4 (.t 61)), oo 63 (.call (xf 333) [(.t 62)]), oo 64 (.app 3 40 [(.s (.int .i64 0)), (.s (.int .i64 0)), (.l 0 [])] (.t 56) (.t 63)), om 3 64]) (.reg [om 65 3, oo 66 (.fa 5 (.t 1)), oo 67 (.ld false 1 (.t 66)), om 68 6, oo 69 (.ia 6 (.t 67) (.t 68)), oo 70 (.ld true 6 (.t 69)), oo 71 (.call (xf 302) [(.t 70)]), oo 72 (.app 3 40 [(.s (.int .i64 0)), (.s (.int .i64 0)), (.l 0 [])] (.t 65) (.t 71)), om 3 72]))
theorem F302_B1_eq : F302_B1 = (.seq (.seq (.reg [om 28 6, om 29 5, oo 30 (.bin .lss .one (.t 28) (.t 29))]) (.cond (.t 30) .skip (.exit 2))) (.seq (.block 3 (.seq (.block 4 F302_K1) F302_K2)) (.reg [om 31 6, oo 32 (.bin .add .one (.t 31) (xi 1)), om 6 32]))) := rfl
def TailAt (st : St) (A0 : Box) (L : List Ins) : Prop := st.τ 1 = .w (.ptr 0 0) ∧ st.H 0 = A0 ∧ 0 < st.g ∧ OwnE st 3 L
theorem sep302 {n : Nat} (i N : Nat) (L : List Ins) (A0 : Box) (st : St) (h6 : st.τ 6 = iV i) (h5 : st.τ 5 = iV N) (hi : i < N) (hl : N < 2 ^ 40) (h : TailAt st A0 L) (hL : L.length < 2 ^ 29) :
 ∃ st', execC (go n) mode GT false 74 n F302_K1 st = some (.normal, st') ∧ TailAt st' A0 (L ++ sepI N i) ∧ st'.τ 5 = iV N ∧ st'.τ 6 = iV i := by
 obtain ⟨τ, H, g, s⟩ := st; obtain ⟨h1, hA, hg, b, ci, hb0, hbg, h3, hB⟩ := h; simp only at h1 hA h6 h5 hg hbg h3 hB; have hsub : IntKind.i64.wrap ((N : Int) - 1) = (N : Int) - 1 := wrap_id (by omega) (by omega); have rmL : room (L.length + 1) 40 = true := room_of (by omega) (by omega); have tkL := take_insRows L; have zX := far hg; have bX := far hbg; have e0 : (0 = b) = False := eq_false (by omega); have e1 : (b = 0) = False := eq_false (by omega)
 by_cases hN : N = 1
 · have hN1 : ((N : Int) = 1) = True := eq_true (by omega)
   have es : sepI N i = [] := by unfold sepI; rw [if_pos hN]
   rw [es, List.append_nil]; simp [F302_K1, h5, hN1, hN]; exact ⟨⟨by simp [h1], hA, by simp only; omega, OwnE.mk (by simp only [upd_at]; simpa using h3) hb0 (by simp only; omega) rfl hB⟩, by simp [h6]⟩
 · have hN1 : ((N : Int) = 1) = False := eq_false (by omega)
   by_cases hi0 : i = 0
   · subst hi0
     have es : sepI N 0 = [Ins.bare 7] := by unfold sepI; rw [if_neg hN, if_pos rfl]
     rw [es]; simp [F302_K1, h1, h3, h5, h6, hA, hB, hN1, hN, hsub, rmL, tkL, insRows_length, e0, e1, bX, zX]; exact ⟨by simp [h1], by simp [zX, hA, e0, e1], by simp only; omega, OwnE.mk rfl (by omega) (by simp only; omega) (by simp) (by simp [insRows_append, insRows_one, Ins.row, ar0, bX, zX, e0, e1])⟩
   · have hi0i : ((i : Int) = 0) = False := eq_false (by omega)
     by_cases hil : i + 1 = N
     · have hili : ((i : Int) = (N : Int) - 1) = True := eq_true (by omega)
       have es : sepI N i = [Ins.bare 9] := by unfold sepI; rw [if_neg hN, if_neg hi0, if_pos hil]
       rw [es]; simp [F302_K1, h1, h3, h5, h6, hA, hB, hN1, hN, hi0, hi0i, hili, hsub, rmL, tkL, insRows_length, e0, e1, bX, zX]; exact ⟨by simp [h1], by simp [zX, hA, e0, e1], by simp only; omega, OwnE.mk rfl (by omega) (by simp only; omega) (by simp) (by simp [insRows_append, insRows_one, Ins.row, ar0, bX, zX, e0, e1])⟩
     · have hili : ((i : Int) = (N : Int) - 1) = False := eq_false (by omega)
       have es : sepI N i = [Ins.bare 8] := by unfold sepI; rw [if_neg hN, if_neg hi0, if_neg hil]
       rw [es]; simp [F302_K1, h1, h3, h5, h6, hA, hB, hN1, hN, hi0, hi0i, hili, hsub, rmL, tkL, insRows_length, e0, e1, bX, zX]; exact ⟨by simp [h1], by simp [zX, hA, e0, e1], by simp only; omega, OwnE.mk rfl (by omega) (by simp only; omega) (by simp) (by simp [insRows_append, insRows_one, Ins.row, ar0, bX, zX, e0, e1])⟩
theorem loop302_0 {n : Nat} (l : List El) (c0 c1 c2 c3 c5 : W) (ha : ∀ e ∈ l, e.as.length < 2 ^ 30) (hn : l.length < n) (hl : l.length < 2 ^ 29) (st : St) (h4 : st.τ 4 = iV 0) (h : TailAt st (.cells [c0, c1, c2, c3, csW l, c5]) []) :
 ∃ e st', execC (go n) mode GT false 74 n F302_L0 st = some (e, st') ∧ e ≠ .normal ∧ (e = .exit 0 ∧ TailAt st' (.cells [c0, c1, c2, c3, csW l, c5]) (coilsI l)) := by
 rw [F302_L0, execC_loop]; refine iter_rule (fun m st => ∃ i, i + m = l.length ∧ st.τ 4 = iV i ∧ TailAt st (.cells [c0, c1, c2, c3, csW l, c5]) (coilsI (l.take i))) ?_ n l.length st hn
  ⟨0, by omega, by simpa using h4, by simpa [coilsI] using h⟩
 clear h4 h; rintro m ⟨τ, H, g, s⟩ ⟨i, hm, h4, h1, hA, hg, b, ci, hb0, hbg, h3, hB⟩; simp only at h1 h4 hA hg hbg h3 hB; cases m with
 | zero =>
  have : i = l.length := by omega
  subst this; rw [List.take_length] at h3 hB; refine ⟨.exit 0, ?_⟩
  simp [F302_B0, h1, h4, hA]; exact ⟨by simp [h1], hA, by simp only; omega, OwnE.mk (by simp only [upd_at]; simpa using h3) hb0 (by simp only; omega) rfl hB⟩
 | succ m =>
  have hlt : i < l.length := by omega
  have hlt' := ltT hlt; have hgt := List.getElem?_eq_getElem hlt; have hw := wrap_succ (i := i) (by omega); have w := run_l14Copy (n := n - 1) l[i] (ha _ (List.getElem_mem hlt)); rw [show n - 1 + 1 = n by omega] at w; have hstep := coilsI_take hgt; obtain ⟨xo, xa, hx⟩ : ∃ xo xa, l[i] = (⟨xo, xa⟩ : El) := ⟨_, _, rfl⟩; rw [hx] at hgt w hstep; have hrow := elRows_get hgt; generalize hS : coilsI (l.take i) = S at h3 hB hstep; have hSl : S.length = i := by rw [← hS, coilsI_length, List.length_take]; omega
  have rm : room (S.length + 1) 40 = true := room_of (by omega) (by omega); have tkS := take_insRows S; have fX := far hbg; have zX := far hg; have e0 : (0 = b) = False := eq_false (by omega); have e1 : (b = 0) = False := eq_false (by omega); refine ⟨.normal, ?_⟩
  simp [-getElem?_pos, F302_B0, h1, h4, hA, h3, hB, hlt, hlt', hrow, w, hw, rm, tkS, insRows_length, fX, zX, e0, e1]; exact ⟨m, by omega, i + 1, by omega, by simp, by simp [h1], by simp [zX, hA, e0, e1], by simp only; omega, OwnE.mk rfl (by omega) (by simp only; omega) (by rw [hstep]; simp) (by simp [fX, zX, e0, e1, hstep, insRows_append, insRows_one, Ins.row])⟩
theorem loop302_1 {n : Nat} (l : List Arm) (L0 : List Ins) (c0 c1 c2 c3 c4 : W) (hc : ∀ x ∈ l, ∀ s, go n 302 [armX x] [] s = some ⟨.w (isW x.tail), [], []⟩)
 (hk : ∀ x ∈ l, ∀ s, go n 333 [netX x.net] [] s = some ⟨.w (isW (netsTaken 2 x.net.parts)), [], []⟩)
 (hb : L0.length + (armsTail l.length 0 l).length < 2 ^ 29) (hn : l.length < n) (hl : l.length < 2 ^ 40) (st : St) (h5 : st.τ 5 = iV l.length) (h6 : st.τ 6 = iV 0) (h : TailAt st (.cells [c0, c1, c2, c3, c4, ksW l]) L0) :
 ∃ e st', execC (go n) mode GT false 74 n F302_L1 st = some (e, st') ∧ e ≠ .normal ∧ (e = .exit 2 ∧ TailAt st' (.cells [c0, c1, c2, c3, c4, ksW l]) (L0 ++ armsTail l.length 0 l)) := by
 rw [F302_L1, execC_loop]; refine iter_rule (fun m st => ∃ i, i + m = l.length ∧ st.τ 5 = iV l.length ∧ st.τ 6 = iV i ∧ TailAt st (.cells [c0, c1, c2, c3, c4, ksW l]) (L0 ++ armsTail l.length 0 (l.take i))) ?_ n l.length st hn
  ⟨0, by omega, h5, by simpa using h6, by simpa [armsTail] using h⟩
 clear h5 h6 h; rintro m ⟨τ, H, g, s⟩ ⟨i, hm, h5, h6, h⟩; simp only at h5 h6; cases m with
 | zero =>
  have : i = l.length := by omega
  subst this; rw [List.take_length] at h; obtain ⟨h1, hA, hg, hO⟩ := h; simp only at h1 hA hg; refine ⟨.exit 2, ?_⟩
  simp [F302_B1_eq, h5, h6]; exact ⟨by simp [h1], hA, by simp only; omega, hO.keep (by simp) (fun _ _ => rfl) (by simp only; omega)⟩
 | succ m =>
  have hlt : i < l.length := by omega
  have hlt' := ltT hlt; have hgt := List.getElem?_eq_getElem hlt; have hmem := List.getElem_mem hlt; have hw := wrap_succ (i := i) (by omega); obtain ⟨xk, xo, xa, xns, xcs, xks, hx⟩ : ∃ xk xo xa xns xcs xks, l[i] = .mk (.mk xk xo xa xns) xcs xks := by
   cases hq : l[i] with | mk nn cs ks => cases nn; exact ⟨_, _, _, _, _, _, rfl⟩
  have w := hc _ hmem; have wp := hk _ hmem; rw [hx] at hgt w wp; have hstep := armsTail_take (N := l.length) hgt; have hle := armsTail_le l.length l (i + 1); rw [hstep, List.length_append, List.length_append, List.length_append] at hle; have hrow := armRows_get hgt; rw [show Arm.net (.mk (.mk xk xo xa xns) xcs xks) = .mk xk xo xa xns from rfl] at wp hstep hle; generalize netsTaken 2 (Net.parts (.mk xk xo xa xns)) = Q at wp hstep hle; generalize Arm.tail (.mk (.mk xk xo xa xns) xcs xks) = T at w hstep hle; have hS : ∀ z, z = L0 ++ armsTail l.length 0 (l.take i) → z.length + ((sepI l.length i).length + Q.length + T.length) < 2 ^ 29 := fun z hz => by rw [hz, List.length_append]; omega
  generalize hSS : L0 ++ armsTail l.length 0 (l.take i) = S at h hS; have hS := hS S rfl
  suffices hsuf : ∃ st', execC (go n) mode GT false 74 n F302_B1 ⟨τ, H, g, s⟩ = some (.normal, st') ∧ TailAt st' (.cells [c0, c1, c2, c3, c4, ksW l]) (S ++ sepI l.length i ++ Q ++ T) ∧ st'.τ 5 = iV l.length ∧ st'.τ 6 = iV ((i + 1 : Nat) : Int) by
   obtain ⟨st', a0, a1, a2, a3⟩ := hsuf; rw [a0]; refine ⟨.normal, st', rfl, fun _ => ⟨m, by omega, i + 1, by omega, a2, a3, ?_⟩, fun h => absurd rfl h⟩
   rw [hstep, ← List.append_assoc, ← List.append_assoc, ← List.append_assoc, hSS]; exact a1
  simp [-getElem?_pos, F302_B1_eq, h5, h6, hlt, hlt']; generalize hst : St.mk _ _ _ _ = st1; obtain ⟨⟨τ2, H2, g2, s2⟩, hx2, ⟨k1, kA, kg, b, ci, hb0, hbg, h3, hB⟩, k5, k6⟩ := sep302 (n := n) i l.length S (.cells [c0, c1, c2, c3, c4, ksW l]) st1 (by simp [← hst, h6]) (by simp [← hst, h5]) hlt hl (by
   obtain ⟨h1, hA, hg, hO⟩ := h; simp only at h1 hA hg; subst hst; exact ⟨by simp [h1], hA, by simp only; omega, hO.keep (by simp) (fun _ _ => rfl) (by simp only; omega)⟩) (by omega)
  simp only at k1 kA kg k5 k6 hbg h3 hB; clear hst h; generalize hZZ : S ++ sepI l.length i = Z at h3 hB ⊢; have hZ : Z.length = S.length + (sepI l.length i).length := by rw [← hZZ, List.length_append]
  have hZr : insRows Z = insRows S ++ insRows (sepI l.length i) := by rw [← hZZ, insRows_append]
  have rm1 : room (Z.length + Q.length) 40 = true := room_of (by omega) (by omega); have rm2 : room (Z.length + Q.length + T.length) 40 = true := room_of (by omega) (by omega); have tkZ := take_insRows Z; have tkQ := take_insRows Q; have tkT := take_insRows T; have uZQ : List.take (Z.length + Q.length) (insRows Z ++ insRows Q) = insRows Z ++ insRows Q := List.take_of_length_le (by simp [insRows_length]); have alQ := eq_true (insRow_all Q); have alT := eq_true (insRow_all T); have fX := far hbg; have zX := far kg; have e0 : (0 = b) = False := eq_false (by omega); have e1 : (b = 0) = False := eq_false (by omega)
  simp [-getElem?_pos, F302_K2, hx2, k1, kA, k5, k6, h3, hB, hrow, w, wp, hw, rm1, rm2, tkZ, tkQ, tkT, uZQ, alQ, alT, insRows_length, fX, zX, e0, e1]; exact ⟨by simp [k1], by simp [zX, kA, e0, e1], by simp only; omega, OwnE.mk rfl (by omega) (by simp only; omega) (by simp; try omega) (by simp [fX, zX, e0, e1, insRows_append, uZQ]; simp [hZr])⟩
theorem run_l14Tail : ∀ (m : Nat) (a : Arm), a.wt ≤ m → m < 2 ^ 26 → a.wrong false = 0 → ∀ (n : Nat), 4 * m + 30 ≤ n → ∀ s, go n 302 [armX a] [] s = some ⟨.w (isW a.tail), [], []⟩
 | 0, a, h, hm, hr, n, hn, s => by have := a.wt_pos; omega
 | m + 1, .mk (.mk k op ars nks) cs ks, h, hm, hr, n, hn, s => by
  obtain ⟨-, -, -, -, hk⟩ := arm_right hr; have hk' := (armsWrong_all _).1 hk; obtain ⟨n, rfl⟩ : ∃ k, n = k + 3 := ⟨n - 3, by omega⟩; have hnp := (Net.mk k op ars nks).wt_pos; have hlt := len_tail (.mk (.mk k op ars nks) cs ks); have hsl := armSize_le (.mk (.mk k op ars nks) cs ks); simp only [Arm.tail, List.length_append, coilsI_length] at hlt; simp only [Arm.wt] at h hsl; have hlen := armsWt_len ks; have hcl := elsWt_len cs; have hc : ∀ x ∈ ks, ∀ s, go (n + 2) 302 [armX x] [] s = some ⟨.w (isW x.tail), [], []⟩ := fun x hx s => run_l14Tail m x (by have := armsWt_mem hx; omega) (by omega) (hk' x hx) (n + 2) (by omega) s
  have hxw : ∀ x ∈ ks, x.net.wt ≤ m := fun x hx => by
   have := armsWt_mem hx; obtain ⟨xn, xc, xk⟩ := x; simp only [Arm.wt, Arm.net] at this ⊢; omega
  have hp : ∀ x ∈ ks, ∀ s, go (n + 2) 333 [netX x.net] [] s = some ⟨.w (isW (netsTaken 2 x.net.parts)), [], []⟩ := fun x hx s =>
   run_l14Behind x.net (by obtain ⟨xn, xc, xk⟩ := x; exact (arm_right (hk' _ hx)).2.1) m (hxw x hx) (by omega) (n + 2) (by omega) s
  have hca : ∀ e ∈ cs, e.as.length < 2 ^ 30 := fun e he => by
   have := elsWt_mem he; simp only [El.wt] at this; omega
  simp only [Arm.tail]; simp [go_of (n := n + 2) FT_302 rfl, F302]; generalize hst : St.mk _ _ _ _ = st; obtain ⟨e, ⟨τ', H', g', s'⟩, hx, -, rfl, hpost⟩ := loop302_0 (n := n + 2) cs (iW k) (iW op) (asW ars) (nsW nks) (ksW ks) hca (by omega) (by omega) st (by simp [← hst]) (by subst hst; exact ⟨by simp, by simp, by simp, OwnE.mk rfl (by omega) (by simp only; omega) rfl (by simp [insRows])⟩); obtain ⟨h1, hA, hg, hO⟩ := hpost; simp only at h1 hA hg; clear hst; simp [hx, h1, hA]; generalize hst : St.mk _ _ _ _ = st
  obtain ⟨e, ⟨τ2, H2, g2, s2⟩, hx2, -, rfl, hpost⟩ := loop302_1 (n := n + 2) ks (coilsI cs) (iW k) (iW op) (asW ars) (nsW nks) (csW cs) hc hp (by rw [coilsI_length]; omega) (by omega) (by omega) st (by simp [← hst]) (by simp [← hst]) (by subst hst; exact ⟨by simp [h1], hA, by simp only; omega, hO.keep (by simp) (fun _ _ => rfl) (by simp only; omega)⟩); obtain ⟨j1, jA, jg, b, c, hb0, hbg, h3, hB⟩ := hpost; simp only at j1 jA jg hbg h3 hB; clear hst; generalize coilsI cs ++ armsTail ks.length 0 ks = L at h3 hB; have tkL := take_insRows L; simp [hx2, h3, hB, tkL, insRows_length]
theorem loop274_0 {n : Nat} (l : List Arm) (hc : ∀ x ∈ l, ∀ s, go n 302 [armX x] [] s = some ⟨.w (isW x.tail), [], []⟩) (hb : ∀ x ∈ l, ∀ s, ∃ c, go n 301 [netX x.net] [] s = some (insOwn x.net.begins c))
 (hlen : (plainOf l).length < 2 ^ 29) (hn : l.length < n) (hl : l.length < 2 ^ 40) (st : St) (h3 : st.τ 3 = .w (ksW l)) (h5 : st.τ 5 = iV 0) (h : OwnE st 4 []) :
 ∃ e st', execC (go n) mode GT false 35 n F274_L0 st = some (e, st') ∧ e ≠ .normal ∧ (e = .exit 0 ∧ OwnE st' 4 (plainOf l)) := by
 rw [F274_L0, execC_loop]; refine iter_rule (fun m st => ∃ i, i + m = l.length ∧ st.τ 3 = .w (ksW l) ∧ st.τ 5 = iV i ∧ OwnE st 4 (plainOf (l.take i))) ?_ n l.length st hn
  ⟨0, by omega, h3, by simpa using h5, by simpa [plainOf] using h⟩
 clear h3 h5 h; rintro m ⟨τ, H, g, s⟩ ⟨i, hm, h3, h5, b, ci, hb0, hbg, h4, hB⟩; simp only at h3 h5 hbg h4 hB; cases m with
 | zero =>
  have : i = l.length := by omega
  subst this; rw [List.take_length] at h4 hB; refine ⟨.exit 0, ?_⟩
  simp [F274_B0, h3, h5]; exact OwnE.mk (by simp only [upd_at]; simpa using h4) hb0 (by simp only; omega) rfl hB
 | succ m =>
  have hlt : i < l.length := by omega
  have hlt' := ltT hlt; have hgt := List.getElem?_eq_getElem hlt; have hmem := List.getElem_mem hlt; have hw := wrap_succ (i := i) (by omega); obtain ⟨xk, xo, xa, xns, xcs, xks, hx⟩ : ∃ xk xo xa xns xcs xks, l[i] = .mk (.mk xk xo xa xns) xcs xks := by
   cases hq : l[i] with | mk nn cs ks => cases nn; exact ⟨_, _, _, _, _, _, rfl⟩
  have w := hc _ hmem; have wb := hb _ hmem; rw [hx] at hgt w wb; have hstep := plainOf_take hgt; have hle := plainOf_le l (i + 1); rw [hstep, List.length_append, List.length_append, List.length_append] at hle; have hrow := armRows_get hgt; rw [show Arm.net (.mk (.mk xk xo xa xns) xcs xks) = .mk xk xo xa xns from rfl] at wb hstep hle; generalize Net.begins (.mk xk xo xa xns) = N at wb hstep hle; generalize Arm.tail (.mk (.mk xk xo xa xns) xcs xks) = T at w hstep hle; generalize plainOf (l.take i) = S at h4 hB hstep hle; simp only [List.length_singleton] at hle; have zX := far (show 0 < g by omega); have rm1 : room (S.length + N.length) 40 = true := room_of (by omega) (by omega)
  have rm2 : room (S.length + N.length + T.length) 40 = true := room_of (by omega) (by omega); have rm3 : room (S.length + N.length + T.length + 1) 40 = true := room_of (by omega) (by omega); have tkS := take_insRows S; have tkN := take_insRows N; have tkT := take_insRows T; have uSN : List.take (S.length + N.length) (insRows S ++ insRows N) = insRows S ++ insRows N := List.take_of_length_le (by simp [insRows_length]); have uSNT : List.take (S.length + N.length + T.length) (insRows S ++ (insRows N ++ insRows T)) = insRows S ++ (insRows N ++ insRows T) := List.take_of_length_le (by simp [insRows_length]; omega); have alN := eq_true (insRow_all N); have alT := eq_true (insRow_all T)
  have q3 : (S.length + N.length + T.length ≤ S.length + (N.length + T.length)) = True := eq_true (by omega); have bX := far hbg; have e1 : (0 = b) = False := eq_false (by omega); have e3 : (b = 0) = False := eq_false (by omega); have wb' : ∃ f : Sup → Option Nat, ∀ s, go n 301 [netX (.mk xk xo xa xns)] [] s = some (insOwn N (f s)) := ⟨fun s => (wb s).choose, fun s => (wb s).choose_spec⟩; obtain ⟨f, wb'⟩ := wb'; refine ⟨.normal, ?_⟩
  simp [-getElem?_pos, F274_B0, h3, h4, h5, hB, hlt, hlt', hrow, hw, w, wb', rm1, rm2, rm3, tkS, tkN, tkT, alN, alT, insRows_length, insRows_append, uSN, uSNT, q3, e1, e3, bX, zX]; exact ⟨m, by omega, i + 1, by omega, by simp, OwnE.mk rfl (by omega) (by simp only; omega) (by rw [hstep]; simp; try omega) (by simp [hstep, insRows_append, insRows_one, Ins.row, ar0, uSN, uSNT, e1, e3, bX, zX])⟩
theorem run_WayPlainS (l : List Arm) (hm : armsWt l < 2 ^ 25) (n : Nat) (hn : 5 * armsWt l + 400 ≤ n) (s : Sup) : go n 274 [.w (ksW l)] [] s = some ⟨.w (isW (plainOf (normOf l))), [], []⟩ := by
 obtain ⟨n, rfl⟩ : ∃ k, n = k + 2 := ⟨n - 2, by omega⟩; have w0 := run_normMakeS l hm (n + 1) (by omega); have hright := normOf_right l; have hwt := normOf_wt l; generalize normOf l = y at w0 hright hwt ⊢; have hlen := armsWt_len y; have hlp := len_plainOf y hright; have hsz := armsSize_le y; have hc : ∀ x ∈ y, ∀ s, go (n + 1) 302 [armX x] [] s = some ⟨.w (isW x.tail), [], []⟩ := fun x hx s => run_l14Tail (armsWt y) x (armsWt_mem hx) (by omega) (arm_weak (hright x hx)) (n + 1) (by omega) s
 have hb : ∀ x ∈ y, ∀ s, ∃ c, go (n + 1) 301 [netX x.net] [] s = some (insOwn x.net.begins c) := fun x hx s => by
  have h1 := armsWt_mem hx; have h2 := rung_net (hright x hx); obtain ⟨xn, xc, xk⟩ := x; simp only [Arm.wt] at h1; exact ⟨_, run_l14Net (armsWt y) xn (by omega) (by omega) h2 (n + 1) (by omega) s⟩
 simp [go_of (n := n + 1) FT_274 rfl, F274, w0]; generalize hst : St.mk _ _ _ _ = st; obtain ⟨e, ⟨τ', H', g', s'⟩, hx, -, rfl, b, c, hb0, hbg, h3, hB⟩ := loop274_0 (n := n + 1) y hc hb (by omega) (by omega) (by omega) st (by simp [← hst]) (by simp [← hst]) (by subst hst; exact OwnE.mk rfl (by omega) (by simp only; omega) rfl (by simp [insRows])); simp only at hbg h3 hB; clear hst; generalize plainOf y = L at h3 hB; have tkL := take_insRows L; simp [hx, h3, hB, tkL, insRows_length]
theorem run_WayDownS (l : List Arm) (hm : armsWt l < 2 ^ 25) (n : Nat) (hn : 6 * armsWt l + 500 ≤ n) (s : Sup) : go n 278 [.w (ksW l)] [] s = some ⟨.tup [(false, [isW (downList l)]), (false, [iW (downCode l)])], [], []⟩ := by
 obtain ⟨n, rfl⟩ : ∃ k, n = k + 2 := ⟨n - 2, by omega⟩; obtain ⟨r, hr⟩ := Classical.skolem.1 fun s => run_TreeCheckS l (by omega) (n + 1) (by omega) s
 have w1 := fun s => (hr s).2
 unfold downList downCode
 by_cases h : treeCode l = 0
 · have w2 := run_WayPlainS l hm (n + 1) (by omega)
   have w3 := run_WayBitsS l hm (n + 1) (by omega); have w4 := run_WayForksS l hm (n + 1) (by omega); rw [if_pos h]; rw [h] at w1; generalize normOf l = y at w2 w3 w4
   by_cases hb : 16 < bitsOf y
   · have hb' : ((16 : Int) < (bitsOf y : Int)) = True := eq_true (by omega)
     simp [go_of (n := n + 1) FT_278 rfl, F278, w1, w2, w3, w4, hb, hb', insRows]
   · have hb' : ((16 : Int) < (bitsOf y : Int)) = False := eq_false (by omega)
     by_cases hf : 8 < forksOf y
     · have hf' : ((8 : Int) < (forksOf y : Int)) = True := eq_true (by omega)
       simp [go_of (n := n + 1) FT_278 rfl, F278, w1, w2, w3, w4, hb, hb', hf, hf', insRows]
     · have hf' : ((8 : Int) < (forksOf y : Int)) = False := eq_false (by omega)
       simp [go_of (n := n + 1) FT_278 rfl, F278, w1, w2, w3, w4, hb, hb', hf, hf']
 · have hcp : (0 : Int) < treeCode l := by have := treeCode_nn l; omega
   have hcpi := eq_true hcp; rw [if_neg h]; generalize treeCode l = c at w1 hcpi; simp [go_of (n := n + 1) FT_278 rfl, F278, w1, hcpi, insRows]
end Go.VM
