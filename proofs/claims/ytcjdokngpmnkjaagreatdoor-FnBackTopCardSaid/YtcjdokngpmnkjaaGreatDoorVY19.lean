/- The document's lists out of ladders: nets. Conditions: none. -/
import Derived.Test.YtcjdokngpmnkjaaGreatDoorVY24

namespace Go.VM
set_option linter.unusedSimpArgs false
set_option linter.unusedVariables false
set_option maxHeartbeats 16000000
theorem kj8 {n : Nat} (e : El) (hl : e.as.length < 2 ^ 30) (s : Sup) : go (n + 1) 331 [elX e] [] s = some ⟨elX e, [], []⟩ := by
 obtain ⟨op, as⟩ := e; have rm : room as.length 24 = true := k08 (by simp only at hl; omega) (by omega); have al : (∀ x ∈ argRows as, x.length = 3) = True := eq_true (fun x hx => by simp only [argRows, List.mem_map] at hx; obtain ⟨a, -, rfl⟩ := hx; rfl); have tk : List.take as.length (argRows as) = argRows as := List.take_of_length_le (by simp [argRows]); have tk' : List.take as.length (List.map Arg.row as) = List.map Arg.row as := tk; simp [go_of (n := n) FT_331 rfl, F331, rm, tk', argRows, Arg.row]
theorem loop301 {n : Nat} (k : Int) (A : List Ins) (c0 : Option Nat) (op : Int) (ars : List Arg) (x0 : Net) (l : List Net) (hk : k = 2 ∨ k = 3) (hc : ∀ x ∈ l, ∀ s, go n 332 [iV k, netX x] [] s = some (insOwn (x.taken k) (if x.kind = 1 then some 1 else none)))
 (hb : A.length + (netsTaken k l).length < 2 ^ 29) (hn : l.length < n) (hl : l.length < 2 ^ 40) (st : St) (h1 : st.τ 1 = .w (.ptr 0 0)) (h4 : st.τ 4 = iV 1) (hA : st.H 0 = .cells [iW k, iW op, asW ars, nsW (x0 :: l)]) (h3 : OwnI st.τ st.H st.g 3 A c0) :
 ∃ e st', execC (go n) mode GT false 47 n F301_L0 st = some (e, st') ∧ e ≠ .normal ∧ (e = .exit 1 ∧ OwnI st'.τ st'.H st'.g 3 (A ++ netsTaken k l) (if l.length = 0 then c0 else none)) := by
 rw [F301_L0, k00]; refine k03 (fun m st => ∃ i, i + m = l.length ∧ st.τ 1 = .w (.ptr 0 0) ∧ st.τ 4 = iV ((i + 1 : Nat) : Int) ∧ st.H 0 = .cells [iW k, iW op, asW ars, nsW (x0 :: l)] ∧ OwnI st.τ st.H st.g 3 (A ++ netsTaken k (l.take i)) (if i = 0 then c0 else none)) ?_ n l.length st hn
  ⟨0, by omega, h1, by simpa using h4, hA, by simpa [netsTaken] using h3⟩
 clear h1 h4 hA h3; rintro m ⟨τ, H, g, s⟩ ⟨i, hm, h1, h4, hA, b, hb0, hbg, h3, hB⟩; simp only at h1 h4 hA hbg h3 hB; have hll : (netRows (x0 :: l)).length = l.length + 1 := by simp [k09]
 cases m with
 | zero =>
  have : i = l.length := by omega
  subst this; rw [List.take_length] at h3 hB; refine ⟨.exit 1, ?_⟩
  simp [F301_B0, h1, h4, hA, hll]; exact ⟨b, hb0, by omega, by simp [h3], hB⟩
 | succ m =>
  have hlt : i < l.length := by omega
  have hlt' : (((i : Int) + 1) < ((l.length : Int) + 1)) = True := eq_true (by omega); have hgt0 := List.getElem?_eq_getElem hlt; have hgt : (x0 :: l)[i + 1]? = some l[i] := by simp [hlt]
  have hw : IntKind.i64.wrap ((i : Int) + 1 + 1) = ((i + 1 + 1 : Nat) : Int) := by have := k04 (i := i + 1) (by omega); simpa using this
  have w := hc _ (List.getElem_mem hlt); have hstep := k81 (k := k) hgt0; have hle : (netsTaken k (l.take (i + 1))).length ≤ (netsTaken k l).length := by
   conv => rhs; rw [← List.take_append_drop (i + 1) l, k43, List.length_append]
   omega
  rw [hstep, List.length_append] at hle; obtain ⟨xk, xo, xa, xks, hx⟩ : ∃ xk xo xa xks, l[i] = .mk xk xo xa xks := by cases hq : l[i] with | mk a b c d => exact ⟨_, _, _, _, rfl⟩
  rw [hx] at hgt w hstep hle; have hrow := k31 hgt; generalize (if Net.kind (.mk xk xo xa xks) = 1 then some 1 else none) = cx at w; generalize Net.taken k (.mk xk xo xa xks) = T at w hstep hle; generalize hS : A ++ netsTaken k (l.take i) = S at h3 hB; have hSl : S.length = A.length + (netsTaken k (l.take i)).length := by rw [← hS, List.length_append]
  generalize (if i = 0 then c0 else none) = ci at h3; have hnn : (0 ≤ (i : Int) + 1) = True := eq_true (by omega); have rm : room (S.length + T.length) 40 = true := k08 (by omega) (by omega); have al := eq_true (k42 T); have tkT := k05 T; have tkS := k05 S; have fX := far hbg; have zX := far (show 0 < g by omega); have e0 : (0 = b) = False := eq_false (by omega); have e1 : (b = 0) = False := eq_false (by omega); refine ⟨.normal, ?_⟩
  simp [-getElem?_pos, F301_B0, h1, h4, hA, h3, hB, hll, hlt, hlt', hnn, hrow, w, hw, rm, al, tkT, tkS, k02, fX, zX, e0, e1]; refine ⟨m, by omega, i + 1, by omega, by simp, ?_⟩
  rw [if_neg (by omega)]; exact OwnI.mk rfl (by omega) (by omega) (by rw [hstep, ← List.append_assoc, hS, List.length_append]) (by simp [fX, zX, e0, e1, hstep, ← List.append_assoc, hS, k12])
theorem kt2 {n : Nat} (k : Int) (x : Net) (hk : k = 2 ∨ k = 3) (hx : x.kind ≠ 1 → ∀ s, go (n + 1) 301 [netX x] [] s = some (insOwn x.begins x.capB)) (has : x.as.length < 2 ^ 30) (hl : x.begins.length < 2 ^ 29) (s : Sup) :
 go (n + 2) 332 [iV k, netX x] [] s = some (insOwn (x.taken k) (if x.kind = 1 then some 1 else none)) := by
 have e1 : IntKind.i64.wrap (k - 2) = k - 2 := by rcases hk with rfl | rfl <;> decide
 have e2 : IntKind.i64.wrap (2 + (k - 2)) = k := by rcases hk with rfl | rfl <;> decide
 have e3 : IntKind.i64.wrap (4 + (k - 2)) = k + 2 := by rcases hk with rfl | rfl <;> decide
 obtain ⟨xk, xo, xa, xks⟩ := x; simp only [Net.kind, Net.as] at hx has ⊢
 by_cases h1 : xk = 1
 · subst h1
   have w2 := kj8 (n := n) ⟨xo, xa⟩ has; simp [go_of (n := n + 1) FT_332 rfl, F332, w2, e1, e2, e3, Net.taken, Net.kind, Net.op, Net.as, insRows, Ins.row]
 · have hx := hx h1
   have rm : room ((Net.mk xk xo xa xks).begins.length + 1) 40 = true := k08 (by omega) (by omega); simp only [Net.taken, Net.kind, if_neg h1]; generalize hL : (Net.mk xk xo xa xks).begins = L at hx rm ⊢; have tk : List.take L.length (insRows L) = insRows L := List.take_of_length_le (by rw [k02]; omega); simp [go_of (n := n + 1) FT_332 rfl, F332, hx, e1, e2, e3, h1, rm, k02, k12, k34, Ins.row, ar0, tk]
theorem kh2 : ∀ (m : Nat) (t : Net), t.wt ≤ m → m < 2 ^ 27 → t.wrong = 0 → ∀ (n : Nat), 3 * m + 10 ≤ n → ∀ s, go n 301 [netX t] [] s = some (insOwn t.begins t.capB)
 | 0, t, h, hm, hr, n, hn, s => by have := t.wt_pos; omega
 | m + 1, .mk k op ars [], h, hm, hr, n, hn, s => by
  obtain ⟨n, rfl⟩ : ∃ k, n = k + 2 := ⟨n - 2, by omega⟩; obtain ⟨rfl, -⟩ := k75 hr; simp only [Net.wt] at h; have w2 := kj8 (n := n) ⟨op, ars⟩ (by simp only; omega); simp [go_of (n := n + 1) FT_301 rfl, F301, w2, Net.begins, Net.capB, insRows, Ins.row]
 | m + 1, .mk k op ars (x :: r), h, hm, hr, n, hn, s => by
  obtain ⟨hk, hx, hall, hop, has, h4⟩ := k66 hr; have hlb := k49 (.mk k op ars (x :: r)); have hsw := (Net.mk k op ars (x :: r)).size_wt; simp only [Net.wt, netsWt] at h hsw; obtain ⟨n, rfl⟩ : ∃ k, n = k + 3 := ⟨n - 3, by omega⟩; have w1 := kh2 m x (by omega) (by omega) hx (n + 2) (by omega); have hxl := k49 x; have hxs := x.size_wt; have hk1 : (k = 1) = False := eq_false (by omega); obtain ⟨xk, xo, xa, xks⟩ := x
  by_cases e4 : k = 4
  · have := h4 e4
    subst this; subst e4; simp only [Net.begins, Net.capB, if_true]; generalize Net.begins (.mk xk xo xa xks) = L at w1 hxl ⊢; generalize Net.capB (.mk xk xo xa xks) = c at w1; have rm : room (L.length + 1) 40 = true := k08 (by omega) (by omega); have tk := k05 L; simp [go_of (n := n + 2) FT_301 rfl, F301, w1, netRows, Net.row, rm, k02, k12, k34, Ins.row, ar0, tk]
  · have hk4 : (k = 4) = False := eq_false e4
    have e4r : (if k = 4 then [Ins.bare 6] else netsTaken k r) = netsTaken k r := if_neg e4; simp only [Net.begins, Net.capB, e4r, if_neg e4]; have hb : ∀ y ∈ r, ∀ s, go (n + 2) 332 [iV k, netX y] [] s = some (insOwn (y.taken k) (if y.kind = 1 then some 1 else none)) := fun y hy s => by
     have hyw := k38 hy; have hyl := k49 y; have hys := y.size_wt; have hya : y.as.length ≤ y.wt := by cases y; simp only [Net.as, Net.wt]; omega
     exact kt2 (n := n) k y (by omega) (fun _ s => kh2 m y (by omega) (by omega) (hall y hy) (n + 1) (by omega) s) (by omega) (by omega) s
    have hlen := k27 r; have hlr : (Net.begins (.mk xk xo xa xks)).length + (netsTaken k r).length < 2 ^ 29 := by
     simp only [Net.begins, e4r, List.length_append] at hlb; omega
    generalize hLB : Net.begins (.mk xk xo xa xks) = L at w1 hlr ⊢; generalize Net.capB (.mk xk xo xa xks) = c at w1 ⊢; simp [go_of (n := n + 2) FT_301 rfl, F301, w1, netRows, Net.row, hk1, hk4, k09]; generalize hst : St.mk _ _ _ _ = st; obtain ⟨e, ⟨τ', H', g', s'⟩, hx, -, rfl, b, hb0, hbg, h3, hB⟩ := loop301 (n := n + 2) k L c op ars (.mk xk xo xa xks) r (by omega) hb hlr (by omega) (by omega) st (by simp [← hst]) (by simp [← hst]) (by simp [← hst, netRows, Net.row]) (by subst hst; exact OwnI.mk rfl (by omega) (by simp only; omega) rfl (by simp)); simp only at hbg h3 hB; clear hst
    have ec : (if r.length = 0 then c else Option.none) = (if r = [] then c else Option.none) := by cases r <;> rfl
    rw [ec] at h3; generalize (if r = [] then c else Option.none) = cc at h3 ⊢; generalize L ++ netsTaken k r = M at h3 hB ⊢; have tkM := k05 M; simp [hx, h3, hB, tkM]
def OwnE (st : St) (t : Nat) (L : List Ins) : Prop := ∃ b c, 0 < b ∧ b < st.g ∧ st.τ t = .w (.own b 0 L.length c) ∧ st.H b = .row none 3 (insRows L) 0
theorem OwnE.mk {st : St} {t n b : Nat} {L : List Ins} {c : Option Nat} (h2 : st.τ t = .w (.own b 0 n c)) (h0 : 0 < b) (h1 : b < st.g) (hn : n = L.length) (h3 : st.H b = .row none 3 (insRows L) 0) : OwnE st t L :=
 ⟨b, c, h0, h1, by rw [h2, hn], h3⟩
theorem OwnE.keep {st st' : St} {t : Nat} {L : List Ins} (h : OwnE st t L) (e : st'.τ t = st.τ t) (eH : ∀ b, b < st.g → st'.H b = st.H b) (hg : st.g ≤ st'.g) : OwnE st' t L := by
 obtain ⟨b, c, h0, h1, h2, h3⟩ := h; exact ⟨b, c, h0, by omega, e.trans h2, (eH b h1).trans h3⟩
theorem loop333 {n : Nat} (l : List Net) (c0 c1 c2 : W) (hc : ∀ x ∈ l, ∀ s, go n 332 [iV 2, netX x] [] s = some (insOwn (x.taken 2) (if x.kind = 1 then some 1 else none)))
 (hb : (netsTaken 2 l).length < 2 ^ 29) (hn : l.length < n) (hl : l.length < 2 ^ 40) (st : St) (h1 : st.τ 1 = .w (.ptr 0 0)) (h4 : st.τ 4 = iV 0) (hA : st.H 0 = .cells [c0, c1, c2, nsW l]) (h3 : OwnE st 3 []) :
 ∃ e st', execC (go n) mode GT false 29 n F333_L0 st = some (e, st') ∧ e ≠ .normal ∧ (e = .exit 0 ∧ OwnE st' 3 (netsTaken 2 l)) := by
 rw [F333_L0, k00]; refine k03 (fun m st => ∃ i, i + m = l.length ∧ st.τ 1 = .w (.ptr 0 0) ∧ st.τ 4 = iV i ∧ st.H 0 = .cells [c0, c1, c2, nsW l] ∧ OwnE st 3 (netsTaken 2 (l.take i))) ?_ n l.length st hn
  ⟨0, by omega, h1, by simpa using h4, hA, by simpa [netsTaken] using h3⟩
 clear h1 h4 hA h3; rintro m ⟨τ, H, g, s⟩ ⟨i, hm, h1, h4, hA, b, ci, hb0, hbg, h3, hB⟩; simp only at h1 h4 hA hbg h3 hB; cases m with
 | zero =>
  have : i = l.length := by omega
  subst this; rw [List.take_length] at h3 hB; refine ⟨.exit 0, ?_⟩
  simp [F333_B0, h1, h4, hA]; exact OwnE.mk (by simp only [upd_at]; simpa using h3) hb0 (by simp only; omega) rfl hB
 | succ m =>
  have hlt : i < l.length := by omega
  have hlt' := ltT hlt; have hgt := List.getElem?_eq_getElem hlt; have hw := k04 (i := i) (by omega); have w := hc _ (List.getElem_mem hlt); have hstep := k81 (k := 2) hgt; have hle : (netsTaken 2 (l.take (i + 1))).length ≤ (netsTaken 2 l).length := by
   conv => rhs; rw [← List.take_append_drop (i + 1) l, k43, List.length_append]
   omega
  rw [hstep, List.length_append] at hle; obtain ⟨xk, xo, xa, xks, hx⟩ : ∃ xk xo xa xks, l[i] = .mk xk xo xa xks := by cases hq : l[i] with | mk a b c d => exact ⟨_, _, _, _, rfl⟩
  rw [hx] at hgt w hstep hle; have hrow := k31 hgt; generalize (if Net.kind (.mk xk xo xa xks) = 1 then some 1 else none) = cx at w; generalize Net.taken 2 (.mk xk xo xa xks) = T at w hstep hle; generalize netsTaken 2 (l.take i) = S at h3 hB hstep hle; have rm : room (S.length + T.length) 40 = true := k08 (by omega) (by omega); have al := eq_true (k42 T); have tkT := k05 T; have tkS := k05 S; have fX := far hbg; have zX := far (show 0 < g by omega); have e0 : (0 = b) = False := eq_false (by omega); have e1 : (b = 0) = False := eq_false (by omega); refine ⟨.normal, ?_⟩
  simp [-getElem?_pos, F333_B0, h1, h4, hA, h3, hB, hlt, hlt', hrow, w, hw, rm, al, tkT, tkS, k02, fX, zX, e0, e1]; refine ⟨m, by omega, i + 1, by omega, by simp, ?_⟩
  exact OwnE.mk rfl (by omega) (by simp only; omega) (by rw [hstep, List.length_append]) (by simp [fX, zX, e0, e1, hstep, k12])
theorem run_l14Behind (x : Net) (hx : NetFine x) (m : Nat) (h : x.wt ≤ m) (hm : m < 2 ^ 26) (n : Nat) (hn : 3 * m + 20 ≤ n) (s : Sup) : go n 333 [netX x] [] s = some ⟨.w (isW (netsTaken 2 x.parts)), [], []⟩ := by
 obtain ⟨n, rfl⟩ : ∃ k, n = k + 3 := ⟨n - 3, by omega⟩; have hm1 : ∀ y, y.wt ≤ m → y.wrong = 0 → ∀ s, go (n + 2) 332 [iV 2, netX y] [] s = some (insOwn (y.taken 2) (if y.kind = 1 then some 1 else none)) := fun y hy hr s => by
  have h3 := k49 y; have h4 := y.size_wt; have hya : y.as.length ≤ y.wt := by cases y; simp only [Net.as, Net.wt]; omega
  exact kt2 (n := n) 2 y (by omega) (fun _ s => kh2 m y hy (by omega) hr (n + 1) (by omega) s) (by omega) (by omega) s
 have w0 := k82 (n := n + 2) (by omega) x; have hp := k36 hx; have hlp := km1 x.parts 2; have hps := kE5 x; have hsz := x.size_wt
 by_cases h0 : x.none = true
 · have e : x.parts = [] := by unfold Net.parts; rw [if_pos h0]
   rw [e]; rw [h0] at w0; obtain ⟨k, op, ars, ks⟩ := x; simp [go_of (n := n + 2) FT_333 rfl, F333, w0, netsTaken, insRows]
 · have h0 : x.none = false := by simpa using h0
   rw [h0] at w0; have hr : x.wrong = 0 := by rcases hx with hx | hx; rw [h0] at hx; cases hx; exact hx
   have hsz0 : x.sz0 = x.size := by unfold Net.sz0; rw [h0]; rfl
   by_cases h2 : x.kind = 2
   · have e : x.parts = x.kids := by unfold Net.parts; rw [h0, if_pos h2]; rfl
     rw [e] at hp hlp hps ⊢; have hkw : ∀ y ∈ x.kids, y.wt ≤ m := fun y hy => by
      obtain ⟨k, op, ars, ks⟩ := x; simp only [Net.kids] at hy; have := k38 hy; simp only [Net.wt] at h; omega
     obtain ⟨k, op, ars, ks⟩ := x; simp only [Net.kind, Net.kids] at *; subst h2; have hlen := k27 ks; simp only [Net.wt] at h hsz; simp [go_of (n := n + 2) FT_333 rfl, F333, w0]; generalize hst : St.mk _ _ _ _ = st; obtain ⟨e, ⟨τ', H', g', s'⟩, hx, -, rfl, b, c, hb0, hbg, h3, hB⟩ := loop333 (n := n + 2) ks (iW 2) (iW op) (asW ars) (fun y hy => hm1 y (hkw y hy) (hp y hy)) (by omega) (by omega) (by omega) st (by simp [← hst]) (by simp [← hst]) (by simp [← hst]) (by subst hst; exact OwnE.mk rfl (by omega) (by simp only; omega) rfl (by simp [insRows])); simp only at hbg h3 hB; clear hst; generalize netsTaken 2 ks = M at h3 hB ⊢; have tkM := k05 M
     simp [hx, h3, hB, tkM, k02]
   · have e : x.parts = [x] := by unfold Net.parts; rw [h0, if_neg h2]; rfl
     have w1 := hm1 x h hr; rw [e, kb8, show netsTaken 2 [] = [] by simp [netsTaken], List.append_nil]; generalize (if x.kind = 1 then some 1 else none) = cx at w1; obtain ⟨k, op, ars, ks⟩ := x; simp only [Net.kind] at h2; generalize Net.taken 2 (.mk k op ars ks) = T at w1; have tkT := k05 T; simp [go_of (n := n + 2) FT_333 rfl, F333, w0, w1, h2, tkT, k02]
def F302_K1 : C := (.seq (.reg [om 38 5, oo 39 (.bin .eql .one (.t 38) (xi 1)), om 37 39]) (.cond (.t 37) .skip (.seq (.reg [om 41 6, oo 42 (.bin .eql .one (.t 41) (xi 0)), om 40 42]) (.cond (.t 40) (.reg [om 43 3, oo 44 (.bld [(wi 0), (wi 0), .nil] [(0, 1, (xi 7))]), oo 45 (.bsl 3 1 [(.s (.int .i64 0)), (.s (.int .i64 0)), (.l 0 [])] [(0, (.t 44))]), oo 46 (.app 3 40 [(.s (.int .i64 0)), (.s (.int .i64 0)), (.l 0 [])] (.t 43) (.t 45)), om 3 46]) (.seq (.reg [om 48 6, om 49 5, oo 50 (.bin .sub .one (.t 49) (xi 1)), oo 51 (.bin .eql .one (.t 48) (.t 50)), om 47 51]) (.cond (.t 47) (.reg [om 52 3, oo 53 (.bld [(wi 0), (wi 0), .nil] [(0, 1, (xi 9))]), oo 54 (.bsl 3 1 [(.s (.int .i64 0)), (.s (.int .i64 0)), (.l 0 [])] [(0, (.t 53))]), oo 55 (.app 3 40 [(.s (.int .i64 0)), (.s (.int .i64 0)), (.l 0 [])] (.t 52) (.t 54)), om 3 55]) (.reg [om 33 3, oo 34 (.bld [(wi 0), (wi 0), .nil] [(0, 1, (xi 8))]), oo 35 (.bsl 3 1 [(.s (.int .i64 0)), (.s (.int .i64 0)), (.l 0 [])] [(0, (.t 34))]), oo 36 (.app 3 40 [(.s (.int .i64 0)), (.s (.int .i64 0)), (.l 0 [])] (.t 33) (.t 35)), om 3 36])))))))
def F302_K2 : C := (.seq (.reg [om 56 3, oo 57 (.fa 5 (.t 1)), oo 58 (.ld false 1 (.t 57)), om 59 6, oo 60 (.ia 6 (.t 58) (.t 59)), oo 61 (.fa 0 (.t 60)), oo 62 (.ld true 4 (.t 61)), oo 63 (.call (xf 333) [(.t 62)]), oo 64 (.app 3 40 [(.s (.int .i64 0)), (.s (.int .i64 0)), (.l 0 [])] (.t 56) (.t 63)), om 3 64]) (.reg [om 65 3, oo 66 (.fa 5 (.t 1)), oo 67 (.ld false 1 (.t 66)), om 68 6, oo 69 (.ia 6 (.t 67) (.t 68)), oo 70 (.ld true 6 (.t 69)), oo 71 (.call (xf 302) [(.t 70)]), oo 72 (.app 3 40 [(.s (.int .i64 0)), (.s (.int .i64 0)), (.l 0 [])] (.t 65) (.t 71)), om 3 72]))
theorem kz0 : F302_B1 = (.seq (.seq (.reg [om 28 6, om 29 5, oo 30 (.bin .lss .one (.t 28) (.t 29))]) (.cond (.t 30) .skip (.exit 2))) (.seq (.block 3 (.seq (.block 4 F302_K1) F302_K2)) (.reg [om 31 6, oo 32 (.bin .add .one (.t 31) (xi 1)), om 6 32]))) := rfl
def TailAt (st : St) (A0 : Box) (L : List Ins) : Prop := st.τ 1 = .w (.ptr 0 0) ∧ st.H 0 = A0 ∧ 0 < st.g ∧ OwnE st 3 L
theorem sep302 {n : Nat} (i N : Nat) (L : List Ins) (A0 : Box) (st : St) (h6 : st.τ 6 = iV i) (h5 : st.τ 5 = iV N) (hi : i < N) (hl : N < 2 ^ 40) (h : TailAt st A0 L) (hL : L.length < 2 ^ 29) :
 ∃ st', execC (go n) mode GT false 74 n F302_K1 st = some (.normal, st') ∧ TailAt st' A0 (L ++ sepI N i) ∧ st'.τ 5 = iV N ∧ st'.τ 6 = iV i := by
 obtain ⟨τ, H, g, s⟩ := st; obtain ⟨h1, hA, hg, b, ci, hb0, hbg, h3, hB⟩ := h; simp only at h1 hA h6 h5 hg hbg h3 hB; have hsub : IntKind.i64.wrap ((N : Int) - 1) = (N : Int) - 1 := k29 (by omega) (by omega); have rmL : room (L.length + 1) 40 = true := k08 (by omega) (by omega); have tkL := k05 L; have zX := far hg; have bX := far hbg; have e0 : (0 = b) = False := eq_false (by omega); have e1 : (b = 0) = False := eq_false (by omega)
 by_cases hN : N = 1
 · have hN1 : ((N : Int) = 1) = True := eq_true (by omega)
   have es : sepI N i = [] := by unfold sepI; rw [if_pos hN]
   rw [es, List.append_nil]; simp [F302_K1, h5, hN1, hN]; exact ⟨⟨by simp [h1], hA, by simp only; omega, OwnE.mk (by simp only [upd_at]; simpa using h3) hb0 (by simp only; omega) rfl hB⟩, by simp [h6]⟩
 · have hN1 : ((N : Int) = 1) = False := eq_false (by omega)
   by_cases hi0 : i = 0
   · subst hi0
     have es : sepI N 0 = [Ins.bare 7] := by unfold sepI; rw [if_neg hN, if_pos rfl]
     rw [es]; simp [F302_K1, h1, h3, h5, h6, hA, hB, hN1, hN, hsub, rmL, tkL, k02, e0, e1, bX, zX]; exact ⟨by simp [h1], by simp [zX, hA, e0, e1], by simp only; omega, OwnE.mk rfl (by omega) (by simp only; omega) (by simp) (by simp [k12, k34, Ins.row, ar0, bX, zX, e0, e1])⟩
   · have hi0i : ((i : Int) = 0) = False := eq_false (by omega)
     by_cases hil : i + 1 = N
     · have hili : ((i : Int) = (N : Int) - 1) = True := eq_true (by omega)
       have es : sepI N i = [Ins.bare 9] := by unfold sepI; rw [if_neg hN, if_neg hi0, if_pos hil]
       rw [es]; simp [F302_K1, h1, h3, h5, h6, hA, hB, hN1, hN, hi0, hi0i, hili, hsub, rmL, tkL, k02, e0, e1, bX, zX]; exact ⟨by simp [h1], by simp [zX, hA, e0, e1], by simp only; omega, OwnE.mk rfl (by omega) (by simp only; omega) (by simp) (by simp [k12, k34, Ins.row, ar0, bX, zX, e0, e1])⟩
     · have hili : ((i : Int) = (N : Int) - 1) = False := eq_false (by omega)
       have es : sepI N i = [Ins.bare 8] := by unfold sepI; rw [if_neg hN, if_neg hi0, if_neg hil]
       rw [es]; simp [F302_K1, h1, h3, h5, h6, hA, hB, hN1, hN, hi0, hi0i, hili, hsub, rmL, tkL, k02, e0, e1, bX, zX]; exact ⟨by simp [h1], by simp [zX, hA, e0, e1], by simp only; omega, OwnE.mk rfl (by omega) (by simp only; omega) (by simp) (by simp [k12, k34, Ins.row, ar0, bX, zX, e0, e1])⟩
theorem loop302_0 {n : Nat} (l : List El) (c0 c1 c2 c3 c5 : W) (ha : ∀ e ∈ l, e.as.length < 2 ^ 30) (hn : l.length < n) (hl : l.length < 2 ^ 29) (st : St) (h4 : st.τ 4 = iV 0) (h : TailAt st (.cells [c0, c1, c2, c3, csW l, c5]) []) :
 ∃ e st', execC (go n) mode GT false 74 n F302_L0 st = some (e, st') ∧ e ≠ .normal ∧ (e = .exit 0 ∧ TailAt st' (.cells [c0, c1, c2, c3, csW l, c5]) (coilsI l)) := by
 rw [F302_L0, k00]; refine k03 (fun m st => ∃ i, i + m = l.length ∧ st.τ 4 = iV i ∧ TailAt st (.cells [c0, c1, c2, c3, csW l, c5]) (coilsI (l.take i))) ?_ n l.length st hn
  ⟨0, by omega, by simpa using h4, by simpa [coilsI] using h⟩
 clear h4 h; rintro m ⟨τ, H, g, s⟩ ⟨i, hm, h4, h1, hA, hg, b, ci, hb0, hbg, h3, hB⟩; simp only at h1 h4 hA hg hbg h3 hB; cases m with
 | zero =>
  have : i = l.length := by omega
  subst this; rw [List.take_length] at h3 hB; refine ⟨.exit 0, ?_⟩
  simp [F302_B0, h1, h4, hA]; exact ⟨by simp [h1], hA, by simp only; omega, OwnE.mk (by simp only [upd_at]; simpa using h3) hb0 (by simp only; omega) rfl hB⟩
 | succ m =>
  have hlt : i < l.length := by omega
  have hlt' := ltT hlt; have hgt := List.getElem?_eq_getElem hlt; have hw := k04 (i := i) (by omega); have w := kj8 (n := n - 1) l[i] (ha _ (List.getElem_mem hlt)); rw [show n - 1 + 1 = n by omega] at w; have hstep := ku9 hgt; obtain ⟨xo, xa, hx⟩ : ∃ xo xa, l[i] = (⟨xo, xa⟩ : El) := ⟨_, _, rfl⟩; rw [hx] at hgt w hstep; have hrow := k68 hgt; generalize hS : coilsI (l.take i) = S at h3 hB hstep; have hSl : S.length = i := by rw [← hS, k59, List.length_take]; omega
  have rm : room (S.length + 1) 40 = true := k08 (by omega) (by omega); have tkS := k05 S; have fX := far hbg; have zX := far hg; have e0 : (0 = b) = False := eq_false (by omega); have e1 : (b = 0) = False := eq_false (by omega); refine ⟨.normal, ?_⟩
  simp [-getElem?_pos, F302_B0, h1, h4, hA, h3, hB, hlt, hlt', hrow, w, hw, rm, tkS, k02, fX, zX, e0, e1]; exact ⟨m, by omega, i + 1, by omega, by simp, by simp [h1], by simp [zX, hA, e0, e1], by simp only; omega, OwnE.mk rfl (by omega) (by simp only; omega) (by rw [hstep]; simp) (by simp [fX, zX, e0, e1, hstep, k12, k34, Ins.row])⟩
theorem loop302_1 {n : Nat} (l : List Arm) (L0 : List Ins) (c0 c1 c2 c3 c4 : W) (hc : ∀ x ∈ l, ∀ s, go n 302 [armX x] [] s = some ⟨.w (isW x.tail), [], []⟩)
 (hk : ∀ x ∈ l, ∀ s, go n 333 [netX x.net] [] s = some ⟨.w (isW (netsTaken 2 x.net.parts)), [], []⟩)
 (hb : L0.length + (armsTail l.length 0 l).length < 2 ^ 29) (hn : l.length < n) (hl : l.length < 2 ^ 40) (st : St) (h5 : st.τ 5 = iV l.length) (h6 : st.τ 6 = iV 0) (h : TailAt st (.cells [c0, c1, c2, c3, c4, ksW l]) L0) :
 ∃ e st', execC (go n) mode GT false 74 n F302_L1 st = some (e, st') ∧ e ≠ .normal ∧ (e = .exit 2 ∧ TailAt st' (.cells [c0, c1, c2, c3, c4, ksW l]) (L0 ++ armsTail l.length 0 l)) := by
 rw [F302_L1, k00]; refine k03 (fun m st => ∃ i, i + m = l.length ∧ st.τ 5 = iV l.length ∧ st.τ 6 = iV i ∧ TailAt st (.cells [c0, c1, c2, c3, c4, ksW l]) (L0 ++ armsTail l.length 0 (l.take i))) ?_ n l.length st hn
  ⟨0, by omega, h5, by simpa using h6, by simpa [armsTail] using h⟩
 clear h5 h6 h; rintro m ⟨τ, H, g, s⟩ ⟨i, hm, h5, h6, h⟩; simp only at h5 h6; cases m with
 | zero =>
  have : i = l.length := by omega
  subst this; rw [List.take_length] at h; obtain ⟨h1, hA, hg, hO⟩ := h; simp only at h1 hA hg; refine ⟨.exit 2, ?_⟩
  simp [kz0, h5, h6]; exact ⟨by simp [h1], hA, by simp only; omega, hO.keep (by simp) (fun _ _ => rfl) (by simp only; omega)⟩
 | succ m =>
  have hlt : i < l.length := by omega
  have hlt' := ltT hlt; have hgt := List.getElem?_eq_getElem hlt; have hmem := List.getElem_mem hlt; have hw := k04 (i := i) (by omega); obtain ⟨xk, xo, xa, xns, xcs, xks, hx⟩ : ∃ xk xo xa xns xcs xks, l[i] = .mk (.mk xk xo xa xns) xcs xks := by
   cases hq : l[i] with | mk nn cs ks => cases nn; exact ⟨_, _, _, _, _, _, rfl⟩
  have w := hc _ hmem; have wp := hk _ hmem; rw [hx] at hgt w wp; have hstep := kn4 (N := l.length) hgt; have hle := kv3 l.length l (i + 1); rw [hstep, List.length_append, List.length_append, List.length_append] at hle; have hrow := k18 hgt; rw [show Arm.net (.mk (.mk xk xo xa xns) xcs xks) = .mk xk xo xa xns from rfl] at wp hstep hle; generalize netsTaken 2 (Net.parts (.mk xk xo xa xns)) = Q at wp hstep hle; generalize Arm.tail (.mk (.mk xk xo xa xns) xcs xks) = T at w hstep hle; have hS : ∀ z, z = L0 ++ armsTail l.length 0 (l.take i) → z.length + ((sepI l.length i).length + Q.length + T.length) < 2 ^ 29 := fun z hz => by rw [hz, List.length_append]; omega
  generalize hSS : L0 ++ armsTail l.length 0 (l.take i) = S at h hS; have hS := hS S rfl
  suffices hsuf : ∃ st', execC (go n) mode GT false 74 n F302_B1 ⟨τ, H, g, s⟩ = some (.normal, st') ∧ TailAt st' (.cells [c0, c1, c2, c3, c4, ksW l]) (S ++ sepI l.length i ++ Q ++ T) ∧ st'.τ 5 = iV l.length ∧ st'.τ 6 = iV ((i + 1 : Nat) : Int) by
   obtain ⟨st', a0, a1, a2, a3⟩ := hsuf; rw [a0]; refine ⟨.normal, st', rfl, fun _ => ⟨m, by omega, i + 1, by omega, a2, a3, ?_⟩, fun h => absurd rfl h⟩
   rw [hstep, ← List.append_assoc, ← List.append_assoc, ← List.append_assoc, hSS]; exact a1
  simp [-getElem?_pos, kz0, h5, h6, hlt, hlt']; generalize hst : St.mk _ _ _ _ = st1; obtain ⟨⟨τ2, H2, g2, s2⟩, hx2, ⟨k1, kA, kg, b, ci, hb0, hbg, h3, hB⟩, k5, k6⟩ := sep302 (n := n) i l.length S (.cells [c0, c1, c2, c3, c4, ksW l]) st1 (by simp [← hst, h6]) (by simp [← hst, h5]) hlt hl (by
   obtain ⟨h1, hA, hg, hO⟩ := h; simp only at h1 hA hg; subst hst; exact ⟨by simp [h1], hA, by simp only; omega, hO.keep (by simp) (fun _ _ => rfl) (by simp only; omega)⟩) (by omega)
  simp only at k1 kA kg k5 k6 hbg h3 hB; clear hst h; generalize hZZ : S ++ sepI l.length i = Z at h3 hB ⊢; have hZ : Z.length = S.length + (sepI l.length i).length := by rw [← hZZ, List.length_append]
  have hZr : insRows Z = insRows S ++ insRows (sepI l.length i) := by rw [← hZZ, k12]
  have rm1 : room (Z.length + Q.length) 40 = true := k08 (by omega) (by omega); have rm2 : room (Z.length + Q.length + T.length) 40 = true := k08 (by omega) (by omega); have tkZ := k05 Z; have tkQ := k05 Q; have tkT := k05 T; have uZQ : List.take (Z.length + Q.length) (insRows Z ++ insRows Q) = insRows Z ++ insRows Q := List.take_of_length_le (by simp [k02]); have alQ := eq_true (k42 Q); have alT := eq_true (k42 T); have fX := far hbg; have zX := far kg; have e0 : (0 = b) = False := eq_false (by omega); have e1 : (b = 0) = False := eq_false (by omega)
  simp [-getElem?_pos, F302_K2, hx2, k1, kA, k5, k6, h3, hB, hrow, w, wp, hw, rm1, rm2, tkZ, tkQ, tkT, uZQ, alQ, alT, k02, fX, zX, e0, e1]; exact ⟨by simp [k1], by simp [zX, kA, e0, e1], by simp only; omega, OwnE.mk rfl (by omega) (by simp only; omega) (by simp; try omega) (by simp [fX, zX, e0, e1, k12, uZQ]; simp [hZr])⟩
theorem kt1 : ∀ (m : Nat) (a : Arm), a.wt ≤ m → m < 2 ^ 26 → a.wrong false = 0 → ∀ (n : Nat), 4 * m + 30 ≤ n → ∀ s, go n 302 [armX a] [] s = some ⟨.w (isW a.tail), [], []⟩
 | 0, a, h, hm, hr, n, hn, s => by have := a.wt_pos; omega
 | m + 1, .mk (.mk k op ars nks) cs ks, h, hm, hr, n, hn, s => by
  obtain ⟨-, -, -, -, hk⟩ := k13 hr; have hk' := (k20 _).1 hk; obtain ⟨n, rfl⟩ : ∃ k, n = k + 3 := ⟨n - 3, by omega⟩; have hnp := (Net.mk k op ars nks).wt_pos; have hlt := kr7 (.mk (.mk k op ars nks) cs ks); have hsl := ko5 (.mk (.mk k op ars nks) cs ks); simp only [Arm.tail, List.length_append, k59] at hlt; simp only [Arm.wt] at h hsl; have hlen := k19 ks; have hcl := k37 cs; have hc : ∀ x ∈ ks, ∀ s, go (n + 2) 302 [armX x] [] s = some ⟨.w (isW x.tail), [], []⟩ := fun x hx s => kt1 m x (by have := k07 hx; omega) (by omega) (hk' x hx) (n + 2) (by omega) s
  have hxw : ∀ x ∈ ks, x.net.wt ≤ m := fun x hx => by
   have := k07 hx; obtain ⟨xn, xc, xk⟩ := x; simp only [Arm.wt, Arm.net] at this ⊢; omega
  have hp : ∀ x ∈ ks, ∀ s, go (n + 2) 333 [netX x.net] [] s = some ⟨.w (isW (netsTaken 2 x.net.parts)), [], []⟩ := fun x hx s =>
   run_l14Behind x.net (by obtain ⟨xn, xc, xk⟩ := x; exact (k13 (hk' _ hx)).2.1) m (hxw x hx) (by omega) (n + 2) (by omega) s
  have hca : ∀ e ∈ cs, e.as.length < 2 ^ 30 := fun e he => by
   have := kd0 he; simp only [El.wt] at this; omega
  simp only [Arm.tail]; simp [go_of (n := n + 2) FT_302 rfl, F302]; generalize hst : St.mk _ _ _ _ = st; obtain ⟨e, ⟨τ', H', g', s'⟩, hx, -, rfl, hpost⟩ := loop302_0 (n := n + 2) cs (iW k) (iW op) (asW ars) (nsW nks) (ksW ks) hca (by omega) (by omega) st (by simp [← hst]) (by subst hst; exact ⟨by simp, by simp, by simp, OwnE.mk rfl (by omega) (by simp only; omega) rfl (by simp [insRows])⟩); obtain ⟨h1, hA, hg, hO⟩ := hpost; simp only at h1 hA hg; clear hst; simp [hx, h1, hA]; generalize hst : St.mk _ _ _ _ = st
  obtain ⟨e, ⟨τ2, H2, g2, s2⟩, hx2, -, rfl, hpost⟩ := loop302_1 (n := n + 2) ks (coilsI cs) (iW k) (iW op) (asW ars) (nsW nks) (csW cs) hc hp (by rw [k59]; omega) (by omega) (by omega) st (by simp [← hst]) (by simp [← hst]) (by subst hst; exact ⟨by simp [h1], hA, by simp only; omega, hO.keep (by simp) (fun _ _ => rfl) (by simp only; omega)⟩); obtain ⟨j1, jA, jg, b, c, hb0, hbg, h3, hB⟩ := hpost; simp only at j1 jA jg hbg h3 hB; clear hst; generalize coilsI cs ++ armsTail ks.length 0 ks = L at h3 hB; have tkL := k05 L; simp [hx2, h3, hB, tkL, k02]
end Go.VM
