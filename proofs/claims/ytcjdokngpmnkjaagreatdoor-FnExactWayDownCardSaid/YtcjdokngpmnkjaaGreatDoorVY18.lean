/- The document's lists out of ladders: nets. Conditions: none. -/
import Derived.Test.YtcjdokngpmnkjaaGreatDoorVP9

namespace Go.VM
set_option linter.unusedSimpArgs false
set_option linter.unusedVariables false
set_option maxHeartbeats 16000000
theorem run_l14Copy {n : Nat} (e : El) (hl : e.as.length < 2 ^ 30) (s : Sup) : go (n + 1) 331 [elX e] [] s = some ⟨elX e, [], []⟩ := by
 obtain ⟨op, as⟩ := e; have rm : room as.length 24 = true := room_of (by simp only at hl; omega) (by omega); have al : (∀ x ∈ argRows as, x.length = 3) = True := eq_true (fun x hx => by simp only [argRows, List.mem_map] at hx; obtain ⟨a, -, rfl⟩ := hx; rfl); have tk : List.take as.length (argRows as) = argRows as := List.take_of_length_le (by simp [argRows]); have tk' : List.take as.length (List.map Arg.row as) = List.map Arg.row as := tk; simp [go_of (n := n) FT_331 rfl, F331, rm, tk', argRows, Arg.row]
theorem loop301 {n : Nat} (k : Int) (A : List Ins) (c0 : Option Nat) (op : Int) (ars : List Arg) (x0 : Net) (l : List Net) (hk : k = 2 ∨ k = 3) (hc : ∀ x ∈ l, ∀ s, go n 332 [iV k, netX x] [] s = some (insOwn (x.taken k) (if x.kind = 1 then some 1 else none)))
 (hb : A.length + (netsTaken k l).length < 2 ^ 29) (hn : l.length < n) (hl : l.length < 2 ^ 40) (st : St) (h1 : st.τ 1 = .w (.ptr 0 0)) (h4 : st.τ 4 = iV 1) (hA : st.H 0 = .cells [iW k, iW op, asW ars, nsW (x0 :: l)]) (h3 : OwnI st.τ st.H st.g 3 A c0) :
 ∃ e st', execC (go n) mode GT false 47 n F301_L0 st = some (e, st') ∧ e ≠ .normal ∧ (e = .exit 1 ∧ OwnI st'.τ st'.H st'.g 3 (A ++ netsTaken k l) (if l.length = 0 then c0 else none)) := by
 rw [F301_L0, execC_loop]; refine iter_rule (fun m st => ∃ i, i + m = l.length ∧ st.τ 1 = .w (.ptr 0 0) ∧ st.τ 4 = iV ((i + 1 : Nat) : Int) ∧ st.H 0 = .cells [iW k, iW op, asW ars, nsW (x0 :: l)] ∧ OwnI st.τ st.H st.g 3 (A ++ netsTaken k (l.take i)) (if i = 0 then c0 else none)) ?_ n l.length st hn
  ⟨0, by omega, h1, by simpa using h4, hA, by simpa [netsTaken] using h3⟩
 clear h1 h4 hA h3; rintro m ⟨τ, H, g, s⟩ ⟨i, hm, h1, h4, hA, b, hb0, hbg, h3, hB⟩; simp only at h1 h4 hA hbg h3 hB; have hll : (netRows (x0 :: l)).length = l.length + 1 := by simp [netRows_length]
 cases m with
 | zero =>
  have : i = l.length := by omega
  subst this; rw [List.take_length] at h3 hB; refine ⟨.exit 1, ?_⟩
  simp [F301_B0, h1, h4, hA, hll]; exact ⟨b, hb0, by omega, by simp [h3], hB⟩
 | succ m =>
  have hlt : i < l.length := by omega
  have hlt' : (((i : Int) + 1) < ((l.length : Int) + 1)) = True := eq_true (by omega); have hgt0 := List.getElem?_eq_getElem hlt; have hgt : (x0 :: l)[i + 1]? = some l[i] := by simp [hlt]
  have hw : IntKind.i64.wrap ((i : Int) + 1 + 1) = ((i + 1 + 1 : Nat) : Int) := by have := wrap_succ (i := i + 1) (by omega); simpa using this
  have w := hc _ (List.getElem_mem hlt); have hstep := netsTaken_take (k := k) hgt0; have hle : (netsTaken k (l.take (i + 1))).length ≤ (netsTaken k l).length := by
   conv => rhs; rw [← List.take_append_drop (i + 1) l, netsTaken_append, List.length_append]
   omega
  rw [hstep, List.length_append] at hle; obtain ⟨xk, xo, xa, xks, hx⟩ : ∃ xk xo xa xks, l[i] = .mk xk xo xa xks := by cases hq : l[i] with | mk a b c d => exact ⟨_, _, _, _, rfl⟩
  rw [hx] at hgt w hstep hle; have hrow := netRows_get hgt; generalize (if Net.kind (.mk xk xo xa xks) = 1 then some 1 else none) = cx at w; generalize Net.taken k (.mk xk xo xa xks) = T at w hstep hle; generalize hS : A ++ netsTaken k (l.take i) = S at h3 hB; have hSl : S.length = A.length + (netsTaken k (l.take i)).length := by rw [← hS, List.length_append]
  generalize (if i = 0 then c0 else none) = ci at h3; have hnn : (0 ≤ (i : Int) + 1) = True := eq_true (by omega); have rm : room (S.length + T.length) 40 = true := room_of (by omega) (by omega); have al := eq_true (insRow_all T); have tkT := take_insRows T; have tkS := take_insRows S; have fX := far hbg; have zX := far (show 0 < g by omega); have e0 : (0 = b) = False := eq_false (by omega); have e1 : (b = 0) = False := eq_false (by omega); refine ⟨.normal, ?_⟩
  simp [-getElem?_pos, F301_B0, h1, h4, hA, h3, hB, hll, hlt, hlt', hnn, hrow, w, hw, rm, al, tkT, tkS, insRows_length, fX, zX, e0, e1]; refine ⟨m, by omega, i + 1, by omega, by simp, ?_⟩
  rw [if_neg (by omega)]; exact OwnI.mk rfl (by omega) (by omega) (by rw [hstep, ← List.append_assoc, hS, List.length_append]) (by simp [fX, zX, e0, e1, hstep, ← List.append_assoc, hS, insRows_append])
theorem run_l14More {n : Nat} (k : Int) (x : Net) (hk : k = 2 ∨ k = 3) (hx : x.kind ≠ 1 → ∀ s, go (n + 1) 301 [netX x] [] s = some (insOwn x.begins x.capB)) (has : x.as.length < 2 ^ 30) (hl : x.begins.length < 2 ^ 29) (s : Sup) :
 go (n + 2) 332 [iV k, netX x] [] s = some (insOwn (x.taken k) (if x.kind = 1 then some 1 else none)) := by
 have e1 : IntKind.i64.wrap (k - 2) = k - 2 := by rcases hk with rfl | rfl <;> decide
 have e2 : IntKind.i64.wrap (2 + (k - 2)) = k := by rcases hk with rfl | rfl <;> decide
 have e3 : IntKind.i64.wrap (4 + (k - 2)) = k + 2 := by rcases hk with rfl | rfl <;> decide
 obtain ⟨xk, xo, xa, xks⟩ := x; simp only [Net.kind, Net.as] at hx has ⊢
 by_cases h1 : xk = 1
 · subst h1
   have w2 := run_l14Copy (n := n) ⟨xo, xa⟩ has; simp [go_of (n := n + 1) FT_332 rfl, F332, w2, e1, e2, e3, Net.taken, Net.kind, Net.op, Net.as, insRows, Ins.row]
 · have hx := hx h1
   have rm : room ((Net.mk xk xo xa xks).begins.length + 1) 40 = true := room_of (by omega) (by omega); simp only [Net.taken, Net.kind, if_neg h1]; generalize hL : (Net.mk xk xo xa xks).begins = L at hx rm ⊢; have tk : List.take L.length (insRows L) = insRows L := List.take_of_length_le (by rw [insRows_length]; omega); simp [go_of (n := n + 1) FT_332 rfl, F332, hx, e1, e2, e3, h1, rm, insRows_length, insRows_append, insRows_one, Ins.row, ar0, tk]
theorem run_l14Net : ∀ (m : Nat) (t : Net), t.wt ≤ m → m < 2 ^ 27 → t.wrong = 0 → ∀ (n : Nat), 3 * m + 10 ≤ n → ∀ s, go n 301 [netX t] [] s = some (insOwn t.begins t.capB)
 | 0, t, h, hm, hr, n, hn, s => by have := t.wt_pos; omega
 | m + 1, .mk k op ars [], h, hm, hr, n, hn, s => by
  obtain ⟨n, rfl⟩ : ∃ k, n = k + 2 := ⟨n - 2, by omega⟩; obtain ⟨rfl, -⟩ := leaf_right hr; simp only [Net.wt] at h; have w2 := run_l14Copy (n := n) ⟨op, ars⟩ (by simp only; omega); simp [go_of (n := n + 1) FT_301 rfl, F301, w2, Net.begins, Net.capB, insRows, Ins.row]
 | m + 1, .mk k op ars (x :: r), h, hm, hr, n, hn, s => by
  obtain ⟨hk, hx, hall, hop, has, h4⟩ := kids_right hr; have hlb := len_begins (.mk k op ars (x :: r)); have hsw := (Net.mk k op ars (x :: r)).size_wt; simp only [Net.wt, netsWt] at h hsw; obtain ⟨n, rfl⟩ : ∃ k, n = k + 3 := ⟨n - 3, by omega⟩; have w1 := run_l14Net m x (by omega) (by omega) hx (n + 2) (by omega); have hxl := len_begins x; have hxs := x.size_wt; have hk1 : (k = 1) = False := eq_false (by omega); obtain ⟨xk, xo, xa, xks⟩ := x
  by_cases e4 : k = 4
  · have := h4 e4
    subst this; subst e4; simp only [Net.begins, Net.capB, if_true]; generalize Net.begins (.mk xk xo xa xks) = L at w1 hxl ⊢; generalize Net.capB (.mk xk xo xa xks) = c at w1; have rm : room (L.length + 1) 40 = true := room_of (by omega) (by omega); have tk := take_insRows L; simp [go_of (n := n + 2) FT_301 rfl, F301, w1, netRows, Net.row, rm, insRows_length, insRows_append, insRows_one, Ins.row, ar0, tk]
  · have hk4 : (k = 4) = False := eq_false e4
    have e4r : (if k = 4 then [Ins.bare 6] else netsTaken k r) = netsTaken k r := if_neg e4; simp only [Net.begins, Net.capB, e4r, if_neg e4]; have hb : ∀ y ∈ r, ∀ s, go (n + 2) 332 [iV k, netX y] [] s = some (insOwn (y.taken k) (if y.kind = 1 then some 1 else none)) := fun y hy s => by
     have hyw := netsWt_mem hy; have hyl := len_begins y; have hys := y.size_wt; have hya : y.as.length ≤ y.wt := by cases y; simp only [Net.as, Net.wt]; omega
     exact run_l14More (n := n) k y (by omega) (fun _ s => run_l14Net m y (by omega) (by omega) (hall y hy) (n + 1) (by omega) s) (by omega) (by omega) s
    have hlen := netsWt_len r; have hlr : (Net.begins (.mk xk xo xa xks)).length + (netsTaken k r).length < 2 ^ 29 := by
     simp only [Net.begins, e4r, List.length_append] at hlb; omega
    generalize hLB : Net.begins (.mk xk xo xa xks) = L at w1 hlr ⊢; generalize Net.capB (.mk xk xo xa xks) = c at w1 ⊢; simp [go_of (n := n + 2) FT_301 rfl, F301, w1, netRows, Net.row, hk1, hk4, netRows_length]; generalize hst : St.mk _ _ _ _ = st; obtain ⟨e, ⟨τ', H', g', s'⟩, hx, -, rfl, b, hb0, hbg, h3, hB⟩ := loop301 (n := n + 2) k L c op ars (.mk xk xo xa xks) r (by omega) hb hlr (by omega) (by omega) st (by simp [← hst]) (by simp [← hst]) (by simp [← hst, netRows, Net.row]) (by subst hst; exact OwnI.mk rfl (by omega) (by simp only; omega) rfl (by simp)); simp only at hbg h3 hB; clear hst
    have ec : (if r.length = 0 then c else Option.none) = (if r = [] then c else Option.none) := by cases r <;> rfl
    rw [ec] at h3; generalize (if r = [] then c else Option.none) = cc at h3 ⊢; generalize L ++ netsTaken k r = M at h3 hB ⊢; have tkM := take_insRows M; simp [hx, h3, hB, tkM]
def OwnE (st : St) (t : Nat) (L : List Ins) : Prop := ∃ b c, 0 < b ∧ b < st.g ∧ st.τ t = .w (.own b 0 L.length c) ∧ st.H b = .row none 3 (insRows L) 0
theorem OwnE.mk {st : St} {t n b : Nat} {L : List Ins} {c : Option Nat} (h2 : st.τ t = .w (.own b 0 n c)) (h0 : 0 < b) (h1 : b < st.g) (hn : n = L.length) (h3 : st.H b = .row none 3 (insRows L) 0) : OwnE st t L :=
 ⟨b, c, h0, h1, by rw [h2, hn], h3⟩
theorem OwnE.keep {st st' : St} {t : Nat} {L : List Ins} (h : OwnE st t L) (e : st'.τ t = st.τ t) (eH : ∀ b, b < st.g → st'.H b = st.H b) (hg : st.g ≤ st'.g) : OwnE st' t L := by
 obtain ⟨b, c, h0, h1, h2, h3⟩ := h; exact ⟨b, c, h0, by omega, e.trans h2, (eH b h1).trans h3⟩
theorem loop333 {n : Nat} (l : List Net) (c0 c1 c2 : W) (hc : ∀ x ∈ l, ∀ s, go n 332 [iV 2, netX x] [] s = some (insOwn (x.taken 2) (if x.kind = 1 then some 1 else none)))
 (hb : (netsTaken 2 l).length < 2 ^ 29) (hn : l.length < n) (hl : l.length < 2 ^ 40) (st : St) (h1 : st.τ 1 = .w (.ptr 0 0)) (h4 : st.τ 4 = iV 0) (hA : st.H 0 = .cells [c0, c1, c2, nsW l]) (h3 : OwnE st 3 []) :
 ∃ e st', execC (go n) mode GT false 29 n F333_L0 st = some (e, st') ∧ e ≠ .normal ∧ (e = .exit 0 ∧ OwnE st' 3 (netsTaken 2 l)) := by
 rw [F333_L0, execC_loop]; refine iter_rule (fun m st => ∃ i, i + m = l.length ∧ st.τ 1 = .w (.ptr 0 0) ∧ st.τ 4 = iV i ∧ st.H 0 = .cells [c0, c1, c2, nsW l] ∧ OwnE st 3 (netsTaken 2 (l.take i))) ?_ n l.length st hn
  ⟨0, by omega, h1, by simpa using h4, hA, by simpa [netsTaken] using h3⟩
 clear h1 h4 hA h3; rintro m ⟨τ, H, g, s⟩ ⟨i, hm, h1, h4, hA, b, ci, hb0, hbg, h3, hB⟩; simp only at h1 h4 hA hbg h3 hB; cases m with
 | zero =>
  have : i = l.length := by omega
  subst this; rw [List.take_length] at h3 hB; refine ⟨.exit 0, ?_⟩
  simp [F333_B0, h1, h4, hA]; exact OwnE.mk (by simp only [upd_at]; simpa using h3) hb0 (by simp only; omega) rfl hB
 | succ m =>
  have hlt : i < l.length := by omega
  have hlt' := ltT hlt; have hgt := List.getElem?_eq_getElem hlt; have hw := wrap_succ (i := i) (by omega); have w := hc _ (List.getElem_mem hlt); have hstep := netsTaken_take (k := 2) hgt; have hle : (netsTaken 2 (l.take (i + 1))).length ≤ (netsTaken 2 l).length := by
   conv => rhs; rw [← List.take_append_drop (i + 1) l, netsTaken_append, List.length_append]
   omega
  rw [hstep, List.length_append] at hle; obtain ⟨xk, xo, xa, xks, hx⟩ : ∃ xk xo xa xks, l[i] = .mk xk xo xa xks := by cases hq : l[i] with | mk a b c d => exact ⟨_, _, _, _, rfl⟩
  rw [hx] at hgt w hstep hle; have hrow := netRows_get hgt; generalize (if Net.kind (.mk xk xo xa xks) = 1 then some 1 else none) = cx at w; generalize Net.taken 2 (.mk xk xo xa xks) = T at w hstep hle; generalize netsTaken 2 (l.take i) = S at h3 hB hstep hle; have rm : room (S.length + T.length) 40 = true := room_of (by omega) (by omega); have al := eq_true (insRow_all T); have tkT := take_insRows T; have tkS := take_insRows S; have fX := far hbg; have zX := far (show 0 < g by omega); have e0 : (0 = b) = False := eq_false (by omega); have e1 : (b = 0) = False := eq_false (by omega); refine ⟨.normal, ?_⟩
  simp [-getElem?_pos, F333_B0, h1, h4, hA, h3, hB, hlt, hlt', hrow, w, hw, rm, al, tkT, tkS, insRows_length, fX, zX, e0, e1]; refine ⟨m, by omega, i + 1, by omega, by simp, ?_⟩
  exact OwnE.mk rfl (by omega) (by simp only; omega) (by rw [hstep, List.length_append]) (by simp [fX, zX, e0, e1, hstep, insRows_append])
theorem run_l14Behind (x : Net) (hx : NetFine x) (m : Nat) (h : x.wt ≤ m) (hm : m < 2 ^ 26) (n : Nat) (hn : 3 * m + 20 ≤ n) (s : Sup) : go n 333 [netX x] [] s = some ⟨.w (isW (netsTaken 2 x.parts)), [], []⟩ := by
 obtain ⟨n, rfl⟩ : ∃ k, n = k + 3 := ⟨n - 3, by omega⟩; have hm1 : ∀ y, y.wt ≤ m → y.wrong = 0 → ∀ s, go (n + 2) 332 [iV 2, netX y] [] s = some (insOwn (y.taken 2) (if y.kind = 1 then some 1 else none)) := fun y hy hr s => by
  have h3 := len_begins y; have h4 := y.size_wt; have hya : y.as.length ≤ y.wt := by cases y; simp only [Net.as, Net.wt]; omega
  exact run_l14More (n := n) 2 y (by omega) (fun _ s => run_l14Net m y hy (by omega) hr (n + 1) (by omega) s) (by omega) (by omega) s
 have w0 := run_noneS (n := n + 2) (by omega) x; have hp := parts_right hx; have hlp := len_taken x.parts 2; have hps := len_parts x; have hsz := x.size_wt
 by_cases h0 : x.none = true
 · have e : x.parts = [] := by unfold Net.parts; rw [if_pos h0]
   rw [e]; rw [h0] at w0; obtain ⟨k, op, ars, ks⟩ := x; simp [go_of (n := n + 2) FT_333 rfl, F333, w0, netsTaken, insRows]
 · have h0 : x.none = false := by simpa using h0
   rw [h0] at w0; have hr : x.wrong = 0 := by rcases hx with hx | hx; rw [h0] at hx; cases hx; exact hx
   have hsz0 : x.sz0 = x.size := by unfold Net.sz0; rw [h0]; rfl
   by_cases h2 : x.kind = 2
   · have e : x.parts = x.kids := by unfold Net.parts; rw [h0, if_pos h2]; rfl
     rw [e] at hp hlp hps ⊢; have hkw : ∀ y ∈ x.kids, y.wt ≤ m := fun y hy => by
      obtain ⟨k, op, ars, ks⟩ := x; simp only [Net.kids] at hy; have := netsWt_mem hy; simp only [Net.wt] at h; omega
     obtain ⟨k, op, ars, ks⟩ := x; simp only [Net.kind, Net.kids] at *; subst h2; have hlen := netsWt_len ks; simp only [Net.wt] at h hsz; simp [go_of (n := n + 2) FT_333 rfl, F333, w0]; generalize hst : St.mk _ _ _ _ = st; obtain ⟨e, ⟨τ', H', g', s'⟩, hx, -, rfl, b, c, hb0, hbg, h3, hB⟩ := loop333 (n := n + 2) ks (iW 2) (iW op) (asW ars) (fun y hy => hm1 y (hkw y hy) (hp y hy)) (by omega) (by omega) (by omega) st (by simp [← hst]) (by simp [← hst]) (by simp [← hst]) (by subst hst; exact OwnE.mk rfl (by omega) (by simp only; omega) rfl (by simp [insRows])); simp only at hbg h3 hB; clear hst; generalize netsTaken 2 ks = M at h3 hB ⊢; have tkM := take_insRows M
     simp [hx, h3, hB, tkM, insRows_length]
   · have e : x.parts = [x] := by unfold Net.parts; rw [h0, if_neg h2]; rfl
     have w1 := hm1 x h hr; rw [e, netsTaken_cons, show netsTaken 2 [] = [] by simp [netsTaken], List.append_nil]; generalize (if x.kind = 1 then some 1 else none) = cx at w1; obtain ⟨k, op, ars, ks⟩ := x; simp only [Net.kind] at h2; generalize Net.taken 2 (.mk k op ars ks) = T at w1; have tkT := take_insRows T; simp [go_of (n := n + 2) FT_333 rfl, F333, w0, w1, h2, tkT, insRows_length]
end Go.VM
