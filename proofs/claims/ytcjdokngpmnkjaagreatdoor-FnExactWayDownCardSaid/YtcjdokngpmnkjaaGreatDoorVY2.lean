/- How many bits and forks a ladder wants, reckoned. Conditions: none. -/
import Derived.Test.YtcjdokngpmnkjaaGreatDoorVQ13
import Derived.Test.YtcjdokngpmnkjaaGreatDoorVW1

namespace Go.VM
set_option linter.unusedSimpArgs false
set_option linter.unusedVariables false
set_option maxHeartbeats 16000000
theorem mx (a b : Nat) : (if (a : Int) < (b : Int) then (b : Int) else (a : Int)) = ((max a b : Nat) : Int) := by split <;> omega
theorem mx' (a b : Nat) : (if a < b then (b : Int) else (a : Int)) = ((max a b : Nat) : Int) := by split <;> omega
mutual
theorem Net.bb_wt : ∀ t : Net, t.bb ≤ t.wt
 | .mk k op ars [] => by simp only [Net.bb, Net.wt]; omega
 | .mk k op ars (x :: r) => by
  have h1 := x.bb_wt; have h2 := netsTb_wt r; simp only [Net.bb, Net.wt, netsWt]; split <;> omega
theorem netsTb_wt : ∀ l : List Net, netsTb l ≤ netsWt l + 1
 | [] => by simp [netsTb]
 | x :: r => by
  have h1 := x.bb_wt; have h2 := netsTb_wt r; simp only [netsTb, netsWt]; split <;> omega
end
theorem foldl_tb (l : List Net) : ∀ a : Nat, l.foldl (fun m x => max m x.tb) a = max a (netsTb l) := by
 induction l with
 | nil => intro a; simp [netsTb]
 | cons x r ih => intro a; rw [List.foldl_cons, ih]; simp only [netsTb, Net.tb]; omega
theorem loop295_0 {n : Nat} (l : List Net) (hc : ∀ x ∈ l, ∀ s, go n 326 [netX x] [] s = some ⟨iV ((x.tb : Nat) : Int), [], []⟩) (a0 : Nat) (hn : l.length < n) (hl : l.length < 2 ^ 40) (st : St) (h24 : st.τ 24 = .w (nsW l)) (h25 : st.τ 25 = iV l.length) (ha : st.τ 3 = iV a0) (hi : st.τ 26 = iV 0) :
 ∃ e st', execC (go n) mode GT false 36 n F295_L0 st = some (e, st') ∧ e ≠ .normal ∧ (e = .exit 1 ∧ st'.τ 3 = iV ((l.foldl (fun m x => max m (x.tb)) a0 : Nat) : Int)) := by
 rw [F295_L0, execC_loop]; refine iter_rule (fun m st => ∃ i, i + m = l.length ∧ st.τ 24 = .w (nsW l) ∧ st.τ 25 = iV l.length ∧ st.τ 3 = iV (((l.take i).foldl (fun m x => max m (x.tb)) a0 : Nat) : Int) ∧ st.τ 26 = iV i) ?_ n l.length st hn ⟨0, by omega, h24, h25, by simpa using ha, by simpa using hi⟩
 clear h24 h25 ha hi; rintro m ⟨τ, H, g, s⟩ ⟨i, hm, h24, h25, ha, hi⟩; simp only at h24 h25 ha hi; cases m with
 | zero =>
  have : i = l.length := by omega
  subst this; rw [List.take_length] at ha; refine ⟨.exit 1, ?_⟩
  simp [F295_B0, h24, h25, ha, hi]
 | succ m =>
  have hlt : i < l.length := by omega
  have hlt' := ltT hlt; have hgt := List.getElem?_eq_getElem hlt; have hmem := List.getElem_mem hlt; have hw := wrap_succ (i := i) (by omega); have hstep : ∀ y, l[i]? = some y → (l.take (i + 1)).foldl (fun m x => max m (x.tb)) a0 = max ((l.take i).foldl (fun m x => max m (x.tb)) a0) ((fun x => x.tb) y) := fun y hy => by rw [List.take_add_one, hy, List.foldl_append]; rfl
  obtain ⟨xk, xo, xa, xks, hx⟩ : ∃ xk xo xa xks, l[i] = .mk xk xo xa xks := by cases hq : l[i] with | mk a b c d => exact ⟨_, _, _, _, rfl⟩
  have w := hc _ hmem; rw [hx] at hgt w; have hstep := hstep _ hgt; have hrow := netRows_get hgt; generalize (l.take i).foldl (fun m x => max m (x.tb)) a0 = A at ha hstep; refine ⟨.normal, ?_⟩
  simp [-getElem?_pos, F295_B0, h24, h25, ha, hi, hlt, hlt', hrow, hw, mx, mx', w]; refine ⟨m, by omega, i + 1, by omega, ?_⟩
  rw [hstep]
  repeat' apply And.intro
  all_goals first | rfl | (simp; done) | omega | assumption | (simp only; omega)
theorem run_beginBits : ∀ (m : Nat) (t : Net), t.wt ≤ m → m < 2 ^ 38 → t.wrong = 0 → ∀ (n : Nat), 3 * m + 10 ≤ n → ∀ s, go n 295 [netX t] [] s = some ⟨iV ((t.bb : Nat) : Int), [], []⟩
 | 0, t, h, hm, hr, n, hn, s => by have := t.wt_pos; omega
 | m + 1, .mk k op ars [], h, hm, hr, n, hn, s => by
  obtain ⟨n, rfl⟩ : ∃ k, n = k + 1 := ⟨n - 1, by omega⟩; obtain ⟨rfl, -⟩ := leaf_right hr; simp [go_of FT_295 rfl, F295, Net.bb]
 | m + 1, .mk k op ars (x :: r), h, hm, hr, n, hn, s => by
  obtain ⟨hk, hx, hall, hop, has, h4⟩ := kids_right hr; simp only [Net.wt, netsWt] at h; obtain ⟨n, rfl⟩ : ∃ k, n = k + 3 := ⟨n - 3, by omega⟩; have w1 := run_beginBits m x (by omega) (by omega) hx (n + 2) (by omega); have hk1 : (k = 1) = False := eq_false (by omega); obtain ⟨xk, xo, xa, xks⟩ := x
  by_cases e4 : k = 4
  · have := h4 e4
    subst this; subst e4; simp [go_of (n := n + 2) FT_295 rfl, F295, w1, netRows, Net.row, Net.bb]
  · have hk4 : (k = 4) = False := eq_false e4
    have hb : ∀ y ∈ r, ∀ s, go (n + 2) 326 [netX y] [] s = some ⟨iV ((y.tb : Nat) : Int), [], []⟩ := fun y hy s => by
     have hyw := netsWt_mem hy; have w := run_beginBits m y (by omega) (by omega) (hall y hy) (n + 1) (by omega); have hbw := y.bb_wt; obtain ⟨yk, yo, ya, yks⟩ := y; unfold Net.tb
     by_cases h1 : yk = 1
     · simp [go_of FT_326 rfl, F326, h1, Net.kind]
     · have hw := wrap_succ (i := (Net.mk yk yo ya yks).bb) (by omega)
       generalize (Net.mk yk yo ya yks).bb = B at w hw; simp [go_of (n := n + 1) FT_326 rfl, F326, h1, Net.kind, w, hw]
    have hlen := netsWt_len r; simp only [Net.bb, if_neg e4]; have hnr := eq_true (len_of4 r); have hrl : ((1 : Int) ≤ (r.length : Int) + 1) = True := eq_true (by omega); rw [← foldl_tb]; generalize Net.bb (.mk xk xo xa xks) = B at w1 ⊢; simp [go_of (n := n + 2) FT_295 rfl, F295, w1, netRows, Net.row, hk1, hk4, hnr, netRows_length, hrl]; generalize hst : St.mk _ _ _ _ = st; obtain ⟨e, ⟨τ', H', g', s'⟩, hx, -, rfl, h3⟩ := loop295_0 (n := n + 2) r hb B (by omega) (by omega) st (by simp [← hst]) (by simp [← hst]) (by simp [← hst]) (by simp [← hst]); simp only at h3; clear hst; simp [hx, h3]
theorem run_takenBits (m : Nat) (y : Net) (h : y.wt ≤ m) (hm : m < 2 ^ 38) (hr : y.wrong = 0) (n : Nat) (hn : 3 * m + 11 ≤ n) (s : Sup) : go n 326 [netX y] [] s = some ⟨iV ((y.tb : Nat) : Int), [], []⟩ := by
 obtain ⟨n, rfl⟩ : ∃ k, n = k + 1 := ⟨n - 1, by omega⟩; have w := run_beginBits m y h hm hr n (by omega); have hbw := y.bb_wt; obtain ⟨yk, yo, ya, yks⟩ := y; unfold Net.tb
 by_cases h1 : yk = 1
 · simp [go_of FT_326 rfl, F326, h1, Net.kind]
 · have hw := wrap_succ (i := (Net.mk yk yo ya yks).bb) (by omega)
   generalize (Net.mk yk yo ya yks).bb = B at w hw; simp [go_of FT_326 rfl, F326, h1, Net.kind, w, hw]
theorem run_parts {n : Nat} (hn : 3 ≤ n) (t : Net) (s : Sup) : go n 327 [netX t] [] s = some ⟨.w (nsW t.parts), [], []⟩ := by
 obtain ⟨n, rfl⟩ : ∃ k, n = k + 1 := ⟨n - 1, by omega⟩; have w := run_none (n := n) (by omega) t; obtain ⟨k, op, ars, ks⟩ := t; unfold Net.parts
 by_cases h0 : Net.none (.mk k op ars ks) = true
 · rw [h0] at w
   simp [go_of FT_327 rfl, F327, w, h0, netRows]
 · have h0' : Net.none (.mk k op ars ks) = false := by simpa using h0
   rw [h0'] at w
   by_cases h2 : k = 2
   · simp [go_of FT_327 rfl, F327, w, h0', h2, Net.kind, Net.kids]
     subst h2; simp [go_of FT_327 rfl, F327, w, h0', Net.kind, Net.kids]
   · simp [go_of FT_327 rfl, F327, w, h0', h2, Net.kind, netRows, Net.row]
theorem loop296_0 {n : Nat} (l : List Net) (bq : Nat) (Bq : Box) (u9 : W) (u10 u11 : V) (hc : ∀ x ∈ l, ∀ s, go n 326 [netX x] [] s = some ⟨iV ((x.tb : Nat) : Int), [], []⟩) (a0 : Nat) (hn : l.length < n) (hl : l.length < 2 ^ 40) (st : St) (h17 : st.τ 17 = .w (nsW l)) (h18 : st.τ 18 = iV l.length) (h5 : st.τ 5 = .w (.ptr bq 0)) (h9 : st.τ 9 = .w u9) (h10 : st.τ 10 = u10) (h11 : st.τ 11 = u11) (hB : st.H bq = Bq) (hg : bq < st.g) (ha : st.τ 3 = iV a0) (hi : st.τ 19 = iV 0) :
 ∃ e st', execC (go n) mode GT false 34 n F296_L0 st = some (e, st') ∧ e ≠ .normal ∧ (e = .exit 2 ∧ st'.τ 3 = iV ((l.foldl (fun m x => max m (x.tb)) a0 : Nat) : Int) ∧ st'.τ 5 = .w (.ptr bq 0) ∧ st'.τ 9 = .w u9 ∧ st'.τ 10 = u10 ∧ st'.τ 11 = u11 ∧ st'.H bq = Bq) := by
 rw [F296_L0, execC_loop]; refine iter_rule (fun m st => ∃ i, i + m = l.length ∧ st.τ 17 = .w (nsW l) ∧ st.τ 18 = iV l.length ∧ st.τ 5 = .w (.ptr bq 0) ∧ st.τ 9 = .w u9 ∧ st.τ 10 = u10 ∧ st.τ 11 = u11 ∧ st.H bq = Bq ∧ bq < st.g ∧ st.τ 3 = iV (((l.take i).foldl (fun m x => max m (x.tb)) a0 : Nat) : Int) ∧ st.τ 19 = iV i) ?_ n l.length st hn ⟨0, by omega, h17, h18, h5, h9, h10, h11, hB, hg, by simpa using ha, by simpa using hi⟩
 clear h17 h18 h5 h9 h10 h11 hB hg ha hi; rintro m ⟨τ, H, g, s⟩ ⟨i, hm, h17, h18, h5, h9, h10, h11, hB, hg, ha, hi⟩; simp only at h17 h18 h5 h9 h10 h11 hB hg ha hi; cases m with
 | zero =>
  have : i = l.length := by omega
  subst this; rw [List.take_length] at ha; refine ⟨.exit 2, ?_⟩
  simp [F296_B0, h17, h18, h5, h9, h10, h11, hB, hg, ha, hi]
  try omega
 | succ m =>
  have hlt : i < l.length := by omega
  have hlt' := ltT hlt; have hgt := List.getElem?_eq_getElem hlt; have hmem := List.getElem_mem hlt; have hw := wrap_succ (i := i) (by omega); have hstep : ∀ y, l[i]? = some y → (l.take (i + 1)).foldl (fun m x => max m (x.tb)) a0 = max ((l.take i).foldl (fun m x => max m (x.tb)) a0) ((fun x => x.tb) y) := fun y hy => by rw [List.take_add_one, hy, List.foldl_append]; rfl
  obtain ⟨xk, xo, xa, xks, hx⟩ : ∃ xk xo xa xks, l[i] = .mk xk xo xa xks := by cases hq : l[i] with | mk a b c d => exact ⟨_, _, _, _, rfl⟩
  have w := hc _ hmem; rw [hx] at hgt w; have hstep := hstep _ hgt; have hrow := netRows_get hgt; have fX := far hg; generalize (l.take i).foldl (fun m x => max m (x.tb)) a0 = A at ha hstep; refine ⟨.normal, ?_⟩
  simp [-getElem?_pos, F296_B0, h17, h18, h5, h9, h10, h11, hB, hg, ha, hi, hlt, hlt', hrow, hw, mx, mx', w, fX]; refine ⟨m, by omega, i + 1, by omega, ?_⟩
  rw [hstep]
  repeat' apply And.intro
  all_goals first | rfl | (simp; done) | omega | assumption | (simp only; omega)
theorem armsTb_fold (l : List Arm) : ∀ a : Nat, l.foldl (fun m x => max m (max (netsTb x.net.parts) x.tb)) a = max a (armsTb l) := by
 induction l with
 | nil => intro a; simp [armsTb]
 | cons x r ih => intro a; rw [List.foldl_cons, ih]; simp only [armsTb]; omega
theorem parts_wt (t : Net) : netsWt t.parts ≤ t.wt := by
 unfold Net.parts; split
 · simp [netsWt]
 · split
   · obtain ⟨k, op, ars, ks⟩ := t
     simp only [Net.kids, Net.wt]; omega
   · simp [netsWt]
theorem parts_mem_wt {t y : Net} (h : y ∈ t.parts) : y.wt ≤ t.wt := by
 have := netsWt_mem h; have := parts_wt t; omega
theorem loop296_1 {n : Nat} (N : Nat) (l : List Arm) (c0 c1 c2 c3 c4 : W) (hc : ∀ x ∈ l, ∀ s, go n 296 [armX x] [] s = some ⟨iV ((x.tb : Nat) : Int), [], []⟩) (hp : ∀ x ∈ l, ∀ y ∈ x.net.parts, ∀ s, go n 326 [netX y] [] s = some ⟨iV ((y.tb : Nat) : Int), [], []⟩) (hpl : ∀ x ∈ l, x.net.parts.length < n ∧ x.net.parts.length < 2 ^ 40) (h3n : 3 ≤ n) (a0 : Nat) (hn : l.length < n) (hl : l.length < 2 ^ 40) (st : St)
 (h1 : st.τ 1 = .w (.ptr 0 0)) (h9 : st.τ 9 = .w (ksW l)) (h10 : st.τ 10 = iV l.length) (ha : st.τ 3 = iV a0) (hi : st.τ 11 = iV 0) :
 ∃ e st', execC (go n) mode GT false 34 n F296_L1 st = some (e, st') ∧ e ≠ .normal ∧ (e = .exit 0 ∧ st'.τ 3 = iV ((l.foldl (fun m x => max m (max (netsTb x.net.parts) x.tb)) a0 : Nat) : Int)) := by
 rw [F296_L1, execC_loop]; refine iter_rule (fun m st => ∃ i, i + m = l.length ∧ st.τ 9 = .w (ksW l) ∧ st.τ 10 = iV l.length ∧ st.τ 3 = iV (((l.take i).foldl (fun m x => max m (max (netsTb x.net.parts) x.tb)) a0 : Nat) : Int) ∧ st.τ 11 = iV i) ?_ n l.length st hn ⟨0, by omega, h9, h10, by simpa using ha, by simpa using hi⟩
 clear h1 h9 h10 ha hi; rintro m ⟨τ, H, g, s⟩ ⟨i, hm, h9, h10, ha, hi⟩; simp only at h9 h10 ha hi; cases m with
 | zero =>
  have : i = l.length := by omega
  subst this; rw [List.take_length] at ha; refine ⟨.exit 0, ?_⟩
  simp [F296_B1, h9, h10, ha, hi]
 | succ m =>
  have hlt : i < l.length := by omega
  have hlt' := ltT hlt; have hgt := List.getElem?_eq_getElem hlt; have hmem := List.getElem_mem hlt; have hw := wrap_succ (i := i) (by omega); have hstep : ∀ y, l[i]? = some y → (l.take (i + 1)).foldl (fun m x => max m (max (netsTb x.net.parts) x.tb)) a0 = max ((l.take i).foldl (fun m x => max m (max (netsTb x.net.parts) x.tb)) a0) (max (netsTb y.net.parts) y.tb) := fun y hy => by rw [List.take_add_one, hy, List.foldl_append]; rfl
  obtain ⟨xk, xo, xa, xns, xcs, xks, hx⟩ : ∃ xk xo xa xns xcs xks, l[i] = .mk (.mk xk xo xa xns) xcs xks := by
   cases hq : l[i] with | mk nn cs ks => cases nn; exact ⟨_, _, _, _, _, _, rfl⟩
  have w := hc _ hmem; have wp := hp _ hmem; have wl := hpl _ hmem; rw [hx] at hgt w wp wl; have hstep := hstep _ hgt; have hrow := armRows_get hgt; rw [show Arm.net (.mk (.mk xk xo xa xns) xcs xks) = .mk xk xo xa xns from rfl] at wp wl hstep; have wq := run_parts h3n (.mk xk xo xa xns); generalize Net.parts (.mk xk xo xa xns) = Q at wp wl wq hstep; generalize (l.take i).foldl (fun m x => max m (max (netsTb x.net.parts) x.tb)) a0 = A at ha hstep; have q1 := take_netRows Q; refine ⟨.normal, ?_⟩
  simp [-getElem?_pos, F296_B1, h9, h10, ha, hi, hlt, hlt', hrow, wq]; generalize hst : St.mk _ _ _ _ = st; obtain ⟨e, ⟨τ', H', g', s'⟩, hx2, -, rfl, k3, k5, k9, k10, k11, kB⟩ := loop296_0 (n := n) Q (g + 64 + 128) (.cells [iW xk, iW xo, asW xa, nsW xns, csW xcs, ksW xks]) (ksW l) (iV l.length) (iV i) wp A wl.1 wl.2 st (by simp [← hst]) (by simp [← hst]) (by simp [← hst]) (by simp [← hst, h9]) (by simp [← hst, h10]) (by simp [← hst, hi]) (by simp [← hst]) (by simp [← hst]; try omega) (by simp [← hst, ha]) (by simp [← hst]); simp only at k3 k5 k9 k10 k11 kB; clear hst; rw [foldl_tb] at k3; simp [-getElem?_pos, hx2, k3, k5, k9, k10, k11, kB, w, hw, mx, mx']
  refine ⟨m, by omega, i + 1, by omega, ?_⟩
  rw [hstep]
  repeat' apply And.intro
  all_goals first | rfl | (simp; done) | omega | assumption | (simp only; omega)
theorem run_tailBits : ∀ (m : Nat) (a : Arm), a.wt ≤ m → m < 2 ^ 37 → a.wrong false = 0 → ∀ (n : Nat), 3 * m + 20 ≤ n → ∀ s, go n 296 [armX a] [] s = some ⟨iV ((a.tb : Nat) : Int), [], []⟩
 | 0, a, h, hm, hr, n, hn, s => by have := a.wt_pos; omega
 | m + 1, .mk (.mk k op ars nks) cs ks, h, hm, hr, n, hn, s => by
  obtain ⟨-, -, -, -, hk⟩ := arm_right hr; have hk' := (armsWrong_all _).1 hk; obtain ⟨n, rfl⟩ : ∃ k, n = k + 1 := ⟨n - 1, by omega⟩; have hnp := (Net.mk k op ars nks).wt_pos; simp only [Arm.wt] at h; have hlen := armsWt_len ks; have hc : ∀ x ∈ ks, ∀ s, go n 296 [armX x] [] s = some ⟨iV ((x.tb : Nat) : Int), [], []⟩ := fun x hx s => run_tailBits m x (by have := armsWt_mem hx; omega) (by omega) (hk' x hx) n (by omega) s
  have hxw : ∀ x ∈ ks, x.net.wt ≤ m := fun x hx => by
   have := armsWt_mem hx; obtain ⟨xn, xc, xk⟩ := x; simp only [Arm.wt, Arm.net] at this ⊢; omega
  have hp : ∀ x ∈ ks, ∀ y ∈ x.net.parts, ∀ s, go n 326 [netX y] [] s = some ⟨iV ((y.tb : Nat) : Int), [], []⟩ := fun x hx y hy s =>
   run_takenBits m y (by have := parts_mem_wt hy; have := hxw x hx; omega) (by omega) (parts_right (by obtain ⟨xn, xc, xk⟩ := x; exact (arm_right (hk' _ hx)).2.1) y hy) n (by omega) s
  have hpl : ∀ x ∈ ks, x.net.parts.length < n ∧ x.net.parts.length < 2 ^ 40 := fun x hx => by
   have h1 := netsWt_len x.net.parts; have h2 := parts_wt x.net; have h3 := hxw x hx; omega
  simp only [Arm.tb]; rw [← armsTb_fold]; simp [go_of (n := n) FT_296 rfl, F296]; generalize hst : St.mk _ _ _ _ = st; obtain ⟨e, ⟨τ', H', g', s'⟩, hx, -, rfl, h3⟩ := loop296_1 (n := n) 0 ks .nil .nil .nil .nil .nil hc hp hpl (by omega) 1 (by omega) (by omega) st (by simp [← hst]) (by simp [← hst]) (by simp [← hst]) (by simp [← hst]) (by simp [← hst]); simp only at h3; clear hst; simp [hx, h3]
def fkF (N : Nat) (l : List Arm) (i : Nat) : Nat := match l[i]? with | some a => if i + 1 < N then a.forks + 1 else a.forks | none => 0
theorem armsForks_snoc : ∀ (l : List Arm) (N : Nat), N = l.length → (List.range N).foldl (fun m i => max m (fkF N l i)) 0 = armsForks l := by
 have key : ∀ (l pre : List Arm) (a : Nat), (List.range' pre.length l.length).foldl (fun m i => max m (fkF (pre.length + l.length) (pre ++ l) i)) a = max a (armsForks l) := by
  intro l
  induction l with
  | nil => intro pre a; simp [armsForks]
  | cons x r ih =>
   intro pre a; have h := ih (pre ++ [x]) (max a (fkF (pre.length + (x :: r).length) (pre ++ x :: r) pre.length)); simp only [List.length_append, List.length_cons, List.length_nil, Nat.zero_add, List.append_assoc, List.singleton_append] at h; rw [show pre.length + (x :: r).length = pre.length + 1 + r.length by simp only [List.length_cons]; omega]; simp only [List.length_cons, List.range'_succ, List.foldl_cons]; rw [show pre.length + (r.length + 1) = pre.length + 1 + r.length by omega] at h; rw [h]; have e : fkF (pre.length + 1 + r.length) (pre ++ x :: r) pre.length = if r.length = 0 then x.forks else x.forks + 1 := by
    unfold fkF; simp only [List.getElem?_append_right (Nat.le_refl _), Nat.sub_self, List.getElem?_cons_zero]
    by_cases h0 : r.length = 0
    · rw [if_neg (by omega), if_pos h0]
    · rw [if_pos (by omega), if_neg h0]
   rw [e]; simp only [armsForks]; omega
 intro l N hN; subst hN; have := key l [] 0; simp only [List.length_nil, Nat.zero_add, List.nil_append] at this; rw [List.range_eq_range', this]; omega
mutual
theorem Arm.forks_wt : ∀ a : Arm, a.forks ≤ a.wt
 | .mk n cs ks => by have := armsForks_wt ks; simp only [Arm.forks, Arm.wt]; omega
theorem armsForks_wt : ∀ l : List Arm, armsForks l ≤ armsWt l + 1
 | [] => by simp [armsForks]
 | a :: r => by
  have h1 := a.forks_wt; have h2 := armsForks_wt r; simp only [armsForks, armsWt]; split <;> omega
end
theorem loop309 {n : Nat} (l : List Arm) (c0 c1 c2 c3 c4 : W) (hc : ∀ x ∈ l, ∀ s, go n 309 [armX x] [] s = some ⟨iV ((x.forks : Nat) : Int), [], []⟩) (hw : armsWt l < 2 ^ 38) (hn : l.length < n) (hl : l.length < 2 ^ 40) (st : St) (h1 : st.τ 1 = .w (.ptr 0 0)) (h8 : st.τ 8 = .w (ksW l)) (h9 : st.τ 9 = iV l.length) (hA : st.H 0 = .cells [c0, c1, c2, c3, c4, ksW l]) (hg : 0 < st.g) (ha : st.τ 3 = iV 0) (hi : st.τ 10 = iV 0) :
 ∃ e st', execC (go n) mode GT false 30 n F309_L0 st = some (e, st') ∧ e ≠ .normal ∧ (e = .exit 0 ∧ st'.τ 3 = iV ((armsForks l : Nat) : Int)) := by
 rw [F309_L0, execC_loop]; refine iter_rule (fun m st => ∃ i, i + m = l.length ∧ st.τ 1 = .w (.ptr 0 0) ∧ st.τ 8 = .w (ksW l) ∧ st.τ 9 = iV l.length ∧ st.H 0 = .cells [c0, c1, c2, c3, c4, ksW l] ∧ 0 < st.g ∧ st.τ 3 = iV (((List.range i).foldl (fun m i => max m (fkF l.length l i)) 0 : Nat) : Int) ∧ st.τ 10 = iV i) ?_ n l.length st hn ⟨0, by omega, h1, h8, h9, hA, hg, by simpa using ha, by simpa using hi⟩
 clear h1 h8 h9 hA hg ha hi; rintro m ⟨τ, H, g, s⟩ ⟨i, hm, h1, h8, h9, hA, hg, ha, hi⟩; simp only at h1 h8 h9 hA hg ha hi; cases m with
 | zero =>
  have : i = l.length := by omega
  subst this; rw [armsForks_snoc l _ rfl] at ha; refine ⟨.exit 0, ?_⟩
  simp [F309_B0, h8, h9, ha, hi]
 | succ m =>
  have hlt : i < l.length := by omega
  have hlt' := ltT hlt; have hgt := List.getElem?_eq_getElem hlt; have hmem := List.getElem_mem hlt; have hwi := wrap_succ (i := i) (by omega); have hwt := armsWt_mem hmem; have w := hc _ hmem; have hfw := (l[i]).forks_wt; have hstep : (List.range (i + 1)).foldl (fun m i => max m (fkF l.length l i)) 0 = max ((List.range i).foldl (fun m i => max m (fkF l.length l i)) 0) (fkF l.length l i) := by
   rw [List.range_succ, List.foldl_append]; rfl
  have hfk : fkF l.length l i = if i + 1 < l.length then (l[i]).forks + 1 else (l[i]).forks := by unfold fkF; rw [hgt]
  obtain ⟨xk, xo, xa, xns, xcs, xks, hx⟩ : ∃ xk xo xa xns xcs xks, l[i] = .mk (.mk xk xo xa xns) xcs xks := by
   cases hq : l[i] with | mk nn cs ks => cases nn; exact ⟨_, _, _, _, _, _, rfl⟩
  rw [hx] at hgt w hfw hwt hfk; have hrow := armRows_get hgt; generalize Arm.forks (.mk (.mk xk xo xa xns) xcs xks) = F at w hfw hfk; generalize (List.range i).foldl (fun m i => max m (fkF l.length l i)) 0 = A at ha hstep; have hsub : IntKind.i64.wrap ((l.length : Int) - 1) = (l.length : Int) - 1 := wrap_id (by omega) (by omega); have zX := far hg; refine ⟨.normal, ?_⟩
  by_cases hlast : i + 1 < l.length
  · have hli : ((i : Int) < (l.length : Int) - 1) = True := eq_true (by omega)
    rw [if_pos hlast] at hfk; have hwF := wrap_succ (i := F) (by omega); simp [-getElem?_pos, F309_B0, h1, h8, h9, hA, ha, hi, hlt, hlt', hrow, w, hwi, hsub, hli, hwF, zX]; refine ⟨m, by omega, i + 1, by omega, ?_⟩
    rw [hstep, hfk]
    repeat' apply And.intro
    all_goals first | rfl | (simp; done) | omega | assumption | (simp only; omega) | skip
  · have hli : ((i : Int) < (l.length : Int) - 1) = False := eq_false (by omega)
    rw [if_neg hlast] at hfk; simp [-getElem?_pos, F309_B0, h1, h8, h9, hA, ha, hi, hlt, hlt', hrow, w, hwi, hsub, hli, mx, mx', zX]; refine ⟨m, by omega, i + 1, by omega, ?_⟩
    rw [hstep, hfk]
    repeat' apply And.intro
    all_goals first | rfl | (simp; done) | omega | assumption | (simp only; omega) | skip
theorem run_forks : ∀ (m : Nat) (a : Arm), a.wt ≤ m → m < 2 ^ 37 → ∀ (n : Nat), 2 * m + 10 ≤ n → ∀ s, go n 309 [armX a] [] s = some ⟨iV ((a.forks : Nat) : Int), [], []⟩
 | 0, a, h, hm, n, hn, s => by have := a.wt_pos; omega
 | m + 1, .mk (.mk k op ars nks) cs ks, h, hm, n, hn, s => by
  obtain ⟨n, rfl⟩ : ∃ k, n = k + 1 := ⟨n - 1, by omega⟩; have hnp := (Net.mk k op ars nks).wt_pos; simp only [Arm.wt] at h; have hlen := armsWt_len ks; have hc : ∀ x ∈ ks, ∀ s, go n 309 [armX x] [] s = some ⟨iV ((x.forks : Nat) : Int), [], []⟩ := fun x hx s => run_forks m x (by have := armsWt_mem hx; omega) (by omega) n (by omega) s
  simp only [Arm.forks]; simp [go_of (n := n) FT_309 rfl, F309]; generalize hst : St.mk _ _ _ _ = st; obtain ⟨e, ⟨τ', H', g', s'⟩, hx, -, rfl, h3⟩ := loop309 (n := n) ks (iW k) (iW op) (asW ars) (nsW nks) (csW cs) hc (by omega) (by omega) (by omega) st (by simp [← hst]) (by simp [← hst]) (by simp [← hst]) (by simp [← hst]) (by simp [← hst]) (by simp [← hst]) (by simp [← hst]); simp only at h3; clear hst; simp [hx, h3]
theorem run_greater {n : Nat} (a b : Nat) (s : Sup) : go (n + 1) 294 [iV (a : Int), iV (b : Int)] [] s = some ⟨iV ((max a b : Nat) : Int), [], []⟩ := by
 by_cases h : b < a
 · have e : max a b = a := by omega
   simp [go_of FT_294 rfl, F294, h, e]
 · have e : max a b = b := by omega
   simp [go_of FT_294 rfl, F294, h, e]
theorem loop292 {n : Nat} (l : List Net) (y : Net) (c0 c1 c2 : W) (hc : ∀ x ∈ l, ∀ s, go n 325 [netX x] [] s = some ⟨iV ((x.tb : Nat) : Int), [], []⟩) (a0 : Nat) (h1n : 1 ≤ n) (hn : l.length < n) (hl : l.length < 2 ^ 40) (st : St) (h1 : st.τ 1 = .w (.ptr 0 0)) (hA : st.H 0 = .cells [c0, c1, c2, nsW (y :: l)]) (ha : st.τ 3 = iV a0) (hi : st.τ 4 = iV 1) :
 ∃ e st', execC (go n) mode GT false 37 n F292_L0 st = some (e, st') ∧ e ≠ .normal ∧ (e = .exit 1 ∧ st'.τ 3 = iV ((l.foldl (fun m x => max m x.tb) a0 : Nat) : Int)) := by
 rw [F292_L0, execC_loop]; refine iter_rule (fun m st => ∃ i, i + m = l.length ∧ st.τ 1 = .w (.ptr 0 0) ∧ st.H 0 = .cells [c0, c1, c2, nsW (y :: l)] ∧ st.τ 3 = iV (((l.take i).foldl (fun m x => max m x.tb) a0 : Nat) : Int) ∧ st.τ 4 = iV ((i + 1 : Nat) : Int)) ?_ n l.length st hn ⟨0, by omega, h1, hA, by simpa using ha, by simpa using hi⟩
 clear h1 hA ha hi; rintro m ⟨τ, H, g, s⟩ ⟨i, hm, h1, hA, ha, hi⟩; simp only at h1 hA ha hi; have hyl : (y :: l).length = l.length + 1 := rfl; cases m with
 | zero =>
  have : i = l.length := by omega
  subst this; rw [List.take_length] at ha; refine ⟨.exit 1, ?_⟩
  simp [F292_B0, h1, hA, ha, hi]
 | succ m =>
  have hlt : i < l.length := by omega
  have hlt' := ltT hlt; have hgt := List.getElem?_eq_getElem hlt; have hmem := List.getElem_mem hlt; have hw := wrap_succ (i := i + 1) (by omega); have hstep : ∀ y, l[i]? = some y → (l.take (i + 1)).foldl (fun m x => max m (x.tb)) a0 = max ((l.take i).foldl (fun m x => max m (x.tb)) a0) y.tb := fun y hy => by rw [List.take_add_one, hy, List.foldl_append]; rfl
  have w := hc _ hmem; have wg := fun a b s => run_greater (n := n - 1) a b s
  rw [show n - 1 + 1 = n by omega] at wg; obtain ⟨xk, xo, xa, xks, hx⟩ : ∃ xk xo xa xks, l[i] = .mk xk xo xa xks := by cases hq : l[i] with | mk a b c d => exact ⟨_, _, _, _, rfl⟩
  rw [hx] at hgt w; have hstep := hstep _ hgt; have hrow := netRows_get (l := y :: l) (i := i + 1) (show (y :: l)[i + 1]? = _ from hgt); generalize (l.take i).foldl (fun m x => max m (x.tb)) a0 = A at ha hstep; generalize Net.tb (.mk xk xo xa xks) = F at w hstep; have hi2 : IntKind.i64.wrap ((i : Int) + 1 + 1) = ((i + 1 + 1 : Nat) : Int) := by have := hw; simpa using this
  have hlt2 : ((i : Int) + 1 < (l.length : Int) + 1) = True := eq_true (by omega); have ht1 : ((i : Int) + 1).toNat = i + 1 := by omega
  have hnn : ((0 : Int) ≤ (i : Int) + 1) = True := eq_true (by omega); refine ⟨.normal, ?_⟩
  simp [-getElem?_pos, -List.getElem?_cons_succ, F292_B0, h1, hA, ha, hi, hlt, hlt', hlt2, ht1, hnn, hrow, w, wg, hw, hi2]; refine ⟨m, by omega, i + 1, by omega, ?_⟩
  rw [hstep]
  repeat' apply And.intro
  all_goals first | rfl | (simp; done) | omega | assumption | (simp only; omega)
theorem run_l14NetBits : ∀ (m : Nat) (t : Net), t.wt ≤ m → m < 2 ^ 38 → t.wrong = 0 → ∀ (n : Nat), 3 * m + 10 ≤ n → ∀ s, go n 292 [netX t] [] s = some ⟨iV ((t.bb : Nat) : Int), [], []⟩
 | 0, t, h, hm, hr, n, hn, s => by have := t.wt_pos; omega
 | m + 1, .mk k op ars [], h, hm, hr, n, hn, s => by
  obtain ⟨n, rfl⟩ : ∃ k, n = k + 1 := ⟨n - 1, by omega⟩; obtain ⟨rfl, -⟩ := leaf_right hr; simp [go_of FT_292 rfl, F292, Net.bb]
 | m + 1, .mk k op ars (x :: r), h, hm, hr, n, hn, s => by
  obtain ⟨hk, hx, hall, hop, has, h4⟩ := kids_right hr; simp only [Net.wt, netsWt] at h; obtain ⟨n, rfl⟩ : ∃ k, n = k + 3 := ⟨n - 3, by omega⟩; have w1 := run_l14NetBits m x (by omega) (by omega) hx (n + 2) (by omega); have hk1 : (k = 1) = False := eq_false (by omega); obtain ⟨xk, xo, xa, xks⟩ := x
  by_cases e4 : k = 4
  · have := h4 e4
    subst this; subst e4; simp [go_of (n := n + 2) FT_292 rfl, F292, w1, netRows, Net.row, Net.bb]
  · have hk4 : (k = 4) = False := eq_false e4
    have hb : ∀ y ∈ r, ∀ s, go (n + 2) 325 [netX y] [] s = some ⟨iV ((y.tb : Nat) : Int), [], []⟩ := fun y hy s => by
     have hyw := netsWt_mem hy; have w := run_l14NetBits m y (by omega) (by omega) (hall y hy) (n + 1) (by omega); have hbw := y.bb_wt; obtain ⟨yk, yo, ya, yks⟩ := y; unfold Net.tb
     by_cases h1 : yk = 1
     · simp [go_of FT_325 rfl, F325, h1, Net.kind]
     · have hw : IntKind.i64.wrap (1 + ((Net.mk yk yo ya yks).bb : Int)) = (((Net.mk yk yo ya yks).bb + 1 : Nat) : Int) := by rw [Int.add_comm]; exact wrap_succ (by omega)
       generalize (Net.mk yk yo ya yks).bb = B at w hw; simp [go_of (n := n + 1) FT_325 rfl, F325, h1, Net.kind, w, hw]
    have hlen := netsWt_len r; simp only [Net.bb, if_neg e4]; rw [← foldl_tb]; generalize Net.bb (.mk xk xo xa xks) = B at w1 ⊢; simp [go_of (n := n + 2) FT_292 rfl, F292, w1, netRows, Net.row, hk1, hk4]; generalize hst : St.mk _ _ _ _ = st; obtain ⟨e, ⟨τ', H', g', s'⟩, hx, -, rfl, h3⟩ := loop292 (n := n + 2) r (.mk xk xo xa xks) (iW k) (iW op) (asW ars) hb B (by omega) (by omega) (by omega) st (by simp [← hst]) (by simp [← hst, netRows, Net.row]) (by simp [← hst]) (by simp [← hst]); simp only at h3; clear hst; simp [hx, h3]
theorem run_l14MoreBits (m : Nat) (y : Net) (h : y.wt ≤ m) (hm : m < 2 ^ 38) (hr : y.wrong = 0) (n : Nat) (hn : 3 * m + 11 ≤ n) (s : Sup) : go n 325 [netX y] [] s = some ⟨iV ((y.tb : Nat) : Int), [], []⟩ := by
 obtain ⟨n, rfl⟩ : ∃ k, n = k + 1 := ⟨n - 1, by omega⟩; have w := run_l14NetBits m y h hm hr n (by omega); have hbw := y.bb_wt; obtain ⟨yk, yo, ya, yks⟩ := y; unfold Net.tb
 by_cases h1 : yk = 1
 · simp [go_of FT_325 rfl, F325, h1, Net.kind]
 · have hw : IntKind.i64.wrap (1 + ((Net.mk yk yo ya yks).bb : Int)) = (((Net.mk yk yo ya yks).bb + 1 : Nat) : Int) := by rw [Int.add_comm]; exact wrap_succ (by omega)
   generalize (Net.mk yk yo ya yks).bb = B at w hw; simp [go_of FT_325 rfl, F325, h1, Net.kind, w, hw]
theorem loop334 {n : Nat} (l : List Arm) (c0 c1 c2 c3 c4 : W) (hc : ∀ x ∈ l, ∀ s, go n 334 [armX x] [] s = some ⟨iV ((x.forks : Nat) : Int), [], []⟩) (hw : armsWt l < 2 ^ 38) (h1n : 1 ≤ n) (hn : l.length < n) (hl : l.length < 2 ^ 40) (st : St) (h1 : st.τ 1 = .w (.ptr 0 0)) (h4 : st.τ 4 = iV l.length) (hA : st.H 0 = .cells [c0, c1, c2, c3, c4, ksW l]) (hg : 0 < st.g) (ha : st.τ 3 = iV 0) (hi : st.τ 5 = iV 0) :
 ∃ e st', execC (go n) mode GT false 31 n F334_L0 st = some (e, st') ∧ e ≠ .normal ∧ (e = .exit 0 ∧ st'.τ 3 = iV ((armsForks l : Nat) : Int)) := by
 rw [F334_L0, execC_loop]; refine iter_rule (fun m st => ∃ i, i + m = l.length ∧ st.τ 1 = .w (.ptr 0 0) ∧ st.τ 4 = iV l.length ∧ st.H 0 = .cells [c0, c1, c2, c3, c4, ksW l] ∧ 0 < st.g ∧ st.τ 3 = iV (((List.range i).foldl (fun m i => max m (fkF l.length l i)) 0 : Nat) : Int) ∧ st.τ 5 = iV i) ?_ n l.length st hn ⟨0, by omega, h1, h4, hA, hg, by simpa using ha, by simpa using hi⟩
 clear h1 h4 hA hg ha hi; rintro m ⟨τ, H, g, s⟩ ⟨i, hm, h1, h4, hA, hg, ha, hi⟩; simp only at h1 h4 hA hg ha hi; cases m with
 | zero =>
  have : i = l.length := by omega
  subst this; rw [armsForks_snoc l _ rfl] at ha; refine ⟨.exit 0, ?_⟩
  simp [F334_B0, h4, ha, hi]
 | succ m =>
  have hlt : i < l.length := by omega
  have hlt' := ltT hlt; have hgt := List.getElem?_eq_getElem hlt; have hmem := List.getElem_mem hlt; have hwi := wrap_succ (i := i) (by omega); have hwt := armsWt_mem hmem; have w := hc _ hmem; have hfw := (l[i]).forks_wt; have wg := fun a b s => run_greater (n := n - 1) a b s
  rw [show n - 1 + 1 = n by omega] at wg; have hstep : (List.range (i + 1)).foldl (fun m i => max m (fkF l.length l i)) 0 = max ((List.range i).foldl (fun m i => max m (fkF l.length l i)) 0) (fkF l.length l i) := by
   rw [List.range_succ, List.foldl_append]; rfl
  have hfk : fkF l.length l i = if i + 1 < l.length then (l[i]).forks + 1 else (l[i]).forks := by unfold fkF; rw [hgt]
  obtain ⟨xk, xo, xa, xns, xcs, xks, hx⟩ : ∃ xk xo xa xns xcs xks, l[i] = .mk (.mk xk xo xa xns) xcs xks := by
   cases hq : l[i] with | mk nn cs ks => cases nn; exact ⟨_, _, _, _, _, _, rfl⟩
  rw [hx] at hgt w hfw hwt hfk; have hrow := armRows_get hgt; generalize Arm.forks (.mk (.mk xk xo xa xns) xcs xks) = F at w hfw hfk; generalize (List.range i).foldl (fun m i => max m (fkF l.length l i)) 0 = A at ha hstep; have hsub : IntKind.i64.wrap ((l.length : Int) - 1) = (l.length : Int) - 1 := wrap_id (by omega) (by omega); have zX := far hg; refine ⟨.normal, ?_⟩
  by_cases hlast : i + 1 < l.length
  · have hli : ((i : Int) < (l.length : Int) - 1) = True := eq_true (by omega)
    rw [if_pos hlast] at hfk; have hwF := wrap_succ (i := F) (by omega); have wg1 := wg A (F + 1); have ec : ((F + 1 : Nat) : Int) = (F : Int) + 1 := by omega
    rw [ec] at wg1; rw [ec] at hwF; simp [-getElem?_pos, F334_B0, h1, h4, hA, ha, hi, hlt, hlt', hrow, w, wg1, hwi, hsub, hli, hwF, zX]; refine ⟨m, by omega, i + 1, by omega, ?_⟩
    rw [hstep, hfk]
    repeat' apply And.intro
    all_goals first | rfl | (simp; done) | omega | assumption | (simp only; omega)
  · have hli : ((i : Int) < (l.length : Int) - 1) = False := eq_false (by omega)
    rw [if_neg hlast] at hfk; simp [-getElem?_pos, F334_B0, h1, h4, hA, ha, hi, hlt, hlt', hrow, w, wg, hwi, hsub, hli, zX]; refine ⟨m, by omega, i + 1, by omega, ?_⟩
    rw [hstep, hfk]
    repeat' apply And.intro
    all_goals first | rfl | (simp; done) | omega | assumption | (simp only; omega)
theorem run_l14Forks : ∀ (m : Nat) (a : Arm), a.wt ≤ m → m < 2 ^ 37 → ∀ (n : Nat), 2 * m + 10 ≤ n → ∀ s, go n 334 [armX a] [] s = some ⟨iV ((a.forks : Nat) : Int), [], []⟩
 | 0, a, h, hm, n, hn, s => by have := a.wt_pos; omega
 | m + 1, .mk (.mk k op ars nks) cs ks, h, hm, n, hn, s => by
  obtain ⟨n, rfl⟩ : ∃ k, n = k + 1 := ⟨n - 1, by omega⟩; have hnp := (Net.mk k op ars nks).wt_pos; simp only [Arm.wt] at h; have hlen := armsWt_len ks; have hc : ∀ x ∈ ks, ∀ s, go n 334 [armX x] [] s = some ⟨iV ((x.forks : Nat) : Int), [], []⟩ := fun x hx s => run_l14Forks m x (by have := armsWt_mem hx; omega) (by omega) n (by omega) s
  simp only [Arm.forks]; simp [go_of (n := n) FT_334 rfl, F334]; generalize hst : St.mk _ _ _ _ = st; obtain ⟨e, ⟨τ', H', g', s'⟩, hx, -, rfl, h3⟩ := loop334 (n := n) ks (iW k) (iW op) (asW ars) (nsW nks) (csW cs) hc (by omega) (by omega) (by omega) (by omega) st (by simp [← hst]) (by simp [← hst]) (by simp [← hst]) (by simp [← hst]) (by simp [← hst]) (by simp [← hst]); simp only at h3; clear hst; simp [hx, h3]
end Go.VM
