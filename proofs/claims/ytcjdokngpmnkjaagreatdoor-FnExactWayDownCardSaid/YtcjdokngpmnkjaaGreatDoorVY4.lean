/- How many bits a whole ladder wants, reckoned. Conditions: none. -/
import Derived.Test.YtcjdokngpmnkjaaGreatDoorVY11

namespace Go.VM
set_option linter.unusedSimpArgs false
set_option linter.unusedVariables false
set_option maxHeartbeats 16000000
theorem mx3 (a b c : Nat) : (if (if a < b then (b : Int) else (a : Int)) < (c : Int) then (c : Int) else (if a < b then (b : Int) else (a : Int))) = ((max a (max b c) : Nat) : Int) := by split <;> split <;> omega
theorem loop269_0 {n : Nat} (l : List Arm) (hb : ∀ x ∈ l, ∀ s, go n 295 [netX x.net] [] s = some ⟨iV ((x.net.bb : Nat) : Int), [], []⟩) (hc : ∀ x ∈ l, ∀ s, go n 296 [armX x] [] s = some ⟨iV ((x.tb : Nat) : Int), [], []⟩) (a0 : Nat) (hn : l.length < n) (hl : l.length < 2 ^ 40) (st : St) (h7 : st.τ 7 = .w (ksW l)) (h8 : st.τ 8 = iV l.length) (ha : st.τ 3 = iV a0) (hi : st.τ 9 = iV 0) :
 ∃ e st', execC (go n) mode GT false 22 n F269_L0 st = some (e, st') ∧ e ≠ .normal ∧ (e = .exit 0 ∧ st'.τ 3 = iV ((l.foldl (fun m x => max m (max x.net.bb x.tb)) a0 : Nat) : Int)) := by
 rw [F269_L0, execC_loop]; refine iter_rule (fun m st => ∃ i, i + m = l.length ∧ st.τ 7 = .w (ksW l) ∧ st.τ 8 = iV l.length ∧ st.τ 3 = iV (((l.take i).foldl (fun m x => max m (max x.net.bb x.tb)) a0 : Nat) : Int) ∧ st.τ 9 = iV i) ?_ n l.length st hn ⟨0, by omega, h7, h8, by simpa using ha, by simpa using hi⟩
 clear h7 h8 ha hi; rintro m ⟨τ, H, g, s⟩ ⟨i, hm, h7, h8, ha, hi⟩; simp only at h7 h8 ha hi; cases m with
 | zero =>
  have : i = l.length := by omega
  subst this; rw [List.take_length] at ha; refine ⟨.exit 0, ?_⟩
  simp [F269_B0, h7, h8, ha, hi]
 | succ m =>
  have hlt : i < l.length := by omega
  have hlt' := ltT hlt; have hgt := List.getElem?_eq_getElem hlt; have hmem := List.getElem_mem hlt; have hw := wrap_succ (i := i) (by omega); have hstep : ∀ y, l[i]? = some y → (l.take (i + 1)).foldl (fun m x => max m (max x.net.bb x.tb)) a0 = max ((l.take i).foldl (fun m x => max m (max x.net.bb x.tb)) a0) ((fun x => max x.net.bb x.tb) y) := fun y hy => by rw [List.take_add_one, hy, List.foldl_append]; rfl
  obtain ⟨xk, xo, xa, xns, xcs, xks, hx⟩ : ∃ xk xo xa xns xcs xks, l[i] = .mk (.mk xk xo xa xns) xcs xks := by
   cases hq : l[i] with | mk nn cs ks => cases nn; exact ⟨_, _, _, _, _, _, rfl⟩
  have w1 := hb _ hmem; have w2 := hc _ hmem; rw [hx] at hgt w1 w2; have hstep : (l.take (i + 1)).foldl (fun m x => max m (max x.net.bb x.tb)) a0 = max ((l.take i).foldl (fun m x => max m (max x.net.bb x.tb)) a0) (max (Net.bb (.mk xk xo xa xns)) (Arm.tb (.mk (.mk xk xo xa xns) xcs xks))) := hstep _ hgt; rw [show Arm.net (.mk (.mk xk xo xa xns) xcs xks) = .mk xk xo xa xns from rfl] at w1; have hrow := armRows_get hgt; have hq : ∀ g : Nat, (g < g + 64 + 256) = True := fun g => eq_true (by omega)
  generalize Net.bb (.mk xk xo xa xns) = F1 at w1 hstep; generalize Arm.tb (.mk (.mk xk xo xa xns) xcs xks) = F2 at w2 hstep; generalize (l.take i).foldl (fun m x => max m (max x.net.bb x.tb)) a0 = A at ha hstep; refine ⟨.normal, ?_⟩
  simp [-getElem?_pos, F269_B0, h7, h8, ha, hi, hlt, hlt', hrow, hw, mx, mx', w1, w2, mx3, hq]; refine ⟨m, by omega, i + 1, by omega, ?_⟩
  rw [hstep]
  try rw [show ((max A (max F1 F2) : Nat) : Int) = max (A : Int) (max (F1 : Int) (F2 : Int)) by omega]
  repeat' apply And.intro
  all_goals first | rfl | (simp; done) | omega | assumption | (simp only; omega)
theorem loop268_0 {n : Nat} (l : List Arm) (hb : ∀ x ∈ l, ∀ s, go n 292 [netX x.net] [] s = some ⟨iV ((x.net.bb : Nat) : Int), [], []⟩) (hc : ∀ x ∈ l, ∀ s, go n 293 [armX x] [] s = some ⟨iV ((x.tb : Nat) : Int), [], []⟩) (a0 : Nat) (hn : l.length < n) (hl : l.length < 2 ^ 40) (st : St) (h3 : st.τ 3 = .w (ksW l)) (ha : st.τ 4 = iV a0) (hi : st.τ 5 = iV 0) :
 ∃ e st', execC (go n) mode GT false 29 n F268_L0 st = some (e, st') ∧ e ≠ .normal ∧ (e = .exit 0 ∧ st'.τ 4 = iV ((l.foldl (fun m x => max m (max x.net.bb x.tb)) a0 : Nat) : Int)) := by
 rw [F268_L0, execC_loop]; refine iter_rule (fun m st => ∃ i, i + m = l.length ∧ st.τ 3 = .w (ksW l) ∧ st.τ 4 = iV (((l.take i).foldl (fun m x => max m (max x.net.bb x.tb)) a0 : Nat) : Int) ∧ st.τ 5 = iV i) ?_ n l.length st hn ⟨0, by omega, h3, by simpa using ha, by simpa using hi⟩
 clear h3 ha hi; rintro m ⟨τ, H, g, s⟩ ⟨i, hm, h3, ha, hi⟩; simp only at h3 ha hi; cases m with
 | zero =>
  have : i = l.length := by omega
  subst this; rw [List.take_length] at ha; refine ⟨.exit 0, ?_⟩
  simp [F268_B0, h3, ha, hi]
 | succ m =>
  have hlt : i < l.length := by omega
  have hlt' := ltT hlt; have hgt := List.getElem?_eq_getElem hlt; have hmem := List.getElem_mem hlt; have hw := wrap_succ (i := i) (by omega); have hstep : ∀ y, l[i]? = some y → (l.take (i + 1)).foldl (fun m x => max m (max x.net.bb x.tb)) a0 = max ((l.take i).foldl (fun m x => max m (max x.net.bb x.tb)) a0) ((fun x => max x.net.bb x.tb) y) := fun y hy => by rw [List.take_add_one, hy, List.foldl_append]; rfl
  obtain ⟨xk, xo, xa, xns, xcs, xks, hx⟩ : ∃ xk xo xa xns xcs xks, l[i] = .mk (.mk xk xo xa xns) xcs xks := by
   cases hq : l[i] with | mk nn cs ks => cases nn; exact ⟨_, _, _, _, _, _, rfl⟩
  have w1 := hb _ hmem; have w2 := hc _ hmem; rw [hx] at hgt w1 w2; have hstep : (l.take (i + 1)).foldl (fun m x => max m (max x.net.bb x.tb)) a0 = max ((l.take i).foldl (fun m x => max m (max x.net.bb x.tb)) a0) (max (Net.bb (.mk xk xo xa xns)) (Arm.tb (.mk (.mk xk xo xa xns) xcs xks))) := hstep _ hgt; rw [show Arm.net (.mk (.mk xk xo xa xns) xcs xks) = .mk xk xo xa xns from rfl] at w1; have hrow := armRows_get hgt; have hq : ∀ g : Nat, (g < g + 64 + 256) = True := fun g => eq_true (by omega)
  generalize Net.bb (.mk xk xo xa xns) = F1 at w1 hstep; generalize Arm.tb (.mk (.mk xk xo xa xns) xcs xks) = F2 at w2 hstep; have wg := fun a b s => run_greater (n := n - 1) a b s
  rw [show n - 1 + 1 = n by omega] at wg; generalize (l.take i).foldl (fun m x => max m (max x.net.bb x.tb)) a0 = A at ha hstep; refine ⟨.normal, ?_⟩
  simp [-getElem?_pos, F268_B0, h3, ha, hi, hlt, hlt', hrow, hw, mx, mx', w1, w2, wg]; refine ⟨m, by omega, i + 1, by omega, ?_⟩
  rw [hstep]
  repeat' apply And.intro
  all_goals first | rfl | (simp; done) | omega | assumption | (simp only; omega)
theorem loop293_0 {n : Nat} (l : List Net) (bq : Nat) (c0 c1 c2 : W) (u4 : V) (A1 : Box) (hb0 : 0 < bq) (hc : ∀ x ∈ l, ∀ s, go n 325 [netX x] [] s = some ⟨iV ((x.tb : Nat) : Int), [], []⟩) (a0 : Nat) (hn : l.length < n) (hl : l.length < 2 ^ 40) (st : St) (h5 : st.τ 5 = .w (.ptr bq 0)) (hB : st.H bq = .cells [c0, c1, c2, nsW l]) (h1 : st.τ 1 = .w (.ptr 0 0)) (hA : st.H 0 = A1) (h4 : st.τ 4 = u4) (hg : bq < st.g) (ha : st.τ 3 = iV a0) (hi : st.τ 6 = iV 0) :
 ∃ e st', execC (go n) mode GT false 54 n F293_L0 st = some (e, st') ∧ e ≠ .normal ∧ (e = .exit 3 ∧ st'.τ 3 = iV ((l.foldl (fun m x => max m (x.tb)) a0 : Nat) : Int) ∧ st'.τ 5 = .w (.ptr bq 0) ∧ st'.H bq = .cells [c0, c1, c2, nsW l] ∧ st'.τ 1 = .w (.ptr 0 0) ∧ st'.H 0 = A1 ∧ st'.τ 4 = u4 ∧ bq < st'.g) := by
 rw [F293_L0, execC_loop]; refine iter_rule (fun m st => ∃ i, i + m = l.length ∧ st.τ 5 = .w (.ptr bq 0) ∧ st.H bq = .cells [c0, c1, c2, nsW l] ∧ st.τ 1 = .w (.ptr 0 0) ∧ st.H 0 = A1 ∧ st.τ 4 = u4 ∧ bq < st.g ∧ st.τ 3 = iV (((l.take i).foldl (fun m x => max m (x.tb)) a0 : Nat) : Int) ∧ st.τ 6 = iV i) ?_ n l.length st hn ⟨0, by omega, h5, hB, h1, hA, h4, hg, by simpa using ha, by simpa using hi⟩
 clear h5 hB h1 hA h4 hg ha hi; rintro m ⟨τ, H, g, s⟩ ⟨i, hm, h5, hB, h1, hA, h4, hg, ha, hi⟩; simp only at h5 hB h1 hA h4 hg ha hi; cases m with
 | zero =>
  have : i = l.length := by omega
  subst this; rw [List.take_length] at ha; refine ⟨.exit 3, ?_⟩
  simp [F293_B0, h5, hB, h1, hA, h4, hg, ha, hi]
  try omega
 | succ m =>
  have hlt : i < l.length := by omega
  have hlt' := ltT hlt; have hgt := List.getElem?_eq_getElem hlt; have hmem := List.getElem_mem hlt; have hw := wrap_succ (i := i) (by omega); have hstep : ∀ y, l[i]? = some y → (l.take (i + 1)).foldl (fun m x => max m (x.tb)) a0 = max ((l.take i).foldl (fun m x => max m (x.tb)) a0) ((fun x => x.tb) y) := fun y hy => by rw [List.take_add_one, hy, List.foldl_append]; rfl
  obtain ⟨xk, xo, xa, xks, hx⟩ : ∃ xk xo xa xks, l[i] = .mk xk xo xa xks := by cases hq : l[i] with | mk a b c d => exact ⟨_, _, _, _, rfl⟩
  have w := hc _ hmem; rw [hx] at hgt w; have hstep := hstep _ hgt; have hrow := netRows_get hgt; have wg := fun a b s => run_greater (n := n - 1) a b s
  rw [show n - 1 + 1 = n by omega] at wg; have fX := far hg; have e5 : (5 : Nat) = 5 := rfl; generalize (l.take i).foldl (fun m x => max m (x.tb)) a0 = A at ha hstep; refine ⟨.normal, ?_⟩
  simp [-getElem?_pos, F293_B0, h5, hB, h1, hA, h4, hg, ha, hi, hlt, hlt', hrow, hw, mx, mx', w, wg, fX]; refine ⟨m, by omega, i + 1, by omega, ?_⟩
  rw [hstep]
  repeat' apply And.intro
  all_goals first | rfl | (simp; done) | omega | assumption | (simp only; omega)
theorem loop293_1 {n : Nat} (l : List Arm) (c0 c1 c2 c3 c4 : W) (hf : ∀ x ∈ l, NetFine x.net) (hc : ∀ x ∈ l, ∀ s, go n 293 [armX x] [] s = some ⟨iV ((x.tb : Nat) : Int), [], []⟩) (hp : ∀ x ∈ l, ∀ y ∈ x.net.parts, ∀ s, go n 325 [netX y] [] s = some ⟨iV ((y.tb : Nat) : Int), [], []⟩) (hpl : ∀ x ∈ l, x.net.parts.length < n ∧ x.net.parts.length < 2 ^ 40) (h3n : 3 ≤ n) (a0 : Nat) (hn : l.length < n) (hl : l.length < 2 ^ 40) (st : St)
 (h1 : st.τ 1 = .w (.ptr 0 0)) (hA : st.H 0 = .cells [c0, c1, c2, c3, c4, ksW l]) (hg : 0 < st.g) (ha : st.τ 3 = iV a0) (hi : st.τ 4 = iV 0) :
 ∃ e st', execC (go n) mode GT false 54 n F293_L1 st = some (e, st') ∧ e ≠ .normal ∧ (e = .exit 0 ∧ st'.τ 3 = iV ((l.foldl (fun m x => max m (max (netsTb x.net.parts) x.tb)) a0 : Nat) : Int)) := by
 rw [F293_L1, execC_loop]; refine iter_rule (fun m st => ∃ i, i + m = l.length ∧ st.τ 1 = .w (.ptr 0 0) ∧ st.H 0 = .cells [c0, c1, c2, c3, c4, ksW l] ∧ 0 < st.g ∧ st.τ 3 = iV (((l.take i).foldl (fun m x => max m (max (netsTb x.net.parts) x.tb)) a0 : Nat) : Int) ∧ st.τ 4 = iV i) ?_ n l.length st hn ⟨0, by omega, h1, hA, hg, by simpa using ha, by simpa using hi⟩
 clear h1 hA hg ha hi; rintro m ⟨τ, H, g, s⟩ ⟨i, hm, h1, hA, hg, ha, hi⟩; simp only at h1 hA hg ha hi; cases m with
 | zero =>
  have : i = l.length := by omega
  subst this; rw [List.take_length] at ha; refine ⟨.exit 0, ?_⟩
  simp [F293_B1, h1, hA, ha, hi]
 | succ m =>
  have hlt : i < l.length := by omega
  have hlt' := ltT hlt; have hgt := List.getElem?_eq_getElem hlt; have hmem := List.getElem_mem hlt; have hw := wrap_succ (i := i) (by omega); have hstep : ∀ y, l[i]? = some y → (l.take (i + 1)).foldl (fun m x => max m (max (netsTb x.net.parts) x.tb)) a0 = max ((l.take i).foldl (fun m x => max m (max (netsTb x.net.parts) x.tb)) a0) (max (netsTb y.net.parts) y.tb) := fun y hy => by rw [List.take_add_one, hy, List.foldl_append]; rfl
  obtain ⟨xk, xo, xa, xns, xcs, xks, hx⟩ : ∃ xk xo xa xns xcs xks, l[i] = .mk (.mk xk xo xa xns) xcs xks := by
   cases hq : l[i] with | mk nn cs ks => cases nn; exact ⟨_, _, _, _, _, _, rfl⟩
  have w := hc _ hmem; have wp := hp _ hmem; have wl := hpl _ hmem; have wf := hf _ hmem; rw [hx] at hgt w wp wl wf; have hstep := hstep _ hgt; have hrow := armRows_get hgt; rw [show Arm.net (.mk (.mk xk xo xa xns) xcs xks) = .mk xk xo xa xns from rfl] at wp wl hstep wf; have wg := fun a b s => run_greater (n := n - 1) a b s
  rw [show n - 1 + 1 = n by omega] at wg; generalize (l.take i).foldl (fun m x => max m (max (netsTb x.net.parts) x.tb)) a0 = A at ha hstep; generalize Arm.tb (.mk (.mk xk xo xa xns) xcs xks) = F2 at w hstep; have zX := far hg
  by_cases h0 : xk = 0
  · have hnone : Net.none (.mk xk xo xa xns) = true := by
     rcases wf with h | h
     · exact h
     · have := right_kind h; simp only [Net.kind] at this; omega
    have hP : Net.parts (.mk xk xo xa xns) = [] := by unfold Net.parts; rw [if_pos hnone]
    rw [hP] at hstep; simp only [netsTb, Nat.zero_max] at hstep; clear hnone hP; subst h0; refine ⟨.normal, ?_⟩
    simp [-getElem?_pos, F293_B1, h1, hA, ha, hi, hlt, hlt', hrow, w, wg, hw, zX]; refine ⟨m, by omega, i + 1, by omega, ?_⟩
    rw [hstep]
    repeat' apply And.intro
    all_goals first | rfl | (simp; done) | omega | assumption | (simp only; omega)
  · have hn0 : Net.none (.mk xk xo xa xns) = false := by
     simp [Net.none, Net.kind, h0]
    by_cases h2 : xk = 2
    · have hP : Net.parts (.mk xk xo xa xns) = xns := by unfold Net.parts; rw [if_neg (by simp [hn0]), if_pos (show Net.kind (.mk xk xo xa xns) = 2 from h2)]; rfl
      rw [hP] at wp wl hstep; clear hn0 hP; subst h2; refine ⟨.normal, ?_⟩
      simp [-getElem?_pos, F293_B1, h1, hA, ha, hi, hlt, hlt', hrow, zX]; generalize hst : St.mk _ _ _ _ = st; obtain ⟨e, ⟨τ', H', g', s'⟩, hx2, -, rfl, k3, k5, kB, k1, kA, k4, kg⟩ := loop293_0 (n := n) xns (g + 64 * 5 + 384) (iW 2) (iW xo) (asW xa) (iV i) (.cells [c0, c1, c2, c3, c4, ksW l]) (by omega) wp A wl.1 wl.2 st (by simp [← hst]) (by simp [← hst]) (by simp [← hst, h1]) (by simp [← hst, hA, zX]) (by simp [← hst, hi]) (by simp [← hst]; try omega) (by simp [← hst, ha]) (by simp [← hst]); simp only at k3 k5 kB k1 kA k4 kg; clear hst; rw [foldl_tb] at k3; simp [-getElem?_pos, hx2, k3, k5, kB, k1, kA, k4, hrow, w, wg, hw]; refine ⟨m, by omega, i + 1, by omega, ?_⟩
      rw [hstep]
      repeat' apply And.intro
      all_goals first | rfl | (simp; done) | omega | assumption | (simp only; omega)
    · have hP : Net.parts (.mk xk xo xa xns) = [.mk xk xo xa xns] := by unfold Net.parts; rw [if_neg (by simp [hn0]), if_neg (show ¬ Net.kind (.mk xk xo xa xns) = 2 from h2)]
      rw [hP] at wp wl hstep; have wq := wp _ (List.mem_singleton.2 rfl); have et : netsTb [Net.mk xk xo xa xns] = Net.tb (.mk xk xo xa xns) := by simp [netsTb, Net.tb]
      rw [et] at hstep; generalize Net.tb (.mk xk xo xa xns) = F1 at wq hstep; refine ⟨.normal, ?_⟩
      simp [-getElem?_pos, F293_B1, h1, hA, ha, hi, hlt, hlt', hrow, w, wq, wg, hw, h0, h2, zX]; refine ⟨m, by omega, i + 1, by omega, ?_⟩
      rw [hstep]
      repeat' apply And.intro
      all_goals first | rfl | (simp; done) | omega | assumption | (simp only; omega)
theorem run_l14KidsBits : ∀ (m : Nat) (a : Arm), a.wt ≤ m → m < 2 ^ 37 → a.wrong false = 0 → ∀ (n : Nat), 3 * m + 20 ≤ n → ∀ s, go n 293 [armX a] [] s = some ⟨iV ((a.tb : Nat) : Int), [], []⟩
 | 0, a, h, hm, hr, n, hn, s => by have := a.wt_pos; omega
 | m + 1, .mk (.mk k op ars nks) cs ks, h, hm, hr, n, hn, s => by
  obtain ⟨-, -, -, -, hk⟩ := arm_right hr; have hk' := (armsWrong_all _).1 hk; obtain ⟨n, rfl⟩ : ∃ k, n = k + 1 := ⟨n - 1, by omega⟩; have hnp := (Net.mk k op ars nks).wt_pos; simp only [Arm.wt] at h; have hlen := armsWt_len ks; have hc : ∀ x ∈ ks, ∀ s, go n 293 [armX x] [] s = some ⟨iV ((x.tb : Nat) : Int), [], []⟩ := fun x hx s => run_l14KidsBits m x (by have := armsWt_mem hx; omega) (by omega) (hk' x hx) n (by omega) s
  have hxw : ∀ x ∈ ks, x.net.wt ≤ m := fun x hx => by
   have := armsWt_mem hx; obtain ⟨xn, xc, xk⟩ := x; simp only [Arm.wt, Arm.net] at this ⊢; omega
  have hfine : ∀ x ∈ ks, NetFine x.net := fun x hx => by
   have := hk' x hx; obtain ⟨xn, xc, xk⟩ := x; exact (arm_right this).2.1
  have hp : ∀ x ∈ ks, ∀ y ∈ x.net.parts, ∀ s, go n 325 [netX y] [] s = some ⟨iV ((y.tb : Nat) : Int), [], []⟩ := fun x hx y hy s =>
   run_l14MoreBits m y (by have := parts_mem_wt hy; have := hxw x hx; omega) (by omega) (parts_right (hfine x hx) y hy) n (by omega) s
  have hpl : ∀ x ∈ ks, x.net.parts.length < n ∧ x.net.parts.length < 2 ^ 40 := fun x hx => by
   have h1 := netsWt_len x.net.parts; have h2 := parts_wt x.net; have h3 := hxw x hx; omega
  simp only [Arm.tb]; rw [← armsTb_fold]; simp [go_of (n := n) FT_293 rfl, F293]; generalize hst : St.mk _ _ _ _ = st; obtain ⟨e, ⟨τ', H', g', s'⟩, hx, -, rfl, h3⟩ := loop293_1 (n := n) ks (iW k) (iW op) (asW ars) (nsW nks) (csW cs) hfine hc hp hpl (by omega) 1 (by omega) (by omega) st (by simp [← hst]) (by simp [← hst]) (by simp [← hst]) (by simp [← hst]) (by simp [← hst]); simp only at h3; clear hst; simp [hx, h3]
theorem rung_net {a : Arm} (h : a.wrong true = 0) : a.net.wrong = 0 := by
 obtain ⟨n, cs, ks⟩ := a; obtain ⟨h1, h2, -, -, -⟩ := arm_right h; rcases h2 with h2 | h2
 · rw [h1 rfl] at h2; cases h2
 · exact h2
theorem arm_net_wt (a : Arm) : a.net.wt ≤ a.wt := by obtain ⟨n, cs, ks⟩ := a; simp only [Arm.net, Arm.wt]; omega
theorem run_WayBits (l : List Arm) (hm : armsWt l < 2 ^ 25) (n : Nat) (hn : 6 * armsWt l + 400 ≤ n) (s : Sup) : go n 269 [.w (ksW l)] [] s = some ⟨iV ((bitsOf (normOf l) : Nat) : Int), [], []⟩ := by
 obtain ⟨n, rfl⟩ : ∃ k, n = k + 1 := ⟨n - 1, by omega⟩; have w1 := run_normMake l hm n (by omega); have hw := normOf_wt l; have hr := normOf_right l; generalize normOf l = Y at w1 hw hr ⊢; have hlen := armsWt_len Y; have e0 := bits_fold Y 0; rw [Nat.zero_max] at e0; rw [← e0]; simp [go_of (n := n) FT_269 rfl, F269, w1]; generalize hst : St.mk _ _ _ _ = st; obtain ⟨e, ⟨τ', H', g', s'⟩, hx, -, rfl, h3⟩ := loop269_0 (n := n) Y (fun x hx s => run_beginBits (armsWt Y) x.net (by have := armsWt_mem hx; have := arm_net_wt x; omega) (by omega) (rung_net (hr x hx)) n (by omega) s)
  (fun x hx s => run_tailBits (armsWt Y) x (armsWt_mem hx) (by omega) (arm_weak (hr x hx)) n (by omega) s) 0 (by omega) (by omega) st (by simp [← hst]) (by simp [← hst]) (by simp [← hst]) (by simp [← hst])
 simp only at h3; clear hst; simp [hx, h3]
theorem run_WayBitsS (l : List Arm) (hm : armsWt l < 2 ^ 25) (n : Nat) (hn : 6 * armsWt l + 400 ≤ n) (s : Sup) : go n 268 [.w (ksW l)] [] s = some ⟨iV ((bitsOf (normOf l) : Nat) : Int), [], []⟩ := by
 obtain ⟨n, rfl⟩ : ∃ k, n = k + 1 := ⟨n - 1, by omega⟩; have w1 := run_normMakeS l hm n (by omega); have hw := normOf_wt l; have hr := normOf_right l; generalize normOf l = Y at w1 hw hr ⊢; have hlen := armsWt_len Y; have e0 := bits_fold Y 0; rw [Nat.zero_max] at e0; rw [← e0]; simp [go_of (n := n) FT_268 rfl, F268, w1]; generalize hst : St.mk _ _ _ _ = st; obtain ⟨e, ⟨τ', H', g', s'⟩, hx, -, rfl, h3⟩ := loop268_0 (n := n) Y (fun x hx s => run_l14NetBits (armsWt Y) x.net (by have := armsWt_mem hx; have := arm_net_wt x; omega) (by omega) (rung_net (hr x hx)) n (by omega) s)
  (fun x hx s => run_l14KidsBits (armsWt Y) x (armsWt_mem hx) (by omega) (arm_weak (hr x hx)) n (by omega) s) 0 (by omega) (by omega) st (by simp [← hst]) (by simp [← hst]) (by simp [← hst])
 simp only at h3; clear hst; simp [hx, h3]
end Go.VM
