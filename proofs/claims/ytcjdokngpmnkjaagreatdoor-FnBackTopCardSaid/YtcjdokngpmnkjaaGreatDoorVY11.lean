/- The normal form of an arm, as the document has it: it is the plain one. Conditions: none. -/
import Derived.Test.YtcjdokngpmnkjaaGreatDoorVZ10
import Derived.Test.YtcjdokngpmnkjaaGreatDoorVY2
import Derived.Test.YtcjdokngpmnkjaaGreatDoorVS1

namespace Go.VM
set_option linter.unusedSimpArgs false
set_option linter.unusedVariables false
set_option maxHeartbeats 16000000
theorem kC2 : ∀ (m : Nat) (a : Arm), a.wt ≤ m → m < 2 ^ 26 → ∀ b, a.wrong b = 0 → ∀ (n : Nat), 4 * m + 200 ≤ n → ∀ s, go n 211 [armX a] [] s = some ⟨armX a.norm, [], []⟩
 | 0, t, h, hm, b, hr, n, hn, s => by have := t.wt_pos; omega
 | m + 1, .mk (.mk k op as nks) cs ks, h, hm, b, hr, n, hn, s => by
  obtain ⟨n, rfl⟩ : ∃ k, n = k + 1 := ⟨n - 1, by omega⟩; obtain ⟨r1, r2, r3, r4, r5⟩ := k13 hr; have r5' := (k20 _).1 r5; have hlen := k19 ks; have hcl := k37 cs; have hwt := h; simp only [Arm.wt] at h; have hc : ∀ x ∈ ks, ∀ s, go n 211 [armX x] [] s = some ⟨armX x.norm, [], []⟩ := fun x hx s => kC2 m x (by have := k07 hx; omega) (by omega) false (r5' x hx) n (by omega) s
  have w1 := k82 (n := n) (by omega) (.mk k op as nks); have w2 := run_l9Coils (n := n - 1) cs (by omega) (by omega); rw [show n - 1 + 1 = n by omega] at w2; have hkn := k86 ks r5'; have e0 : Arm.norm (.mk (.mk k op as nks) cs ks) = squeeze (if Net.none (.mk k op as nks) then .mk k op as nks else Net.norm (.mk k op as nks)) cs (armsNorm ks) := by simp [Arm.norm]
  rw [e0]; have key : ∀ (st2 : St) (nk nop : Int) (nas : List Arg) (nks2 : List Net) (ca ck kw : W), NetAt ca ck nk nop nas nks2 → NetFine (.mk nk nop nas nks2) → Net.wt (.mk nk nop nas nks2) ≤ Net.wt (.mk k op as nks) → st2.τ 2 = .w (.ptr 64 0) → st2.H 64 = .cells [iW 0, iW 0, .nil, .nil, .nil, .nil] → st2.τ 3 = .w (.ptr 384 0) →
   st2.H 384 = .cells [iW nk, iW nop, ca, ck, .own 256 0 cs.length (eCap cs), kw] → st2.H 256 = .row none 2 (elRows cs) 0 → 384 < st2.g → ASlot st2.H st2.g 384 256 kw (armsNorm ks) →
   ∃ e st', execC (go n) mode GT false 74 n F211_L1 st2 = some (e, st') ∧ e ≠ .normal ∧ (e = .exit 2 ∧ SqSFin (squeeze (.mk nk nop nas nks2) cs (armsNorm ks)) (m + 1) st') := by
   intro st2 nk nop nas nks2 ca ck kw hnet hf hw e1 e2 e3 e4 e5 e6 e7; refine loop211_1 (squeeze (.mk nk nop nas nks2) cs (armsNorm ks)) (m + 1) (by omega) (by omega) st2 (armsWt (armsNorm ks)) (by have := hkn.2.2; omega)
    ⟨nk, nop, nas, nks2, cs, armsNorm ks, Nat.le_refl _, rfl, hf, fun a ha => (hkn.1 a ha).1, by have := hkn.2.2; omega, e1, e2, e3, e6, ca, ck, 256, eCap cs, kw, e4, hnet, e5, by omega, by omega, by omega, ?_⟩
   rcases e7 with ⟨f1, f2⟩ | ⟨bx, f1, f2, f3, f4, f5, f6⟩
   · exact .inr (.inl ⟨f2, f1⟩)
   · exact .inr (.inr ⟨bx, by omega, by omega, f2, f4, f5, f6⟩)
  cases hnn : Net.none (.mk k op as nks)
  · rw [hnn] at w1
    have hnr := kh8 r2 hnn; have w3 := kl1 (m + 1) (.mk k op as nks) (by omega) (by omega) hnr n (by omega); have hno := ko1 _ hnr; simp only [Bool.false_eq_true, if_false]; generalize Net.norm (.mk k op as nks) = N at w3 hno; obtain ⟨nk, nop, nas, nks2⟩ := N; have kf : NetFine (.mk nk nop nas nks2) := .inr hno.1; have kw := hno.2.2.2; simp [go_of FT_211 rfl, F211, w1, w2, w3]; generalize hst : St.mk _ _ _ _ = st
    obtain ⟨e, ⟨τ', H', g', s'⟩, hx, -, rfl, h2, h3, hC, hD, hbc, hgg, cw, hB, hcw⟩ := kE2 (n := n) ks (iW nk) (iW nop) (asW nas) (nsW nks2) (.own 256 0 cs.length (eCap cs)) _ (.cells [iW 0, iW 0, .nil, .nil, .nil, .nil]) (.row none 2 (elRows cs) 0) (iW k) (iW op) (asW as) (nsW nks) (csW cs) 64 384 256 (by omega) (by omega) (by omega) rfl hc (by omega) (by omega) st (by simp [← hst]) (by simp [← hst]) (by simp [← hst]) (by simp [← hst]) (by simp [← hst]) (by simp [← hst]) (by simp [← hst]) (by simp [← hst]) (by simp [← hst]) (by simp [← hst]); simp only at h2 h3 hC hD hbc hgg hB hcw; clear hst; simp [hx]; generalize hst2 : St.mk _ _ _ _ = st2
    obtain ⟨e, ⟨τ3, H3, g3, s3⟩, hx3, -, rfl, hf⟩ := key st2 nk nop nas nks2 (asW nas) (nsW nks2) cw (.inl ⟨rfl, rfl⟩) kf kw (by simp [← hst2, h2]) (by simp [← hst2, hC]) (by simp [← hst2, h3]) (by simp [← hst2, hB]) (by simp [← hst2, hD]) (by simp [← hst2]; try omega) (by subst hst2; exact hcw); obtain ⟨c0, c1, c2, c3, C, K, ⟨k1, k2', k3', k4, k5, kC, k7, k8, ca, ck, bc, cap, kw', kA, hnet, kB, q1, q2, q3, hkw⟩, hR⟩ := hf; simp only at k5 kC k7 k8 kA kB hkw q3; rw [hR]; have b1 : (384 = bc) = False := eq_false (fun e => q2 e.symm); have b2 : (64 = bc) = False := eq_false (fun e => q1 e.symm); have b3 : (bc = 384) = False := eq_false q2; have b4 : (bc = 64) = False := eq_false q1
    rcases hnet with ⟨rfl, rfl⟩ | ⟨rfl, rfl, rfl, rfl, rfl, rfl⟩
    · rcases hkw with rfl | ⟨rfl, rfl⟩ | ⟨bk, d1, d2, d3, d4, rfl, hKB⟩
      · simp [hx3, k5, kC, k7, kA, kB, b1, b2, b3, b4]
      · simp [hx3, k5, kC, k7, kA, kB, b1, b2, b3, b4, armRows]
      · have d5 : (384 = bk) = False := eq_false (fun e => d2 e.symm)
        have d6 : (bk = 384) = False := eq_false d2; have d7 : (64 = bk) = False := eq_false (fun e => d1 e.symm); have d8 : (bk = 64) = False := eq_false d1; have d9 : (bk = bc) = False := eq_false d3; have d10 : (bc = bk) = False := eq_false (fun e => d3 e.symm); simp [hx3, k5, kC, k7, kA, kB, hKB, b1, b2, b3, b4, d5, d6, d7, d8, d9, d10]
    · rcases hkw with rfl | ⟨rfl, rfl⟩ | ⟨bk, d1, d2, d3, d4, rfl, hKB⟩
      · simp [hx3, k5, kC, k7, kA, kB, b1, b2, b3, b4, argRows, netRows]
      · simp [hx3, k5, kC, k7, kA, kB, b1, b2, b3, b4, argRows, netRows, armRows]
      · have d5 : (384 = bk) = False := eq_false (fun e => d2 e.symm)
        have d6 : (bk = 384) = False := eq_false d2; have d7 : (64 = bk) = False := eq_false (fun e => d1 e.symm); have d8 : (bk = 64) = False := eq_false d1; have d9 : (bk = bc) = False := eq_false d3; have d10 : (bc = bk) = False := eq_false (fun e => d3 e.symm); simp [hx3, k5, kC, k7, kA, kB, hKB, b1, b2, b3, b4, d5, d6, d7, d8, d9, d10, argRows, netRows]
  · rw [hnn] at w1
    have hno := Net.none_eq hnn; have kf : NetFine (.mk 0 0 [] []) := .inl (by decide); have e1 : squeeze (.mk k op as nks) cs (armsNorm ks) = squeeze (.mk 0 0 [] []) cs (armsNorm ks) := by rw [hno]
    simp only [if_true]; rw [e1]; simp [go_of FT_211 rfl, F211, w1, w2]; generalize hst : St.mk _ _ _ _ = st; obtain ⟨e, ⟨τ', H', g', s'⟩, hx, -, rfl, h2, h3, hC, hD, hbc, hgg, cw, hB, hcw⟩ := kE2 (n := n) ks (iW 0) (iW 0) .nil .nil (.own 256 0 cs.length (eCap cs)) _ (.cells [iW 0, iW 0, .nil, .nil, .nil, .nil]) (.row none 2 (elRows cs) 0) (iW k) (iW op) (asW as) (nsW nks) (csW cs) 64 384 256 (by omega) (by omega) (by omega) rfl hc (by omega) (by omega) st (by simp [← hst]) (by simp [← hst]) (by simp [← hst]) (by simp [← hst]) (by simp [← hst]) (by simp [← hst]) (by simp [← hst]) (by simp [← hst]) (by simp [← hst]) (by simp [← hst]); simp only at h2 h3 hC hD hbc hgg hB hcw; clear hst
    simp [hx]; generalize hst2 : St.mk _ _ _ _ = st2; obtain ⟨e, ⟨τ3, H3, g3, s3⟩, hx3, -, rfl, hf⟩ := key st2 0 0 [] [] .nil .nil cw (.inr ⟨rfl, rfl, rfl, rfl, rfl, rfl⟩) kf (by rw [hno]; exact Nat.le_refl _) (by simp [← hst2, h2]) (by simp [← hst2, hC]) (by simp [← hst2, h3]) (by simp [← hst2, hB]) (by simp [← hst2, hD]) (by simp [← hst2]; try omega) (by subst hst2; exact hcw); obtain ⟨c0, c1, c2, c3, C, K, ⟨k1, k2', k3', k4, k5, kC, k7, k8, ca, ck, bc, cap, kw', kA, hnet, kB, q1, q2, q3, hkw⟩, hR⟩ := hf; simp only at k5 kC k7 k8 kA kB hkw q3; rw [hR]; have b1 : (384 = bc) = False := eq_false (fun e => q2 e.symm); have b2 : (64 = bc) = False := eq_false (fun e => q1 e.symm)
    have b3 : (bc = 384) = False := eq_false q2; have b4 : (bc = 64) = False := eq_false q1; rcases hnet with ⟨rfl, rfl⟩ | ⟨rfl, rfl, rfl, rfl, rfl, rfl⟩
    · rcases hkw with rfl | ⟨rfl, rfl⟩ | ⟨bk, d1, d2, d3, d4, rfl, hKB⟩
      · simp [hx3, k5, kC, k7, kA, kB, b1, b2, b3, b4]
      · simp [hx3, k5, kC, k7, kA, kB, b1, b2, b3, b4, armRows]
      · have d5 : (384 = bk) = False := eq_false (fun e => d2 e.symm)
        have d6 : (bk = 384) = False := eq_false d2; have d7 : (64 = bk) = False := eq_false (fun e => d1 e.symm); have d8 : (bk = 64) = False := eq_false d1; have d9 : (bk = bc) = False := eq_false d3; have d10 : (bc = bk) = False := eq_false (fun e => d3 e.symm); simp [hx3, k5, kC, k7, kA, kB, hKB, b1, b2, b3, b4, d5, d6, d7, d8, d9, d10]
    · rcases hkw with rfl | ⟨rfl, rfl⟩ | ⟨bk, d1, d2, d3, d4, rfl, hKB⟩
      · simp [hx3, k5, kC, k7, kA, kB, b1, b2, b3, b4, argRows, netRows]
      · simp [hx3, k5, kC, k7, kA, kB, b1, b2, b3, b4, argRows, netRows, armRows]
      · have d5 : (384 = bk) = False := eq_false (fun e => d2 e.symm)
        have d6 : (bk = 384) = False := eq_false d2; have d7 : (64 = bk) = False := eq_false (fun e => d1 e.symm); have d8 : (bk = 64) = False := eq_false d1; have d9 : (bk = bc) = False := eq_false d3; have d10 : (bc = bk) = False := eq_false (fun e => d3 e.symm); simp [hx3, k5, kC, k7, kA, kB, hKB, b1, b2, b3, b4, d5, d6, d7, d8, d9, d10, argRows, netRows]
theorem kx7 (l : List Arm) : ∀ a : Nat, l.foldl (fun m x => max m x.forks) a = max a (forksOf l) := by
 induction l with
 | nil => intro a; simp [forksOf]
 | cons x r ih => intro a; rw [List.foldl_cons, ih]; simp only [forksOf, List.foldr_cons]; omega
theorem kF6 (l : List Arm) : ∀ a : Nat, l.foldl (fun m x => max m (max x.net.bb x.tb)) a = max a (bitsOf l) := by
 induction l with
 | nil => intro a; simp [bitsOf]
 | cons x r ih => intro a; rw [List.foldl_cons, ih]; simp only [bitsOf, List.foldr_cons]; omega
def normOf (l : List Arm) : List Arm := if treeCode l = 0 then armsNorm l else []
theorem k50 (l : List Arm) : ∀ a ∈ normOf l, a.wrong true = 0 := by
 unfold normOf; split
 · rename_i h
   exact fun a ha => ((kh1 l (k44 h)).1 a ha).1
 · simp
theorem normOf_wn (l : List Arm) : ∀ a ∈ normOf l, a.wn = true := by
 unfold normOf; split
 · rename_i h
   exact fun a ha => ((kh1 l (k44 h)).1 a ha).2
 · simp
theorem k61 (l : List Arm) : armsWt (normOf l) ≤ armsWt l := by
 unfold normOf; split
 · rename_i h
   exact (kh1 l (k44 h)).2.2
 · simp [armsWt]
theorem kp4 (l : List Arm) (hm : armsWt l < 2 ^ 25) (n : Nat) (hn : 5 * armsWt l + 300 ≤ n) (s : Sup) : go n 108 [.w (ksW l)] [] s = some ⟨.w (ksW (normOf l)), [], []⟩ := run_NormMake l (by omega) n (by omega) s
theorem k91 (l : List Arm) (hm : armsWt l < 2 ^ 25) (n : Nat) (hn : 5 * armsWt l + 300 ≤ n) (s : Sup) : go n 208 [.w (ksW l)] [] s = some ⟨.w (ksW (normOf l)), [], []⟩ := by
 obtain ⟨n, rfl⟩ : ∃ k, n = k + 1 := ⟨n - 1, by omega⟩; exact run_NormMakeS_of l (by omega) (by omega) (fun hc x hx s => kC2 (armsWt l) x (k07 hx) (by omega) true (k44 hc x hx) n (by omega) s) s
theorem loop283_0 {n : Nat} (l : List Arm) (hc : ∀ x ∈ l, ∀ s, go n 309 [armX x] [] s = some ⟨iV ((x.forks : Nat) : Int), [], []⟩) (a0 : Nat) (hn : l.length < n) (hl : l.length < 2 ^ 40) (st : St) (h7 : st.τ 7 = .w (ksW l)) (h8 : st.τ 8 = iV l.length) (ha : st.τ 3 = iV a0) (hi : st.τ 9 = iV 0) :
 ∃ e st', execC (go n) mode GT false 19 n F283_L0 st = some (e, st') ∧ e ≠ .normal ∧ (e = .exit 0 ∧ st'.τ 3 = iV ((l.foldl (fun m x => max m (x.forks)) a0 : Nat) : Int)) := by
 rw [F283_L0, k00]; refine k03 (fun m st => ∃ i, i + m = l.length ∧ st.τ 7 = .w (ksW l) ∧ st.τ 8 = iV l.length ∧ st.τ 3 = iV (((l.take i).foldl (fun m x => max m (x.forks)) a0 : Nat) : Int) ∧ st.τ 9 = iV i) ?_ n l.length st hn ⟨0, by omega, h7, h8, by simpa using ha, by simpa using hi⟩
 clear h7 h8 ha hi; rintro m ⟨τ, H, g, s⟩ ⟨i, hm, h7, h8, ha, hi⟩; simp only at h7 h8 ha hi; cases m with
 | zero =>
  have : i = l.length := by omega
  subst this; rw [List.take_length] at ha; refine ⟨.exit 0, ?_⟩
  simp [F283_B0, h7, h8, ha, hi]
 | succ m =>
  have hlt : i < l.length := by omega
  have hlt' := ltT hlt; have hgt := List.getElem?_eq_getElem hlt; have hmem := List.getElem_mem hlt; have hw := k04 (i := i) (by omega); have hstep : ∀ y, l[i]? = some y → (l.take (i + 1)).foldl (fun m x => max m (x.forks)) a0 = max ((l.take i).foldl (fun m x => max m (x.forks)) a0) ((fun x => x.forks) y) := fun y hy => by rw [List.take_add_one, hy, List.foldl_append]; rfl
  obtain ⟨xk, xo, xa, xns, xcs, xks, hx⟩ : ∃ xk xo xa xns xcs xks, l[i] = .mk (.mk xk xo xa xns) xcs xks := by
   cases hq : l[i] with | mk nn cs ks => cases nn; exact ⟨_, _, _, _, _, _, rfl⟩
  have w := hc _ hmem; rw [hx] at hgt w; have hstep := hstep _ hgt; have hrow := k18 hgt; generalize (l.take i).foldl (fun m x => max m (x.forks)) a0 = A at ha hstep; refine ⟨.normal, ?_⟩
  simp [-getElem?_pos, F283_B0, h7, h8, ha, hi, hlt, hlt', hrow, hw, mx, mx', w]; refine ⟨m, by omega, i + 1, by omega, ?_⟩
  rw [hstep]
  repeat' apply And.intro
  all_goals first | rfl | (simp; done) | omega | assumption | (simp only; omega)
theorem loop304_0 {n : Nat} (l : List Arm) (hc : ∀ x ∈ l, ∀ s, go n 334 [armX x] [] s = some ⟨iV ((x.forks : Nat) : Int), [], []⟩) (a0 : Nat) (hn : l.length < n) (hl : l.length < 2 ^ 40) (st : St) (h3 : st.τ 3 = .w (ksW l)) (ha : st.τ 4 = iV a0) (hi : st.τ 5 = iV 0) :
 ∃ e st', execC (go n) mode GT false 22 n F304_L0 st = some (e, st') ∧ e ≠ .normal ∧ (e = .exit 0 ∧ st'.τ 4 = iV ((l.foldl (fun m x => max m (x.forks)) a0 : Nat) : Int)) := by
 rw [F304_L0, k00]; refine k03 (fun m st => ∃ i, i + m = l.length ∧ st.τ 3 = .w (ksW l) ∧ st.τ 4 = iV (((l.take i).foldl (fun m x => max m (x.forks)) a0 : Nat) : Int) ∧ st.τ 5 = iV i) ?_ n l.length st hn ⟨0, by omega, h3, by simpa using ha, by simpa using hi⟩
 clear h3 ha hi; rintro m ⟨τ, H, g, s⟩ ⟨i, hm, h3, ha, hi⟩; simp only at h3 ha hi; cases m with
 | zero =>
  have : i = l.length := by omega
  subst this; rw [List.take_length] at ha; refine ⟨.exit 0, ?_⟩
  simp [F304_B0, h3, ha, hi]
 | succ m =>
  have hlt : i < l.length := by omega
  have hlt' := ltT hlt; have hgt := List.getElem?_eq_getElem hlt; have hmem := List.getElem_mem hlt; have hw := k04 (i := i) (by omega); have hstep : ∀ y, l[i]? = some y → (l.take (i + 1)).foldl (fun m x => max m (x.forks)) a0 = max ((l.take i).foldl (fun m x => max m (x.forks)) a0) ((fun x => x.forks) y) := fun y hy => by rw [List.take_add_one, hy, List.foldl_append]; rfl
  obtain ⟨xk, xo, xa, xns, xcs, xks, hx⟩ : ∃ xk xo xa xns xcs xks, l[i] = .mk (.mk xk xo xa xns) xcs xks := by
   cases hq : l[i] with | mk nn cs ks => cases nn; exact ⟨_, _, _, _, _, _, rfl⟩
  have w := hc _ hmem; rw [hx] at hgt w; have hstep := hstep _ hgt; have hrow := k18 hgt; have wg := fun a b s => k73 (n := n - 1) a b s
  rw [show n - 1 + 1 = n by omega] at wg; generalize (l.take i).foldl (fun m x => max m (x.forks)) a0 = A at ha hstep; refine ⟨.normal, ?_⟩
  simp [-getElem?_pos, F304_B0, h3, ha, hi, hlt, hlt', hrow, hw, mx, mx', w, wg]; refine ⟨m, by omega, i + 1, by omega, ?_⟩
  rw [hstep]
  repeat' apply And.intro
  all_goals first | rfl | (simp; done) | omega | assumption | (simp only; omega)
theorem run_WayForks (l : List Arm) (hm : armsWt l < 2 ^ 25) (n : Nat) (hn : 6 * armsWt l + 400 ≤ n) (s : Sup) : go n 283 [.w (ksW l)] [] s = some ⟨iV ((forksOf (normOf l) : Nat) : Int), [], []⟩ := by
 obtain ⟨n, rfl⟩ : ∃ k, n = k + 1 := ⟨n - 1, by omega⟩; have w1 := kp4 l hm n (by omega); have hw := k61 l; generalize normOf l = Y at w1 hw ⊢; have hlen := k19 Y; have e0 := kx7 Y 0; rw [Nat.zero_max] at e0; rw [← e0]; simp [go_of (n := n) FT_283 rfl, F283, w1]; generalize hst : St.mk _ _ _ _ = st; obtain ⟨e, ⟨τ', H', g', s'⟩, hx, -, rfl, h3⟩ := loop283_0 (n := n) Y (fun x hx s => kC3 (armsWt Y) x (k07 hx) (by omega) n (by omega) s) 0 (by omega) (by omega) st (by simp [← hst]) (by simp [← hst]) (by simp [← hst]) (by simp [← hst]); simp only at h3; clear hst; simp [hx, h3]
theorem run_WayForksS (l : List Arm) (hm : armsWt l < 2 ^ 25) (n : Nat) (hn : 6 * armsWt l + 400 ≤ n) (s : Sup) : go n 304 [.w (ksW l)] [] s = some ⟨iV ((forksOf (normOf l) : Nat) : Int), [], []⟩ := by
 obtain ⟨n, rfl⟩ : ∃ k, n = k + 1 := ⟨n - 1, by omega⟩; have w1 := k91 l hm n (by omega); have hw := k61 l; generalize normOf l = Y at w1 hw ⊢; have hlen := k19 Y; have e0 := kx7 Y 0; rw [Nat.zero_max] at e0; rw [← e0]; simp [go_of (n := n) FT_304 rfl, F304, w1]; generalize hst : St.mk _ _ _ _ = st; obtain ⟨e, ⟨τ', H', g', s'⟩, hx, -, rfl, h3⟩ := loop304_0 (n := n) Y (fun x hx s => kp5 (armsWt Y) x (k07 hx) (by omega) n (by omega) s) 0 (by omega) (by omega) st (by simp [← hst]) (by simp [← hst]) (by simp [← hst]); simp only at h3; clear hst; simp [hx, h3]
theorem run_plain (l : List Arm) (hm : armsWt l < 2 ^ 25) (hr : ∀ a ∈ l, a.wrong true = 0) (h0 : treeCode l = 0) (n : Nat) (hn : 5 * armsWt l + 100 ≤ n) (s : Sup) : go n 297 [.w (ksW l)] [] s = some ⟨.w (isW (plainOf (armsNorm l))), [], []⟩ := by
 obtain ⟨n, rfl⟩ : ∃ k, n = k + 2 := ⟨n - 2, by omega⟩; have e : normOf l = armsNorm l := by unfold normOf; rw [if_pos h0]
 have w0 := kw3 l (by omega) hr (n + 1) (by omega); have hright := k50 l; have hwt := k61 l; rw [e] at hright hwt; generalize armsNorm l = y at w0 hright hwt; have hlen := k19 y; have hlp := ka3 y hright; have hsz := k47 y; have hc : ∀ x ∈ y, ∀ s, go (n + 1) 329 [armX x] [] s = some ⟨.w (isW x.tail), [], []⟩ := fun x hx s => kH5 (armsWt y) x (k07 hx) (by omega) (k95 (hright x hx)) (n + 1) (by omega) s
 have hb : ∀ x ∈ y, ∀ s, ∃ c, go (n + 1) 328 [netX x.net] [] s = some (insOwn x.net.begins c) := fun x hx s => by
  have h1 := k07 hx; obtain ⟨xn, xc, xk⟩ := x; obtain ⟨k1, k2, -, -, -⟩ := k13 (hright _ hx); have hnw : xn.wrong = 0 := by rcases k2 with k2 | k2; rw [k1 rfl] at k2; cases k2; exact k2
  simp only [Arm.wt] at h1; exact ⟨_, kh3 (armsWt y) xn (by omega) (by omega) hnw (n + 1) (by omega) s⟩
 have w2 := kp6 (n := n) (plainOf y) (fun x hx => by have := kw9 y x hx; omega) (by omega) (by omega) (by omega); simp [go_of (n := n + 1) FT_297 rfl, F297, w0]; generalize hst : St.mk _ _ _ _ = st; obtain ⟨e, ⟨τ', H', g', s'⟩, hx, -, rfl, hg, hacc⟩ := loop297_0 (n := n + 1) y hc hb (by omega) (by omega) (by omega) st (by simp [← hst]) (by simp [← hst]) (by simp [← hst]) (by rw [← hst]; exact ⟨by simp, .inl ⟨rfl, by simp⟩⟩); simp only at hg hacc; clear hst; generalize plainOf y = L at hacc w2; have tkL := k05 L; rcases hacc with ⟨rfl, h3⟩ | ⟨b, hb0, hbq, hbg, h3, hB⟩
 · have w3 : ∀ s, go (n + 1) 330 [.w (.d (.l 0 []))] [] s = some ⟨.w (.d (.l 0 [])), [], []⟩ := fun s => w2 s
   simp [hx, h3, w3, insRows]
 · simp [hx, h3, hB, tkL, k02, w2]
theorem run_clip {n : Nat} (L : List Ins) (hl : L.length < 2 ^ 29) (s : Sup) : go (n + 1) 298 [.w (isW L)] [] s = some ⟨.w (isW L), [], []⟩ := by
 have tkL := k05 L; have rm : room L.length 40 = true := k08 (by omega) (by omega); have al := eq_true (k42 L); simp [go_of (n := n) FT_298 rfl, F298, k02, tkL, rm, al]
end Go.VM
