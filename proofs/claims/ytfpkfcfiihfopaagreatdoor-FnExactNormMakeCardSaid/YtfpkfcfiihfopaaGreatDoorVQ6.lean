/- Arms, reckoned: how large a ladder is, whether it is right; what the program and what the document says. Conditions: none. -/
import Derived.Test.YtfpkfcfiihfopaaGreatDoorVQ5

namespace Go.VM
set_option linter.unusedSimpArgs false
set_option linter.unusedVariables false
set_option maxHeartbeats 8000000
abbrev csW (l : List El) : W := .d (.l 0 (elRows l))
abbrev ksW (l : List Arm) : W := .d (.l 0 (armRows l))
abbrev armX : Arm → V | .mk (.mk k op as nks) cs ks => .agg [iW k, iW op, asW as, nsW nks, csW cs, ksW ks]
theorem armsSize_append : ∀ l m : List Arm, armsSize (l ++ m) = armsSize l + armsSize m
 | [], m => by simp [armsSize]
 | n :: r, m => by simp [armsSize, armsSize_append r m]; omega
theorem armsSize_take {l : List Arm} {i : Nat} {x : Arm} (h : l[i]? = some x) : armsSize (l.take (i + 1)) = armsSize (l.take i) + x.size := by
 rw [List.take_add_one, h]; simp [armsSize_append, armsSize]
theorem armsSize_take_le (l : List Arm) (i : Nat) : armsSize (l.take i) ≤ armsSize l := by
 have := armsSize_append (l.take i) (l.drop i); rw [List.take_append_drop] at this; omega
mutual
theorem armSize_le : ∀ n : Arm, n.size ≤ n.wt
 | .mk n cs ks => by
  have := armsSize_le ks; have := elsWt_len cs; have := size_le n; simp only [Arm.size, Arm.wt]; split <;> omega
theorem armsSize_le : ∀ l : List Arm, armsSize l ≤ armsWt l
 | [] => by simp [armsSize]
 | n :: r => by have := armSize_le n; have := armsSize_le r; simp [armsSize, armsWt]; omega
end
theorem run_coil1 {n : Nat} (hn : 61 ≤ n) (e : El) (s : Sup) : go n 190 [elX e] [] s = some ⟨sV (.bool (!e.coil)), [], []⟩ := by
 obtain ⟨n, rfl⟩ : ∃ k, n = k + 1 := ⟨n - 1, by omega⟩; have w := run_ElemIsCoil (n := n) (by omega) e; simp [go_of FT_190 rfl, F190, w]
theorem loop199_0 {n : Nat} (l : List El) (h61 : 61 ≤ n) (hn : l.length < n) (hl : l.length < 2 ^ 40) (st : St) (hx0 : True) (h0 : st.τ 0 = .w (csW l)) (h1 : st.τ 1 = .w (.fn 190 [])) (h7 : st.τ 7 = iV l.length) (h8 : st.τ 8 = iV 0) :
 ∃ e st', execC (go n) mode GT false 19 n F199_L0 st = some (e, st') ∧ e ≠ .normal ∧ ((e = .exit 0 ∧ l.all El.coil = true) ∨ (e = .ret ∧ l.all El.coil = false ∧ ∃ i : Nat, st'.τ 4 = iV i)) := by
 rw [F199_L0, execC_loop]; refine iter_rule (fun k st => ∃ i, i + k = l.length ∧ (l.take i).all El.coil = true ∧ st.τ 0 = .w (csW l) ∧ st.τ 1 = .w (.fn 190 []) ∧ st.τ 7 = iV l.length ∧ st.τ 8 = iV i) ?_ n l.length st hn ⟨0, by omega, by simp, h0, h1, h7, by simpa using h8⟩
 rintro k ⟨τ, H, g, s⟩ ⟨i, hk, hx0, h0, h1, h7, h8⟩; simp only at hx0 h0 h1 h7 h8; cases k with
 | zero =>
  have : i = l.length := by omega
  subst this; refine ⟨.exit 0, ?_⟩
  rw [List.take_length] at hx0; simp [F199_B0, h0, h1, h7, h8, hx0]
 | succ k =>
  have hlt : i < l.length := by omega
  have hlt' := ltT hlt; have hg := List.getElem?_eq_getElem hlt; have hmem := List.getElem_mem hlt; have hw := wrap_succ (i := i) (by omega); have w := run_coil1 (n := n) h61 l[i]; have hb := elRows_get hg; cases he : El.coil l[i]
  · refine ⟨.ret, ?_⟩
    rw [he] at w; simp [-getElem?_pos, F199_B0, h0, h1, h7, h8, hlt, hlt', hb, w]; exact ⟨⟨l[i], hmem, he⟩, i, rfl⟩
  · refine ⟨.normal, ?_⟩
    rw [he] at w; simp [-getElem?_pos, F199_B0, h0, h1, h7, h8, hlt, hlt', hb, w, hw]; refine ⟨k, by omega, i + 1, by omega, ?_, rfl⟩
    rw [List.take_add_one, hg]; intro x hx; rcases List.mem_append.1 hx with hx | hx
    · exact List.all_eq_true.1 hx0 x hx
    · simp only [Option.toList_some, List.mem_singleton] at hx; subst hx; exact he
theorem run_IndexCoil {n : Nat} (l : List El) (hn : l.length + 63 ≤ n) (hl : l.length < 2 ^ 40) (s : Sup) :
 ∃ i : Int, decide (0 ≤ i) = !l.all El.coil ∧ go n 199 [.w (csW l), .w (.fn 190 [])] [] s = some ⟨iV i, [], []⟩ := by
 obtain ⟨n, rfl⟩ : ∃ k, n = k + 1 := ⟨n - 1, by omega⟩; simp [go_of FT_199 rfl, F199]; generalize hst : St.mk _ _ _ _ = st; obtain ⟨e, ⟨τ', H', g', s'⟩, hx, -, ⟨rfl, h⟩ | ⟨rfl, h, i, h4⟩⟩ := loop199_0 (n := n) l (by omega) (by omega) hl st trivial (by simp [← hst]) (by simp [← hst]) (by simp [← hst]) (by simp [← hst])
 · refine ⟨-1, by rw [h]; rfl, ?_⟩
   simp [hx]
 · simp only at h4
   refine ⟨i, by rw [h]; simp, ?_⟩
   simp [hx, h4]
theorem run_ContainsCoil {n : Nat} (l : List El) (hn : l.length + 64 ≤ n) (hl : l.length < 2 ^ 40) (s : Sup) :
 go n 189 [.w (csW l), .w (.fn 190 [])] [] s = some ⟨sV (.bool (!l.all El.coil)), [], []⟩ := by
 obtain ⟨n, rfl⟩ : ∃ k, n = k + 1 := ⟨n - 1, by omega⟩; obtain ⟨i, hi⟩ := Classical.skolem.1 fun s => run_IndexCoil (n := n) l (by omega) hl s
 have w := fun s => (hi s).2
 have e := fun s => (hi s).1
 simp [go_of FT_189 rfl, F189, w, e]
theorem loop171_0 {n : Nat} (l : List Arm) (hc : ∀ x ∈ l, ∀ s, go n 171 [.w (ksW x.kids)] [] s = some ⟨iV (armsSize x.kids), [], []⟩) (hc2 : ∀ x ∈ l, ∀ s, go n 118 [netX x.net] [] s = some ⟨iV x.net.size, [], []⟩) (h2n : 2 ≤ n) (hsz : armsWt l < 2 ^ 40) (hn : l.length < n) (hl : l.length < 2 ^ 40) (st : St) (h3 : st.τ 3 = iV 0) (h6 : st.τ 6 = .w (ksW l)) (h7 : st.τ 7 = iV l.length) (h8 : st.τ 8 = iV 0) :
 ∃ e st', execC (go n) mode GT false 33 n F171_L0 st = some (e, st') ∧ e ≠ .normal ∧ (e = .exit 0 ∧ st'.τ 3 = iV (armsSize l : Nat)) := by
 rw [F171_L0, execC_loop]; refine iter_rule (fun k st => ∃ i, i + k = l.length ∧ st.τ 3 = iV (armsSize (l.take i) : Nat) ∧ st.τ 6 = .w (ksW l) ∧ st.τ 7 = iV l.length ∧ st.τ 8 = iV i) ?_ n l.length st hn ⟨0, by omega, by simpa [armsSize] using h3, h6, h7, by simpa using h8⟩
 rintro k ⟨τ, H, g, s⟩ ⟨i, hk, h3, h6, h7, h8⟩; simp only at h3 h6 h7 h8; cases k with
 | zero =>
  have : i = l.length := by omega
  subst this; refine ⟨.exit 0, ?_⟩
  rw [List.take_length] at h3; simp [F171_B0, h3, h6, h7, h8]
 | succ k =>
  have hlt : i < l.length := by omega
  have hlt' := ltT hlt; have hg := List.getElem?_eq_getElem hlt; have hmem := List.getElem_mem hlt; have hw := wrap_succ (i := i) (by omega); have hs := armsSize_take hg; have hs2 := armsSize_take_le l (i + 1); have w := hc _ hmem; have w2 := hc2 _ hmem; have hal := armsSize_le l; have hwt := armsWt_mem hmem; obtain ⟨k', op, as, nks, cs, ks, hx⟩ : ∃ k' op as nks cs ks, l[i] = .mk (.mk k' op as nks) cs ks := by
   cases hq : l[i] with | mk nn cs ks => cases nn; exact ⟨_, _, _, _, _, _, rfl⟩
  rw [hx] at hg w w2 hs hwt; have hb := armRows_get hg; have w3 := run_none (n := n) h2n (.mk k' op as nks); simp only [Arm.kids] at w; simp only [Arm.net] at w2; simp only [Arm.size] at hs; have hcl := elsWt_len cs; simp only [Arm.wt] at hwt; have hkl := armsSize_le ks; have q1 : IntKind.wrap .i64 (1 + (cs.length : Int)) = (1 + cs.length : Nat) := wrap_cast (by omega) (by omega); have q2 : IntKind.wrap .i64 ((1 + cs.length : Nat) + (armsSize ks : Int)) = (1 + cs.length + armsSize ks : Nat) := wrap_cast (by omega) (by omega)
  have q3 : IntKind.wrap .i64 ((armsSize (l.take i) : Int) + (1 + cs.length + armsSize ks : Nat)) = (armsSize (l.take i) + (1 + cs.length + armsSize ks) : Nat) := wrap_cast (by omega) (by split at hs <;> omega); have hcm : (g < g + 64 + 256) = True := eq_true (by omega); refine ⟨.normal, ?_⟩
  cases hnn : Net.none (.mk k' op as nks)
  · rw [hnn] at w3
    simp only [hnn, Bool.false_eq_true, if_false] at hs; have q4 : IntKind.wrap .i64 ((armsSize (l.take i) + (1 + cs.length + armsSize ks) : Nat) + (Net.size (.mk k' op as nks) : Int)) = (armsSize (l.take (i + 1)) : Nat) := wrap_cast (by omega) (by omega); simp [-getElem?_pos, -Int.natCast_add, F171_B0, hcm, h3, h6, h7, h8, hlt, hlt', hb, w, w2, w3, hw, q1, q2, q3, q4]; exact ⟨k, by omega, i + 1, by omega, rfl, rfl⟩
  · rw [hnn] at w3
    simp only [hnn, if_true] at hs; have q5 : (armsSize (l.take i) + (1 + cs.length + armsSize ks) : Nat) = armsSize (l.take (i + 1)) := by omega
    simp [-getElem?_pos, -Int.natCast_add, F171_B0, hcm, h3, h6, h7, h8, hlt, hlt', hb, w, w2, w3, hw, q1, q2, q3]; exact ⟨k, by omega, i + 1, by omega, by rw [q5], rfl⟩
theorem run_TreeSize : ∀ (m : Nat) (l : List Arm), armsWt l ≤ m → m < 2 ^ 40 → ∀ (n : Nat), 2 * m + 8 ≤ n → ∀ s, go n 171 [.w (ksW l)] [] s = some ⟨iV (armsSize l), [], []⟩ := by
 intro m
 induction m with
 | zero =>
  intro l h hm n hn s; obtain ⟨n, rfl⟩ : ∃ k, n = k + 1 := ⟨n - 1, by omega⟩; have e : l = [] := by
   cases l with
   | nil => rfl
   | cons a r => have := a.wt_pos; simp [armsWt] at h; omega
  subst e; obtain ⟨n, rfl⟩ : ∃ k, n = k + 1 := ⟨n - 1, by omega⟩; simp [go_of FT_171 rfl, F171, F171_L0, execC_loop, iter, F171_B0, armRows, armsSize]
 | succ m ih =>
  intro l h hm n hn s; obtain ⟨n, rfl⟩ : ∃ k, n = k + 1 := ⟨n - 1, by omega⟩; have hlen := armsWt_len l; have hc : ∀ x ∈ l, ∀ s, go n 171 [.w (ksW x.kids)] [] s = some ⟨iV (armsSize x.kids), [], []⟩ := fun x hx s => ih x.kids (by have := armsWt_mem hx; cases x; simp [Arm.wt] at this; simp [Arm.kids]; omega) (by omega) n (by omega) s
  have hc2 : ∀ x ∈ l, ∀ s, go n 118 [netX x.net] [] s = some ⟨iV x.net.size, [], []⟩ := fun x hx s => run_size (m + 1) x.net (by have := armsWt_mem hx; cases x; simp [Arm.wt] at this; simp [Arm.net]; omega) (by omega) n (by omega) s
  simp [go_of FT_171 rfl, F171]; generalize hst : St.mk _ _ _ _ = st; obtain ⟨e, ⟨τ', H', g', s'⟩, hx, -, rfl, h3⟩ := loop171_0 (n := n) l hc hc2 (by omega) (by omega) (by omega) (by omega) st (by simp [← hst]) (by simp [← hst]) (by simp [← hst]) (by simp [← hst]); simp only at h3; simp [hx, h3]
theorem loop122_0 {n : Nat} (l : List Arm) (hc : ∀ x ∈ l, ∀ s, go n 122 [armX x] [] s = some ⟨iV x.size, [], []⟩) (a0 : Nat) (hsz : a0 + armsSize l < 2 ^ 41) (k0 op0 as0 nk0 c0 : W) (hn : l.length < n) (hl : l.length < 2 ^ 40) (st : St) (h1 : st.τ 1 = .w (.ptr 0 0)) (hH : st.H 0 = .cells [k0, op0, as0, nk0, c0, ksW l]) (h3 : st.τ 3 = iV a0) (h4 : st.τ 4 = iV 0) :
 ∃ e st', execC (go n) mode GT false 34 n F122_L0 st = some (e, st') ∧ e ≠ .normal ∧ (e = .exit 0 ∧ st'.τ 3 = iV (a0 + armsSize l : Nat)) := by
 rw [F122_L0, execC_loop]; refine iter_rule (fun k st => ∃ i, i + k = l.length ∧ st.τ 1 = .w (.ptr 0 0) ∧ st.H 0 = .cells [k0, op0, as0, nk0, c0, ksW l] ∧ st.τ 3 = iV (a0 + armsSize (l.take i) : Nat) ∧ st.τ 4 = iV i) ?_ n l.length st hn ⟨0, by omega, h1, hH, by simpa [armsSize] using h3, by simpa using h4⟩
 rintro k ⟨τ, H, g, s⟩ ⟨i, hk, h1, hH, h3, h4⟩; simp only at h1 hH h3 h4; cases k with
 | zero =>
  have : i = l.length := by omega
  subst this; refine ⟨.exit 0, ?_⟩
  rw [List.take_length] at h3; simp [F122_B0, h1, hH, h3, h4]
 | succ k =>
  have hlt : i < l.length := by omega
  have hlt' := ltT hlt; have hg := List.getElem?_eq_getElem hlt; have hmem := List.getElem_mem hlt; have hw := wrap_succ (i := i) (by omega); have hs := armsSize_take hg; have hs2 := armsSize_take_le l (i + 1); have w := hc _ hmem; obtain ⟨k', op, as, nks, cs, ks, hx⟩ : ∃ k' op as nks cs ks, l[i] = .mk (.mk k' op as nks) cs ks := by
   cases hq : l[i] with | mk nn cs ks => cases nn; exact ⟨_, _, _, _, _, _, rfl⟩
  rw [hx] at hg w hs; have hb := armRows_get hg; generalize hz : Arm.size (.mk (.mk k' op as nks) cs ks) = z at w hs; have hadd : IntKind.wrap .i64 ((a0 + armsSize (l.take i) : Nat) + (z : Int)) = (a0 + armsSize (l.take (i + 1)) : Nat) := wrap_cast (by omega) (by omega); refine ⟨.normal, ?_⟩
  simp [-getElem?_pos, -Int.natCast_add, F122_B0, h1, hH, h3, h4, hlt, hlt', hb, w, hw, hadd]; exact ⟨k, by omega, i + 1, by omega, rfl, rfl⟩
theorem run_ArmSizeS : ∀ (m : Nat) (a : Arm), a.wt ≤ m → m < 2 ^ 40 → ∀ (n : Nat), 2 * m + 8 ≤ n → ∀ s, go n 122 [armX a] [] s = some ⟨iV a.size, [], []⟩
 | 0, t, h, hm, n, hn, s => by have := t.wt_pos; omega
 | m + 1, .mk (.mk k op as nks) cs ks, h, hm, n, hn, s => by
  obtain ⟨n, rfl⟩ : ∃ k, n = k + 1 := ⟨n - 1, by omega⟩; have hlen := armsWt_len ks; have hcl := elsWt_len cs; have hal := armsSize_le ks; have hns := size_le (.mk k op as nks); simp only [Arm.wt] at h; have hc : ∀ x ∈ ks, ∀ s, go n 122 [armX x] [] s = some ⟨iV x.size, [], []⟩ := fun x hx s => run_ArmSizeS m x (by have := armsWt_mem hx; omega) (by omega) n (by omega) s
  have w1 := run_noneS (n := n) (by omega) (.mk k op as nks); have w2 := run_sizeS (m + 1) (.mk k op as nks) (by omega) (by omega) n (by omega); have q1 : IntKind.wrap .i64 (1 + (cs.length : Int)) = (1 + cs.length : Nat) := wrap_cast (by omega) (by omega); cases hnn : Net.none (.mk k op as nks)
  · rw [hnn] at w1
    have q2 : IntKind.wrap .i64 ((1 + cs.length : Nat) + (Net.size (.mk k op as nks) : Int)) = (1 + cs.length + Net.size (.mk k op as nks) : Nat) := wrap_cast (by omega) (by omega); simp [-Int.natCast_add, go_of FT_122 rfl, F122, w1, w2, q1, q2]; generalize hst : St.mk _ _ _ _ = st; obtain ⟨e, ⟨τ', H', g', s'⟩, hx, -, rfl, h3⟩ := loop122_0 (n := n) ks hc (1 + cs.length + Net.size (.mk k op as nks)) (by omega) (iW k) (iW op) (asW as) (nsW nks) (csW cs) (by omega) (by omega) st (by simp [← hst]) (by simp [← hst]) (by simp [-Int.natCast_add, ← hst]) (by simp [← hst]); simp only at h3; simp [-Int.natCast_add, hx, h3, Arm.size, hnn]
  · rw [hnn] at w1
    simp [-Int.natCast_add, go_of FT_122 rfl, F122, w1, w2, q1]; generalize hst : St.mk _ _ _ _ = st; obtain ⟨e, ⟨τ', H', g', s'⟩, hx, -, rfl, h3⟩ := loop122_0 (n := n) ks hc (1 + cs.length) (by omega) (iW k) (iW op) (asW as) (nsW nks) (csW cs) (by omega) (by omega) st (by simp [← hst]) (by simp [← hst]) (by simp [-Int.natCast_add, ← hst]) (by simp [← hst]); simp only at h3; simp [-Int.natCast_add, hx, h3, Arm.size, hnn]
theorem loop107_0 {n : Nat} (l : List Arm) (hc : ∀ x ∈ l, ∀ s, go n 122 [armX x] [] s = some ⟨iV x.size, [], []⟩) (hsz : armsSize l < 2 ^ 41) (hn : l.length < n) (hl : l.length < 2 ^ 40) (st : St) (h0 : st.τ 0 = .w (ksW l)) (h3 : st.τ 3 = iV 0) (h4 : st.τ 4 = iV 0) :
 ∃ e st', execC (go n) mode GT false 19 n F107_L0 st = some (e, st') ∧ e ≠ .normal ∧ (e = .exit 0 ∧ st'.τ 3 = iV (armsSize l : Nat)) := by
 rw [F107_L0, execC_loop]; refine iter_rule (fun k st => ∃ i, i + k = l.length ∧ st.τ 0 = .w (ksW l) ∧ st.τ 3 = iV (armsSize (l.take i) : Nat) ∧ st.τ 4 = iV i) ?_ n l.length st hn ⟨0, by omega, h0, by simpa [armsSize] using h3, by simpa using h4⟩
 rintro k ⟨τ, H, g, s⟩ ⟨i, hk, h0, h3, h4⟩; simp only at h0 h3 h4; cases k with
 | zero =>
  have : i = l.length := by omega
  subst this; refine ⟨.exit 0, ?_⟩
  rw [List.take_length] at h3; simp [F107_B0, h0, h3, h4]
 | succ k =>
  have hlt : i < l.length := by omega
  have hlt' := ltT hlt; have hg := List.getElem?_eq_getElem hlt; have hmem := List.getElem_mem hlt; have hw := wrap_succ (i := i) (by omega); have hs := armsSize_take hg; have hs2 := armsSize_take_le l (i + 1); have w := hc _ hmem; obtain ⟨k', op, as, nks, cs, ks, hx⟩ : ∃ k' op as nks cs ks, l[i] = .mk (.mk k' op as nks) cs ks := by
   cases hq : l[i] with | mk nn cs ks => cases nn; exact ⟨_, _, _, _, _, _, rfl⟩
  rw [hx] at hg w hs; have hb := armRows_get hg; generalize hz : Arm.size (.mk (.mk k' op as nks) cs ks) = z at w hs; have hadd : IntKind.wrap .i64 ((armsSize (l.take i) : Int) + (z : Int)) = (armsSize (l.take (i + 1)) : Nat) := wrap_cast (by omega) (by omega); refine ⟨.normal, ?_⟩
  simp [-getElem?_pos, -Int.natCast_add, F107_B0, h0, h3, h4, hlt, hlt', hb, w, hw, hadd]; exact ⟨k, by omega, i + 1, by omega, rfl, rfl⟩
theorem run_TreeSizeS (l : List Arm) (hm : armsWt l < 2 ^ 40) (n : Nat) (hn : 2 * armsWt l + 10 ≤ n) (s : Sup) : go n 107 [.w (ksW l)] [] s = some ⟨iV (armsSize l), [], []⟩ := by
 obtain ⟨n, rfl⟩ : ∃ k, n = k + 1 := ⟨n - 1, by omega⟩; have hlen := armsWt_len l; have hal := armsSize_le l; have hc : ∀ x ∈ l, ∀ s, go n 122 [armX x] [] s = some ⟨iV x.size, [], []⟩ := fun x hx s => run_ArmSizeS (armsWt l) x (armsWt_mem hx) hm n (by omega) s
 simp [go_of FT_107 rfl, F107]; generalize hst : St.mk _ _ _ _ = st; obtain ⟨e, ⟨τ', H', g', s'⟩, hx, -, rfl, h3⟩ := loop107_0 (n := n) l hc (by omega) (by omega) (by omega) st (by simp [← hst]) (by simp [← hst]) (by simp [← hst]); simp only at h3; simp [hx, h3]
end Go.VM
