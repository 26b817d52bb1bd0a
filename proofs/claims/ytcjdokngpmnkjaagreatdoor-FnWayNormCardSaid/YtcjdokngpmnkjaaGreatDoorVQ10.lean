/- Arms copied and brought to normal form, reckoned. Conditions: none. -/
import Derived.Test.YtcjdokngpmnkjaaGreatDoorVQ9

namespace Go.VM
set_option linter.unusedSimpArgs false
set_option linter.unusedVariables false
set_option maxHeartbeats 16000000

theorem loop147_0 {n : Nat} (l : List El) (h4 : 4 ≤ n) (hsm : elsWt l < 2 ^ 30) (hn : l.length < n) (hl : l.length < 2 ^ 40) (st : St) (h3 : st.τ 3 = .w (.own 192 0 l.length (some l.length))) (hB : st.H 192 = .row none 2 (List.replicate l.length [iD 0, .l 0 []]) 0) (h9 : st.τ 9 = .w (csW l)) (h10 : st.τ 10 = iV l.length) (h11 : st.τ 11 = iV 0) (hgg : 192 < st.g) :
    ∃ e st', execC (go n) mode GT false 23 n F147_L0 st = some (e, st') ∧ e ≠ .normal ∧ (e = .exit 0 ∧ st'.τ 3 = .w (.own 192 0 l.length (some l.length)) ∧ st'.H 192 = .row none 2 (elRows l) 0) := by
  rw [F147_L0, execC_loop]
  refine iter_rule (fun k st => ∃ i, i + k = l.length ∧ st.τ 3 = .w (.own 192 0 l.length (some l.length)) ∧ st.H 192 = .row none 2 (elRows (l.take i) ++ List.replicate k [iD 0, .l 0 []]) 0 ∧ st.τ 9 = .w (csW l) ∧ st.τ 10 = iV l.length ∧ st.τ 11 = iV i ∧ 192 < st.g) ?_ n l.length st hn ⟨0, by omega, h3, by simpa [elRows] using hB, h9, h10, by simpa using h11, hgg⟩
  rintro k ⟨τ, H, g, s⟩ ⟨i, hk, h3, hB, h9, h10, h11, hgg⟩
  simp only at h3 hB h9 h10 h11 hgg
  cases k with
  | zero =>
    have : i = l.length := by omega
    subst this
    refine ⟨.exit 0, ?_⟩
    rw [List.take_length] at hB
    simp [F147_B0, h3, h9, h10, h11, hB]
  | succ k =>
    have hlt : i < l.length := by omega
    have hlt' : ((i : Int) < (l.length : Int)) = True := eq_true (by omega)
    have hg := List.getElem?_eq_getElem hlt
    have hmem := List.getElem_mem hlt
    have hw := wrap_succ (i := i) (by omega)
    have hlT : (elRows (l.take i)).length = i := by simp; omega
    have hget := fill_get (k := k) hlT [iD 0, .l 0 []]
    have hset := fill_set (k := k) hlT [iD 0, .l 0 []]
    have hwt := elsWt_mem hmem
    have hb := elRows_get hg
    have w := run_elemCopy (n := n) h4 l[i] (by simp only [El.wt] at hwt; omega)
    have hset := hset (El.row l[i])
    rw [elRows_take hg] at hset
    simp only [El.row] at hset
    have fgX := far hgg
    refine ⟨.normal, ?_⟩
    simp [-getElem?_pos, F147_B0, h3, h9, h10, h11, hB, hlt, hlt', hb, w, hw, hget, hset, fgX]
    exact ⟨k, by omega, i + 1, by omega, by first | exact rfl | exact ⟨rfl, rfl⟩ | exact ⟨rfl, rfl, by omega⟩ | exact ⟨rfl, by omega⟩⟩


theorem run_copyElems {n : Nat} (l : List El) (hn : elsWt l + 6 ≤ n) (hl : elsWt l < 2 ^ 30) (s : Sup) : go n 147 [.w (csW l)] [] s = some ⟨.w (.own 0 0 l.length (some l.length)), [], [.row none 2 (elRows l) 0]⟩ := by
  obtain ⟨n, rfl⟩ : ∃ k, n = k + 1 := ⟨n - 1, by omega⟩
  have hlen := elsWt_len l
  have hr : room l.length 32 = true := room_of (by omega) (by omega)
  simp [go_of FT_147 rfl, F147, hr]
  generalize hst : St.mk _ _ _ _ = st
  obtain ⟨e, ⟨τ', H', g', s'⟩, hx, -, rfl, h3, hB⟩ := loop147_0 (n := n) l (by omega) hl (by omega) (by omega) st (by simp [← hst]) (by simp [← hst]) (by simp [← hst]) (by simp [← hst]) (by simp [← hst]) (by simp [← hst])
  simp only at h3 hB
  simp [hx, h3, hB]

theorem loop125_0 {n : Nat} (l : List Arm) (hc : ∀ x ∈ l, ∀ s, go n 125 [.w (ksW x.kids)] [] s = some ⟨.w (ksW x.kids), [], []⟩) (hsm : armsWt l < 2 ^ 29) (hnn : armsWt l + 20 ≤ n) (hn : l.length < n) (hl : l.length < 2 ^ 40) (st : St) (h3 : st.τ 3 = .w (.own 192 0 l.length (some l.length))) (hB : st.H 192 = .row none 6 (List.replicate l.length [iD 0, iD 0, .l 0 [], .l 0 [], .l 0 [], .l 0 []]) 0) (h9 : st.τ 9 = .w (ksW l)) (h10 : st.τ 10 = iV l.length) (h11 : st.τ 11 = iV 0) (hgg : 192 < st.g) :
    ∃ e st', execC (go n) mode GT false 31 n F125_L0 st = some (e, st') ∧ e ≠ .normal ∧ (e = .exit 0 ∧ st'.τ 3 = .w (.own 192 0 l.length (some l.length)) ∧ st'.H 192 = .row none 6 (armRows l) 0) := by
  rw [F125_L0, execC_loop]
  refine iter_rule (fun k st => ∃ i, i + k = l.length ∧ st.τ 3 = .w (.own 192 0 l.length (some l.length)) ∧ st.H 192 = .row none 6 (armRows (l.take i) ++ List.replicate k [iD 0, iD 0, .l 0 [], .l 0 [], .l 0 [], .l 0 []]) 0 ∧ st.τ 9 = .w (ksW l) ∧ st.τ 10 = iV l.length ∧ st.τ 11 = iV i ∧ 192 < st.g) ?_ n l.length st hn ⟨0, by omega, h3, by simpa [armRows] using hB, h9, h10, by simpa using h11, hgg⟩
  rintro k ⟨τ, H, g, s⟩ ⟨i, hk, h3, hB, h9, h10, h11, hgg⟩
  simp only at h3 hB h9 h10 h11 hgg
  cases k with
  | zero =>
    have : i = l.length := by omega
    subst this
    refine ⟨.exit 0, ?_⟩
    rw [List.take_length] at hB
    simp [F125_B0, h3, h9, h10, h11, hB]
  | succ k =>
    have hlt : i < l.length := by omega
    have hlt' : ((i : Int) < (l.length : Int)) = True := eq_true (by omega)
    have hg := List.getElem?_eq_getElem hlt
    have hmem := List.getElem_mem hlt
    have hw := wrap_succ (i := i) (by omega)
    have hlT : (armRows (l.take i)).length = i := by simp; omega
    have hget := fill_get (k := k) hlT [iD 0, iD 0, .l 0 [], .l 0 [], .l 0 [], .l 0 []]
    have hset := fill_set (k := k) hlT [iD 0, iD 0, .l 0 [], .l 0 [], .l 0 [], .l 0 []]
    have hwt := armsWt_mem hmem
    have w := hc _ hmem
    have hset := hset (Arm.row l[i])
    rw [armRows_take hg] at hset
    obtain ⟨k', op, as, nks, cs, ks, hx⟩ : ∃ k' op as nks cs ks, l[i] = .mk (.mk k' op as nks) cs ks := by
      cases hq : l[i] with | mk nn cs ks => cases nn; exact ⟨_, _, _, _, _, _, rfl⟩
    rw [hx] at hg w hset hwt
    have hb := armRows_get hg
    simp only [Arm.row] at hset
    simp only [Arm.kids] at w
    simp only [Arm.wt] at hwt
    have w2 := run_netCopy (Net.wt (.mk k' op as nks)) (.mk k' op as nks) (Nat.le_refl _) (by omega) n (by omega)
    have w3 := run_copyElems (n := n) cs (by omega) (by omega)
    have fgX := far hgg
    have hcm : (g < g + 64 + 384) = True := eq_true (by omega)
    refine ⟨.normal, ?_⟩
    simp [-getElem?_pos, F125_B0, hcm, h3, h9, h10, h11, hB, hlt, hlt', hb, w, w2, w3, hw, hget, hset, fgX]
    exact ⟨k, by omega, i + 1, by omega, by first | exact rfl | exact ⟨rfl, rfl⟩ | exact ⟨rfl, rfl, by omega⟩ | exact ⟨rfl, by omega⟩⟩


theorem run_copyArms : ∀ (m : Nat) (l : List Arm), armsWt l ≤ m → m < 2 ^ 29 → ∀ (n : Nat), 2 * m + 24 ≤ n → ∀ s, go n 125 [.w (ksW l)] [] s = some ⟨.w (ksW l), [], []⟩ := by
  intro m
  induction m with
  | zero =>
    intro l h hm n hn s
    obtain ⟨n, rfl⟩ : ∃ k, n = k + 2 := ⟨n - 2, by omega⟩
    have e : l = [] := by
      cases l with
      | nil => rfl
      | cons a r => have := a.wt_pos; simp [armsWt] at h; omega
    subst e
    have hr : room 0 112 = true := by decide
    simp [go_of FT_125 rfl, F125, F125_L0, execC_loop, iter, F125_B0, armRows, hr]
  | succ m ih =>
    intro l h hm n hn s
    obtain ⟨n, rfl⟩ : ∃ k, n = k + 1 := ⟨n - 1, by omega⟩
    have hlen := armsWt_len l
    have hr : room l.length 112 = true := room_of (by omega) (by omega)
    have hc : ∀ x ∈ l, ∀ s, go n 125 [.w (ksW x.kids)] [] s = some ⟨.w (ksW x.kids), [], []⟩ := fun x hx s => ih x.kids (by have := armsWt_mem hx; cases x; simp [Arm.wt] at this; simp [Arm.kids]; omega) (by omega) n (by omega) s
    simp [go_of FT_125 rfl, F125, hr]
    generalize hst : St.mk _ _ _ _ = st
    obtain ⟨e, ⟨τ', H', g', s'⟩, hx, -, rfl, h3, hB⟩ := loop125_0 (n := n) l hc (by omega) (by omega) (by omega) (by omega) st (by simp [← hst]) (by simp [← hst]) (by simp [← hst]) (by simp [← hst]) (by simp [← hst]) (by simp [← hst])
    simp only at h3 hB
    simp [hx, h3, hB]

theorem loop146_0 {n : Nat} (l : List Arm) (hc : ∀ x ∈ l, ∀ s, go n 146 [armX x] [] s = some ⟨armX x.norm, [], []⟩) (c0 c1 c2 c3 : W) (cs : List El) (hn : l.length < n) (hl : l.length < 2 ^ 40) (st : St) (h2 : st.τ 2 = .w (.ptr 64 0)) (hC : st.H 64 = .cells [iW 0, iW 0, .nil, .nil, .nil, .nil]) (h3 : st.τ 3 = .w (.ptr 640 0)) (hA : st.H 640 = .cells [c0, c1, c2, c3, .own 256 0 cs.length (some cs.length), .own 512 0 l.length (some l.length)]) (hD : st.H 256 = .row none 2 (elRows cs) 0) (hB : st.H 512 = .row none 6 (List.replicate l.length [iD 0, iD 0, .l 0 [], .l 0 [], .l 0 [], .l 0 []]) 0) (h24 : st.τ 24 = .w (ksW l)) (h25 : st.τ 25 = iV l.length) (h26 : st.τ 26 = iV 0) (hgg : 640 < st.g) :
    ∃ e st', execC (go n) mode GT false 91 n F146_L0 st = some (e, st') ∧ e ≠ .normal ∧ (e = .exit 0 ∧ st'.τ 2 = .w (.ptr 64 0) ∧ st'.H 64 = .cells [iW 0, iW 0, .nil, .nil, .nil, .nil] ∧ st'.τ 3 = .w (.ptr 640 0) ∧ st'.H 640 = .cells [c0, c1, c2, c3, .own 256 0 cs.length (some cs.length), .own 512 0 l.length (some l.length)] ∧ st'.H 256 = .row none 2 (elRows cs) 0 ∧ st'.H 512 = .row none 6 (armRows (armsNorm l)) 0 ∧ 640 < st'.g) := by
  rw [F146_L0, execC_loop]
  refine iter_rule (fun k st => ∃ i, i + k = l.length ∧ st.τ 2 = .w (.ptr 64 0) ∧ st.H 64 = .cells [iW 0, iW 0, .nil, .nil, .nil, .nil] ∧ st.τ 3 = .w (.ptr 640 0) ∧ st.H 640 = .cells [c0, c1, c2, c3, .own 256 0 cs.length (some cs.length), .own 512 0 l.length (some l.length)] ∧ st.H 256 = .row none 2 (elRows cs) 0 ∧ st.H 512 = .row none 6 (armRows ((armsNorm l).take i) ++ List.replicate k [iD 0, iD 0, .l 0 [], .l 0 [], .l 0 [], .l 0 []]) 0 ∧ st.τ 24 = .w (ksW l) ∧ st.τ 25 = iV l.length ∧ st.τ 26 = iV i ∧ 640 < st.g) ?_ n l.length st hn ⟨0, by omega, h2, hC, h3, hA, hD, by simpa [armRows] using hB, h24, h25, by simpa using h26, hgg⟩
  rintro k ⟨τ, H, g, s⟩ ⟨i, hk, h2, hC, h3, hA, hD, hB, h24, h25, h26, hgg⟩
  simp only at h2 hC h3 hA hD hB h24 h25 h26 hgg
  cases k with
  | zero =>
    have : i = l.length := by omega
    subst this
    refine ⟨.exit 0, ?_⟩
    have hll : (armsNorm l).take l.length = armsNorm l := List.take_of_length_le (by simp [armsNorm_map])
    rw [hll] at hB
    simp [F146_B0, h2, hC, h3, hA, hD, h24, h25, h26, hB]
    omega
  | succ k =>
    have hlt : i < l.length := by omega
    have hlt' : ((i : Int) < (l.length : Int)) = True := eq_true (by omega)
    have hg := List.getElem?_eq_getElem hlt
    have hmem := List.getElem_mem hlt
    have hw := wrap_succ (i := i) (by omega)
    have hlT : (armRows ((armsNorm l).take i)).length = i := by simp [armsNorm_map]; omega
    have hget := fill_get (k := k) hlT [iD 0, iD 0, .l 0 [], .l 0 [], .l 0 [], .l 0 []]
    have hset := fill_set (k := k) hlT [iD 0, iD 0, .l 0 [], .l 0 [], .l 0 [], .l 0 []]
    have w := hc _ hmem
    have hgn : (armsNorm l)[i]? = some l[i].norm := by simp [armsNorm_map, hlt]
    have hset := hset (Arm.row l[i].norm)
    rw [armRows_take hgn] at hset
    generalize l[i].norm = y at w hset
    obtain ⟨k', op, as, nks, cs, ks, hx⟩ : ∃ k' op as nks cs ks, l[i] = .mk (.mk k' op as nks) cs ks := by
      cases hq : l[i] with | mk nn cs ks => cases nn; exact ⟨_, _, _, _, _, _, rfl⟩
    rw [hx] at hg w
    have hb := armRows_get hg
    obtain ⟨⟨yk, yo, ya, yn⟩, yc, ys⟩ := y
    simp only [Arm.row] at hset
    have fgX := far hgg
    have feX := far (show 512 < g by omega)
    have fcX := far (show 256 < g by omega)
    have fzX := far (show 64 < g by omega)
    refine ⟨.normal, ?_⟩
    simp [-getElem?_pos, F146_B0, h2, hC, h3, hA, hD, h24, h25, h26, hB, hlt, hlt', hb, w, hw, hget, hset, fgX, feX, fcX, fzX]
    exact ⟨k, by omega, i + 1, by omega, by first | exact rfl | exact ⟨rfl, rfl⟩ | exact ⟨rfl, rfl, by omega⟩ | exact ⟨rfl, by omega⟩⟩

end Go.VM
