/- How many bits a whole ladder wants, reckoned. Conditions: none. -/
import Derived.Test.YtcjdokngpmnkjaaGreatDoorVY11
import Derived.Test.YtcjdokngpmnkjaaGreatDoorVQ8

namespace Go.VM
set_option linter.unusedSimpArgs false
set_option linter.unusedVariables false
set_option maxHeartbeats 16000000

theorem mx3 (a b c : Nat) : (if (if a < b then (b : Int) else (a : Int)) < (c : Int) then (c : Int) else (if a < b then (b : Int) else (a : Int))) = ((max a (max b c) : Nat) : Int) := by split <;> split <;> omega

theorem loop269_0 {n : Nat} (l : List Arm) (hb : ∀ x ∈ l, ∀ s, go n 295 [netX x.net] [] s = some ⟨iV ((x.net.bb : Nat) : Int), [], []⟩) (hc : ∀ x ∈ l, ∀ s, go n 296 [armX x] [] s = some ⟨iV ((x.tb : Nat) : Int), [], []⟩) (a0 : Nat) (hn : l.length < n) (hl : l.length < 2 ^ 40) (st : St) (h7 : st.τ 7 = .w (ksW l)) (h8 : st.τ 8 = iV l.length) (ha : st.τ 3 = iV a0) (hi : st.τ 9 = iV 0) :
    ∃ e st', execC (go n) mode GT false 22 n F269_L0 st = some (e, st') ∧ e ≠ .normal ∧ (e = .exit 0 ∧ st'.τ 3 = iV ((l.foldl (fun m x => max m (max x.net.bb x.tb)) a0 : Nat) : Int)) := by
  rw [F269_L0, execC_loop]
  refine iter_rule (fun m st => ∃ i, i + m = l.length ∧ st.τ 7 = .w (ksW l) ∧ st.τ 8 = iV l.length ∧ st.τ 3 = iV (((l.take i).foldl (fun m x => max m (max x.net.bb x.tb)) a0 : Nat) : Int) ∧ st.τ 9 = iV i) ?_ n l.length st hn ⟨0, by omega, h7, h8, by simpa using ha, by simpa using hi⟩
  clear h7 h8 ha hi
  rintro m ⟨τ, H, g, s⟩ ⟨i, hm, h7, h8, ha, hi⟩
  simp only at h7 h8 ha hi
  cases m with
  | zero =>
    have : i = l.length := by omega
    subst this
    rw [List.take_length] at ha
    refine ⟨.exit 0, ?_⟩
    simp [F269_B0, h7, h8, ha, hi]
  | succ m =>
    have hlt : i < l.length := by omega
    have hlt' : ((i : Int) < (l.length : Int)) = True := eq_true (by omega)
    have hgt := List.getElem?_eq_getElem hlt
    have hmem := List.getElem_mem hlt
    have hw := wrap_succ (i := i) (by omega)
    have hstep : ∀ y, l[i]? = some y → (l.take (i + 1)).foldl (fun m x => max m (max x.net.bb x.tb)) a0 = max ((l.take i).foldl (fun m x => max m (max x.net.bb x.tb)) a0) ((fun x => max x.net.bb x.tb) y) := fun y hy => by rw [List.take_add_one, hy, List.foldl_append]; rfl
    obtain ⟨xk, xo, xa, xns, xcs, xks, hx⟩ : ∃ xk xo xa xns xcs xks, l[i] = .mk (.mk xk xo xa xns) xcs xks := by
      cases hq : l[i] with | mk nn cs ks => cases nn; exact ⟨_, _, _, _, _, _, rfl⟩
    have w1 := hb _ hmem
    have w2 := hc _ hmem
    rw [hx] at hgt w1 w2
    have hstep : (l.take (i + 1)).foldl (fun m x => max m (max x.net.bb x.tb)) a0 = max ((l.take i).foldl (fun m x => max m (max x.net.bb x.tb)) a0) (max (Net.bb (.mk xk xo xa xns)) (Arm.tb (.mk (.mk xk xo xa xns) xcs xks))) := hstep _ hgt
    rw [show Arm.net (.mk (.mk xk xo xa xns) xcs xks) = .mk xk xo xa xns from rfl] at w1
    have hrow := armRows_get hgt
    have hq : ∀ g : Nat, (g < g + 64 + 256) = True := fun g => eq_true (by omega)
    generalize Net.bb (.mk xk xo xa xns) = F1 at w1 hstep
    generalize Arm.tb (.mk (.mk xk xo xa xns) xcs xks) = F2 at w2 hstep
    generalize (l.take i).foldl (fun m x => max m (max x.net.bb x.tb)) a0 = A at ha hstep
    refine ⟨.normal, ?_⟩
    simp [-getElem?_pos, F269_B0, h7, h8, ha, hi, hlt, hlt', hrow, hw, mx, mx', w1, w2, mx3, hq]
    refine ⟨m, by omega, i + 1, by omega, ?_⟩
    rw [hstep]
    try rw [show ((max A (max F1 F2) : Nat) : Int) = max (A : Int) (max (F1 : Int) (F2 : Int)) by omega]
    repeat' apply And.intro
    all_goals first | rfl | (simp; done) | omega | assumption | (simp only; omega)

theorem rung_net {a : Arm} (h : a.wrong true = 0) : a.net.wrong = 0 := by
  obtain ⟨n, cs, ks⟩ := a
  obtain ⟨h1, h2, -, -, -⟩ := arm_right h
  rcases h2 with h2 | h2
  · rw [h1 rfl] at h2; cases h2
  · exact h2
theorem arm_net_wt (a : Arm) : a.net.wt ≤ a.wt := by obtain ⟨n, cs, ks⟩ := a; simp only [Arm.net, Arm.wt]; omega
theorem run_WayBits (l : List Arm) (hm : armsWt l < 2 ^ 25) (n : Nat) (hn : 6 * armsWt l + 400 ≤ n) (s : Sup) : go n 269 [.w (ksW l)] [] s = some ⟨iV ((bitsOf (normOf l) : Nat) : Int), [], []⟩ := by
  obtain ⟨n, rfl⟩ : ∃ k, n = k + 1 := ⟨n - 1, by omega⟩
  have w1 := run_normMake l hm n (by omega)
  have hw := normOf_wt l
  have hr := normOf_right l
  generalize normOf l = Y at w1 hw hr ⊢
  have hlen := armsWt_len Y
  have e0 := bits_fold Y 0
  rw [Nat.zero_max] at e0
  rw [← e0]
  simp [go_of (n := n) FT_269 rfl, F269, w1]
  generalize hst : St.mk _ _ _ _ = st
  obtain ⟨e, ⟨τ', H', g', s'⟩, hx, -, rfl, h3⟩ := loop269_0 (n := n) Y (fun x hx s => run_beginBits (armsWt Y) x.net (by have := armsWt_mem hx; have := arm_net_wt x; omega) (by omega) (rung_net (hr x hx)) n (by omega) s)
    (fun x hx s => run_tailBits (armsWt Y) x (armsWt_mem hx) (by omega) (arm_weak (hr x hx)) n (by omega) s) 0 (by omega) (by omega) st (by simp [← hst]) (by simp [← hst]) (by simp [← hst]) (by simp [← hst])
  simp only at h3
  clear hst
  simp [hx, h3]
end Go.VM

/- WayDown, run. Conditions: none. -/
namespace Go.VM
set_option linter.unusedSimpArgs false
set_option linter.unusedVariables false
set_option maxHeartbeats 16000000

/-- What WayDown answers. -/
def downCode (l : List Arm) : Int := if treeCode l = 0 then if 16 < bitsOf (normOf l) ∨ 8 < forksOf (normOf l) then 2 else 0 else 1
def downList (l : List Arm) : List Ins := if downCode l = 0 then plainOf (normOf l) else []
theorem run_WayDown (l : List Arm) (hm : armsWt l < 2 ^ 25) (n : Nat) (hn : 6 * armsWt l + 500 ≤ n) (s : Sup) : go n 271 [.w (ksW l)] [] s = some ⟨.tup [(false, [isW (downList l)]), (false, [iW (downCode l)])], [], []⟩ := by
  obtain ⟨n, rfl⟩ : ∃ k, n = k + 2 := ⟨n - 2, by omega⟩
  have w1 := run_accepted l (by omega) (n + 1) (by omega)
  by_cases h : treeCode l = 0
  · have w2 := run_plain l hm (treeCode_right h) h (n + 1) (by omega)
    have e : normOf l = armsNorm l := by unfold normOf; rw [if_pos h]
    have w3 := run_WayBits l hm (n + 1) (by omega)
    have w4 := run_WayForks l hm (n + 1) (by omega)
    have hlp := len_plainOf (normOf l) (normOf_right l)
    have hsz := armsSize_le (normOf l)
    have hwt := normOf_wt l
    have w5 := run_clip (n := n) (plainOf (normOf l)) (by omega)
    rw [← e] at w2
    unfold downList downCode
    rw [if_pos h]
    generalize normOf l = y at w2 w3 w4 w5
    by_cases hb : 16 < bitsOf y
    · have hb' : ((16 : Int) < (bitsOf y : Int)) = True := eq_true (by omega)
      simp [go_of (n := n + 1) FT_271 rfl, F271, w1, h, w2, w3, w4, w5, hb, hb', insRows]
    · have hb' : ((16 : Int) < (bitsOf y : Int)) = False := eq_false (by omega)
      by_cases hf : 8 < forksOf y
      · have hf' : ((8 : Int) < (forksOf y : Int)) = True := eq_true (by omega)
        simp [go_of (n := n + 1) FT_271 rfl, F271, w1, h, w2, w3, w4, w5, hb, hb', hf, hf', insRows]
      · have hf' : ((8 : Int) < (forksOf y : Int)) = False := eq_false (by omega)
        simp [go_of (n := n + 1) FT_271 rfl, F271, w1, h, w2, w3, w4, w5, hb, hb', hf, hf']
  · unfold downList downCode
    rw [if_neg h]
    simp [go_of (n := n + 1) FT_271 rfl, F271, w1, h, insRows]
end Go.VM

/- Two lists compared. Conditions: none. -/
namespace Go.VM
set_option linter.unusedSimpArgs false
set_option linter.unusedVariables false
set_option maxHeartbeats 16000000

theorem run_instSame1 {n : Nat} (a b : Ins) (hn : a.e.as.length + 3 ≤ n) (hl : a.e.as.length < 2 ^ 40) (s : Sup) : go (n + 1) 300 [insX a, insX b] [] s = some ⟨bV (eqB a b), [], []⟩ := by
  obtain ⟨p, e⟩ := a
  obtain ⟨q, f⟩ := b
  have w := run_elemSame (n := n) e f hn hl
  obtain ⟨o1, x⟩ := e
  obtain ⟨o2, y⟩ := f
  by_cases h : p = q
  · by_cases h2 : (⟨o1, x⟩ : El) = ⟨o2, y⟩
    · have e1 : (⟨p, ⟨o1, x⟩⟩ : Ins) = ⟨q, ⟨o2, y⟩⟩ := by rw [h, h2]
      rw [eqB_true e1]
      rw [decide_eq_true h2] at w
      simp [go_of FT_300 rfl, F300, h, w]
    · have e1 : (⟨p, ⟨o1, x⟩⟩ : Ins) ≠ ⟨q, ⟨o2, y⟩⟩ := fun e => h2 (congrArg Ins.e e)
      rw [eqB_false e1]
      rw [decide_eq_false h2] at w
      simp [go_of FT_300 rfl, F300, h, w]
  · have e1 : (⟨p, ⟨o1, x⟩⟩ : Ins) ≠ ⟨q, ⟨o2, y⟩⟩ := fun e => h (congrArg Ins.c e)
    rw [eqB_false e1]
    simp [go_of FT_300 rfl, F300, h]

theorem loop299_0 {n : Nat} (l : List Ins) (m : List Ins) (hlm : l.length = m.length) (hc : ∀ x ∈ l, ∀ y s, go n 300 [insX x, insX y] [] s = some ⟨bV (eqB x y), [], []⟩) (hn : l.length < n) (hl : l.length < 2 ^ 40) (st : St) (ht : True) (h1 : st.τ 1 = .w (isW m)) (h2 : st.τ 2 = .w (.fn 300 [])) (h15 : st.τ 15 = .w (isW l)) (h16 : st.τ 16 = iV l.length) (h17 : st.τ 17 = iV 0) :
    ∃ e st', execC (go n) mode GT false 32 n F299_L0 st = some (e, st') ∧ e ≠ .normal ∧ ((e = .exit 0 ∧ l = m) ∨ (e = .ret ∧ l ≠ m ∧ st'.τ 6 = sV (.bool false))) := by
  rw [F299_L0, execC_loop]
  refine iter_rule (fun k st => ∃ i, i + k = l.length ∧ l.take i = m.take i ∧ st.τ 1 = .w (isW m) ∧ st.τ 2 = .w (.fn 300 []) ∧ st.τ 15 = .w (isW l) ∧ st.τ 16 = iV l.length ∧ st.τ 17 = iV i) ?_ n l.length st hn ⟨0, by omega, by simp, h1, h2, h15, h16, by simpa using h17⟩
  rintro k ⟨τ, H, g, s⟩ ⟨i, hk, ht, h1, h2, h15, h16, h17⟩
  simp only at ht h1 h2 h15 h16 h17
  cases k with
  | zero =>
    have : i = l.length := by omega
    subst this
    refine ⟨.exit 0, ?_⟩
    have hlm2 : l = m := by rw [List.take_length, hlm, List.take_length] at ht; exact ht
    simp [F299_B0, h1, h2, h15, h16, h17, hlm2]
  | succ k =>
    have hlt : i < l.length := by omega
    have hlt' : ((i : Int) < (l.length : Int)) = True := eq_true (by omega)
    have hg := List.getElem?_eq_getElem hlt
    have hmem := List.getElem_mem hlt
    have hw := wrap_succ (i := i) (by omega)
    have hltm : i < m.length := by omega
    have hgm := List.getElem?_eq_getElem hltm
    have w := hc _ hmem m[i]
    have hor : l[i] = m[i] ∨ l[i] ≠ m[i] := Classical.em _
    have hdiff : l[i] ≠ m[i] → l ≠ m := fun h e => by subst e; exact h rfl
    have htake : l[i] = m[i] → l.take (i + 1) = m.take (i + 1) := fun h => take_eq ht hg (by rw [hgm, h])
    obtain ⟨c1, o1, a1, hx⟩ : ∃ c o a, l[i] = (⟨c, ⟨o, a⟩⟩ : Ins) := ⟨_, _, _, rfl⟩
    obtain ⟨c2, o2, a2, hy⟩ : ∃ c o a, m[i] = (⟨c, ⟨o, a⟩⟩ : Ins) := ⟨_, _, _, rfl⟩
    rw [hx, hy] at hor w hdiff htake
    rw [hx] at hg
    rw [hy] at hgm
    have hb := insRows_get hg
    have hbm := insRows_get hgm
    rcases hor with he | he
    · refine ⟨.normal, ?_⟩
      rw [eqB_true he] at w
      simp [-getElem?_pos, F299_B0, h1, h2, h15, h16, h17, hlt, hlt', hb, hbm, w, hw]
      exact ⟨k, by omega, i + 1, by omega, htake he, rfl⟩
    · refine ⟨.ret, ?_⟩
      rw [eqB_false he] at w
      simp [-getElem?_pos, F299_B0, h1, h2, h15, h16, h17, hlt, hlt', hb, hbm, w, hdiff he]

theorem run_instsSame {n : Nat} (l m : List Ins) (hc : ∀ x ∈ l, ∀ y s, go n 300 [insX x, insX y] [] s = some ⟨bV (eqB x y), [], []⟩) (hn : l.length < n) (hl : l.length < 2 ^ 40) (s : Sup) :
    go (n + 1) 299 [.w (isW l), .w (isW m), .w (.fn 300 [])] [] s = some ⟨bV (eqB l m), [], []⟩ := by
  by_cases hlm : l.length = m.length
  · have hlmi : ((l.length : Int) = m.length) = True := eq_true (by omega)
    simp [go_of FT_299 rfl, F299, hlm, hlmi, insRows_length]
    generalize hst : St.mk _ _ _ _ = st
    obtain ⟨e, ⟨τ', H', g', s'⟩, hx, -, ⟨rfl, h⟩ | ⟨rfl, h, h4⟩⟩ := loop299_0 (n := n) l m hlm hc (by omega) hl st trivial (by simp [← hst]) (by simp [← hst]) (by simp [← hst]) (by simp [← hst, hlm]) (by simp [← hst])
    · simp [hx, eqB_true h]
    · simp only at h4
      simp [hx, eqB_false h, h4]
  · have hlmi : ((l.length : Int) = m.length) = False := eq_false (by omega)
    have : l ≠ m := fun e => hlm (by rw [e])
    simp [go_of FT_299 rfl, F299, hlm, hlmi, insRows_length, eqB_false this]



theorem run_ListSame (a b : List Ins) (k : Nat) (h1 : ∀ x ∈ a, x.e.as.length ≤ k) (n : Nat) (hn : a.length + k + 6 ≤ n) (hk : k < 2 ^ 30) (hl : a.length < 2 ^ 40) (s : Sup) : go n 272 [.w (isW a), .w (isW b)] [] s = some ⟨bV (eqB a b), [], []⟩ := by
  obtain ⟨n, rfl⟩ : ∃ k, n = k + 3 := ⟨n - 3, by omega⟩
  have w := run_instsSame (n := n + 1) a b (fun x hx y s => run_instSame1 (n := n) x y (by have := h1 x hx; omega) (by have := h1 x hx; omega) s) (by omega) hl
  simp [go_of (n := n + 2) FT_272 rfl, F272, w]
end Go.VM
