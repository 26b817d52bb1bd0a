/- Arms and ladders, reckoned: whether they are right; what the program and what the document says. Conditions: none. -/
import Derived.Test.YtfpkfcfiihfopaaGreatDoorVQ6

namespace Go.VM
set_option linter.unusedSimpArgs false
set_option linter.unusedVariables false
set_option maxHeartbeats 8000000
abbrev bV (b : Bool) : V := .w (.d (.s (.bool b)))
mutual
theorem Arm.wrong_or (b : Bool) : ∀ a : Arm, a.wrong b = 0 ∨ a.wrong b = 2 ∨ a.wrong b = 3 ∨ a.wrong b = 4 ∨ a.wrong b = 5
 | .mk n cs ks => by
  have h1 := n.wrong_or; have h2 := armsWrong_or ks; unfold Arm.wrong; split
  · simp
  · split
    · omega
    · split
      · simp
      · split
        · simp
        · exact h2
theorem armsWrong_or : ∀ l : List Arm, armsWrong l = 0 ∨ armsWrong l = 2 ∨ armsWrong l = 3 ∨ armsWrong l = 4 ∨ armsWrong l = 5
 | [] => by simp [armsWrong]
 | a :: r => by
  have h1 := a.wrong_or false; have h2 := armsWrong_or r; unfold armsWrong; split
  · exact h1
  · exact h2
end
theorem armsWrong_append : ∀ l m : List Arm, armsWrong (l ++ m) = if armsWrong l ≠ 0 then armsWrong l else armsWrong m
 | [], m => by simp [armsWrong]
 | n :: r, m => by
  simp only [List.cons_append, armsWrong, armsWrong_append r m]
  by_cases h : n.wrong false = 0 <;> simp [h]
theorem armsWrong_take {l : List Arm} {i : Nat} {x : Arm} (h : l[i]? = some x) (h0 : armsWrong (l.take i) = 0) : armsWrong (l.take (i + 1)) = x.wrong false := by
 rw [List.take_add_one, h]; simp only [Option.toList_some, armsWrong_append, h0, armsWrong]
 by_cases hx : x.wrong false = 0 <;> simp [hx]
theorem armsWrong_hit {l : List Arm} {i : Nat} {x : Arm} (h0 : armsWrong (l.take i) = 0) (h : l[i]? = some x) (hx : x.wrong false ≠ 0) : armsWrong l = x.wrong false := by
 have e : l = l.take (i + 1) ++ l.drop (i + 1) := (List.take_append_drop _ _).symm; rw [e, armsWrong_append, armsWrong_take h h0, if_pos hx]
theorem rungsWrong_append : ∀ l m : List Arm, rungsWrong (l ++ m) = if rungsWrong l ≠ 0 then rungsWrong l else rungsWrong m
 | [], m => by simp [rungsWrong]
 | n :: r, m => by
  simp only [List.cons_append, rungsWrong, rungsWrong_append r m]
  by_cases h : n.wrong true = 0 <;> simp [h]
theorem rungsWrong_take {l : List Arm} {i : Nat} {x : Arm} (h : l[i]? = some x) (h0 : rungsWrong (l.take i) = 0) : rungsWrong (l.take (i + 1)) = x.wrong true := by
 rw [List.take_add_one, h]; simp only [Option.toList_some, rungsWrong_append, h0, rungsWrong]
 by_cases hx : x.wrong true = 0 <;> simp [hx]
theorem rungsWrong_hit {l : List Arm} {i : Nat} {x : Arm} (h0 : rungsWrong (l.take i) = 0) (h : l[i]? = some x) (hx : x.wrong true ≠ 0) : rungsWrong l = x.wrong true := by
 have e : l = l.take (i + 1) ++ l.drop (i + 1) := (List.take_append_drop _ _).symm; rw [e, rungsWrong_append, rungsWrong_take h h0, if_pos hx]
theorem loop172_0 {n : Nat} (l : List Arm) (hc : ∀ x ∈ l, ∀ s, go n 172 [armX x, bV false] [] s = some ⟨iV (x.wrong false), [], []⟩) (hn : l.length < n) (hl : l.length < 2 ^ 40) (st : St) (hx0 : True) (h39 : st.τ 39 = .w (ksW l)) (h40 : st.τ 40 = iV l.length) (h41 : st.τ 41 = iV 0) :
 ∃ e st', execC (go n) mode GT false 51 n F172_L0 st = some (e, st') ∧ e ≠ .normal ∧ ((e = .exit 0 ∧ armsWrong l = 0) ∨ (e = .ret ∧ armsWrong l ≠ 0 ∧ st'.τ 4 = iV (armsWrong l))) := by
 rw [F172_L0, execC_loop]; refine iter_rule (fun k st => ∃ i, i + k = l.length ∧ armsWrong (l.take i) = 0 ∧ st.τ 39 = .w (ksW l) ∧ st.τ 40 = iV l.length ∧ st.τ 41 = iV i) ?_ n l.length st hn ⟨0, by omega, by simp [armsWrong], h39, h40, by simpa using h41⟩
 rintro k ⟨τ, H, g, s⟩ ⟨i, hk, hx0, h39, h40, h41⟩; simp only at hx0 h39 h40 h41; cases k with
 | zero =>
  have : i = l.length := by omega
  subst this; refine ⟨.exit 0, ?_⟩
  rw [List.take_length] at hx0; simp [F172_B0, h39, h40, h41, hx0]
 | succ k =>
  have hlt : i < l.length := by omega
  have hlt' := ltT hlt; have hg := List.getElem?_eq_getElem hlt; have hmem := List.getElem_mem hlt; have hw := wrap_succ (i := i) (by omega); have w := hc _ hmem; have hor := Arm.wrong_or false l[i]; generalize hcode : Arm.wrong false l[i] = c at w hor; obtain ⟨k', op, as, nks, cs, ks, hx⟩ : ∃ k' op as nks cs ks, l[i] = .mk (.mk k' op as nks) cs ks := by
   cases hq : l[i] with | mk nn cs ks => cases nn; exact ⟨_, _, _, _, _, _, rfl⟩
  rw [hx] at hg w hcode; have hb := armRows_get hg
  by_cases hz : c = 0
  · refine ⟨.normal, ?_⟩
    subst hz; simp [-getElem?_pos, F172_B0, h39, h40, h41, hlt, hlt', hb, w, hw]; exact ⟨k, by omega, i + 1, by omega, by rw [armsWrong_take hg hx0, hcode], rfl⟩
  · refine ⟨.ret, ?_⟩
    have hz' := eq_false hz; have hpos : 0 < c := by omega
    have hpos' := eq_true hpos; have hfin := armsWrong_hit hx0 hg (by rw [hcode]; exact hz); simp [-getElem?_pos, F172_B0, h39, h40, h41, hlt, hlt', hb, w, hw, hz', hpos']; exact ⟨by rw [hfin, hcode]; exact hz, by rw [hfin, hcode]⟩
theorem loop121_1 {n : Nat} (l : List Arm) (hc : ∀ x ∈ l, ∀ s, go n 121 [armX x, bV false] [] s = some ⟨iV (x.wrong false), [], []⟩) (k0 op0 as0 nk0 c0 : W) (hn : l.length < n) (hl : l.length < 2 ^ 40) (st : St) (hx0 : True) (h2 : st.τ 2 = .w (.ptr 0 0)) (hH : st.H 0 = .cells [k0, op0, as0, nk0, c0, ksW l]) (h7 : st.τ 7 = iV 0) :
 ∃ e st', execC (go n) mode GT false 65 n F121_L1 st = some (e, st') ∧ e ≠ .normal ∧ ((e = .exit 2 ∧ armsWrong l = 0) ∨ (e = .ret ∧ armsWrong l ≠ 0 ∧ st'.τ 4 = iV (armsWrong l))) := by
 rw [F121_L1, execC_loop]; refine iter_rule (fun k st => ∃ i, i + k = l.length ∧ armsWrong (l.take i) = 0 ∧ st.τ 2 = .w (.ptr 0 0) ∧ st.H 0 = .cells [k0, op0, as0, nk0, c0, ksW l] ∧ st.τ 7 = iV i) ?_ n l.length st hn ⟨0, by omega, by simp [armsWrong], h2, hH, by simpa using h7⟩
 rintro k ⟨τ, H, g, s⟩ ⟨i, hk, hx0, h2, hH, h7⟩; simp only at hx0 h2 hH h7; cases k with
 | zero =>
  have : i = l.length := by omega
  subst this; refine ⟨.exit 2, ?_⟩
  rw [List.take_length] at hx0; simp [F121_B1, h2, hH, h7, hx0]
 | succ k =>
  have hlt : i < l.length := by omega
  have hlt' := ltT hlt; have hg := List.getElem?_eq_getElem hlt; have hmem := List.getElem_mem hlt; have hw := wrap_succ (i := i) (by omega); have w := hc _ hmem; have hor := Arm.wrong_or false l[i]; generalize hcode : Arm.wrong false l[i] = c at w hor; obtain ⟨k', op, as, nks, cs, ks, hx⟩ : ∃ k' op as nks cs ks, l[i] = .mk (.mk k' op as nks) cs ks := by
   cases hq : l[i] with | mk nn cs ks => cases nn; exact ⟨_, _, _, _, _, _, rfl⟩
  rw [hx] at hg w hcode; have hb := armRows_get hg
  by_cases hz : c = 0
  · refine ⟨.normal, ?_⟩
    subst hz; simp [-getElem?_pos, F121_B1, h2, hH, h7, hlt, hlt', hb, w, hw]; exact ⟨k, by omega, i + 1, by omega, by rw [armsWrong_take hg hx0, hcode], rfl⟩
  · refine ⟨.ret, ?_⟩
    have hz' := eq_false hz; have hpos : 0 < c := by omega
    have hpos' := eq_true hpos; have hfin := armsWrong_hit hx0 hg (by rw [hcode]; exact hz); simp [-getElem?_pos, F121_B1, h2, hH, h7, hlt, hlt', hb, w, hw, hz', hpos']; exact ⟨by rw [hfin, hcode]; exact hz, by rw [hfin, hcode]⟩
theorem loop121_0 {n : Nat} (l : List El) (h30 : 30 ≤ n) (k0 op0 as0 nk0 a0 : W) (hn : l.length < n) (hl : l.length < 2 ^ 40) (st : St) (hx0 : True) (h2 : st.τ 2 = .w (.ptr 0 0)) (hH : st.H 0 = .cells [k0, op0, as0, nk0, csW l, a0]) (h6 : st.τ 6 = iV 0) :
 ∃ e st', execC (go n) mode GT false 65 n F121_L0 st = some (e, st') ∧ e ≠ .normal ∧ ((e = .exit 0 ∧ l.all El.coil = true ∧ st'.τ 2 = .w (.ptr 0 0) ∧ st'.H 0 = .cells [k0, op0, as0, nk0, csW l, a0]) ∨ (e = .ret ∧ l.all El.coil = false ∧ st'.τ 4 = iV 3)) := by
 rw [F121_L0, execC_loop]; refine iter_rule (fun k st => ∃ i, i + k = l.length ∧ (l.take i).all El.coil = true ∧ st.τ 2 = .w (.ptr 0 0) ∧ st.H 0 = .cells [k0, op0, as0, nk0, csW l, a0] ∧ st.τ 6 = iV i) ?_ n l.length st hn ⟨0, by omega, by simp, h2, hH, by simpa using h6⟩
 rintro k ⟨τ, H, g, s⟩ ⟨i, hk, hx0, h2, hH, h6⟩; simp only at hx0 h2 hH h6; cases k with
 | zero =>
  have : i = l.length := by omega
  subst this; refine ⟨.exit 0, ?_⟩
  rw [List.take_length] at hx0; simp [F121_B0, h2, hH, h6, hx0]
 | succ k =>
  have hlt : i < l.length := by omega
  have hlt' := ltT hlt; have hg := List.getElem?_eq_getElem hlt; have hmem := List.getElem_mem hlt; have hw := wrap_succ (i := i) (by omega); have w := run_ElemIsCoilS (n := n) (by omega) l[i]; have hb := elRows_get hg; cases he : El.coil l[i]
  · refine ⟨.ret, ?_⟩
    rw [he] at w; simp [-getElem?_pos, F121_B0, h2, hH, h6, hlt, hlt', hb, w]; exact ⟨l[i], hmem, he⟩
  · refine ⟨.normal, ?_⟩
    rw [he] at w; simp [-getElem?_pos, F121_B0, h2, hH, h6, hlt, hlt', hb, w, hw]; refine ⟨k, by omega, i + 1, by omega, ?_, rfl⟩
    rw [List.take_add_one, hg]; intro x hx; rcases List.mem_append.1 hx with hx | hx
    · exact List.all_eq_true.1 hx0 x hx
    · simp only [Option.toList_some, List.mem_singleton] at hx; subst hx; exact he
theorem run_armWrong : ∀ (m : Nat) (a : Arm), a.wt ≤ m → m < 2 ^ 39 → ∀ (b : Bool) (n : Nat), 2 * m + 80 ≤ n → ∀ s, go n 172 [armX a, bV b] [] s = some ⟨iV (a.wrong b), [], []⟩
 | 0, t, h, hm, b, n, hn, s => by have := t.wt_pos; omega
 | m + 1, .mk (.mk k op as nks) cs ks, h, hm, b, n, hn, s => by
  obtain ⟨n, rfl⟩ : ∃ k, n = k + 1 := ⟨n - 1, by omega⟩; have hlen := armsWt_len ks; have hcl := elsWt_len cs; simp only [Arm.wt] at h; have hc : ∀ x ∈ ks, ∀ s, go n 172 [armX x, bV false] [] s = some ⟨iV (x.wrong false), [], []⟩ := fun x hx s => run_armWrong m x (by have := armsWt_mem hx; omega) (by omega) false n (by omega) s
  have w1 := run_none (n := n) (by omega) (.mk k op as nks); have w2 := run_wrong (m + 1) (.mk k op as nks) (by omega) (by omega) n (by omega); have w3 := run_ContainsCoil (n := n) cs (by omega) (by omega); have hwo := Net.wrong_or (.mk k op as nks); unfold Arm.wrong; generalize hnn : Net.none (.mk k op as nks) = nn at w1; generalize hnw : Net.wrong (.mk k op as nks) = nw at w2 hwo; cases nn
  · by_cases hz : nw = 0
    · subst hz
      cases b
      · cases hcc : cs.all El.coil
        · rw [hcc] at w3
          simp [go_of FT_172 rfl, F172, w1, w2, w3, hnn]
        · rw [hcc] at w3
          by_cases l1 : cs.length = 0
          · have l1i : ((cs.length : Int) = 0) = True := eq_true (by omega)
            have l1e : cs = [] := List.eq_nil_of_length_eq_zero l1
            by_cases l2 : ks.length = 0
            · have l2i : ((ks.length : Int) = 0) = True := eq_true (by omega)
              have l2e : ks = [] := List.eq_nil_of_length_eq_zero l2; subst l1e l2e; simp [go_of FT_172 rfl, F172, w1, w2, w3, hnn]
            · have l2i : ((ks.length : Int) = 0) = False := eq_false (by omega)
              have l2e : ks ≠ [] := fun e => l2 (by rw [e]; rfl)
              subst l1e; simp [go_of FT_172 rfl, F172, w1, w2, w3, hnn, l2, l2i, l2e]; generalize hst : St.mk _ _ _ _ = st; obtain ⟨e, ⟨τ', H', g', s'⟩, hx, -, ⟨rfl, h0⟩ | ⟨rfl, h0, h2⟩⟩ := loop172_0 (n := n) ks hc (by omega) (by omega) st trivial (by simp [← hst]) (by simp [← hst]) (by simp [← hst])
              · simp [hx, h0]
              · simp only at h2
                simp [hx, h2]
          · have l1i : ((cs.length : Int) = 0) = False := eq_false (by omega)
            have l1e : cs ≠ [] := fun e => l1 (by rw [e]; rfl)
            simp [go_of FT_172 rfl, F172, w1, w2, w3, hnn, l1, l1i, l1e]; generalize hst : St.mk _ _ _ _ = st; obtain ⟨e, ⟨τ', H', g', s'⟩, hx, -, ⟨rfl, h0⟩ | ⟨rfl, h0, h2⟩⟩ := loop172_0 (n := n) ks hc (by omega) (by omega) st trivial (by simp [← hst]) (by simp [← hst]) (by simp [← hst])
            · simp [hx, h0]
            · simp only at h2
              simp [hx, h2]
      · cases hcc : cs.all El.coil
        · rw [hcc] at w3
          simp [go_of FT_172 rfl, F172, w1, w2, w3, hnn]
        · rw [hcc] at w3
          by_cases l1 : cs.length = 0
          · have l1i : ((cs.length : Int) = 0) = True := eq_true (by omega)
            have l1e : cs = [] := List.eq_nil_of_length_eq_zero l1
            by_cases l2 : ks.length = 0
            · have l2i : ((ks.length : Int) = 0) = True := eq_true (by omega)
              have l2e : ks = [] := List.eq_nil_of_length_eq_zero l2; subst l1e l2e; simp [go_of FT_172 rfl, F172, w1, w2, w3, hnn]
            · have l2i : ((ks.length : Int) = 0) = False := eq_false (by omega)
              have l2e : ks ≠ [] := fun e => l2 (by rw [e]; rfl)
              subst l1e; simp [go_of FT_172 rfl, F172, w1, w2, w3, hnn, l2, l2i, l2e]; generalize hst : St.mk _ _ _ _ = st; obtain ⟨e, ⟨τ', H', g', s'⟩, hx, -, ⟨rfl, h0⟩ | ⟨rfl, h0, h2⟩⟩ := loop172_0 (n := n) ks hc (by omega) (by omega) st trivial (by simp [← hst]) (by simp [← hst]) (by simp [← hst])
              · simp [hx, h0]
              · simp only at h2
                simp [hx, h2]
          · have l1i : ((cs.length : Int) = 0) = False := eq_false (by omega)
            have l1e : cs ≠ [] := fun e => l1 (by rw [e]; rfl)
            simp [go_of FT_172 rfl, F172, w1, w2, w3, hnn, l1, l1i, l1e]; generalize hst : St.mk _ _ _ _ = st; obtain ⟨e, ⟨τ', H', g', s'⟩, hx, -, ⟨rfl, h0⟩ | ⟨rfl, h0, h2⟩⟩ := loop172_0 (n := n) ks hc (by omega) (by omega) st trivial (by simp [← hst]) (by simp [← hst]) (by simp [← hst])
            · simp [hx, h0]
            · simp only at h2
              simp [hx, h2]
    · have hz' := eq_false hz
      have hp : 0 < nw := by omega
      cases b <;> simp [go_of FT_172 rfl, F172, w1, w2, w3, hz', hz, hp]
  · cases b
    · cases hcc : cs.all El.coil
      · rw [hcc] at w3
        simp [go_of FT_172 rfl, F172, w1, w2, w3, hnn]
      · rw [hcc] at w3
        by_cases l1 : cs.length = 0
        · have l1i : ((cs.length : Int) = 0) = True := eq_true (by omega)
          have l1e : cs = [] := List.eq_nil_of_length_eq_zero l1
          by_cases l2 : ks.length = 0
          · have l2i : ((ks.length : Int) = 0) = True := eq_true (by omega)
            have l2e : ks = [] := List.eq_nil_of_length_eq_zero l2; subst l1e l2e; simp [go_of FT_172 rfl, F172, w1, w2, w3, hnn]
          · have l2i : ((ks.length : Int) = 0) = False := eq_false (by omega)
            have l2e : ks ≠ [] := fun e => l2 (by rw [e]; rfl)
            subst l1e; simp [go_of FT_172 rfl, F172, w1, w2, w3, hnn, l2, l2i, l2e]; generalize hst : St.mk _ _ _ _ = st; obtain ⟨e, ⟨τ', H', g', s'⟩, hx, -, ⟨rfl, h0⟩ | ⟨rfl, h0, h2⟩⟩ := loop172_0 (n := n) ks hc (by omega) (by omega) st trivial (by simp [← hst]) (by simp [← hst]) (by simp [← hst])
            · simp [hx, h0]
            · simp only at h2
              simp [hx, h2]
        · have l1i : ((cs.length : Int) = 0) = False := eq_false (by omega)
          have l1e : cs ≠ [] := fun e => l1 (by rw [e]; rfl)
          simp [go_of FT_172 rfl, F172, w1, w2, w3, hnn, l1, l1i, l1e]; generalize hst : St.mk _ _ _ _ = st; obtain ⟨e, ⟨τ', H', g', s'⟩, hx, -, ⟨rfl, h0⟩ | ⟨rfl, h0, h2⟩⟩ := loop172_0 (n := n) ks hc (by omega) (by omega) st trivial (by simp [← hst]) (by simp [← hst]) (by simp [← hst])
          · simp [hx, h0]
          · simp only at h2
            simp [hx, h2]
    · simp [go_of FT_172 rfl, F172, w1, w2, w3]
theorem run_armWrongS : ∀ (m : Nat) (a : Arm), a.wt ≤ m → m < 2 ^ 39 → ∀ (b : Bool) (n : Nat), 2 * m + 80 ≤ n → ∀ s, go n 121 [armX a, bV b] [] s = some ⟨iV (a.wrong b), [], []⟩
 | 0, t, h, hm, b, n, hn, s => by have := t.wt_pos; omega
 | m + 1, .mk (.mk k op as nks) cs ks, h, hm, b, n, hn, s => by
  obtain ⟨n, rfl⟩ : ∃ k, n = k + 1 := ⟨n - 1, by omega⟩; have hlen := armsWt_len ks; have hcl := elsWt_len cs; simp only [Arm.wt] at h; have hc : ∀ x ∈ ks, ∀ s, go n 121 [armX x, bV false] [] s = some ⟨iV (x.wrong false), [], []⟩ := fun x hx s => run_armWrongS m x (by have := armsWt_mem hx; omega) (by omega) false n (by omega) s
  have w1 := run_noneS (n := n) (by omega) (.mk k op as nks); have w2 := run_wrongS (m + 1) (.mk k op as nks) (by omega) (by omega) n (by omega); have hwo := Net.wrong_or (.mk k op as nks); unfold Arm.wrong; generalize hnn : Net.none (.mk k op as nks) = nn at w1; generalize hnw : Net.wrong (.mk k op as nks) = nw at w2 hwo; generalize hca : cs.all El.coil = ca; cases nn
  · by_cases hz : nw = 0
    · subst hz
      cases b
      · simp [go_of FT_121 rfl, F121, w1, w2, hnn]
        generalize hst : St.mk _ _ _ _ = st; obtain ⟨e, ⟨τ', H', g', s'⟩, hx, -, ⟨rfl, hcc, k2, kH⟩ | ⟨rfl, hcc, h4⟩⟩ := loop121_0 (n := n) cs (by omega) (iW k) (iW op) (asW as) (nsW nks) (ksW ks) (by omega) (by omega) st trivial (by simp [← hst]) (by simp [← hst]) (by simp [← hst])
        · rw [hca] at hcc
          subst hcc; simp only at k2 kH
          by_cases l1 : cs.length = 0
          · have l1i : ((cs.length : Int) = 0) = True := eq_true (by omega)
            have l1e : cs = [] := List.eq_nil_of_length_eq_zero l1
            by_cases l2 : ks.length = 0
            · have l2e : ks = [] := List.eq_nil_of_length_eq_zero l2
              simp [hx, k2, kH, l1e, l2e]
            · have l2i : ((ks.length : Int) = 0) = False := eq_false (by omega)
              have l2e : ks ≠ [] := fun e => l2 (by rw [e]; rfl)
              subst l1e; simp [hx, k2, kH, l2, l2i, l2e]; clear hst hx; generalize hst : St.mk _ _ _ _ = st2; obtain ⟨e, ⟨τ2, H2, g2, s2⟩, hx, -, ⟨rfl, h0⟩ | ⟨rfl, h0, h2⟩⟩ := loop121_1 (n := n) ks hc (iW k) (iW op) (asW as) (nsW nks) (csW []) (by omega) (by omega) st2 trivial (by simp [← hst, k2]) (by simp [← hst, kH]) (by simp [← hst])
              · simp [hx, h0]
              · simp only at h2
                simp [hx, h2]
          · have l1i : ((cs.length : Int) = 0) = False := eq_false (by omega)
            have l1e : cs ≠ [] := fun e => l1 (by rw [e]; rfl)
            simp [hx, k2, kH, l1, l1i, l1e]; clear hst hx; generalize hst : St.mk _ _ _ _ = st2; obtain ⟨e, ⟨τ2, H2, g2, s2⟩, hx, -, ⟨rfl, h0⟩ | ⟨rfl, h0, h2⟩⟩ := loop121_1 (n := n) ks hc (iW k) (iW op) (asW as) (nsW nks) (csW cs) (by omega) (by omega) st2 trivial (by simp [← hst, k2]) (by simp [← hst, kH]) (by simp [← hst])
            · simp [hx, h0]
            · simp only at h2
              simp [hx, h2]
        · rw [hca] at hcc
          subst hcc; simp only at h4; simp [hx, h4]
      · simp [go_of FT_121 rfl, F121, w1, w2, hnn]
        generalize hst : St.mk _ _ _ _ = st; obtain ⟨e, ⟨τ', H', g', s'⟩, hx, -, ⟨rfl, hcc, k2, kH⟩ | ⟨rfl, hcc, h4⟩⟩ := loop121_0 (n := n) cs (by omega) (iW k) (iW op) (asW as) (nsW nks) (ksW ks) (by omega) (by omega) st trivial (by simp [← hst]) (by simp [← hst]) (by simp [← hst])
        · rw [hca] at hcc
          subst hcc; simp only at k2 kH
          by_cases l1 : cs.length = 0
          · have l1i : ((cs.length : Int) = 0) = True := eq_true (by omega)
            have l1e : cs = [] := List.eq_nil_of_length_eq_zero l1
            by_cases l2 : ks.length = 0
            · have l2e : ks = [] := List.eq_nil_of_length_eq_zero l2
              simp [hx, k2, kH, l1e, l2e]
            · have l2i : ((ks.length : Int) = 0) = False := eq_false (by omega)
              have l2e : ks ≠ [] := fun e => l2 (by rw [e]; rfl)
              subst l1e; simp [hx, k2, kH, l2, l2i, l2e]; clear hst hx; generalize hst : St.mk _ _ _ _ = st2; obtain ⟨e, ⟨τ2, H2, g2, s2⟩, hx, -, ⟨rfl, h0⟩ | ⟨rfl, h0, h2⟩⟩ := loop121_1 (n := n) ks hc (iW k) (iW op) (asW as) (nsW nks) (csW []) (by omega) (by omega) st2 trivial (by simp [← hst, k2]) (by simp [← hst, kH]) (by simp [← hst])
              · simp [hx, h0]
              · simp only at h2
                simp [hx, h2]
          · have l1i : ((cs.length : Int) = 0) = False := eq_false (by omega)
            have l1e : cs ≠ [] := fun e => l1 (by rw [e]; rfl)
            simp [hx, k2, kH, l1, l1i, l1e]; clear hst hx; generalize hst : St.mk _ _ _ _ = st2; obtain ⟨e, ⟨τ2, H2, g2, s2⟩, hx, -, ⟨rfl, h0⟩ | ⟨rfl, h0, h2⟩⟩ := loop121_1 (n := n) ks hc (iW k) (iW op) (asW as) (nsW nks) (csW cs) (by omega) (by omega) st2 trivial (by simp [← hst, k2]) (by simp [← hst, kH]) (by simp [← hst])
            · simp [hx, h0]
            · simp only at h2
              simp [hx, h2]
        · rw [hca] at hcc
          subst hcc; simp only at h4; simp [hx, h4]
    · have hz' := eq_false hz
      have hp : 0 < nw := by omega
      cases b <;> simp [go_of FT_121 rfl, F121, w1, w2, hz', hz, hp]
  · cases b
    · simp [go_of FT_121 rfl, F121, w1, w2, hnn]
      generalize hst : St.mk _ _ _ _ = st; obtain ⟨e, ⟨τ', H', g', s'⟩, hx, -, ⟨rfl, hcc, k2, kH⟩ | ⟨rfl, hcc, h4⟩⟩ := loop121_0 (n := n) cs (by omega) (iW k) (iW op) (asW as) (nsW nks) (ksW ks) (by omega) (by omega) st trivial (by simp [← hst]) (by simp [← hst]) (by simp [← hst])
      · rw [hca] at hcc
        subst hcc; simp only at k2 kH
        by_cases l1 : cs.length = 0
        · have l1i : ((cs.length : Int) = 0) = True := eq_true (by omega)
          have l1e : cs = [] := List.eq_nil_of_length_eq_zero l1
          by_cases l2 : ks.length = 0
          · have l2e : ks = [] := List.eq_nil_of_length_eq_zero l2
            simp [hx, k2, kH, l1e, l2e]
          · have l2i : ((ks.length : Int) = 0) = False := eq_false (by omega)
            have l2e : ks ≠ [] := fun e => l2 (by rw [e]; rfl)
            subst l1e; simp [hx, k2, kH, l2, l2i, l2e]; clear hst hx; generalize hst : St.mk _ _ _ _ = st2; obtain ⟨e, ⟨τ2, H2, g2, s2⟩, hx, -, ⟨rfl, h0⟩ | ⟨rfl, h0, h2⟩⟩ := loop121_1 (n := n) ks hc (iW k) (iW op) (asW as) (nsW nks) (csW []) (by omega) (by omega) st2 trivial (by simp [← hst, k2]) (by simp [← hst, kH]) (by simp [← hst])
            · simp [hx, h0]
            · simp only at h2
              simp [hx, h2]
        · have l1i : ((cs.length : Int) = 0) = False := eq_false (by omega)
          have l1e : cs ≠ [] := fun e => l1 (by rw [e]; rfl)
          simp [hx, k2, kH, l1, l1i, l1e]; clear hst hx; generalize hst : St.mk _ _ _ _ = st2; obtain ⟨e, ⟨τ2, H2, g2, s2⟩, hx, -, ⟨rfl, h0⟩ | ⟨rfl, h0, h2⟩⟩ := loop121_1 (n := n) ks hc (iW k) (iW op) (asW as) (nsW nks) (csW cs) (by omega) (by omega) st2 trivial (by simp [← hst, k2]) (by simp [← hst, kH]) (by simp [← hst])
          · simp [hx, h0]
          · simp only at h2
            simp [hx, h2]
      · rw [hca] at hcc
        subst hcc; simp only at h4; simp [hx, h4]
    · simp [go_of FT_121 rfl, F121, w1, w2]
abbrev faultX (c r : Int) : V := .agg [iW c, iW r]
theorem loop145_0 {n : Nat} (l : List Arm) (hc : ∀ x ∈ l, ∀ s, go n 172 [armX x, bV true] [] s = some ⟨iV (x.wrong true), [], []⟩) (hn : l.length < n) (hl : l.length < 2 ^ 40) (st : St) (hx0 : True) (h15 : st.τ 15 = .w (ksW l)) (h16 : st.τ 16 = iV l.length) (h17 : st.τ 17 = iV 0) (h2 : st.τ 2 = .w (.ptr 0 0)) (hH : st.H 0 = .cells [iW 0, iW 0]) (hg0 : 0 < st.g) :
 ∃ e st', execC (go n) mode GT false 31 n F145_L0 st = some (e, st') ∧ e ≠ .normal ∧ ((e = .exit 0 ∧ rungsWrong l = 0 ∧ st'.τ 2 = .w (.ptr 0 0) ∧ st'.H 0 = .cells [iW 0, iW 0]) ∨ (e = .ret ∧ rungsWrong l ≠ 0 ∧ st'.τ 2 = .w (.ptr 0 0) ∧ ∃ r : Int, st'.H 0 = .cells [iW (rungsWrong l), iW r])) := by
 rw [F145_L0, execC_loop]; refine iter_rule (fun k st => ∃ i, i + k = l.length ∧ rungsWrong (l.take i) = 0 ∧ st.τ 15 = .w (ksW l) ∧ st.τ 16 = iV l.length ∧ st.τ 17 = iV i ∧ st.τ 2 = .w (.ptr 0 0) ∧ st.H 0 = .cells [iW 0, iW 0] ∧ 0 < st.g) ?_ n l.length st hn ⟨0, by omega, by simp [rungsWrong], h15, h16, by simpa using h17, h2, hH, hg0⟩
 rintro k ⟨τ, H, g, s⟩ ⟨i, hk, hx0, h15, h16, h17, h2, hH, hg0⟩; simp only at hx0 h15 h16 h17 h2 hH hg0; cases k with
 | zero =>
  have : i = l.length := by omega
  subst this; refine ⟨.exit 0, ?_⟩
  rw [List.take_length] at hx0; simp [F145_B0, h15, h16, h17, h2, hH, hx0]
 | succ k =>
  have hlt : i < l.length := by omega
  have hlt' := ltT hlt; have hg := List.getElem?_eq_getElem hlt; have hmem := List.getElem_mem hlt; have hw := wrap_succ (i := i) (by omega); have hgn : ¬ g = 0 := by omega
  have hgn2 : (0 = g) = False := eq_false (by omega); have w := hc _ hmem; have hor := Arm.wrong_or true l[i]; generalize hcode : Arm.wrong true l[i] = c at w hor; obtain ⟨k', op, as, nks, cs, ks, hx⟩ : ∃ k' op as nks cs ks, l[i] = .mk (.mk k' op as nks) cs ks := by
   cases hq : l[i] with | mk nn cs ks => cases nn; exact ⟨_, _, _, _, _, _, rfl⟩
  rw [hx] at hg w hcode; have hb := armRows_get hg
  by_cases hz : c = 0
  · refine ⟨.normal, ?_⟩
    subst hz; simp [-getElem?_pos, F145_B0, h15, h16, h17, h2, hH, hgn2, hlt, hlt', hb, w, hw]; exact ⟨k, by omega, i + 1, by omega, by rw [rungsWrong_take hg hx0, hcode], rfl⟩
  · refine ⟨.ret, ?_⟩
    have hz' := eq_false hz; have hpos : 0 < c := by omega
    have hpos' := eq_true hpos; have hfin := rungsWrong_hit hx0 hg (by rw [hcode]; exact hz); simp [-getElem?_pos, F145_B0, h15, h16, h17, h2, hH, hgn2, hlt, hlt', hb, w, hw, hz', hpos']; exact ⟨by rw [hfin, hcode]; exact hz, by rw [hfin, hcode]⟩
theorem loop106_0 {n : Nat} (l : List Arm) (hc : ∀ x ∈ l, ∀ s, go n 121 [armX x, bV true] [] s = some ⟨iV (x.wrong true), [], []⟩) (hn : l.length < n) (hl : l.length < 2 ^ 40) (st : St) (hx0 : True) (h0 : st.τ 0 = .w (ksW l)) (h3 : st.τ 3 = iV 0) (h2 : st.τ 2 = .w (.ptr 0 0)) (hH : st.H 0 = .cells [iW 0, iW 0]) (hg0 : 0 < st.g) :
 ∃ e st', execC (go n) mode GT false 31 n F106_L0 st = some (e, st') ∧ e ≠ .normal ∧ ((e = .exit 0 ∧ rungsWrong l = 0 ∧ st'.τ 2 = .w (.ptr 0 0) ∧ st'.H 0 = .cells [iW 0, iW 0]) ∨ (e = .ret ∧ rungsWrong l ≠ 0 ∧ st'.τ 2 = .w (.ptr 0 0) ∧ ∃ r : Int, st'.H 0 = .cells [iW (rungsWrong l), iW r])) := by
 rw [F106_L0, execC_loop]; refine iter_rule (fun k st => ∃ i, i + k = l.length ∧ rungsWrong (l.take i) = 0 ∧ st.τ 0 = .w (ksW l) ∧ st.τ 3 = iV i ∧ st.τ 2 = .w (.ptr 0 0) ∧ st.H 0 = .cells [iW 0, iW 0] ∧ 0 < st.g) ?_ n l.length st hn ⟨0, by omega, by simp [rungsWrong], h0, by simpa using h3, h2, hH, hg0⟩
 rintro k ⟨τ, H, g, s⟩ ⟨i, hk, hx0, h0, h3, h2, hH, hg0⟩; simp only at hx0 h0 h3 h2 hH hg0; cases k with
 | zero =>
  have : i = l.length := by omega
  subst this; refine ⟨.exit 0, ?_⟩
  rw [List.take_length] at hx0; simp [F106_B0, h0, h3, h2, hH, hx0]
 | succ k =>
  have hlt : i < l.length := by omega
  have hlt' := ltT hlt; have hg := List.getElem?_eq_getElem hlt; have hmem := List.getElem_mem hlt; have hw := wrap_succ (i := i) (by omega); have hgn : ¬ g = 0 := by omega
  have hgn2 : (0 = g) = False := eq_false (by omega); have w := hc _ hmem; have hor := Arm.wrong_or true l[i]; generalize hcode : Arm.wrong true l[i] = c at w hor; obtain ⟨k', op, as, nks, cs, ks, hx⟩ : ∃ k' op as nks cs ks, l[i] = .mk (.mk k' op as nks) cs ks := by
   cases hq : l[i] with | mk nn cs ks => cases nn; exact ⟨_, _, _, _, _, _, rfl⟩
  rw [hx] at hg w hcode; have hb := armRows_get hg
  by_cases hz : c = 0
  · refine ⟨.normal, ?_⟩
    subst hz; simp [-getElem?_pos, F106_B0, h0, h3, h2, hH, hgn2, hlt, hlt', hb, w, hw]; exact ⟨k, by omega, i + 1, by omega, by rw [rungsWrong_take hg hx0, hcode], rfl⟩
  · refine ⟨.ret, ?_⟩
    have hz' := eq_false hz; have hpos : 0 < c := by omega
    have hpos' := eq_true hpos; have hfin := rungsWrong_hit hx0 hg (by rw [hcode]; exact hz); simp [-getElem?_pos, F106_B0, h0, h3, h2, hH, hgn2, hlt, hlt', hb, w, hw, hz', hpos']; exact ⟨by rw [hfin, hcode]; exact hz, by rw [hfin, hcode]⟩
theorem run_TreeCheck (l : List Arm) (hm : armsWt l < 2 ^ 38) (n : Nat) (hn : 2 * armsWt l + 90 ≤ n) (s : Sup) : ∃ r : Int, (treeCode l = 0 → r = 0) ∧ go n 145 [.w (ksW l)] [] s = some ⟨faultX (treeCode l) r, [], []⟩ := by
 obtain ⟨n, rfl⟩ : ∃ k, n = k + 1 := ⟨n - 1, by omega⟩; have hlen := armsWt_len l; have w := run_TreeSize (armsWt l) l (Nat.le_refl _) (by omega) n (by omega); have hc : ∀ x ∈ l, ∀ s, go n 172 [armX x, bV true] [] s = some ⟨iV (x.wrong true), [], []⟩ := fun x hx s => run_armWrong (armsWt l) x (armsWt_mem hx) (by omega) true n (by omega) s
 unfold treeCode
 by_cases c1 : 40 < l.length
 · have c1i : ((40 : Int) < (l.length : Int)) = True := eq_true (by omega)
   refine ⟨0, fun _ => rfl, ?_⟩
   rw [if_pos (.inl c1)]; simp [go_of FT_145 rfl, F145, c1, c1i]
 · have c1i : ((40 : Int) < (l.length : Int)) = False := eq_false (by omega)
   by_cases c2 : 400 < armsSize l
   · have c2i : ((400 : Int) < (armsSize l : Int)) = True := eq_true (by omega)
     refine ⟨0, fun _ => rfl, ?_⟩
     rw [if_pos (.inr c2)]; simp [go_of FT_145 rfl, F145, c1, c1i, w, c2, c2i]
   · have c2i : ((400 : Int) < (armsSize l : Int)) = False := eq_false (by omega)
     rw [if_neg (by omega)]; simp [go_of FT_145 rfl, F145, c1, c1i, w, c2, c2i]; generalize hst : St.mk _ _ _ _ = st; obtain ⟨e, ⟨τ', H', g', s'⟩, hx, -, ⟨rfl, h0, h2, hH⟩ | ⟨rfl, h0, h2, r, hH⟩⟩ := loop145_0 (n := n) l hc (by omega) (by omega) st trivial (by simp [← hst]) (by simp [← hst]) (by simp [← hst]) (by simp [← hst]) (by simp [← hst]) (by simp [← hst])
     · simp only at h2 hH
       refine ⟨0, fun _ => rfl, ?_⟩
       simp [hx, h0, h2, hH]
     · simp only at h2 hH
       refine ⟨r, fun e => absurd e h0, ?_⟩
       simp [hx, h2, hH]
theorem run_TreeCheckS (l : List Arm) (hm : armsWt l < 2 ^ 38) (n : Nat) (hn : 2 * armsWt l + 90 ≤ n) (s : Sup) : ∃ r : Int, (treeCode l = 0 → r = 0) ∧ go n 106 [.w (ksW l)] [] s = some ⟨faultX (treeCode l) r, [], []⟩ := by
 obtain ⟨n, rfl⟩ : ∃ k, n = k + 1 := ⟨n - 1, by omega⟩; have hlen := armsWt_len l; have w := run_TreeSizeS l (by omega) n (by omega); have hc : ∀ x ∈ l, ∀ s, go n 121 [armX x, bV true] [] s = some ⟨iV (x.wrong true), [], []⟩ := fun x hx s => run_armWrongS (armsWt l) x (armsWt_mem hx) (by omega) true n (by omega) s
 unfold treeCode
 by_cases c1 : 40 < l.length
 · have c1i : ((40 : Int) < (l.length : Int)) = True := eq_true (by omega)
   refine ⟨0, fun _ => rfl, ?_⟩
   rw [if_pos (.inl c1)]; simp [go_of FT_106 rfl, F106, c1, c1i]
 · have c1i : ((40 : Int) < (l.length : Int)) = False := eq_false (by omega)
   by_cases c2 : 400 < armsSize l
   · have c2i : ((400 : Int) < (armsSize l : Int)) = True := eq_true (by omega)
     refine ⟨0, fun _ => rfl, ?_⟩
     rw [if_pos (.inr c2)]; simp [go_of FT_106 rfl, F106, c1, c1i, w, c2, c2i]
   · have c2i : ((400 : Int) < (armsSize l : Int)) = False := eq_false (by omega)
     rw [if_neg (by omega)]; simp [go_of FT_106 rfl, F106, c1, c1i, w, c2, c2i]; generalize hst : St.mk _ _ _ _ = st; obtain ⟨e, ⟨τ', H', g', s'⟩, hx, -, ⟨rfl, h0, h2, hH⟩ | ⟨rfl, h0, h2, r, hH⟩⟩ := loop106_0 (n := n) l hc (by omega) (by omega) st trivial (by simp [← hst]) (by simp [← hst]) (by simp [← hst]) (by simp [← hst]) (by simp [← hst])
     · simp only at h2 hH
       refine ⟨0, fun _ => rfl, ?_⟩
       simp [hx, h0, h2, hH]
     · simp only at h2 hH
       refine ⟨r, fun e => absurd e h0, ?_⟩
       simp [hx, h2, hH]
theorem run_accepted (l : List Arm) (hm : armsWt l < 2 ^ 38) (n : Nat) (hn : 2 * armsWt l + 91 ≤ n) (s : Sup) : go n 123 [.w (ksW l)] [] s = some ⟨sV (.bool (decide (treeCode l = 0))), [], []⟩ := by
 obtain ⟨n, rfl⟩ : ∃ k, n = k + 1 := ⟨n - 1, by omega⟩; obtain ⟨r, hr⟩ := Classical.skolem.1 fun s => run_TreeCheck l hm n (by omega) s
 have w := fun s => (hr s).2
 by_cases h : treeCode l = 0
 · have hz := fun s => (hr s).1 h
   simp [go_of FT_123 rfl, F123, w, h, hz]
 · simp [go_of FT_123 rfl, F123, w, h]
end Go.VM
