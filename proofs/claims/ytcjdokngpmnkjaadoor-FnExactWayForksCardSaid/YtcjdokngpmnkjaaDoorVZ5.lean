/- Parts of the laws of the normal form: whether a ladder is in it, nets joined. Conditions: none. -/
import Derived.Test.YtcjdokngpmnkjaaDoorVZ2
import Derived.Test.YtcjdokngpmnkjaaDoorVQ13
import Derived.Test.YtcjdokngpmnkjaaDoorVQ11

namespace Go.VM
set_option linter.unusedSimpArgs false
set_option linter.unusedVariables false
set_option maxHeartbeats 16000000

theorem run_l9Join {n : Nat} (a b : Net) (ha : NetFine a) (hb : NetFine b) (hw : a.wt + b.wt < 2 ^ 28) (hn : 2 * (a.wt + b.wt) + 40 ≤ n) (s : Sup) : go (n + 1) 215 [netX a, netX b] [] s = some ⟨netX (a.join b), [], []⟩ := by
  have w1 := run_noneS (n := n) (by omega) a
  have w2 := run_noneS (n := n) (by omega) b
  by_cases h1 : a.none = true
  · rw [h1] at w1
    have e : a.join b = b := by simp [Net.join, h1]
    rw [e]
    obtain ⟨ak, ao, aa, aks⟩ := a
    obtain ⟨bk, bo, ba, bks⟩ := b
    simp [go_of FT_215 rfl, F215, w1]
  by_cases h2 : b.none = true
  · have h1' : a.none = false := by simpa using h1
    rw [h1'] at w1
    rw [h2] at w2
    have e : a.join b = a := by simp [Net.join, h1', h2]
    rw [e]
    obtain ⟨ak, ao, aa, aks⟩ := a
    obtain ⟨bk, bo, ba, bks⟩ := b
    simp [go_of FT_215 rfl, F215, w1, w2]
  · have h1' : a.none = false := by simpa using h1
    have h2' : b.none = false := by simpa using h2
    have ra : a.wrong = 0 := by rcases ha with h | h; exact absurd h h1; exact h
    have rb : b.wrong = 0 := by rcases hb with h | h; exact absurd h h2; exact h
    have hr : ∀ x ∈ [a, b], x.wrong = 0 := by simp [ra, rb]
    obtain ⟨n, rfl⟩ : ∃ k, n = k + 1 := ⟨n - 1, by omega⟩
    have hc : ∀ x ∈ [a, b], ∀ s, go n 214 [netX x] [] s = some ⟨netX x.norm, [], []⟩ := fun x hx s => by
      have hx' : x = a ∨ x = b := by simpa using hx
      rcases hx' with rfl | rfl
      · exact run_l9Net x.wt x (Nat.le_refl _) (by omega) ra n (by omega) s
      · exact run_l9Net x.wt x (Nat.le_refl _) (by omega) rb n (by omega) s
    have w3 := run_l9Flat (n := n) [a, b] 2 hc hr (by simp only [netsWt]; omega) (by simp only [List.length_cons, List.length_nil]; omega)
    have e : a.join b = netOf 2 ((netsNorm [a, b]).flatMap (Net.open 2)) := by simp [Net.join, h1', h2', Net.norm]
    rw [← e] at w3
    rw [h1'] at w1
    rw [h2'] at w2
    generalize a.join b = y at w3
    obtain ⟨ak, ao, aa, aks⟩ := a
    obtain ⟨bk, bo, ba, bks⟩ := b
    obtain ⟨yk, yo, ya, yks⟩ := y
    simp only [nsW, netRows, Net.row] at w3
    simp [go_of (n := n + 1) FT_215 rfl, F215, w1, w2, w3]
end Go.VM

/- Coils copied, as the document has it. Conditions: none. -/
namespace Go.VM
set_option linter.unusedSimpArgs false
set_option linter.unusedVariables false
set_option maxHeartbeats 16000000

/-- Coils of one's own. -/
def eCap (ks : List El) : Option Nat := match ks with | [] => some 0 | _ :: _ => none
theorem eCap_ne {ks : List El} (h : ks ≠ []) : eCap ks = none := by cases ks with | nil => exact absurd rfl h | cons a r => rfl
def CHeld (H : Nat → Box) (g : Nat) (v : V) (ks : List El) : Prop := ∃ bx c, bx < g ∧ v = .w (.own bx 0 ks.length c) ∧ H bx = .row none 2 (elRows ks) 0 ∧ c = eCap ks

theorem loop213 {n : Nat} (l : List El) (hwt : elsWt l < 2 ^ 29) (hn : l.length < n) (st : St) (h0 : st.τ 0 = .w (csW l)) (h4 : st.τ 4 = iV 0) (h3 : CHeld st.H st.g (st.τ 3) []) :
    ∃ e st', execC (go n) mode GT false 29 n F213_L0 st = some (e, st') ∧ e ≠ .normal ∧ (e = .exit 0 ∧ CHeld st'.H st'.g (st'.τ 3) l) := by
  have hl := elsWt_len l
  rw [F213_L0, execC_loop]
  refine iter_rule (fun k st => ∃ i, i + k = l.length ∧ st.τ 0 = .w (csW l) ∧ st.τ 4 = iV i ∧ CHeld st.H st.g (st.τ 3) (l.take i)) ?_ n l.length st hn
    ⟨0, by omega, h0, by simpa using h4, by simpa using h3⟩
  clear h0 h4 h3
  rintro k ⟨τ, H, g, s⟩ ⟨i, hk, h0, h4, bx, c, hb2, h3, hB, hc⟩
  simp only at h0 h3 h4 hb2 hB
  have htl : (l.take i).length = i := by simp; omega
  rw [htl] at h3
  cases k with
  | zero =>
    have : i = l.length := by omega
    subst this
    refine ⟨.exit 0, ⟨upd (upd (upd (upd τ 6 (iV l.length)) 7 (.w (csW l))) 8 (iV l.length)) 9 (.w (.d (.s (.bool false)))), H, g + 256, restS s⟩, ?_, by simp, fun _ => ⟨rfl, bx, c, by simp only; omega, by simpa using h3, by rw [List.take_length] at hB; exact hB, by rw [List.take_length] at hc; exact hc⟩⟩
    simp [F213_B0, h0, h4]
  | succ k =>
    have hlt : i < l.length := by omega
    have hlt' : ((i : Int) < (l.length : Int)) = True := eq_true (by omega)
    have hg := List.getElem?_eq_getElem hlt
    have hmem := elsWt_mem (List.getElem_mem hlt)
    have hw := wrap_succ (i := i) (by omega)
    have htk : elRows (l.take i) ++ [El.row l[i]] = elRows (l.take (i + 1)) := by rw [List.take_add_one, hg, elRows_append]; simp [elRows]
    have htl2 : (l.take (i + 1)).length = i + 1 := by simp; omega
    obtain ⟨op, as, hx⟩ : ∃ op as, l[i] = ⟨op, as⟩ := ⟨_, _, rfl⟩
    rw [hx] at hg hmem htk
    simp only [El.wt] at hmem
    simp only [El.row] at htk
    have hb := elRows_get hg
    have al := eq_true (len_of3 as)
    have rm3 : room as.length 24 = true := room_of (by omega) (by omega)
    have rm : room (i + 1) 32 = true := room_of (by omega) (by omega)
    have rm1 : room 1 32 = true := by decide
    have fbX := far hb2
    have hlT : (elRows (l.take i)).length = i := by rw [elRows_length, htl]
    refine ⟨.normal, ?_⟩
    by_cases hi0 : i = 0
    case neg =>
      have hne : l.take i ≠ [] := fun e => by rw [e] at htl; exact hi0 htl.symm
      rw [eCap_ne hne] at hc
      subst hc
      simp [-getElem?_pos, -List.length_take, F213_B0, h0, h3, h4, hB, hlt, hlt', hb, hw, al, rm3, rm, htk, hlT, fbX]
      refine ⟨k, by omega, i + 1, by omega, by simp, g + 256 + 960, none, by omega, by rw [htl2], ?_, (eCap_ne (fun e => by rw [e] at htl2; simp at htl2)).symm⟩
      rw [← htk, List.take_of_length_le (Nat.le_of_eq hlT)]
      simp
    case pos =>
      subst hi0
      have hc : c = some 0 := hc
      subst hc
      simp [-getElem?_pos, -List.length_take, F213_B0, h0, h3, h4, hB, hlt, hlt', hb, hw, al, rm3, rm1, htk, hlT, fbX]
      refine ⟨k, by omega, 1, by omega, by decide, g + 256 + 960, none, by omega, by rw [htl2], ?_, (eCap_ne (fun e => by rw [e] at htl2; simp at htl2)).symm⟩
      rw [show elRows (List.take 1 l) = _ from htk.symm]
      simp [elRows]


theorem run_l9Coils {n : Nat} (l : List El) (hwt : elsWt l < 2 ^ 29) (hn : l.length < n) (s : Sup) : go (n + 1) 213 [.w (csW l)] [] s = some ⟨.w (.own 0 0 l.length (eCap l)), [], [.row none 2 (elRows l) 0]⟩ := by
  simp [go_of FT_213 rfl, F213]
  generalize hst : St.mk _ _ _ _ = st
  obtain ⟨e, ⟨τ', H', g', s'⟩, hx, -, rfl, bx, c, hb2, h3, hB, hc⟩ := loop213 (n := n) l hwt hn st (by simp [← hst]) (by simp [← hst]) (by subst hst; exact ⟨64, some 0, by simp, by simp, by simp [elRows], rfl⟩)
  simp only at hb2 h3 hB
  clear hst
  subst hc
  simp [hx, h3, hB]

end Go.VM
