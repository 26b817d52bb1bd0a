/- A list copied, and cut into rungs, as the document has it. Conditions: none. -/
import Derived.Test.YtfpkfcfiihfopaaDoorVP14
import Derived.Test.YtfpkfcfiihfopaaDoorVP5

namespace Go.VM
set_option linter.unusedSimpArgs false
set_option linter.unusedVariables false
set_option maxHeartbeats 16000000
def iCap (ks : List Ins) : Option Nat := match ks with | [] => some 0 | _ :: _ => none
theorem iCap_ne {ks : List Ins} (h : ks ≠ []) : iCap ks = none := by cases ks with | nil => exact absurd rfl h | cons a r => rfl
def IHeld (H : Nat → Box) (g : Nat) (v : V) (ks : List Ins) : Prop := ∃ bx c, bx < g ∧ v = .w (.own bx 0 ks.length c) ∧ H bx = .row none 3 (insRows ks) 0 ∧ c = iCap ks
theorem loop345 {n : Nat} (l : List Ins) (ha : ∀ x ∈ l, x.e.as.length < 2 ^ 29) (hl : l.length < 2 ^ 29) (hn : l.length < n) (st : St) (h0 : st.τ 0 = .w (isW l)) (h4 : st.τ 4 = iV 0) (h3 : IHeld st.H st.g (st.τ 3) []) :
 ∃ e st', execC (go n) mode GT false 37 n F345_L0 st = some (e, st') ∧ e ≠ .normal ∧ (e = .exit 0 ∧ IHeld st'.H st'.g (st'.τ 3) l) := by
 rw [F345_L0, execC_loop]; refine iter_rule (fun k st => ∃ i, i + k = l.length ∧ st.τ 0 = .w (isW l) ∧ st.τ 4 = iV i ∧ IHeld st.H st.g (st.τ 3) (l.take i)) ?_ n l.length st hn
  ⟨0, by omega, h0, by simpa using h4, by simpa using h3⟩
 clear h0 h4 h3; rintro k ⟨τ, H, g, s⟩ ⟨i, hk, h0, h4, bx, c, hb2, h3, hB, hc⟩; simp only at h0 h3 h4 hb2 hB; have htl : (l.take i).length = i := by simp; omega
 rw [htl] at h3; cases k with
 | zero =>
  have : i = l.length := by omega
  subst this; refine ⟨.exit 0, ⟨upd (upd (upd (upd τ 6 (iV l.length)) 7 (.w (isW l))) 8 (iV l.length)) 9 (.w (.d (.s (.bool false)))), H, g + 256, restS s⟩, ?_, by simp, fun _ => ⟨rfl, bx, c, by first | omega | (simp only; omega), by simpa using h3, by rw [List.take_length] at hB; exact hB, by rw [List.take_length] at hc; exact hc⟩⟩
  simp [F345_B0, h0, h4, insRows_length]
 | succ k =>
  have hlt : i < l.length := by omega
  have hlt' := ltT hlt; have hg := List.getElem?_eq_getElem hlt; have hmem := ha _ (List.getElem_mem hlt); have hw := wrap_succ (i := i) (by omega); have htk := insRows_take hg; have htl2 : (l.take (i + 1)).length = i + 1 := by simp; omega
  obtain ⟨cc, op, as, hx⟩ : ∃ cc op as, l[i] = ⟨cc, ⟨op, as⟩⟩ := ⟨_, _, _, rfl⟩; rw [hx] at hg hmem htk; simp only [Ins.row] at htk hmem; have hb := insRows_get hg; have al := eq_true (len_of3 as); have rm3 : room as.length 24 = true := room_of (by omega) (by omega); have rm : room (i + 1) 40 = true := room_of (by omega) (by omega); have rm1 : room 1 40 = true := by decide
  have fbX := far hb2; have hlT : (insRows (l.take i)).length = i := by rw [insRows_length, htl]
  refine ⟨.normal, ?_⟩
  by_cases hi0 : i = 0
  case neg =>
   have hne : l.take i ≠ [] := fun e => by rw [e] at htl; exact hi0 htl.symm
   rw [iCap_ne hne] at hc; subst hc; simp [-getElem?_pos, -List.length_take, F345_B0, h0, h3, h4, hB, hlt, hlt', hb, hw, al, rm3, rm, htk, hlT, fbX, insRows_length]; refine ⟨k, by omega, i + 1, by omega, by simp, g + 256 + 1472, none, by omega, by rw [htl2], ?_, (iCap_ne (fun e => by rw [e] at htl2; simp at htl2)).symm⟩
   rw [← htk, List.take_of_length_le (Nat.le_of_eq hlT)]; simp
  case pos =>
   subst hi0; have hc : c = some 0 := hc; subst hc; simp [-getElem?_pos, -List.length_take, F345_B0, h0, h3, h4, hB, hlt, hlt', hb, hw, al, rm3, rm1, htk, hlT, fbX, insRows_length]; refine ⟨k, by omega, 1, by omega, by decide, g + 256 + 1472, none, by omega, by rw [htl2], ?_, (iCap_ne (fun e => by rw [e] at htl2; simp at htl2)).symm⟩
   rw [show insRows (List.take 1 l) = _ from htk.symm]; simp [insRows]
theorem run_l12Copy {n : Nat} (l : List Ins) (ha : ∀ x ∈ l, x.e.as.length < 2 ^ 29) (hl : l.length < 2 ^ 29) (hn : l.length < n) (s : Sup) : go (n + 1) 345 [.w (isW l)] [] s = some ⟨.w (isW l), [], []⟩ := by
 simp [go_of (n := n) FT_345 rfl, F345]; generalize hst : St.mk _ _ _ _ = st; obtain ⟨e, ⟨τ', H', g', s'⟩, hx, -, rfl, bx, c, hb2, h3, hB, hc⟩ := loop345 (n := n) l ha hl hn st (by simp [← hst]) (by simp [← hst]) (by subst hst; exact ⟨64, some 0, by simp, by simp, by simp [insRows], rfl⟩); simp only at hb2 h3 hB; clear hst; have tkL := take_insRows l; simp [hx, h3, hB, insRows_length, tkL]
def RHeld (H : Nat → Box) (g : Nat) (v : V) (L : List (List Ins)) : Prop := ∃ bx c, bx < g ∧ v = .w (.own bx 0 L.length c) ∧ H bx = .row none 1 (rgRows L) 0 ∧ (c = none ∨ (c = some 0 ∧ L = []))
def RgS (st : St) (l : List Ins) (i : Nat) : Prop := ∃ (f : Nat) (done : List (List Ins)), f ≤ i ∧ done.length ≤ i ∧ rungsL l = done ++ rungsGo ((l.drop f).take (i - f)) (l.drop i) ∧
 st.τ 0 = .w (isW l) ∧ st.τ 4 = iV f ∧ st.τ 5 = iV i ∧ RHeld st.H st.g (st.τ 3) done
theorem loop323 {n : Nat} (l : List Ins) (ha : ∀ x ∈ l, x.e.as.length < 2 ^ 29) (hn : l.length + 2 < n) (hl : l.length < 2 ^ 28) (st : St) (hck : RgS st l 0) :
 ∃ e st', execC (go n) mode GT false 36 n F323_L0 st = some (e, st') ∧ e ≠ .normal ∧ (e = .exit 0 ∧ RHeld st'.H st'.g (st'.τ 3) (rungsL l)) := by
 rw [F323_L0, execC_loop]; refine iter_rule (fun k st => ∃ i, i + k = l.length ∧ RgS st l i) ?_ n l.length st (by omega) ⟨0, by omega, hck⟩
 clear hck; rintro k ⟨τ, H, g, s⟩ ⟨i, hk, f, done, hf, hd, hr, h0, h4, h5, bx, c, hb2, h3, hB, hc⟩; simp only at h0 h3 h4 h5 hb2 hB; have fbX := far hb2; cases k with
 | zero =>
  have : i = l.length := by omega
  subst this; rw [List.drop_length, show rungsGo ((l.drop f).take (l.length - f)) [] = [] from rfl, List.append_nil] at hr; refine ⟨.exit 0, ?_⟩
  simp [F323_B0, h0, h5, insRows_length]; rw [hr]; exact ⟨bx, c, by first | omega | (simp only; omega), by simp [upd, h3], hB, hc⟩
 | succ k =>
  have hlt : i < l.length := by omega
  have hlt' := ltT hlt; have hgt := List.getElem?_eq_getElem hlt; have hw := wrap_succ (i := i) (by omega); have hstep := drop_at hgt; have hcut := cut_step hf hgt; obtain ⟨c', op, as, hx⟩ : ∃ c op as, l[i] = ⟨c, ⟨op, as⟩⟩ := ⟨_, _, _, rfl⟩; rw [hx] at hgt hstep hcut; have hrow := insRows_get hgt; refine ⟨.normal, ?_⟩
  by_cases k11 : c' = 11
  · subst k11
    have hr2 : rungsL l = (done ++ [(l.drop f).take (i + 1 - f)]) ++ rungsGo ((l.drop (i + 1)).take (i + 1 - (i + 1))) (l.drop (i + 1)) := by
     rw [hr, hstep, hcut, Nat.sub_self, List.take_zero, List.append_assoc]
     rfl
    have hm2 : ∀ x ∈ (l.drop f).take (i + 1 - f), x ∈ l := fun x hx => List.mem_of_mem_drop (List.mem_of_mem_take hx)
    have hlen2 : ((l.drop f).take (i + 1 - f)).length ≤ l.length := by rw [List.length_take, List.length_drop]; omega
    have w : ∀ s, go n 345 [.w (isW ((l.drop f).take (i + 1 - f)))] [] s = some ⟨.w (isW ((l.drop f).take (i + 1 - f))), [], []⟩ := fun s => by
     have := run_l12Copy (n := n - 1) ((l.drop f).take (i + 1 - f)) (fun x hx => ha x (hm2 x hx)) (by omega) (by omega) s
     rwa [show n - 1 + 1 = n by omega] at this
    have hic := insRows_cut l f (i + 1 - f); generalize hP : (l.drop f).take (i + 1 - f) = P at w hr2 hic; have rmL : room (done.length + 1) 24 = true := room_of (by omega) (by omega); have q1 : ((f : Int) ≤ (i : Int) + 1) = True := eq_true (by omega); have q2 : ((i : Int) + 1 ≤ (l.length : Int)) = True := eq_true (by omega); have al := eq_true (insRow_all l); have tkD : List.take done.length (rgRows done) = rgRows done := List.take_of_length_le (by rw [rgRows_length]; omega); simp [-getElem?_pos, F323_B0, h0, h3, h4, h5, hB, hlt, hlt', hrow, hw, w, rmL, insRows_length, rgRows_length, q1, q2, al, hic, fbX, tkD]
    refine ⟨k, by omega, i + 1, by omega, i + 1, done ++ [P], by omega, by simp; try omega, hr2, by simp [upd, h0], by simp [upd], by simp [upd], ?_⟩
    refine ⟨_, none, ?_, by simp [upd]; rfl, ?_, .inl rfl⟩
    · first | omega | (simp only; omega)
    · simp [upd, rgRows]
  · have hr2 : rungsL l = done ++ rungsGo ((l.drop f).take (i + 1 - f)) (l.drop (i + 1)) := by
     rw [hr, hstep, hcut]
     conv => lhs; rw [rungsGo]
     rw [if_neg k11]
    simp [-getElem?_pos, F323_B0, h0, h3, h4, h5, hB, hlt, hlt', hrow, hw, insRows_length, k11]; exact ⟨k, by omega, i + 1, by omega, f, done, by omega, by omega, hr2, by simp [upd, h0], by simp [upd, h4], by simp [upd], bx, c, by first | omega | (simp only; omega), by simp [upd, h3], hB, hc⟩
theorem run_SureRungsS {n : Nat} (l : List Ins) (ha : ∀ x ∈ l, x.e.as.length < 2 ^ 29) (h28 : 28 ≤ n) (hn : l.length + 3 < n) (hl : l.length < 2 ^ 28) (s : Sup) : go (n + 1) 323 [.w (isW l)] [] s = some ⟨.w (rgW (if (checkL l).1 = 0 then rungsL l else [])), [], []⟩ := by
 obtain ⟨n, rfl⟩ : ∃ k, n = k + 1 := ⟨n - 1, by omega⟩; have w1 := run_SureCheckS (n := n) l (by omega) (by omega) (by omega); have hnn := (checkL_nn l).1
 by_cases h : (checkL l).1 = 0
 · rw [h] at w1
   rw [if_pos h]; simp [go_of (n := n + 1) FT_323 rfl, F323, w1]; generalize hst : St.mk _ _ _ _ = st; obtain ⟨e, ⟨τ', H', g', s'⟩, hx, -, rfl, bx, c, hb2, h3, hB, hc⟩ := loop323 (n := n + 1) l ha (by omega) hl st (by
    subst hst; exact ⟨0, [], by omega, by simp, by simp [rungsL], by simp, by simp, by simp, 64, some 0, by simp, by simp, by simp [rgRows], .inr ⟨rfl, rfl⟩⟩)
   simp only at hb2 h3 hB; clear hst; have hlr : (rungsL l).length ≤ l.length := rungsGo_len l []; have tkL : List.take (rungsL l).length (rgRows (rungsL l)) = rgRows (rungsL l) := List.take_of_length_le (by rw [rgRows_length]; omega); simp [hx, h3, hB, rgRows_length, tkL]
 · have hp : (0 < (checkL l).1) = True := eq_true (by omega)
   rw [if_neg h]; generalize (checkL l).1 = a at w1 hp; simp [go_of (n := n + 1) FT_323 rfl, F323, w1, hp, rgRows]
end Go.VM
