/- Rungs of a list, with stamps. Conditions: none. -/
import Derived.Test.YtfpkfcfiihfopaaDoorVP5
import Derived.Test.YtfpkfcfiihfopaaDoorVP13

namespace Go.VM
set_option linter.unusedSimpArgs false
set_option linter.unusedVariables false
set_option maxHeartbeats 16000000
def AccS (τ : Nat → V) (H : Nat → Box) (g t : Nat) (R : List (List D)) : Prop := (R = [] ∧ τ t = .w .nil) ∨ ∃ b, b < g ∧ τ t = .w (.own b 0 R.length none) ∧ H b = .row none 1 R 0
def RgT (l : List Ins) (s0 : Sup) (k : Nat) (st : St) : Prop := ∃ (i f : Nat) (done : List (List Ins)) (R : List (List D)), i + k = l.length ∧ st.τ 7 = .w (isW l) ∧ st.τ 8 = iV l.length ∧ st.τ 9 = iV i ∧ f ≤ i ∧ done.length ≤ i ∧ rungsL l = done ++ rungsGo ((l.drop f).take (i - f)) (l.drop i) ∧
 st.τ 0 = .w (isW l) ∧ st.τ 4 = iV f ∧ AccS st.τ st.H st.g 3 R ∧ erR R = rgRows done ∧ (Inj s0 → Past s0 st.s (stsR R))
theorem loopS306 {n : Nat} (l : List Ins) (ha : ∀ x ∈ l, x.e.as.length < 2 ^ 30) (h5n : 6 ≤ n) (hn : l.length + 2 < n) (hl : l.length < 2 ^ 28) (s0 : Sup) (st : St) (hck : RgT l s0 l.length st) :
 ∃ e st', execC (goS n) modeT GT true 31 n F306_L0 st = some (e, st') ∧ e ≠ .normal ∧ (e = .exit 0 ∧ ∃ R, AccS st'.τ st'.H st'.g 3 R ∧ erR R = rgRows (rungsL l) ∧ (Inj s0 → Past s0 st'.s (stsR R))) := by
 rw [F306_L0, execC_loop]; refine iter_rule (RgT l s0) ?_ n l.length st (by omega) hck
 clear hck; rintro k ⟨τ, H, g, s⟩ ⟨i, f, done, R, hk, h7, h8, h9, hf, hd, hr, h0, h4, hacc, hR, hp⟩; simp only at h7 h8 h9 h0 h4 hacc hp; have hRl : R.length = done.length := by have := congrArg List.length hR; simpa [rgRows] using this
 cases k with
 | zero =>
  have : i = l.length := by omega
  subst this; refine ⟨.exit 0, ?_⟩
  rw [List.drop_length, show rungsGo ((l.drop f).take (l.length - f)) [] = [] from rfl, List.append_nil] at hr; simp [F306_B0, h8, h9]; rw [hr]; refine ⟨R, ?_, hR, fun hi => (hp hi).weak⟩
  rcases hacc with ⟨h1, h2⟩ | ⟨b, h1, h2, h3⟩
  · exact .inl ⟨h1, by simp [upd, h2]⟩
  · exact .inr ⟨b, by omega, by simp [upd, h2], h3⟩
 | succ k =>
  have hlt : i < l.length := by omega
  have hlt' := ltT hlt; have hgt := List.getElem?_eq_getElem hlt; have hmem := List.getElem_mem hlt; have hw := wrap_succ (i := i) (by omega); have hstep := drop_at hgt; have hcut := cut_step hf hgt; obtain ⟨c, op, as, hx⟩ : ∃ c op as, l[i] = ⟨c, ⟨op, as⟩⟩ := ⟨_, _, _, rfl⟩; rw [hx] at hgt hstep hcut; have hrow := insRows_get hgt
  by_cases k11 : c = 11
  · subst k11
    have hr2 : rungsL l = (done ++ [(l.drop f).take (i + 1 - f)]) ++ rungsGo ((l.drop (i + 1)).take (i + 1 - (i + 1))) (l.drop (i + 1)) := by
     rw [hr, hstep, hcut, Nat.sub_self, List.take_zero, List.append_assoc]
     rfl
    have hm2 : ∀ x ∈ (l.drop f).take (i + 1 - f), x ∈ l := fun x hx => List.mem_of_mem_drop (List.mem_of_mem_take hx)
    have hlen2 : ((l.drop f).take (i + 1 - f)).length ≤ l.length := by rw [List.length_take, List.length_drop]; omega
    obtain ⟨t, R1, w⟩ : MakesL n 330 [.w (isW ((l.drop f).take (i + 1 - f)))] (insRows ((l.drop f).take (i + 1 - f))) := by
     have := cp_list (n := n - 1) ((l.drop f).take (i + 1 - f)) (fun x hx => ha x (hm2 x hx)) (by omega) (by omega) (by omega)
     rwa [show n - 1 + 1 = n by omega] at this
    have hic := insRows_cut l f (i + 1 - f); generalize hP : (l.drop f).take (i + 1 - f) = P at w hr2 hic; have w1 := fun s => (w s).1
    have rm1 : room 1 24 = true := by decide
    have rmL : room (R.length + 1) 24 = true := room_of (by omega) (by omega); have q1 : ((f : Int) ≤ (i : Int) + 1) = True := eq_true (by omega); have q2 : ((i : Int) + 1 ≤ (l.length : Int)) = True := eq_true (by omega); have al := eq_true (insRow_all l)
    suffices hsuf : ∃ st', execC (goS n) modeT GT true 31 n F306_B0 ⟨τ, H, g, s⟩ = some (.normal, st') ∧ st'.τ 7 = .w (isW l) ∧ st'.τ 8 = iV l.length ∧ st'.τ 9 = iV ((i + 1 : Nat) : Int) ∧ st'.τ 0 = .w (isW l) ∧ st'.τ 4 = iV ((i + 1 : Nat) : Int) ∧
     AccS st'.τ st'.H st'.g 3 (R ++ [[.l (t fun k => subS (restS (restS (restS s))) 6 (2 * k + 1)) (R1 fun k => subS (restS (restS (restS s))) 6 (2 * k + 1))]]) ∧ st'.s = restS (restS (restS (restS (restS (restS s))))) by
     obtain ⟨st', a0, a1, a2, a3, a4, a5, a6, a7⟩ := hsuf; rw [a0]; refine ⟨.normal, st', rfl, fun _ => ⟨k, by omega, i + 1, i + 1, done ++ [P], _, by omega, a1, a2, a3, by omega, by simp; try omega, hr2, a4, a5, a6, ?_, fun hi => ?_⟩, fun h => absurd rfl h⟩
     · rw [erR_append, hR, rgRows_append]
       simp [erR, erL, D.er, (w _).2.1, rgRows]
     · rw [a7, stsR_append]
       have h3 := (((hp hi).weak.weak.weak).call 6 (w _).2.2).weak.weak
       simpa [stsR, stsL_c, stsL_n, sts_s] using h3
    rcases hacc with ⟨rfl, h3⟩ | ⟨b, hbg, h3, hB⟩
    · simp [-getElem?_pos, F306_B0, h0, h3, h4, h7, h8, h9, hlt, hlt', hrow, hw, w1, rm1, insRows_length, q1, q2, al, hic]
      exact .inr ⟨_, by first | omega | (simp only; omega), rfl, by simp [upd]⟩
    · have bX := far hbg
      simp [-getElem?_pos, F306_B0, h0, h3, h4, h7, h8, h9, hB, hlt, hlt', hrow, hw, w1, rmL, insRows_length, q1, q2, al, hic, bX]; exact .inr ⟨g + 64 + 384 + 192 + 512, by first | omega | (simp only; omega), by simp, by simp [upd]⟩
  · have hr2 : rungsL l = done ++ rungsGo ((l.drop f).take (i + 1 - f)) (l.drop (i + 1)) := by
     rw [hr, hstep, hcut]
     conv => lhs; rw [rungsGo]
     rw [if_neg k11]
    refine ⟨.normal, ?_⟩
    simp [-getElem?_pos, F306_B0, h0, h4, h7, h8, h9, hlt, hlt', hrow, hw, insRows_length, k11]; refine ⟨k, by omega, i + 1, f, done, R, by omega, by simp [upd, h7], by simp [upd, h8], by simp [upd], by omega, by omega, hr2, by simp [upd, h0], by simp [upd, h4], ?_, hR, fun hi => (hp hi).weak.weak.weak.weak⟩
    rcases hacc with ⟨h1, h2⟩ | ⟨b, h1, h2, h3⟩
    · exact .inl ⟨h1, by simp [upd, h2]⟩
    · have bX := far h1
      exact .inr ⟨b, by first | omega | (simp only; omega), by simp [upd, h2], by simp [upd, h3, bX]⟩
theorem oneOfR {L : List (List Ins)} {R : List (List D)} (h : erR R = rgRows L) : ∀ r ∈ R, r.length = 1 := by
 intro r hr; obtain ⟨i, hi⟩ := List.mem_iff_getElem?.1 hr; have : (erR R)[i]? = some (erL r) := by rw [erR_get, hi]; rfl
 rw [h] at this; have := rgRows_all L _ (List.mem_of_getElem? this)
 simpa using this
theorem ps_clipR {n : Nat} {t : Nat} {R : List (List D)} (h3 : ∀ r ∈ R, r.length = 1) (s : Sup) : goS (n + 1) 335 [.w (.d (.l t R))] [] s = some ⟨.w (.d (.l t R)), [], []⟩ := by
 have al := eq_true h3; simp [gos_of (n := n) FT_335 rfl, F335, al]
theorem ps_rungsOf {n : Nat} (l : List Ins) (ha : ∀ x ∈ l, x.e.as.length < 2 ^ 30) (h5n : 6 ≤ n) (hn : l.length + 2 < n) (hl : l.length < 2 ^ 28) : MakesL (n + 1) 306 [.w (isW l)] (rgRows (rungsL l)) := by
 refine .of fun s => ?_
 obtain ⟨n, rfl⟩ : ∃ k, n = k + 1 := ⟨n - 1, by omega⟩; simp [gos_of (n := n + 1) FT_306 rfl, F306, insRows_length]; generalize hst : St.mk _ _ _ _ = st; obtain ⟨e, ⟨τ', H', g', s'⟩, hx, -, rfl, R, hacc, hR, hp⟩ := loopS306 (n := n + 1) l ha h5n hn hl s st (by
  subst hst; exact ⟨0, 0, [], [], by omega, by simp, by simp [insRows_length], by simp, by omega, by simp, by simp [rungsL], by simp, by simp, .inl ⟨rfl, by simp⟩, by simp [erR, rgRows], fun hi => (past_0 hi).weak.weak.weak.weak⟩)
 simp only at hacc hp; clear hst; have w := fun t => ps_clipR (n := n) (t := t) (oneOfR hR)
 have tk : List.take R.length R = R := List.take_of_length_le (Nat.le_refl _); rcases hacc with ⟨rfl, h3⟩ | ⟨b, hbg, h3, hB⟩
 · refine ⟨0, [], ?_, hR, fun _ => by simp [D.sts, Fr]⟩
   simp [hx, h3, w]
 · refine ⟨s' 4, R, ?_, hR, fun hi => (hp hi).lastL 4⟩
   simp [hx, h3, hB, tk, w]
   try rfl
theorem ps_SureRungs {n : Nat} (l : List Ins) (ha : ∀ x ∈ l, x.e.as.length < 2 ^ 30) (h5n : 66 ≤ n) (hn : l.length + 3 < n) (hl : l.length < 2 ^ 28) : MakesL (n + 1) 279 [.w (isW l)] (rgRows (if (checkL l).1 = 0 then rungsL l else [])) := by
 obtain ⟨n, rfl⟩ : ∃ k, n = k + 1 := ⟨n - 1, by omega⟩; have w1 := run_verified (n := n) l (fun x hx => by have := ha x hx; omega) (by omega) (by omega) (by omega); have g1 : goS (n + 1) 305 = go (n + 1) 305 := gos_go rfl; refine .of fun s => ?_
 by_cases h : (checkL l).1 = 0
 · obtain ⟨t, R, w2⟩ := ps_rungsOf (n := n) l ha (by omega) (by omega) hl
   have v2 := fun s => (w2 s).1
   rw [decide_eq_true h] at w1; rw [if_pos h]; refine ⟨t fun k => subS (restS (restS s)) 1 (2 * k + 1), R fun k => subS (restS (restS s)) 1 (2 * k + 1), ?_, (w2 _).2.1, fun hi => by simpa using (((past_0 hi).weak.weak).call 1 (w2 _).2.2).fr⟩
   simp [gos_of (n := n + 1) FT_279 rfl, F279, g1, w1, v2]
 · rw [decide_eq_false h] at w1
   rw [if_neg h]; exact ⟨0, [], by simp [gos_of (n := n + 1) FT_279 rfl, F279, g1, w1], by simp [rgRows, erR], fun _ => by simp [D.sts, Fr]⟩
end Go.VM
