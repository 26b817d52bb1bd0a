/- Coils, arms and lists copied, with stamps. Conditions: none. -/
import Derived.Test.YtfpkfcfiihfopaaGreatDoorVP3
import Derived.Test.YtfpkfcfiihfopaaGreatDoorVY8
import Derived.Test.YtfpkfcfiihfopaaGreatDoorVT1
import Derived.Test.YtfpkfcfiihfopaaGreatDoorVQ9

namespace Go.VM
set_option linter.unusedSimpArgs false
set_option linter.unusedVariables false
set_option maxHeartbeats 16000000
theorem loopS147 {n : Nat} (l : List El) (h4 : 4 ≤ n) (hsm : elsWt l < 2 ^ 30) (s0 : Sup) (hn : l.length < n) (hl : l.length < 2 ^ 40) (st : St) (h3 : st.τ 3 = .w (.own 192 0 l.length (some l.length))) (hB : st.H 192 = .row none 2 (List.replicate l.length [iD 0, .l 0 []]) 0) (h9 : st.τ 9 = .w (csW l)) (h10 : st.τ 10 = iV l.length) (h11 : st.τ 11 = iV 0) (hgg : 192 < st.g) (hp : Inj s0 → Past s0 st.s []) :
 ∃ e st', execC (goS n) modeT GT true 23 n F147_L0 st = some (e, st') ∧ e ≠ .normal ∧ (e = .exit 0 ∧ ∃ R, st'.τ 3 = .w (.own 192 0 l.length (some l.length)) ∧ st'.H 192 = .row none 2 R 0 ∧ erR R = elRows l ∧ R.length = l.length ∧ (Inj s0 → Past s0 st'.s (stsR R))) := by
 rw [F147_L0, execC_loop]; refine iter_rule (CpInv 10 11 9 2 192 [iD 0, .l 0 []] (.w (csW l)) l.length (fun i => elRows (l.take i)) [] s0 fun st => st.τ 3 = .w (.own 192 0 l.length (some l.length)) ∧ 192 < st.g) ?_ n l.length st hn
  ⟨0, [], by omega, ⟨h3, hgg⟩, h9, h10, by simpa using h11, by simpa using hB, by simp [elRows, erR], rfl, by simpa [stsR] using hp⟩
 clear h3 hB h9 h10 h11 hgg hp; rintro k ⟨τ, H, g, s⟩ ⟨i, R, hk, ⟨h3, hgg⟩, h9, h10, h11, hB, hR, hRl, hp⟩; simp only [List.nil_append] at h3 hB h9 h10 h11 hgg hp hR; cases k with
 | zero =>
  have : i = l.length := by omega
  subst this; rw [List.take_length] at hR; simp only [List.replicate_zero, List.append_nil] at hB; refine ⟨.exit 0, ?_⟩
  simp [F147_B0, h3, h9, h10, h11, hB]; exact ⟨hR, hRl, fun hi => (hp hi).weak⟩
 | succ k =>
  have hlt : i < l.length := by omega
  have hlt' := ltT hlt; have hg := List.getElem?_eq_getElem hlt; have hmem := List.getElem_mem hlt; have hw := wrap_succ (i := i) (by omega); have hget := fill_get (k := k) hRl [iD 0, .l 0 []]; have hset := fun x => fill_set (k := k) hRl [iD 0, .l 0 []] x
  have hwt := elsWt_mem hmem; have hb := elRows_get hg; have htk := elRows_take hg; obtain ⟨t, R1, w⟩ := cp_elem (n := n) h4 l[i] (by simp only [El.wt] at hwt; omega); have w1 := fun s => (w s).1
  have fgX := far hgg; refine ⟨.normal, ?_⟩
  simp [-getElem?_pos, F147_B0, h3, h9, h10, h11, hB, hlt, hlt', hb, w1, hw, hget, hset, fgX]; refine ⟨k, by omega, i + 1, R ++ [[iD l[i].op, .l (t fun k => subS (restS (restS s)) 3 (2 * k + 1)) (R1 fun k => subS (restS (restS s)) 3 (2 * k + 1))]], by omega, ⟨by simp [upd, h3], by (show 192 < _) <;> simp <;> omega⟩, by simp [upd, h9], by simp [upd, h10], by simp [upd], by simp [upd], ?_, by simp [hRl], fun hi => ?_⟩
  · show _ = elRows (l.take (i + 1))
    rw [erR_append, hR, ← htk]; simp [erR, erL, D.er, (w _).2.1, El.row]
  · have h3 := (((hp hi).weak.weak).call 3 (w _).2.2).weak
    rw [stsR_append]
    simpa [stsR, stsL_c, stsL_n, sts_s] using h3
theorem cp_elems {n : Nat} (l : List El) (hn : elsWt l + 6 ≤ n) (hl : elsWt l < 2 ^ 30) : MakesL n 147 [.w (csW l)] (elRows l) := by
 obtain ⟨n, rfl⟩ : ∃ k, n = k + 1 := ⟨n - 1, by omega⟩; refine .of fun s => ?_
 have hlen := elsWt_len l; have hr : room l.length 32 = true := room_of (by omega) (by omega); simp [gos_of FT_147 rfl, F147, hr]; generalize hst : St.mk _ _ _ _ = st; obtain ⟨e, ⟨τ', H', g', s'⟩, hx, -, rfl, R, h3, hB, hR, hRl, hp⟩ := loopS147 (n := n) l (by omega) hl s (by omega) (by omega) st (by simp [← hst]) (by simp [← hst]) (by simp [← hst]) (by simp [← hst]) (by simp [← hst]) (by simp [← hst]) (by rw [← hst]; exact fun hi => (past_0 hi).weak.weak.weak); simp only at h3 hB hp; clear hst; have tk : List.take l.length R = R := List.take_of_length_le (by omega); refine ⟨restS s' 0, R, ?_, hR, fun hi => (hp hi).weak.lastL 0⟩
 simp [hx, h3, hB, tk, hRl]
theorem loopS125 {n : Nat} (l : List Arm) (hc : ∀ x ∈ l, MakesL n 125 [.w (ksW x.kids)] (armRows x.kids)) (hsm : armsWt l < 2 ^ 29) (hnn : armsWt l + 20 ≤ n) (s0 : Sup) (hn : l.length < n) (hl : l.length < 2 ^ 40) (st : St) (h3 : st.τ 3 = .w (.own 192 0 l.length (some l.length))) (hB : st.H 192 = .row none 6 (List.replicate l.length [iD 0, iD 0, .l 0 [], .l 0 [], .l 0 [], .l 0 []]) 0) (h9 : st.τ 9 = .w (ksW l)) (h10 : st.τ 10 = iV l.length) (h11 : st.τ 11 = iV 0) (hgg : 192 < st.g) (hp : Inj s0 → Past s0 st.s []) :
 ∃ e st', execC (goS n) modeT GT true 31 n F125_L0 st = some (e, st') ∧ e ≠ .normal ∧ (e = .exit 0 ∧ ∃ R, st'.τ 3 = .w (.own 192 0 l.length (some l.length)) ∧ st'.H 192 = .row none 6 R 0 ∧ erR R = armRows l ∧ R.length = l.length ∧ (Inj s0 → Past s0 st'.s (stsR R))) := by
 rw [F125_L0, execC_loop]; refine iter_rule (CpInv 10 11 9 6 192 [iD 0, iD 0, .l 0 [], .l 0 [], .l 0 [], .l 0 []] (.w (ksW l)) l.length (fun i => armRows (l.take i)) [] s0 fun st => st.τ 3 = .w (.own 192 0 l.length (some l.length)) ∧ 192 < st.g) ?_ n l.length st hn
  ⟨0, [], by omega, ⟨h3, hgg⟩, h9, h10, by simpa using h11, by simpa using hB, by simp [armRows, erR], rfl, by simpa [stsR] using hp⟩
 clear h3 hB h9 h10 h11 hgg hp; rintro k ⟨τ, H, g, s⟩ ⟨i, R, hk, ⟨h3, hgg⟩, h9, h10, h11, hB, hR, hRl, hp⟩; simp only [List.nil_append] at h3 hB h9 h10 h11 hgg hp hR; cases k with
 | zero =>
  have : i = l.length := by omega
  subst this; rw [List.take_length] at hR; simp only [List.replicate_zero, List.append_nil] at hB; refine ⟨.exit 0, ?_⟩
  simp [F125_B0, h3, h9, h10, h11, hB]; exact ⟨hR, hRl, fun hi => (hp hi).weak⟩
 | succ k =>
  have hlt : i < l.length := by omega
  have hlt' := ltT hlt; have hg := List.getElem?_eq_getElem hlt; have hmem := List.getElem_mem hlt; have hw := wrap_succ (i := i) (by omega); have hget := fill_get (k := k) hRl [iD 0, iD 0, .l 0 [], .l 0 [], .l 0 [], .l 0 []]; have hset := fun x => fill_set (k := k) hRl [iD 0, iD 0, .l 0 [], .l 0 [], .l 0 [], .l 0 []] x
  have hwt := armsWt_mem hmem; have w := hc _ hmem; have htk := armRows_take hg; obtain ⟨k', op, as, nks, cs, ks, hx⟩ : ∃ k' op as nks cs ks, l[i] = .mk (.mk k' op as nks) cs ks := by
   cases hq : l[i] with | mk nn cs ks => cases nn; exact ⟨_, _, _, _, _, _, rfl⟩
  rw [hx] at hg w htk hwt; have hb := armRows_get hg; simp only [Arm.kids] at w; simp only [Arm.wt] at hwt; obtain ⟨t4, R4, w4⟩ := w; obtain ⟨t1, t2, R1, R2, w2⟩ := cp_net (Net.wt (.mk k' op as nks)) k' op as nks (Nat.le_refl _) (by omega) n (by omega); obtain ⟨t3, R3, w3⟩ := cp_elems (n := n) cs (by omega) (by omega); have v4 := fun s => (w4 s).1
  have v2 := fun s => (w2 s).1
  have v3 := fun s => (w3 s).1
  have fgX := far hgg; have hcm : (g < g + 64 + 384) = True := eq_true (by omega); refine ⟨.normal, ?_⟩
  simp [-getElem?_pos, F125_B0, hcm, h3, h9, h10, h11, hB, hlt, hlt', hb, v4, v2, v3, hw, hget, hset, fgX]; refine ⟨k, by omega, i + 1, R ++ [[iD k', iD op, .l (t1 fun k => subS (restS (restS s)) 4 (2 * k + 1)) (R1 fun k => subS (restS (restS s)) 4 (2 * k + 1)), .l (t2 fun k => subS (restS (restS s)) 4 (2 * k + 1)) (R2 fun k => subS (restS (restS s)) 4 (2 * k + 1)),
   .l (t3 fun k => subS (restS (restS s)) 7 (2 * k + 1)) (R3 fun k => subS (restS (restS s)) 7 (2 * k + 1)), .l (t4 fun k => subS (restS (restS s)) 10 (2 * k + 1)) (R4 fun k => subS (restS (restS s)) 10 (2 * k + 1))]], by omega, ⟨by simp [upd, h3], by (show 192 < _) <;> simp <;> omega⟩, by simp [upd, h9], by simp [upd, h10], by simp [upd], by simp [upd], ?_, by simp [hRl], fun hi => ?_⟩
  · show _ = armRows (l.take (i + 1))
    rw [erR_append, hR, ← htk]; simp [erR, erL, D.er, (w2 _).2.1, (w2 _).2.2.1, (w3 _).2.1, (w4 _).2.1, Arm.row]
  · have h3 := (((hp hi).weak.weak).call3 4 7 10 (by omega) (by omega) (by omega) (w2 _).2.2.2 (w3 _).2.2 (w4 _).2.2).weak
    rw [stsR_append]
    simpa [stsR, stsL_c, stsL_n, sts_s] using h3
theorem cp_arms : ∀ (m : Nat) (l : List Arm), armsWt l ≤ m → m < 2 ^ 29 → ∀ (n : Nat), 2 * m + 24 ≤ n → MakesL n 125 [.w (ksW l)] (armRows l) := by
 intro m
 induction m with
 | zero =>
  intro l h hm n hn; obtain ⟨n, rfl⟩ : ∃ k, n = k + 2 := ⟨n - 2, by omega⟩; have e : l = [] := by
   cases l with
   | nil => rfl
   | cons a r => have := a.wt_pos; simp [armsWt] at h; omega
  subst e; have hr : room 0 112 = true := by decide
  refine .of fun s => ⟨_, [], by simp [gos_of FT_125 rfl, F125, F125_L0, execC_loop, iter, F125_B0, armRows, hr]; rfl, rfl, fun _ => by simp [D.sts, Fr]⟩
 | succ m ih =>
  intro l h hm n hn; obtain ⟨n, rfl⟩ : ∃ k, n = k + 1 := ⟨n - 1, by omega⟩; have hlen := armsWt_len l; have hr : room l.length 112 = true := room_of (by omega) (by omega); have hc : ∀ x ∈ l, MakesL n 125 [.w (ksW x.kids)] (armRows x.kids) := fun x hx => ih x.kids (by have := armsWt_mem hx; cases x; simp [Arm.wt] at this; simp [Arm.kids]; omega) (by omega) n (by omega)
  refine .of fun s => ?_
  simp [gos_of FT_125 rfl, F125, hr]; generalize hst : St.mk _ _ _ _ = st; obtain ⟨e, ⟨τ', H', g', s'⟩, hx, -, rfl, R, h3, hB, hR, hRl, hp⟩ := loopS125 (n := n) l hc (by omega) (by omega) s (by omega) (by omega) st (by simp [← hst]) (by simp [← hst]) (by simp [← hst]) (by simp [← hst]) (by simp [← hst]) (by simp [← hst]) (by rw [← hst]; exact fun hi => (past_0 hi).weak.weak.weak); simp only at h3 hB hp; clear hst; have tk : List.take l.length R = R := List.take_of_length_le (by omega); refine ⟨restS s' 0, R, ?_, hR, fun hi => (hp hi).weak.lastL 0⟩
  simp [hx, h3, hB, tk, hRl]
set_option maxHeartbeats 4000000
set_option maxHeartbeats 8000000
theorem len_of3 (l : List Arg) : ∀ x ∈ argRows l, x.length = 3 := fun x hx => by
 simp only [argRows, List.mem_map] at hx; obtain ⟨a, _, rfl⟩ := hx
 rfl
end Go.VM
