/- Copies of the program's, with stamps: what is handed out is new, every slice under a stamp of its own. Conditions: none. -/
import Derived.Test.YtfpkfcfiihfopaaDoorVP2
import Derived.Test.YtfpkfcfiihfopaaDoorVT1
import Derived.Test.YtfpkfcfiihfopaaDoorVZ1

namespace Go.VM
set_option linter.unusedSimpArgs false
set_option linter.unusedVariables false
set_option maxHeartbeats 16000000
theorem er_argRows (l : List Arg) : erR (argRows l) = argRows l := by
 induction l with
 | nil => rfl
 | cons a r ih => simp only [argRows, List.map_cons, erR] at ih ⊢; rw [ih]; simp [erL, D.er, Arg.row]
theorem sts_argRows (l : List Arg) : stsR (argRows l) = [] := by
 induction l with
 | nil => rfl
 | cons a r ih => simp only [argRows, List.map_cons, stsR] at ih ⊢; rw [ih]; simp [stsL_c, stsL_n, sts_s, Arg.row]
theorem cp_elem {n : Nat} (hn : 4 ≤ n) (e : El) (hl : e.as.length < 2 ^ 30) : MkEl n 163 [elX e] e := by
 obtain ⟨n, rfl⟩ : ∃ k, n = k + 1 := ⟨n - 1, by omega⟩; obtain ⟨op, as⟩ := e; have w : ∀ s, goS n 186 [.w (asW as)] [] s = some ⟨.w (.own 0 0 as.length (some as.length)), [], [.row none 3 (argRows as) 0]⟩ := fun s => by rw [gos_go rfl]; exact run_cloneA (n := n) (by omega) as hl s
 refine ⟨fun s => restS (restS s) 0, fun _ => argRows as, fun s => ⟨?_, er_argRows as, fun hi => ?_⟩⟩
 · simp [gos_of FT_163 rfl, F163, w]
 · exact Past.lastL (by rw [sts_argRows]; exact (past_0 hi).weak.weak) 0
def CpInv (t18 t19 tl : Nat) (sz bx : Nat) (zero : List D) (src : V) (len : Nat) (done : Nat → List (List D)) (U : List Nat) (s0 : Sup) (C : St → Prop) (k : Nat) (st : St) : Prop :=
 ∃ (i : Nat) (R : List (List D)), i + k = len ∧ C st ∧ st.τ tl = src ∧ st.τ t18 = iV len ∧ st.τ t19 = iV i ∧ st.H bx = .row none sz (R ++ List.replicate k zero) 0 ∧ erR R = done i ∧ R.length = i ∧ (Inj s0 → Past s0 st.s (U ++ stsR R))
theorem loopS330 {n : Nat} (l : List Ins) (ha : ∀ x ∈ l, x.e.as.length < 2 ^ 30) (h4n : 4 ≤ n) (s0 : Sup) (hn : l.length < n) (hl : l.length < 2 ^ 40) (st : St) (h3 : st.τ 3 = .w (.own 192 0 l.length (some l.length))) (hB : st.H 192 = .row none 3 (List.replicate l.length [iD 0, iD 0, .l 0 []]) 0) (h9 : st.τ 9 = .w (isW l)) (h10 : st.τ 10 = iV l.length) (h11 : st.τ 11 = iV 0) (hgg : 192 < st.g) (hp : Inj s0 → Past s0 st.s []) :
 ∃ e st', execC (goS n) modeT GT true 27 n F330_L0 st = some (e, st') ∧ e ≠ .normal ∧ (e = .exit 0 ∧ ∃ R, st'.τ 3 = .w (.own 192 0 l.length (some l.length)) ∧ st'.H 192 = .row none 3 R 0 ∧ erR R = insRows l ∧ R.length = l.length ∧ (Inj s0 → Past s0 st'.s (stsR R))) := by
 rw [F330_L0, execC_loop]; refine iter_rule (CpInv 10 11 9 3 192 [iD 0, iD 0, .l 0 []] (.w (isW l)) l.length (fun i => insRows (l.take i)) [] s0 fun st => st.τ 3 = .w (.own 192 0 l.length (some l.length)) ∧ 192 < st.g) ?_ n l.length st hn
  ⟨0, [], by omega, ⟨h3, hgg⟩, h9, h10, by simpa using h11, by simpa using hB, by simp [insRows, erR], rfl, by simpa [stsR] using hp⟩
 clear h3 hB h9 h10 h11 hgg hp; rintro k ⟨τ, H, g, s⟩ ⟨i, R, hk, ⟨h3, hgg⟩, h9, h10, h11, hB, hR, hRl, hp⟩; simp only [List.nil_append] at h3 hB h9 h10 h11 hgg hp hR; cases k with
 | zero =>
  have : i = l.length := by omega
  subst this; rw [List.take_length] at hR; simp only [List.replicate_zero, List.append_nil] at hB; refine ⟨.exit 0, ?_⟩
  simp [F330_B0, h3, h9, h10, h11, hB]; exact ⟨hR, hRl, fun hi => (hp hi).weak⟩
 | succ k =>
  have hlt : i < l.length := by omega
  have hlt' := ltT hlt; have hg := List.getElem?_eq_getElem hlt; have hmem := List.getElem_mem hlt; have hw := wrap_succ (i := i) (by omega); have hget := fill_get (k := k) hRl [iD 0, iD 0, .l 0 []]; have hset := fun x => fill_set (k := k) hRl [iD 0, iD 0, .l 0 []] x
  have htk := insRows_take hg; obtain ⟨t, R1, w⟩ := cp_elem (n := n) h4n l[i].e (ha _ hmem); obtain ⟨c, op, as, hx⟩ : ∃ c op as, l[i] = ⟨c, ⟨op, as⟩⟩ := ⟨_, _, _, rfl⟩; rw [hx] at hg w htk; have w1 := fun s => (w s).1
  have hb := insRows_get hg; have fgX := far hgg; have gl : (g < g + 64 + 384) = True := eq_true (by omega); refine ⟨.normal, ?_⟩
  simp [-getElem?_pos, F330_B0, h3, h9, h10, h11, hB, hlt, hlt', hb, w1, hw, hget, hset, fgX, gl]; refine ⟨k, by omega, i + 1, R ++ [[iD c, iD op, .l (t fun k => subS (restS (restS s)) 6 (2 * k + 1)) (R1 fun k => subS (restS (restS s)) 6 (2 * k + 1))]], by omega, ⟨by simp [upd, h3], by (show 192 < _) <;> simp <;> omega⟩, by simp [upd, h9], by simp [upd, h10], by simp [upd], by simp [upd], ?_, by simp [hRl], fun hi => ?_⟩
  · show _ = insRows (l.take (i + 1))
    rw [erR_append, hR, ← htk]; simp [erR, erL, D.er, (w _).2.1, Ins.row]
  · have h3 := (((hp hi).weak.weak).call 6 (w _).2.2).weak
    rw [stsR_append]
    simpa [stsR, stsL_c, stsL_n, sts_s] using h3
theorem cp_list {n : Nat} (l : List Ins) (ha : ∀ x ∈ l, x.e.as.length < 2 ^ 30) (hl : l.length < 2 ^ 29) (hn : l.length < n) (h4n : 4 ≤ n) : MakesL (n + 1) 330 [.w (isW l)] (insRows l) := by
 refine .of fun s => ?_
 have rm : room l.length 40 = true := room_of (by omega) (by omega); simp [gos_of FT_330 rfl, F330, insRows_length, rm]; generalize hst : St.mk _ _ _ _ = st; obtain ⟨e, ⟨τ', H', g', s'⟩, hx, -, rfl, R, h3, hB, hR, hRl, hp⟩ := loopS330 (n := n) l ha h4n s hn (by omega) st (by simp [← hst]) (by simp [← hst]) (by simp [← hst]) (by simp [← hst]) (by simp [← hst]) (by simp [← hst]) (by rw [← hst]; exact fun hi => (past_0 hi).weak.weak.weak); simp only at h3 hB hp; clear hst; have tk : List.take l.length R = R := List.take_of_length_le (by omega); refine ⟨restS s' 0, R, ?_, hR, fun hi => (hp hi).weak.lastL 0⟩
 simp [hx, h3, hB, tk, hRl]
set_option maxHeartbeats 4000000
set_option maxHeartbeats 8000000
theorem len_of3 (l : List Arg) : ∀ x ∈ argRows l, x.length = 3 := fun x hx => by
 simp only [argRows, List.mem_map] at hx; obtain ⟨a, _, rfl⟩ := hx
 rfl
end Go.VM
