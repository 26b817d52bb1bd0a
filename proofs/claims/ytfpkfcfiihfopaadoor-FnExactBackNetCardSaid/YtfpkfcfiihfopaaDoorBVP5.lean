/- Copies of the program's, with stamps: what is handed out is new, every slice under a stamp of its own. Conditions: none. -/
import Derived.Test.YtfpkfcfiihfopaaDoorBVP2
import Derived.Test.YtfpkfcfiihfopaaDoorBVT1
import Derived.Test.YtfpkfcfiihfopaaDoorBVZ1

namespace Go.VM
set_option linter.unusedSimpArgs false
set_option linter.unusedVariables false
set_option maxHeartbeats 16000000
theorem er_argRows (l : List Arg) : erR (argRows l) = argRows l := by
 induction l with
 | nil => rfl
 | cons a r ih => simp only [argRows, List.map_cons, erR] at ih ⊢; rw [ih]; simp [erL, D.er, Arg.row]
theorem sts_argRows (l : List Arg) : stsR (argRows l) = [] := by
 induction l with
 | nil => rfl
 | cons a r ih => simp only [argRows, List.map_cons, stsR] at ih ⊢; rw [ih]; simp [stsL_c, stsL_n, sts_s, Arg.row]
theorem sts_rowsL {t : Nat} {R : List (List D)} {s0 s : Sup} {U : List Nat} (h : Past s0 s (U ++ stsR R)) (k : Nat) (ht : t = s k) : Fr s0 (U ++ (D.l t R).sts) := by
 rw [sts_l]; split
 · rename_i e
   rw [List.isEmpty_iff] at e; subst e
   simpa [stsR] using h.fr
 · have := h.last k
   subst ht; refine ⟨?_, fun t ht => ?_⟩
   · have h1 := this.1
     simp only [List.nodup_cons, List.mem_append, not_or, List.nodup_append] at h1 ⊢; obtain ⟨⟨a1, a2⟩, a3, a4, a5⟩ := h1; refine ⟨a3, ⟨a2, a4⟩, ?_⟩
     intro x hx y hy; rcases List.mem_cons.1 hy with rfl | hy
     · exact fun e => a1 (e ▸ hx)
     · exact a5 x hx y hy
   · refine this.2 t ?_
     simp only [List.mem_cons, List.mem_append] at ht ⊢; rcases ht with h | h | h
     · exact .inr (.inl h)
     · exact .inl h
     · exact .inr (.inr h)
theorem cp_elem {n : Nat} (hn : 4 ≤ n) (e : El) (hl : e.as.length < 2 ^ 30) : MkEl n 163 [elX e] e := by
 obtain ⟨n, rfl⟩ : ∃ k, n = k + 1 := ⟨n - 1, by omega⟩; obtain ⟨op, as⟩ := e; have w : ∀ s, goS n 186 [.w (asW as)] [] s = some ⟨.w (.own 0 0 as.length (some as.length)), [], [.row none 3 (argRows as) 0]⟩ := fun s => by rw [gos_go rfl]; exact run_cloneA (n := n) (by omega) as hl s
 refine ⟨fun s => restS (restS s) 0, fun _ => argRows as, fun s => ⟨?_, er_argRows as, fun hi => ?_⟩⟩
 · simp [gos_of FT_163 rfl, F163, w]
 · exact Past.lastL (by rw [sts_argRows]; exact (past_0 hi).weak.weak) 0
def CpInv (t18 t19 tl : Nat) (sz bx : Nat) (zero : List D) (src : V) (len : Nat) (done : Nat → List (List D)) (U : List Nat) (s0 : Sup) (C : St → Prop) (k : Nat) (st : St) : Prop :=
 ∃ (i : Nat) (R : List (List D)), i + k = len ∧ C st ∧ st.τ tl = src ∧ st.τ t18 = iV len ∧ st.τ t19 = iV i ∧ st.H bx = .row none sz (R ++ List.replicate k zero) 0 ∧ erR R = done i ∧ R.length = i ∧ (Inj s0 → Past s0 st.s (U ++ stsR R))
theorem loopS139 {n : Nat} (l : List Net) (hc : ∀ k op as ks, Net.mk k op as ks ∈ l → MkNet n 139 [netX (.mk k op as ks)] k op as ks) (c0 c1 c2 : W) (U : List Nat) (s0 : Sup) (hn : l.length < n) (hl : l.length < 2 ^ 40) (st : St) (h3 : st.τ 3 = .w (.ptr 768 0)) (hA : st.H 768 = .cells [c0, c1, c2, .own 640 0 l.length (some l.length)]) (hB : st.H 640 = .row none 4 (List.replicate l.length [iD 0, iD 0, .l 0 [], .l 0 []]) 0) (h17 : st.τ 17 = .w (nsW l)) (h18 : st.τ 18 = iV l.length) (h19 : st.τ 19 = iV 0) (hgg : 768 < st.g) (h2 : st.τ 2 = .w (.ptr 64 0)) (hC : st.H 64 = .cells [iW 0, iW 0, .nil, .nil]) (hp : Inj s0 → Past s0 st.s U) :
 ∃ e st', execC (goS n) modeT GT true 32 n F139_L0 st = some (e, st') ∧ e ≠ .normal ∧ (e = .exit 0 ∧ ∃ R, st'.τ 3 = .w (.ptr 768 0) ∧ st'.H 768 = .cells [c0, c1, c2, .own 640 0 l.length (some l.length)] ∧ st'.H 640 = .row none 4 R 0 ∧ st'.τ 2 = .w (.ptr 64 0) ∧ st'.H 64 = .cells [iW 0, iW 0, .nil, .nil] ∧ erR R = netRows l ∧ R.length = l.length ∧ (Inj s0 → Past s0 st'.s (U ++ stsR R))) := by
 rw [F139_L0, execC_loop]; refine iter_rule (CpInv 18 19 17 4 640 [iD 0, iD 0, .l 0 [], .l 0 []] (.w (nsW l)) l.length (fun i => netRows (l.take i)) U s0 fun st => st.τ 3 = .w (.ptr 768 0) ∧ st.H 768 = .cells [c0, c1, c2, .own 640 0 l.length (some l.length)] ∧ 768 < st.g ∧ st.τ 2 = .w (.ptr 64 0) ∧ st.H 64 = .cells [iW 0, iW 0, .nil, .nil]) ?_ n l.length st hn
  ⟨0, [], by omega, ⟨h3, hA, hgg, h2, hC⟩, h17, h18, by simpa using h19, by simpa using hB, by simp [netRows, erR], rfl, by simpa [stsR] using hp⟩
 clear h3 hA hB h17 h18 h19 hgg h2 hC hp; rintro k ⟨τ, H, g, s⟩ ⟨i, R, hk, ⟨h3, hA, hgg, h2, hC⟩, h17, h18, h19, hB, hR, hRl, hp⟩; simp only at h3 hA hB h17 h18 h19 hgg h2 hC hp hR; cases k with
 | zero =>
  have : i = l.length := by omega
  subst this; rw [List.take_length] at hR; simp only [List.replicate_zero, List.append_nil] at hB; refine ⟨.exit 0, ?_⟩
  simp [F139_B0, h3, h17, h18, h19, hA, hB, h2, hC]; exact ⟨hR, hRl, fun hi => (hp hi).weak⟩
 | succ k =>
  have hlt : i < l.length := by omega
  have hlt' := ltT hlt; have hg := List.getElem?_eq_getElem hlt; have hmem := List.getElem_mem hlt; have hw := wrap_succ (i := i) (by omega); have hget := fill_get (k := k) hRl [iD 0, iD 0, .l 0 [], .l 0 []]; have hset := fun x => fill_set (k := k) hRl [iD 0, iD 0, .l 0 [], .l 0 []] x
  have htk := netRows_take hg; obtain ⟨k', op, as, ks, hx⟩ : ∃ k' op as ks, l[i] = .mk k' op as ks := by cases l[i]; exact ⟨_, _, _, _, rfl⟩
  rw [hx] at hg htk hmem; obtain ⟨t, t2, R1, R2, w⟩ := hc k' op as ks hmem; have w1 := fun s => (w s).1
  have hb := netRows_get hg; have fgX := far hgg; have feX := far (show 640 < g by omega); have fcX := far (show 64 < g by omega); have glt : ∀ m : Nat, m ≤ 768 → (m < g) = True := fun m h => eq_true (by omega)
  have gle : ∀ m : Nat, m ≤ 768 → (g ≤ m) = False := fun m h => eq_false (by omega)
  refine ⟨.normal, ?_⟩
  simp [-getElem?_pos, F139_B0, glt, gle, h3, h17, h18, h19, hA, hB, hlt, hlt', hb, w1, hw, hget, hset, h2, hC, fgX, feX, fcX]; refine ⟨k, by omega, i + 1, R ++ [[iD k', iD op, .l (t fun k => subS (restS (restS s)) 4 (2 * k + 1)) (R1 fun k => subS (restS (restS s)) 4 (2 * k + 1)), .l (t2 fun k => subS (restS (restS s)) 4 (2 * k + 1)) (R2 fun k => subS (restS (restS s)) 4 (2 * k + 1))]], by omega,
   ⟨by simp [upd, h3], by simp [upd, hA, fgX], by (show 768 < _) <;> simp <;> omega, by simp [upd, h2], by simp [upd, hC, fcX]⟩, by simp [upd, h17], by simp [upd, h18], by simp [upd], by simp [upd], ?_, by simp [hRl], fun hi => ?_⟩
  · show _ = netRows (l.take (i + 1))
    rw [erR_append, hR, ← htk]; simp [erR, erL, D.er, (w _).2.1, (w _).2.2.1, Net.row]
  · have h3 := (((hp hi).weak.weak).call 4 (w _).2.2.2).weak
    rw [stsR_append, ← List.append_assoc]
    simpa [stsR, stsL_c, stsL_n, sts_s] using h3
theorem cp_net : ∀ (m : Nat) (k op : Int) (as : List Arg) (ks : List Net), (Net.mk k op as ks).wt ≤ m → m < 2 ^ 30 → ∀ (n : Nat), m + 8 ≤ n → MkNet n 139 [netX (.mk k op as ks)] k op as ks
 | 0, k, op, as, ks, h, hm, n, hn => by have := (Net.mk k op as ks).wt_pos; omega
 | m + 1, k, op, as, ks, h, hm, n, hn => by
  obtain ⟨n, rfl⟩ : ∃ k, n = k + 1 := ⟨n - 1, by omega⟩; have hlen := netsWt_len ks; simp only [Net.wt] at h; have hc : ∀ k op as ks', Net.mk k op as ks' ∈ ks → MkNet n 139 [netX (.mk k op as ks')] k op as ks' := fun k op as ks' hx => cp_net m k op as ks' (by have := netsWt_mem hx; omega) (by omega) n (by omega)
  obtain ⟨t, R, w⟩ := cp_elem (n := n) (by omega) ⟨op, as⟩ (by simp only; omega); have w1 := fun s => (w s).1
  have hr : room ks.length 64 = true := room_of (by omega) (by omega); have key : ∀ s, ∃ t2 R2, goS (n + 1) 139 [netX (.mk k op as ks)] [] s = some ⟨.agg [iW k, iW op, .d (.l (t fun q => subS (restS s) 4 (2 * q + 1)) (R fun q => subS (restS s) 4 (2 * q + 1))), .d (.l t2 R2)], [], []⟩ ∧ erR R2 = netRows ks ∧ (Inj s → Fr s ((D.l (t fun q => subS (restS s) 4 (2 * q + 1)) (R fun q => subS (restS s) 4 (2 * q + 1))).sts ++ (D.l t2 R2).sts)) := by
   intro s; simp [gos_of FT_139 rfl, F139, w1, hr]; generalize hst : St.mk _ _ _ _ = st; obtain ⟨e, ⟨τ', H', g', s'⟩, hx, -, rfl, R2, h3, hA, hB, h2, hC, hR, hRl, hp⟩ := loopS139 (n := n) ks hc (iW k) (iW op) (.d (.l (t fun q => subS (restS s) 4 (2 * q + 1)) (R fun q => subS (restS s) 4 (2 * q + 1)))) (D.l (t fun q => subS (restS s) 4 (2 * q + 1)) (R fun q => subS (restS s) 4 (2 * q + 1))).sts s (by omega) (by omega) st (by simp [← hst]) (by simp [← hst]) (by simp [← hst]) (by simp [← hst]) (by simp [← hst]) (by simp [← hst]) (by simp [← hst]) (by simp [← hst]) (by simp [← hst])
    (fun hi => by rw [← hst]; exact (((past_0 hi).weak).call 4 (w _).2.2).weak)
   simp only at h3 hA hB h2 hC hp; clear hst; have tk : List.take ks.length R2 = R2 := List.take_of_length_le (by omega); refine ⟨restS s' 0, R2, ?_, hR, fun hi => sts_rowsL (hp hi).weak 0 rfl⟩
   simp [hx, h3, hA, hB, h2, hC, tk, hRl]
  exact ⟨fun s => t fun q => subS (restS s) 4 (2 * q + 1), fun s => (key s).choose, fun s => R fun q => subS (restS s) 4 (2 * q + 1), fun s => (key s).choose_spec.choose, fun s => ⟨(key s).choose_spec.choose_spec.1, (w _).2.1, (key s).choose_spec.choose_spec.2.1, (key s).choose_spec.choose_spec.2.2⟩⟩
set_option maxHeartbeats 4000000
set_option maxHeartbeats 8000000
theorem execC_past {call : CallT} {M : Nat → Mode} {G : Nat → Option (List D)} {stamp : Bool} {N n : Nat} {s0 : Sup} {U : List Nat} : ∀ (c : C) {st st' : St} {e : Ex}, execC call M G stamp N n c st = some (e, st') → Past s0 st.s U → Past s0 st'.s U
 | .skip, st, st', e, h, hp => by simp only [execC, Option.some.injEq, Prod.mk.injEq] at h; rw [← h.2]; exact hp
 | .reg ops, st, st', e, h, hp => by
  simp only [execC] at h; split at h
  · simp only [Option.some.injEq, Prod.mk.injEq] at h; rw [← h.2]; exact hp.weak
  · cases h
 | .dreg ops _, st, st', e, h, hp => by
  simp only [execC] at h; split at h
  · split at h
    · simp only [Option.some.injEq, Prod.mk.injEq] at h; rw [← h.2]; exact hp.weak
    · cases h
  · cases h
 | .seq a b, st, st', e, h, hp => by
  simp only [execC] at h; split at h
  · rename_i st1 h1
    exact execC_past b h (execC_past a h1 hp)
  · exact execC_past a h hp
 | .cond x a b, st, st', e, h, hp => by
  simp only [execC] at h; split at h
  · split at h
    · exact execC_past a h hp
    · exact execC_past b h hp
  · cases h
 | .block id c, st, st', e, h, hp => by
  simp only [execC] at h; split at h
  · rename_i i st1 h1
    split at h
    · simp only [Option.some.injEq, Prod.mk.injEq] at h; rw [← h.2]; exact execC_past c h1 hp
    · simp only [Option.some.injEq, Prod.mk.injEq] at h; rw [← h.2]; exact execC_past c h1 hp
  · exact execC_past c h hp
 | .loop c, st, st', e, h, hp => by
  simp only [execC] at h; have key : ∀ (m : Nat) (st : St), iter (execC call M G stamp N n c) m st = some (e, st') → Past s0 st.s U → Past s0 st'.s U := by
   intro m
   induction m with
   | zero => intro st h _; cases h
   | succ m ih =>
    intro st h hp; simp only [iter] at h; split at h
    · rename_i st1 h1
      exact ih st1 h (execC_past c h1 hp)
    · exact execC_past c h hp
  exact key n st h hp
 | .exit id, st, st', e, h, hp => by simp only [execC, Option.some.injEq, Prod.mk.injEq] at h; rw [← h.2]; exact hp
 | .ret, st, st', e, h, hp => by simp only [execC, Option.some.injEq, Prod.mk.injEq] at h; rw [← h.2]; exact hp
 | .bad, st, st', e, h, hp => by cases h
end Go.VM
