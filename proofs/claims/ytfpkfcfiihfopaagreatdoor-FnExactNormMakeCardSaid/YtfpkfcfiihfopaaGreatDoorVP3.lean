/- Ladders and lists made anew by the laws' helpers, with stamps. Conditions: none. -/
import Derived.Test.YtfpkfcfiihfopaaGreatDoorVP1
import Derived.Test.YtfpkfcfiihfopaaGreatDoorVY8
import Derived.Test.YtfpkfcfiihfopaaGreatDoorVQ10

namespace Go.VM
set_option linter.unusedSimpArgs false
set_option linter.unusedVariables false
set_option maxHeartbeats 8000000
theorem sts_s (v : Value) : (D.s v).sts = [] := rfl
theorem stsL_n : stsL [] = [] := rfl
theorem stsL_c (x : D) (r : List D) : stsL (x :: r) = x.sts ++ stsL r := rfl
theorem Past.call {s0 s : Sup} {U F : List Nat} (h : Past s0 s U) (i : Nat) (hf : Inj (fun k => subS s i (2 * k + 1)) → Fr (fun k => subS s i (2 * k + 1)) F) : Past s0 (restS s) (U ++ F) :=
 h.one i (Fr.sub (f := fun k => 2 * k + 1) (hf (inj_arg (inj_sub h.inj i))))
theorem Past.call3 {s0 s : Sup} {U F1 F2 F3 : List Nat} (h : Past s0 s U) (i j k : Nat) (hij : i ≠ j) (hik : i ≠ k) (hjk : j ≠ k) (h1 : Inj (fun q => subS s i (2 * q + 1)) → Fr (fun q => subS s i (2 * q + 1)) F1) (h2 : Inj (fun q => subS s j (2 * q + 1)) → Fr (fun q => subS s j (2 * q + 1)) F2) (h3 : Inj (fun q => subS s k (2 * q + 1)) → Fr (fun q => subS s k (2 * q + 1)) F3) :
 Past s0 (restS s) (U ++ (F1 ++ (F2 ++ F3))) := by
 have := h.take [(i, F1), (j, F2), (k, F3)] (by simp [hij, hik, hjk]) (by
  intro p hp; simp only [List.mem_cons, List.not_mem_nil, or_false] at hp; rcases hp with rfl | rfl | rfl
  · exact Fr.sub (f := fun q => 2 * q + 1) (h1 (inj_arg (inj_sub h.inj _)))
  · exact Fr.sub (f := fun q => 2 * q + 1) (h2 (inj_arg (inj_sub h.inj _)))
  · exact Fr.sub (f := fun q => 2 * q + 1) (h3 (inj_arg (inj_sub h.inj _))))
 simpa using this
def MkEl (n c : Nat) (args : List V) (e : El) : Prop :=
 ∃ (t : Sup → Nat) (R : Sup → List (List D)), ∀ s, goS n c args [] s = some ⟨.agg [iW e.op, .d (.l (t s) (R s))], [], []⟩ ∧ erR (R s) = argRows e.as ∧ (Inj s → Fr s (D.l (t s) (R s)).sts)
def MkNet (n c : Nat) (args : List V) (k op : Int) (as : List Arg) (ks : List Net) : Prop :=
 ∃ (t t2 : Sup → Nat) (R R2 : Sup → List (List D)), ∀ s, goS n c args [] s = some ⟨.agg [iW k, iW op, .d (.l (t s) (R s)), .d (.l (t2 s) (R2 s))], [], []⟩ ∧ erR (R s) = argRows as ∧ erR (R2 s) = netRows ks ∧ (Inj s → Fr s ((D.l (t s) (R s)).sts ++ (D.l (t2 s) (R2 s)).sts))
def MkArm (n c : Nat) (args : List V) (k op : Int) (as : List Arg) (nks : List Net) (cs : List El) (ks : List Arm) : Prop :=
 ∃ (t t2 t3 t4 : Sup → Nat) (R R2 R3 R4 : Sup → List (List D)), ∀ s, goS n c args [] s = some ⟨.agg [iW k, iW op, .d (.l (t s) (R s)), .d (.l (t2 s) (R2 s)), .d (.l (t3 s) (R3 s)), .d (.l (t4 s) (R4 s))], [], []⟩ ∧
  erR (R s) = argRows as ∧ erR (R2 s) = netRows nks ∧ erR (R3 s) = elRows cs ∧ erR (R4 s) = armRows ks ∧ (Inj s → Fr s (((D.l (t s) (R s)).sts ++ (D.l (t2 s) (R2 s)).sts) ++ (D.l (t3 s) (R3 s)).sts ++ (D.l (t4 s) (R4 s)).sts))
def MkIns (n c : Nat) (args : List V) (x : Ins) : Prop :=
 ∃ (t : Sup → Nat) (R : Sup → List (List D)), ∀ s, goS n c args [] s = some ⟨.agg [iW x.c, iW x.e.op, .d (.l (t s) (R s))], [], []⟩ ∧ erR (R s) = argRows x.e.as ∧ (Inj s → Fr s (D.l (t s) (R s)).sts)
theorem MkEl.makes {n c : Nat} {args : List V} {e : El} (h : MkEl n c args e) : Makes n c args 2 e.row := by
 obtain ⟨t, R, h⟩ := h; exact ⟨fun s => [iD e.op, .l (t s) (R s)], fun s => ⟨(h s).1, rfl, by simp [erL, D.er, (h s).2.1, El.row], fun hi => by simpa [stsL_c, stsL_n, sts_s] using (h s).2.2 hi⟩⟩
theorem MkIns.makes {n c : Nat} {args : List V} {x : Ins} (h : MkIns n c args x) : Makes n c args 3 x.row := by
 obtain ⟨t, R, h⟩ := h; exact ⟨fun s => [iD x.c, iD x.e.op, .l (t s) (R s)], fun s => ⟨(h s).1, rfl, by simp [erL, D.er, (h s).2.1, Ins.row], fun hi => by simpa [stsL_c, stsL_n, sts_s] using (h s).2.2 hi⟩⟩
theorem MkNet.makes {n c : Nat} {args : List V} {k op : Int} {as : List Arg} {ks : List Net} (h : MkNet n c args k op as ks) : Makes n c args 4 (Net.mk k op as ks).row := by
 obtain ⟨t, t2, R, R2, h⟩ := h; exact ⟨fun s => [iD k, iD op, .l (t s) (R s), .l (t2 s) (R2 s)], fun s => ⟨(h s).1, rfl, by simp [erL, D.er, (h s).2.1, (h s).2.2.1, Net.row], fun hi => by simpa [stsL_c, stsL_n, sts_s] using (h s).2.2.2 hi⟩⟩
theorem MkArm.makes {n c : Nat} {args : List V} {k op : Int} {as : List Arg} {nks : List Net} {cs : List El} {ks : List Arm} (h : MkArm n c args k op as nks cs ks) : Makes n c args 6 (Arm.mk (.mk k op as nks) cs ks).row := by
 obtain ⟨t, t2, t3, t4, R, R2, R3, R4, h⟩ := h; exact ⟨fun s => [iD k, iD op, .l (t s) (R s), .l (t2 s) (R2 s), .l (t3 s) (R3 s), .l (t4 s) (R4 s)], fun s => ⟨(h s).1, rfl, by simp [erL, D.er, (h s).2.1, (h s).2.2.1, (h s).2.2.2.1, (h s).2.2.2.2.1, Arm.row], fun hi => by simpa [stsL_c, stsL_n, sts_s] using (h s).2.2.2.2.2 hi⟩⟩
theorem mk_arg {n : Nat} (a : Arg) : Makes (n + 1) 241 [rowX a.row] 3 a.row :=
 ⟨fun _ => a.row, fun s => ⟨by rw [gos_go rfl]; exact to_arg a s, rfl, by simp [erL, D.er, Arg.row], fun _ => by simp [stsL_c, stsL_n, sts_s, Arg.row, Fr]⟩⟩
theorem mk_args {n : Nat} (l : List Arg) (hn : l.length + 3 ≤ n) (hl : l.length < 2 ^ 30) : MakesL n 237 [.w (asW l)] (argRows l) := by
 obtain ⟨n, rfl⟩ : ∃ k, n = k + 2 := ⟨n - 2, by omega⟩; have := runS_toS (f := 237) (sz := 3) (bytes := 24) (zero := [iD 0, iD 0, iD 0]) (c := 241) (n := n + 1) rfl rfl rfl rfl rfl 0 (fun r => r) (argRows l) (argRows_all fun a _ => argRow_len a)
  (argRows_all fun a _ => mk_arg a) (by omega) (by simp [argRows]; omega) (by simp [argRows]; omega)
 rw [List.map_id'] at this; exact this
theorem mk_el {n : Nat} (e : El) (hn : e.as.length + 4 ≤ n) (hl : e.as.length < 2 ^ 30) : MkEl n 228 [elX e] e := by
 obtain ⟨n, rfl⟩ : ∃ k, n = k + 1 := ⟨n - 1, by omega⟩; obtain ⟨t, R, w⟩ := mk_args (n := n) e.as (by omega) hl; have w1 := fun s => (w s).1
 refine ⟨fun s => t fun k => subS (restS (restS (restS s))) 2 (2 * k + 1), fun s => R fun k => subS (restS (restS (restS s))) 2 (2 * k + 1), fun s => ⟨?_, (w _).2.1, fun hi => ?_⟩⟩
 · simp [gos_of FT_228 rfl, F228, w1]
 · exact ((past_0 hi).weak.weak.weak.call 2 (w _).2.2).fr
theorem mk_els {n : Nat} (l : List El) (hn : elsWt l + 6 ≤ n) (hl : elsWt l < 2 ^ 30) : MakesL n 252 [.w (csW l)] (elRows l) := by
 obtain ⟨n, rfl⟩ : ∃ k, n = k + 2 := ⟨n - 2, by omega⟩; have hlen := elsWt_len l; have := runS_toS (f := 252) (sz := 2) (bytes := 32) (zero := [iD 0, .l 0 []]) (c := 228) (n := n + 1) rfl rfl rfl rfl rfl 0 (fun r => r) (elRows l) (elRows_all fun a _ => elRow_len a)
  (elRows_all fun a ha => (mk_el (n := n + 1) a (by have := elsWt_mem ha; simp only [El.wt] at this; omega) (by have := elsWt_mem ha; simp only [El.wt] at this; omega)).makes) (by omega) (by simp [elRows]; omega) (by simp [elRows]; omega)
 rw [List.map_id'] at this; exact this
theorem mk_net : ∀ (m : Nat) (k op : Int) (as : List Arg) (ks : List Net), (Net.mk k op as ks).wt ≤ m → m < 2 ^ 30 → ∀ (n : Nat), 2 * m + 6 ≤ n → MkNet n 221 [netX (.mk k op as ks)] k op as ks
 | 0, k, op, as, ks, h, hm, n, hn => by have := (Net.mk k op as ks).wt_pos; omega
 | m + 1, k, op, as, ks, h, hm, n, hn => by
  obtain ⟨n, rfl⟩ : ∃ k, n = k + 3 := ⟨n - 3, by omega⟩; simp only [Net.wt] at h; have hlen := netsWt_len ks; have h2 : MakesL (n + 2) 229 [.w (nsW ks)] (netRows ks) := by
   have := runS_toS (f := 229) (sz := 4) (bytes := 64) (zero := [iD 0, iD 0, .l 0 [], .l 0 []]) (c := 221) (n := n + 1) rfl rfl rfl rfl rfl 0 (fun r => r) (netRows ks) (netRows_all fun a _ => netRow_len a)
    (netRows_all fun a ha => by
     obtain ⟨k', op', as', ks'⟩ := a; rw [rowX_net]; exact (mk_net m k' op' as' ks' (by have := netsWt_mem ha; omega) (by omega) (n + 1) (by omega)).makes) (by omega) (by rw [netRows_map]; simp; omega) (by rw [netRows_map]; simp; omega)
   rw [List.map_id'] at this; exact this
  obtain ⟨t, R, w⟩ := mk_el (n := n + 2) ⟨op, as⟩ (by simp only; omega) (by simp only; omega); obtain ⟨t2, R2, w2⟩ := h2; have w1 := fun s => (w s).1
  have w3 := fun s => (w2 s).1
  refine ⟨fun s => t fun k => subS (restS (restS (restS s))) 2 (2 * k + 1), fun s => t2 fun k => subS (restS (restS (restS (restS s)))) 2 (2 * k + 1), fun s => R fun k => subS (restS (restS (restS s))) 2 (2 * k + 1), fun s => R2 fun k => subS (restS (restS (restS (restS s)))) 2 (2 * k + 1), fun s => ⟨?_, (w _).2.1, (w2 _).2.1, fun hi => ?_⟩⟩
  · simp [gos_of FT_221 rfl, F221, w1, w3]
  · exact (((past_0 hi).weak.weak.weak.call 2 (w _).2.2).call 2 (w2 _).2.2).fr
theorem mk_arms : ∀ (m : Nat) (l : List Arm), armsWt l ≤ m → m < 2 ^ 29 → ∀ (n : Nat), 2 * m + 16 ≤ n → MakesL n 245 [.w (ksW l)] (armRows l)
 | m, l, h, hm, n, hn => by
  obtain ⟨n, rfl⟩ : ∃ k, n = k + 3 := ⟨n - 3, by omega⟩; have hlen := armsWt_len l; have key : ∀ a ∈ l, Makes (n + 2) 249 [armX a] 6 a.row := fun a ha => by
   have hwa := armsWt_mem ha; obtain ⟨⟨nk, op, as, nks⟩, cs, ks⟩ := a; have hnp := (Net.mk nk op as nks).wt_pos; simp only [Arm.wt] at hwa; have hdec : m - 1 < m := by omega
   obtain ⟨t, t2, R, R2, w⟩ := mk_net m nk op as nks (by omega) (by omega) (n + 1) (by omega); obtain ⟨t3, R3, w3⟩ := mk_els (n := n + 1) cs (by omega) (by omega); obtain ⟨t4, R4, w4⟩ := mk_arms (m - 1) ks (by omega) (by omega) (n + 1) (by omega); have v1 := fun s => (w s).1
   have v3 := fun s => (w3 s).1
   have v4 := fun s => (w4 s).1
   refine MkArm.makes ⟨fun s => t fun k => subS (restS (restS s)) 2 (2 * k + 1), fun s => t2 fun k => subS (restS (restS s)) 2 (2 * k + 1), fun s => t3 fun k => subS (restS (restS (restS s))) 2 (2 * k + 1), fun s => t4 fun k => subS (restS (restS (restS (restS s)))) 2 (2 * k + 1),
    fun s => R fun k => subS (restS (restS s)) 2 (2 * k + 1), fun s => R2 fun k => subS (restS (restS s)) 2 (2 * k + 1), fun s => R3 fun k => subS (restS (restS (restS s))) 2 (2 * k + 1), fun s => R4 fun k => subS (restS (restS (restS (restS s)))) 2 (2 * k + 1),
    fun s => ⟨?_, (w _).2.1, (w _).2.2.1, (w3 _).2.1, (w4 _).2.1, fun hi => ?_⟩⟩
   · simp [gos_of FT_249 rfl, F249, v1, v3, v4]
   · exact ((((past_0 hi).weak.weak.call 2 (w _).2.2.2).call 2 (w3 _).2.2).call 2 (w4 _).2.2).fr
  have := runS_toS (f := 245) (sz := 6) (bytes := 112) (zero := [iD 0, iD 0, .l 0 [], .l 0 [], .l 0 [], .l 0 []]) (c := 249) (n := n + 2) rfl rfl rfl rfl rfl 0 (fun r => r) (armRows l) (armRows_all fun a _ => armRow_len a)
   (armRows_all fun a ha => by rw [rowX_arm]; exact key a ha) (by omega) (by rw [armRows_map]; simp; omega) (by rw [armRows_map]; simp; omega)
  rw [List.map_id'] at this; exact this
termination_by m => m
decreasing_by exact hdec
set_option maxHeartbeats 16000000
theorem er_argRows (l : List Arg) : erR (argRows l) = argRows l := by
 induction l with
 | nil => rfl
 | cons a r ih => simp only [argRows, List.map_cons, erR] at ih ⊢; rw [ih]; simp [erL, D.er, Arg.row]
theorem sts_argRows (l : List Arg) : stsR (argRows l) = [] := by
 induction l with
 | nil => rfl
 | cons a r ih => simp only [argRows, List.map_cons, stsR] at ih ⊢; rw [ih]; simp [stsL_c, stsL_n, sts_s, Arg.row]
theorem sts_rowsL {t : Nat} {R : List (List D)} {s0 s : Sup} {U : List Nat} (h : Past s0 s (U ++ stsR R)) (k : Nat) (ht : t = s k) : Fr s0 (U ++ (D.l t R).sts) := by
 rw [sts_l]; split
 · rename_i e
   rw [List.isEmpty_iff] at e; subst e
   simpa [stsR] using h.fr
 · have := h.last k
   subst ht; refine ⟨?_, fun t ht => ?_⟩
   · have h1 := this.1
     simp only [List.nodup_cons, List.mem_append, not_or, List.nodup_append] at h1 ⊢; obtain ⟨⟨a1, a2⟩, a3, a4, a5⟩ := h1; refine ⟨a3, ⟨a2, a4⟩, ?_⟩
     intro x hx y hy; rcases List.mem_cons.1 hy with rfl | hy
     · exact fun e => a1 (e ▸ hx)
     · exact a5 x hx y hy
   · refine this.2 t ?_
     simp only [List.mem_cons, List.mem_append] at ht ⊢; rcases ht with h | h | h
     · exact .inr (.inl h)
     · exact .inl h
     · exact .inr (.inr h)
theorem cp_elem {n : Nat} (hn : 4 ≤ n) (e : El) (hl : e.as.length < 2 ^ 30) : MkEl n 163 [elX e] e := by
 obtain ⟨n, rfl⟩ : ∃ k, n = k + 1 := ⟨n - 1, by omega⟩; obtain ⟨op, as⟩ := e; have w : ∀ s, goS n 186 [.w (asW as)] [] s = some ⟨.w (.own 0 0 as.length (some as.length)), [], [.row none 3 (argRows as) 0]⟩ := fun s => by rw [gos_go rfl]; exact run_cloneA (n := n) (by omega) as hl s
 refine ⟨fun s => restS (restS s) 0, fun _ => argRows as, fun s => ⟨?_, er_argRows as, fun hi => ?_⟩⟩
 · simp [gos_of FT_163 rfl, F163, w]
 · exact Past.lastL (by rw [sts_argRows]; exact (past_0 hi).weak.weak) 0
def CpInv (t18 t19 tl : Nat) (sz bx : Nat) (zero : List D) (src : V) (len : Nat) (done : Nat → List (List D)) (U : List Nat) (s0 : Sup) (C : St → Prop) (k : Nat) (st : St) : Prop :=
 ∃ (i : Nat) (R : List (List D)), i + k = len ∧ C st ∧ st.τ tl = src ∧ st.τ t18 = iV len ∧ st.τ t19 = iV i ∧ st.H bx = .row none sz (R ++ List.replicate k zero) 0 ∧ erR R = done i ∧ R.length = i ∧ (Inj s0 → Past s0 st.s (U ++ stsR R))
theorem loopS139 {n : Nat} (l : List Net) (hc : ∀ k op as ks, Net.mk k op as ks ∈ l → MkNet n 139 [netX (.mk k op as ks)] k op as ks) (c0 c1 c2 : W) (U : List Nat) (s0 : Sup) (hn : l.length < n) (hl : l.length < 2 ^ 40) (st : St) (h3 : st.τ 3 = .w (.ptr 768 0)) (hA : st.H 768 = .cells [c0, c1, c2, .own 640 0 l.length (some l.length)]) (hB : st.H 640 = .row none 4 (List.replicate l.length [iD 0, iD 0, .l 0 [], .l 0 []]) 0) (h17 : st.τ 17 = .w (nsW l)) (h18 : st.τ 18 = iV l.length) (h19 : st.τ 19 = iV 0) (hgg : 768 < st.g) (h2 : st.τ 2 = .w (.ptr 64 0)) (hC : st.H 64 = .cells [iW 0, iW 0, .nil, .nil]) (hp : Inj s0 → Past s0 st.s U) :
 ∃ e st', execC (goS n) modeT GT true 32 n F139_L0 st = some (e, st') ∧ e ≠ .normal ∧ (e = .exit 0 ∧ ∃ R, st'.τ 3 = .w (.ptr 768 0) ∧ st'.H 768 = .cells [c0, c1, c2, .own 640 0 l.length (some l.length)] ∧ st'.H 640 = .row none 4 R 0 ∧ st'.τ 2 = .w (.ptr 64 0) ∧ st'.H 64 = .cells [iW 0, iW 0, .nil, .nil] ∧ erR R = netRows l ∧ R.length = l.length ∧ (Inj s0 → Past s0 st'.s (U ++ stsR R))) := by
 rw [F139_L0, execC_loop]; refine iter_rule (CpInv 18 19 17 4 640 [iD 0, iD 0, .l 0 [], .l 0 []] (.w (nsW l)) l.length (fun i => netRows (l.take i)) U s0 fun st => st.τ 3 = .w (.ptr 768 0) ∧ st.H 768 = .cells [c0, c1, c2, .own 640 0 l.length (some l.length)] ∧ 768 < st.g ∧ st.τ 2 = .w (.ptr 64 0) ∧ st.H 64 = .cells [iW 0, iW 0, .nil, .nil]) ?_ n l.length st hn
  ⟨0, [], by omega, ⟨h3, hA, hgg, h2, hC⟩, h17, h18, by simpa using h19, by simpa using hB, by simp [netRows, erR], rfl, by simpa [stsR] using hp⟩
 clear h3 hA hB h17 h18 h19 hgg h2 hC hp; rintro k ⟨τ, H, g, s⟩ ⟨i, R, hk, ⟨h3, hA, hgg, h2, hC⟩, h17, h18, h19, hB, hR, hRl, hp⟩; simp only at h3 hA hB h17 h18 h19 hgg h2 hC hp hR; cases k with
 | zero =>
  have : i = l.length := by omega
  subst this; rw [List.take_length] at hR; simp only [List.replicate_zero, List.append_nil] at hB; refine ⟨.exit 0, ?_⟩
  simp [F139_B0, h3, h17, h18, h19, hA, hB, h2, hC]; exact ⟨hR, hRl, fun hi => (hp hi).weak⟩
 | succ k =>
  have hlt : i < l.length := by omega
  have hlt' := ltT hlt; have hg := List.getElem?_eq_getElem hlt; have hmem := List.getElem_mem hlt; have hw := wrap_succ (i := i) (by omega); have hget := fill_get (k := k) hRl [iD 0, iD 0, .l 0 [], .l 0 []]; have hset := fun x => fill_set (k := k) hRl [iD 0, iD 0, .l 0 [], .l 0 []] x
  have htk := netRows_take hg; obtain ⟨k', op, as, ks, hx⟩ : ∃ k' op as ks, l[i] = .mk k' op as ks := by cases l[i]; exact ⟨_, _, _, _, rfl⟩
  rw [hx] at hg htk hmem; obtain ⟨t, t2, R1, R2, w⟩ := hc k' op as ks hmem; have w1 := fun s => (w s).1
  have hb := netRows_get hg; have fgX := far hgg; have feX := far (show 640 < g by omega); have fcX := far (show 64 < g by omega); have glt : ∀ m : Nat, m ≤ 768 → (m < g) = True := fun m h => eq_true (by omega)
  have gle : ∀ m : Nat, m ≤ 768 → (g ≤ m) = False := fun m h => eq_false (by omega)
  refine ⟨.normal, ?_⟩
  simp [-getElem?_pos, F139_B0, glt, gle, h3, h17, h18, h19, hA, hB, hlt, hlt', hb, w1, hw, hget, hset, h2, hC, fgX, feX, fcX]; refine ⟨k, by omega, i + 1, R ++ [[iD k', iD op, .l (t fun k => subS (restS (restS s)) 4 (2 * k + 1)) (R1 fun k => subS (restS (restS s)) 4 (2 * k + 1)), .l (t2 fun k => subS (restS (restS s)) 4 (2 * k + 1)) (R2 fun k => subS (restS (restS s)) 4 (2 * k + 1))]], by omega,
   ⟨by simp [upd, h3], by simp [upd, hA, fgX], by (show 768 < _) <;> simp <;> omega, by simp [upd, h2], by simp [upd, hC, fcX]⟩, by simp [upd, h17], by simp [upd, h18], by simp [upd], by simp [upd], ?_, by simp [hRl], fun hi => ?_⟩
  · show _ = netRows (l.take (i + 1))
    rw [erR_append, hR, ← htk]; simp [erR, erL, D.er, (w _).2.1, (w _).2.2.1, Net.row]
  · have h3 := (((hp hi).weak.weak).call 4 (w _).2.2.2).weak
    rw [stsR_append, ← List.append_assoc]
    simpa [stsR, stsL_c, stsL_n, sts_s] using h3
theorem cp_net : ∀ (m : Nat) (k op : Int) (as : List Arg) (ks : List Net), (Net.mk k op as ks).wt ≤ m → m < 2 ^ 30 → ∀ (n : Nat), m + 8 ≤ n → MkNet n 139 [netX (.mk k op as ks)] k op as ks
 | 0, k, op, as, ks, h, hm, n, hn => by have := (Net.mk k op as ks).wt_pos; omega
 | m + 1, k, op, as, ks, h, hm, n, hn => by
  obtain ⟨n, rfl⟩ : ∃ k, n = k + 1 := ⟨n - 1, by omega⟩; have hlen := netsWt_len ks; simp only [Net.wt] at h; have hc : ∀ k op as ks', Net.mk k op as ks' ∈ ks → MkNet n 139 [netX (.mk k op as ks')] k op as ks' := fun k op as ks' hx => cp_net m k op as ks' (by have := netsWt_mem hx; omega) (by omega) n (by omega)
  obtain ⟨t, R, w⟩ := cp_elem (n := n) (by omega) ⟨op, as⟩ (by simp only; omega); have w1 := fun s => (w s).1
  have hr : room ks.length 64 = true := room_of (by omega) (by omega); have key : ∀ s, ∃ t2 R2, goS (n + 1) 139 [netX (.mk k op as ks)] [] s = some ⟨.agg [iW k, iW op, .d (.l (t fun q => subS (restS s) 4 (2 * q + 1)) (R fun q => subS (restS s) 4 (2 * q + 1))), .d (.l t2 R2)], [], []⟩ ∧ erR R2 = netRows ks ∧ (Inj s → Fr s ((D.l (t fun q => subS (restS s) 4 (2 * q + 1)) (R fun q => subS (restS s) 4 (2 * q + 1))).sts ++ (D.l t2 R2).sts)) := by
   intro s; simp [gos_of FT_139 rfl, F139, w1, hr]; generalize hst : St.mk _ _ _ _ = st; obtain ⟨e, ⟨τ', H', g', s'⟩, hx, -, rfl, R2, h3, hA, hB, h2, hC, hR, hRl, hp⟩ := loopS139 (n := n) ks hc (iW k) (iW op) (.d (.l (t fun q => subS (restS s) 4 (2 * q + 1)) (R fun q => subS (restS s) 4 (2 * q + 1)))) (D.l (t fun q => subS (restS s) 4 (2 * q + 1)) (R fun q => subS (restS s) 4 (2 * q + 1))).sts s (by omega) (by omega) st (by simp [← hst]) (by simp [← hst]) (by simp [← hst]) (by simp [← hst]) (by simp [← hst]) (by simp [← hst]) (by simp [← hst]) (by simp [← hst]) (by simp [← hst])
    (fun hi => by rw [← hst]; exact (((past_0 hi).weak).call 4 (w _).2.2).weak)
   simp only at h3 hA hB h2 hC hp; clear hst; have tk : List.take ks.length R2 = R2 := List.take_of_length_le (by omega); refine ⟨restS s' 0, R2, ?_, hR, fun hi => sts_rowsL (hp hi).weak 0 rfl⟩
   simp [hx, h3, hA, hB, h2, hC, tk, hRl]
  exact ⟨fun s => t fun q => subS (restS s) 4 (2 * q + 1), fun s => (key s).choose, fun s => R fun q => subS (restS s) 4 (2 * q + 1), fun s => (key s).choose_spec.choose, fun s => ⟨(key s).choose_spec.choose_spec.1, (w _).2.1, (key s).choose_spec.choose_spec.2.1, (key s).choose_spec.choose_spec.2.2⟩⟩
end Go.VM
