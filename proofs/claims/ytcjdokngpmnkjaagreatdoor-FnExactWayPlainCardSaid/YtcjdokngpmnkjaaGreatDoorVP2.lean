/- The plain list of a ladder, reckoned. Conditions: none. -/
import Derived.Test.YtcjdokngpmnkjaaGreatDoorVY6
import Derived.Test.YtcjdokngpmnkjaaGreatDoorVW1

namespace Go.VM
set_option linter.unusedSimpArgs false
set_option linter.unusedVariables false
set_option maxHeartbeats 16000000
theorem plainOf_take {l : List Arm} {i : Nat} {x : Arm} (h : l[i]? = some x) : plainOf (l.take (i + 1)) = plainOf (l.take i) ++ (x.net.begins ++ x.tail ++ [Ins.bare 11]) := by
 rw [List.take_add_one, h]; simp [plainOf, Arm.plain]
theorem plainOf_le (l : List Arm) (i : Nat) : (plainOf (l.take i)).length ≤ (plainOf l).length := by
 conv => rhs; rw [← List.take_append_drop i l]
 simp only [plainOf, List.flatMap_append, List.length_append]; omega
def PlainPost (st' : St) (L : List Ins) : Prop := 0 < st'.g ∧ AccI st'.τ st'.H st'.g 3 L 0 0
theorem loop297_0 {n : Nat} (l : List Arm) (hc : ∀ x ∈ l, ∀ s, go n 329 [armX x] [] s = some ⟨.w (isW x.tail), [], []⟩) (hb : ∀ x ∈ l, ∀ s, ∃ c, go n 328 [netX x.net] [] s = some (insOwn x.net.begins c))
 (hlen : (plainOf l).length < 2 ^ 29) (hn : l.length < n) (hl : l.length < 2 ^ 40) (st : St) (h7 : st.τ 7 = .w (ksW l)) (h8 : st.τ 8 = iV l.length) (h9 : st.τ 9 = iV 0) (hacc : PlainPost st []) :
 ∃ e st', execC (go n) mode GT false 29 n F297_L0 st = some (e, st') ∧ e ≠ .normal ∧ (e = .exit 0 ∧ PlainPost st' (plainOf l)) := by
 rw [F297_L0, execC_loop]; refine iter_rule (fun m st1 => ∃ i, i + m = l.length ∧ st1.τ 7 = .w (ksW l) ∧ st1.τ 8 = iV l.length ∧ st1.τ 9 = iV i ∧ PlainPost st1 (plainOf (l.take i))) ?_ n l.length st hn
  ⟨0, by omega, h7, h8, by simpa using h9, by simpa [plainOf] using hacc⟩
 clear h7 h8 h9 hacc; rintro m ⟨τ, H, g, s⟩ ⟨i, hm, h7, h8, h9, hg, hacc⟩; simp only at h7 h8 h9 hg hacc; cases m with
 | zero =>
  have : i = l.length := by omega
  subst this; rw [List.take_length] at hacc; refine ⟨.exit 0, ?_⟩
  simp [F297_B0, h8, h9]; exact ⟨by simp only; omega, hacc.keep rfl rfl (by simp only; omega)⟩
 | succ m =>
  have hlt : i < l.length := by omega
  have hlt' := ltT hlt; have hgt := List.getElem?_eq_getElem hlt; have hmem := List.getElem_mem hlt; have hw := wrap_succ (i := i) (by omega); obtain ⟨xk, xo, xa, xns, xcs, xks, hx⟩ : ∃ xk xo xa xns xcs xks, l[i] = .mk (.mk xk xo xa xns) xcs xks := by
   cases hq : l[i] with | mk nn cs ks => cases nn; exact ⟨_, _, _, _, _, _, rfl⟩
  have w := hc _ hmem; have wb := hb _ hmem; rw [hx] at hgt w wb; have hstep := plainOf_take hgt; have hle := plainOf_le l (i + 1); rw [hstep, List.length_append, List.length_append, List.length_append] at hle; have hrow := armRows_get hgt; rw [show Arm.net (.mk (.mk xk xo xa xns) xcs xks) = .mk xk xo xa xns from rfl] at wb hstep hle; generalize Net.begins (.mk xk xo xa xns) = N at wb hstep hle; generalize Arm.tail (.mk (.mk xk xo xa xns) xcs xks) = T at w hstep hle; generalize hSS : plainOf (l.take i) = S at hacc hstep hle; simp only [List.length_singleton] at hle; have zX := far hg; have rm0 : room N.length 40 = true := room_of (by omega) (by omega)
  have rm1 : room (S.length + N.length) 40 = true := room_of (by omega) (by omega); have rm2 : room (S.length + N.length + T.length) 40 = true := room_of (by omega) (by omega); have rm3 : room (S.length + N.length + T.length + 1) 40 = true := room_of (by omega) (by omega); have rn2 : room (N.length + T.length) 40 = true := room_of (by omega) (by omega); have rn3 : room (N.length + T.length + 1) 40 = true := room_of (by omega) (by omega); have tkS := take_insRows S; have tkN := take_insRows N; have tkT := take_insRows T; have tkSN := take_insRows (S ++ N); have tkSNT := take_insRows (S ++ (N ++ T)); have tkNT := take_insRows (N ++ T)
  have uNT : List.take (N.length + T.length) (insRows N ++ insRows T) = insRows N ++ insRows T := List.take_of_length_le (by simp [insRows_length]); have uSN : List.take (S.length + N.length) (insRows S ++ insRows N) = insRows S ++ insRows N := List.take_of_length_le (by simp [insRows_length]); have uSNT : List.take (S.length + N.length + T.length) (insRows S ++ (insRows N ++ insRows T)) = insRows S ++ (insRows N ++ insRows T) := List.take_of_length_le (by simp [insRows_length]; omega); have alN := eq_true (insRow_all N); have alT := eq_true (insRow_all T)
  suffices hsuf : ∃ st', execC (go n) mode GT false 29 n F297_B0 ⟨τ, H, g, s⟩ = some (.normal, st') ∧ PlainPost st' (S ++ (N ++ T ++ [Ins.bare 11])) ∧ st'.τ 7 = .w (ksW l) ∧ st'.τ 8 = iV l.length ∧ st'.τ 9 = iV ((i + 1 : Nat) : Int) by
   obtain ⟨st', a0, a1, a2, a3, a4⟩ := hsuf; rw [a0]; refine ⟨.normal, st', rfl, fun _ => ⟨m, by omega, i + 1, by omega, a2, a3, a4, ?_⟩, fun h => absurd rfl h⟩
   rw [hstep]; exact a1
  have wb' : ∃ f : Sup → Option Nat, ∀ s, go n 328 [netX (.mk xk xo xa xns)] [] s = some (insOwn N (f s)) := ⟨fun s => (wb s).choose, fun s => (wb s).choose_spec⟩; obtain ⟨f, wb'⟩ := wb'; rcases hacc with ⟨rfl, h3⟩ | ⟨b, hb0, hbq, hbg, h3, hB⟩
  · simp [-getElem?_pos, F297_B0, h7, h8, h9, h3, hlt, hlt', hrow, hw, w, wb', rm0, rn2, rn3, tkN, tkT, tkNT, alN, alT, insRows_length, insRows_append]
    exact ⟨by simp only; omega, AccI.mk rfl (by omega) (by omega) (by simp only; omega) (by simp; try omega) (by simp [insRows_append, insRows_one, Ins.row, ar0, uNT, uSN, uSNT])⟩
  · have bX := far hbg
    have e1 : (0 = b) = False := eq_false (fun e => hb0 e.symm); have e3 : (b = 0) = False := eq_false hb0; simp [-getElem?_pos, F297_B0, h7, h8, h9, h3, hB, hlt, hlt', hrow, hw, w, wb', rm1, rm2, rm3, tkS, tkN, tkT, tkSN, tkSNT, alN, alT, insRows_length, insRows_append, e1, e3, bX, zX]; exact ⟨by simp only; omega, AccI.mk rfl (by omega) (by omega) (by simp only; omega) (by simp; try omega) (by simp [insRows_append, insRows_one, Ins.row, ar0, uNT, uSN, uSNT])⟩
theorem insRows_take {l : List Ins} {i : Nat} {x : Ins} (h : l[i]? = some x) : insRows (l.take i) ++ [x.row] = insRows (l.take (i + 1)) := by
 rw [List.take_add_one, h]; simp [insRows]
theorem insRows_get {l : List Ins} {i : Nat} {c op : Int} {as : List Arg} (h : l[i]? = some ⟨c, ⟨op, as⟩⟩) : (insRows l)[i]? = some [iD c, iD op, .l 0 (argRows as)] := by simp [insRows, h, Ins.row]
set_option maxHeartbeats 8000000
theorem sts_s (v : Value) : (D.s v).sts = [] := rfl
theorem stsL_n : stsL [] = [] := rfl
theorem stsL_c (x : D) (r : List D) : stsL (x :: r) = x.sts ++ stsL r := rfl
theorem Past.call {s0 s : Sup} {U F : List Nat} (h : Past s0 s U) (i : Nat) (hf : Inj (fun k => subS s i (2 * k + 1)) → Fr (fun k => subS s i (2 * k + 1)) F) : Past s0 (restS s) (U ++ F) :=
 h.one i (Fr.sub (f := fun k => 2 * k + 1) (hf (inj_arg (inj_sub h.inj i))))
def MkEl (n c : Nat) (args : List V) (e : El) : Prop :=
 ∃ (t : Sup → Nat) (R : Sup → List (List D)), ∀ s, goS n c args [] s = some ⟨.agg [iW e.op, .d (.l (t s) (R s))], [], []⟩ ∧ erR (R s) = argRows e.as ∧ (Inj s → Fr s (D.l (t s) (R s)).sts)
def MkNet (n c : Nat) (args : List V) (k op : Int) (as : List Arg) (ks : List Net) : Prop :=
 ∃ (t t2 : Sup → Nat) (R R2 : Sup → List (List D)), ∀ s, goS n c args [] s = some ⟨.agg [iW k, iW op, .d (.l (t s) (R s)), .d (.l (t2 s) (R2 s))], [], []⟩ ∧ erR (R s) = argRows as ∧ erR (R2 s) = netRows ks ∧ (Inj s → Fr s ((D.l (t s) (R s)).sts ++ (D.l (t2 s) (R2 s)).sts))
def MkArm (n c : Nat) (args : List V) (k op : Int) (as : List Arg) (nks : List Net) (cs : List El) (ks : List Arm) : Prop :=
 ∃ (t t2 t3 t4 : Sup → Nat) (R R2 R3 R4 : Sup → List (List D)), ∀ s, goS n c args [] s = some ⟨.agg [iW k, iW op, .d (.l (t s) (R s)), .d (.l (t2 s) (R2 s)), .d (.l (t3 s) (R3 s)), .d (.l (t4 s) (R4 s))], [], []⟩ ∧
  erR (R s) = argRows as ∧ erR (R2 s) = netRows nks ∧ erR (R3 s) = elRows cs ∧ erR (R4 s) = armRows ks ∧ (Inj s → Fr s (((D.l (t s) (R s)).sts ++ (D.l (t2 s) (R2 s)).sts) ++ (D.l (t3 s) (R3 s)).sts ++ (D.l (t4 s) (R4 s)).sts))
def MkIns (n c : Nat) (args : List V) (x : Ins) : Prop :=
 ∃ (t : Sup → Nat) (R : Sup → List (List D)), ∀ s, goS n c args [] s = some ⟨.agg [iW x.c, iW x.e.op, .d (.l (t s) (R s))], [], []⟩ ∧ erR (R s) = argRows x.e.as ∧ (Inj s → Fr s (D.l (t s) (R s)).sts)
theorem MkEl.makes {n c : Nat} {args : List V} {e : El} (h : MkEl n c args e) : Makes n c args 2 e.row := by
 obtain ⟨t, R, h⟩ := h; exact ⟨fun s => [iD e.op, .l (t s) (R s)], fun s => ⟨(h s).1, rfl, by simp [erL, D.er, (h s).2.1, El.row], fun hi => by simpa [stsL_c, stsL_n, sts_s] using (h s).2.2 hi⟩⟩
theorem MkIns.makes {n c : Nat} {args : List V} {x : Ins} (h : MkIns n c args x) : Makes n c args 3 x.row := by
 obtain ⟨t, R, h⟩ := h; exact ⟨fun s => [iD x.c, iD x.e.op, .l (t s) (R s)], fun s => ⟨(h s).1, rfl, by simp [erL, D.er, (h s).2.1, Ins.row], fun hi => by simpa [stsL_c, stsL_n, sts_s] using (h s).2.2 hi⟩⟩
theorem MkNet.makes {n c : Nat} {args : List V} {k op : Int} {as : List Arg} {ks : List Net} (h : MkNet n c args k op as ks) : Makes n c args 4 (Net.mk k op as ks).row := by
 obtain ⟨t, t2, R, R2, h⟩ := h; exact ⟨fun s => [iD k, iD op, .l (t s) (R s), .l (t2 s) (R2 s)], fun s => ⟨(h s).1, rfl, by simp [erL, D.er, (h s).2.1, (h s).2.2.1, Net.row], fun hi => by simpa [stsL_c, stsL_n, sts_s] using (h s).2.2.2 hi⟩⟩
theorem MkArm.makes {n c : Nat} {args : List V} {k op : Int} {as : List Arg} {nks : List Net} {cs : List El} {ks : List Arm} (h : MkArm n c args k op as nks cs ks) : Makes n c args 6 (Arm.mk (.mk k op as nks) cs ks).row := by
 obtain ⟨t, t2, t3, t4, R, R2, R3, R4, h⟩ := h; exact ⟨fun s => [iD k, iD op, .l (t s) (R s), .l (t2 s) (R2 s), .l (t3 s) (R3 s), .l (t4 s) (R4 s)], fun s => ⟨(h s).1, rfl, by simp [erL, D.er, (h s).2.1, (h s).2.2.1, (h s).2.2.2.1, (h s).2.2.2.2.1, Arm.row], fun hi => by simpa [stsL_c, stsL_n, sts_s] using (h s).2.2.2.2.2 hi⟩⟩
theorem mk_arg {n : Nat} (a : Arg) : Makes (n + 1) 241 [rowX a.row] 3 a.row :=
 ⟨fun _ => a.row, fun s => ⟨by rw [gos_go rfl]; exact to_arg a s, rfl, by simp [erL, D.er, Arg.row], fun _ => by simp [stsL_c, stsL_n, sts_s, Arg.row, Fr]⟩⟩
theorem mk_args {n : Nat} (l : List Arg) (hn : l.length + 3 ≤ n) (hl : l.length < 2 ^ 30) : MakesL n 237 [.w (asW l)] (argRows l) := by
 obtain ⟨n, rfl⟩ : ∃ k, n = k + 2 := ⟨n - 2, by omega⟩; have := runS_toS (f := 237) (sz := 3) (bytes := 24) (zero := [iD 0, iD 0, iD 0]) (c := 241) (n := n + 1) rfl rfl rfl rfl rfl 0 (fun r => r) (argRows l) (argRows_all fun a _ => argRow_len a)
  (argRows_all fun a _ => mk_arg a) (by omega) (by simp [argRows]; omega) (by simp [argRows]; omega)
 rw [List.map_id'] at this; exact this
theorem mk_el {n : Nat} (e : El) (hn : e.as.length + 4 ≤ n) (hl : e.as.length < 2 ^ 30) : MkEl n 228 [elX e] e := by
 obtain ⟨n, rfl⟩ : ∃ k, n = k + 1 := ⟨n - 1, by omega⟩; obtain ⟨t, R, w⟩ := mk_args (n := n) e.as (by omega) hl; have w1 := fun s => (w s).1
 refine ⟨fun s => t fun k => subS (restS (restS (restS s))) 2 (2 * k + 1), fun s => R fun k => subS (restS (restS (restS s))) 2 (2 * k + 1), fun s => ⟨?_, (w _).2.1, fun hi => ?_⟩⟩
 · simp [gos_of FT_228 rfl, F228, w1]
 · exact ((past_0 hi).weak.weak.weak.call 2 (w _).2.2).fr
theorem mk_els {n : Nat} (l : List El) (hn : elsWt l + 6 ≤ n) (hl : elsWt l < 2 ^ 30) : MakesL n 252 [.w (csW l)] (elRows l) := by
 obtain ⟨n, rfl⟩ : ∃ k, n = k + 2 := ⟨n - 2, by omega⟩; have hlen := elsWt_len l; have := runS_toS (f := 252) (sz := 2) (bytes := 32) (zero := [iD 0, .l 0 []]) (c := 228) (n := n + 1) rfl rfl rfl rfl rfl 0 (fun r => r) (elRows l) (elRows_all fun a _ => elRow_len a)
  (elRows_all fun a ha => (mk_el (n := n + 1) a (by have := elsWt_mem ha; simp only [El.wt] at this; omega) (by have := elsWt_mem ha; simp only [El.wt] at this; omega)).makes) (by omega) (by simp [elRows]; omega) (by simp [elRows]; omega)
 rw [List.map_id'] at this; exact this
theorem mk_net : ∀ (m : Nat) (k op : Int) (as : List Arg) (ks : List Net), (Net.mk k op as ks).wt ≤ m → m < 2 ^ 30 → ∀ (n : Nat), 2 * m + 6 ≤ n → MkNet n 221 [netX (.mk k op as ks)] k op as ks
 | 0, k, op, as, ks, h, hm, n, hn => by have := (Net.mk k op as ks).wt_pos; omega
 | m + 1, k, op, as, ks, h, hm, n, hn => by
  obtain ⟨n, rfl⟩ : ∃ k, n = k + 3 := ⟨n - 3, by omega⟩; simp only [Net.wt] at h; have hlen := netsWt_len ks; have h2 : MakesL (n + 2) 229 [.w (nsW ks)] (netRows ks) := by
   have := runS_toS (f := 229) (sz := 4) (bytes := 64) (zero := [iD 0, iD 0, .l 0 [], .l 0 []]) (c := 221) (n := n + 1) rfl rfl rfl rfl rfl 0 (fun r => r) (netRows ks) (netRows_all fun a _ => netRow_len a)
    (netRows_all fun a ha => by
     obtain ⟨k', op', as', ks'⟩ := a; rw [rowX_net]; exact (mk_net m k' op' as' ks' (by have := netsWt_mem ha; omega) (by omega) (n + 1) (by omega)).makes) (by omega) (by rw [netRows_map]; simp; omega) (by rw [netRows_map]; simp; omega)
   rw [List.map_id'] at this; exact this
  obtain ⟨t, R, w⟩ := mk_el (n := n + 2) ⟨op, as⟩ (by simp only; omega) (by simp only; omega); obtain ⟨t2, R2, w2⟩ := h2; have w1 := fun s => (w s).1
  have w3 := fun s => (w2 s).1
  refine ⟨fun s => t fun k => subS (restS (restS (restS s))) 2 (2 * k + 1), fun s => t2 fun k => subS (restS (restS (restS (restS s)))) 2 (2 * k + 1), fun s => R fun k => subS (restS (restS (restS s))) 2 (2 * k + 1), fun s => R2 fun k => subS (restS (restS (restS (restS s)))) 2 (2 * k + 1), fun s => ⟨?_, (w _).2.1, (w2 _).2.1, fun hi => ?_⟩⟩
  · simp [gos_of FT_221 rfl, F221, w1, w3]
  · exact (((past_0 hi).weak.weak.weak.call 2 (w _).2.2).call 2 (w2 _).2.2).fr
theorem mk_arms : ∀ (m : Nat) (l : List Arm), armsWt l ≤ m → m < 2 ^ 29 → ∀ (n : Nat), 2 * m + 16 ≤ n → MakesL n 245 [.w (ksW l)] (armRows l)
 | m, l, h, hm, n, hn => by
  obtain ⟨n, rfl⟩ : ∃ k, n = k + 3 := ⟨n - 3, by omega⟩; have hlen := armsWt_len l; have key : ∀ a ∈ l, Makes (n + 2) 249 [armX a] 6 a.row := fun a ha => by
   have hwa := armsWt_mem ha; obtain ⟨⟨nk, op, as, nks⟩, cs, ks⟩ := a; have hnp := (Net.mk nk op as nks).wt_pos; simp only [Arm.wt] at hwa; have hdec : m - 1 < m := by omega
   obtain ⟨t, t2, R, R2, w⟩ := mk_net m nk op as nks (by omega) (by omega) (n + 1) (by omega); obtain ⟨t3, R3, w3⟩ := mk_els (n := n + 1) cs (by omega) (by omega); obtain ⟨t4, R4, w4⟩ := mk_arms (m - 1) ks (by omega) (by omega) (n + 1) (by omega); have v1 := fun s => (w s).1
   have v3 := fun s => (w3 s).1
   have v4 := fun s => (w4 s).1
   refine MkArm.makes ⟨fun s => t fun k => subS (restS (restS s)) 2 (2 * k + 1), fun s => t2 fun k => subS (restS (restS s)) 2 (2 * k + 1), fun s => t3 fun k => subS (restS (restS (restS s))) 2 (2 * k + 1), fun s => t4 fun k => subS (restS (restS (restS (restS s)))) 2 (2 * k + 1),
    fun s => R fun k => subS (restS (restS s)) 2 (2 * k + 1), fun s => R2 fun k => subS (restS (restS s)) 2 (2 * k + 1), fun s => R3 fun k => subS (restS (restS (restS s))) 2 (2 * k + 1), fun s => R4 fun k => subS (restS (restS (restS (restS s)))) 2 (2 * k + 1),
    fun s => ⟨?_, (w _).2.1, (w _).2.2.1, (w3 _).2.1, (w4 _).2.1, fun hi => ?_⟩⟩
   · simp [gos_of FT_249 rfl, F249, v1, v3, v4]
   · exact ((((past_0 hi).weak.weak.call 2 (w _).2.2.2).call 2 (w3 _).2.2).call 2 (w4 _).2.2).fr
  have := runS_toS (f := 245) (sz := 6) (bytes := 112) (zero := [iD 0, iD 0, .l 0 [], .l 0 [], .l 0 [], .l 0 []]) (c := 249) (n := n + 2) rfl rfl rfl rfl rfl 0 (fun r => r) (armRows l) (armRows_all fun a _ => armRow_len a)
   (armRows_all fun a ha => by rw [rowX_arm]; exact key a ha) (by omega) (by rw [armRows_map]; simp; omega) (by rw [armRows_map]; simp; omega)
  rw [List.map_id'] at this; exact this
termination_by m => m
decreasing_by exact hdec
theorem insRows_all {p : List D → Prop} {l : List Ins} (h : ∀ a ∈ l, p a.row) : ∀ r ∈ insRows l, p r := by
 intro r hr; simp only [insRows, List.mem_map] at hr; obtain ⟨a, ha, rfl⟩ := hr; exact h a ha
end Go.VM
