/- The plain list of a ladder, reckoned. Conditions: none. -/
import Derived.Test.YtcjdokngpmnkjaaGreatDoorVY6
import Derived.Test.YtcjdokngpmnkjaaGreatDoorVW1
import Derived.Test.YtcjdokngpmnkjaaGreatDoorVQ10
import Derived.Test.YtcjdokngpmnkjaaGreatDoorVT1
import Derived.Test.YtcjdokngpmnkjaaGreatDoorVQ9

namespace Go.VM
set_option linter.unusedSimpArgs false
set_option linter.unusedVariables false
set_option maxHeartbeats 16000000
theorem plainOf_take {l : List Arm} {i : Nat} {x : Arm} (h : l[i]? = some x) : plainOf (l.take (i + 1)) = plainOf (l.take i) ++ (x.net.begins ++ x.tail ++ [Ins.bare 11]) := by
 rw [List.take_add_one, h]; simp [plainOf, Arm.plain]
theorem plainOf_le (l : List Arm) (i : Nat) : (plainOf (l.take i)).length ≤ (plainOf l).length := by
 conv => rhs; rw [← List.take_append_drop i l]
 simp only [plainOf, List.flatMap_append, List.length_append]; omega
def PlainPost (st' : St) (L : List Ins) : Prop := 0 < st'.g ∧ AccI st'.τ st'.H st'.g 3 L 0 0
theorem loop297_0 {n : Nat} (l : List Arm) (hc : ∀ x ∈ l, ∀ s, go n 329 [armX x] [] s = some ⟨.w (isW x.tail), [], []⟩) (hb : ∀ x ∈ l, ∀ s, ∃ c, go n 328 [netX x.net] [] s = some (insOwn x.net.begins c))
 (hlen : (plainOf l).length < 2 ^ 29) (hn : l.length < n) (hl : l.length < 2 ^ 40) (st : St) (h7 : st.τ 7 = .w (ksW l)) (h8 : st.τ 8 = iV l.length) (h9 : st.τ 9 = iV 0) (hacc : PlainPost st []) :
 ∃ e st', execC (go n) mode GT false 29 n F297_L0 st = some (e, st') ∧ e ≠ .normal ∧ (e = .exit 0 ∧ PlainPost st' (plainOf l)) := by
 rw [F297_L0, execC_loop]; refine iter_rule (fun m st1 => ∃ i, i + m = l.length ∧ st1.τ 7 = .w (ksW l) ∧ st1.τ 8 = iV l.length ∧ st1.τ 9 = iV i ∧ PlainPost st1 (plainOf (l.take i))) ?_ n l.length st hn
  ⟨0, by omega, h7, h8, by simpa using h9, by simpa [plainOf] using hacc⟩
 clear h7 h8 h9 hacc; rintro m ⟨τ, H, g, s⟩ ⟨i, hm, h7, h8, h9, hg, hacc⟩; simp only at h7 h8 h9 hg hacc; cases m with
 | zero =>
  have : i = l.length := by omega
  subst this; rw [List.take_length] at hacc; refine ⟨.exit 0, ?_⟩
  simp [F297_B0, h8, h9]; exact ⟨by simp only; omega, hacc.keep rfl rfl (by simp only; omega)⟩
 | succ m =>
  have hlt : i < l.length := by omega
  have hlt' := ltT hlt; have hgt := List.getElem?_eq_getElem hlt; have hmem := List.getElem_mem hlt; have hw := wrap_succ (i := i) (by omega); obtain ⟨xk, xo, xa, xns, xcs, xks, hx⟩ : ∃ xk xo xa xns xcs xks, l[i] = .mk (.mk xk xo xa xns) xcs xks := by
   cases hq : l[i] with | mk nn cs ks => cases nn; exact ⟨_, _, _, _, _, _, rfl⟩
  have w := hc _ hmem; have wb := hb _ hmem; rw [hx] at hgt w wb; have hstep := plainOf_take hgt; have hle := plainOf_le l (i + 1); rw [hstep, List.length_append, List.length_append, List.length_append] at hle; have hrow := armRows_get hgt; rw [show Arm.net (.mk (.mk xk xo xa xns) xcs xks) = .mk xk xo xa xns from rfl] at wb hstep hle; generalize Net.begins (.mk xk xo xa xns) = N at wb hstep hle; generalize Arm.tail (.mk (.mk xk xo xa xns) xcs xks) = T at w hstep hle; generalize hSS : plainOf (l.take i) = S at hacc hstep hle; simp only [List.length_singleton] at hle; have zX := far hg; have rm0 : room N.length 40 = true := room_of (by omega) (by omega)
  have rm1 : room (S.length + N.length) 40 = true := room_of (by omega) (by omega); have rm2 : room (S.length + N.length + T.length) 40 = true := room_of (by omega) (by omega); have rm3 : room (S.length + N.length + T.length + 1) 40 = true := room_of (by omega) (by omega); have rn2 : room (N.length + T.length) 40 = true := room_of (by omega) (by omega); have rn3 : room (N.length + T.length + 1) 40 = true := room_of (by omega) (by omega); have tkS := take_insRows S; have tkN := take_insRows N; have tkT := take_insRows T; have tkSN := take_insRows (S ++ N); have tkSNT := take_insRows (S ++ (N ++ T)); have tkNT := take_insRows (N ++ T)
  have uNT : List.take (N.length + T.length) (insRows N ++ insRows T) = insRows N ++ insRows T := List.take_of_length_le (by simp [insRows_length]); have uSN : List.take (S.length + N.length) (insRows S ++ insRows N) = insRows S ++ insRows N := List.take_of_length_le (by simp [insRows_length]); have uSNT : List.take (S.length + N.length + T.length) (insRows S ++ (insRows N ++ insRows T)) = insRows S ++ (insRows N ++ insRows T) := List.take_of_length_le (by simp [insRows_length]; omega); have alN := eq_true (insRow_all N); have alT := eq_true (insRow_all T)
  suffices hsuf : ∃ st', execC (go n) mode GT false 29 n F297_B0 ⟨τ, H, g, s⟩ = some (.normal, st') ∧ PlainPost st' (S ++ (N ++ T ++ [Ins.bare 11])) ∧ st'.τ 7 = .w (ksW l) ∧ st'.τ 8 = iV l.length ∧ st'.τ 9 = iV ((i + 1 : Nat) : Int) by
   obtain ⟨st', a0, a1, a2, a3, a4⟩ := hsuf; rw [a0]; refine ⟨.normal, st', rfl, fun _ => ⟨m, by omega, i + 1, by omega, a2, a3, a4, ?_⟩, fun h => absurd rfl h⟩
   rw [hstep]; exact a1
  have wb' : ∃ f : Sup → Option Nat, ∀ s, go n 328 [netX (.mk xk xo xa xns)] [] s = some (insOwn N (f s)) := ⟨fun s => (wb s).choose, fun s => (wb s).choose_spec⟩; obtain ⟨f, wb'⟩ := wb'; rcases hacc with ⟨rfl, h3⟩ | ⟨b, hb0, hbq, hbg, h3, hB⟩
  · simp [-getElem?_pos, F297_B0, h7, h8, h9, h3, hlt, hlt', hrow, hw, w, wb', rm0, rn2, rn3, tkN, tkT, tkNT, alN, alT, insRows_length, insRows_append]
    exact ⟨by simp only; omega, AccI.mk rfl (by omega) (by omega) (by simp only; omega) (by simp; try omega) (by simp [insRows_append, insRows_one, Ins.row, ar0, uNT, uSN, uSNT])⟩
  · have bX := far hbg
    have e1 : (0 = b) = False := eq_false (fun e => hb0 e.symm); have e3 : (b = 0) = False := eq_false hb0; simp [-getElem?_pos, F297_B0, h7, h8, h9, h3, hB, hlt, hlt', hrow, hw, w, wb', rm1, rm2, rm3, tkS, tkN, tkT, tkSN, tkSNT, alN, alT, insRows_length, insRows_append, e1, e3, bX, zX]; exact ⟨by simp only; omega, AccI.mk rfl (by omega) (by omega) (by simp only; omega) (by simp; try omega) (by simp [insRows_append, insRows_one, Ins.row, ar0, uNT, uSN, uSNT])⟩
theorem insRows_take {l : List Ins} {i : Nat} {x : Ins} (h : l[i]? = some x) : insRows (l.take i) ++ [x.row] = insRows (l.take (i + 1)) := by
 rw [List.take_add_one, h]; simp [insRows]
theorem insRows_get {l : List Ins} {i : Nat} {c op : Int} {as : List Arg} (h : l[i]? = some ⟨c, ⟨op, as⟩⟩) : (insRows l)[i]? = some [iD c, iD op, .l 0 (argRows as)] := by simp [insRows, h, Ins.row]
set_option maxHeartbeats 8000000
theorem sts_s (v : Value) : (D.s v).sts = [] := rfl
theorem stsL_n : stsL [] = [] := rfl
theorem stsL_c (x : D) (r : List D) : stsL (x :: r) = x.sts ++ stsL r := rfl
theorem Past.call {s0 s : Sup} {U F : List Nat} (h : Past s0 s U) (i : Nat) (hf : Inj (fun k => subS s i (2 * k + 1)) → Fr (fun k => subS s i (2 * k + 1)) F) : Past s0 (restS s) (U ++ F) :=
 h.one i (Fr.sub (f := fun k => 2 * k + 1) (hf (inj_arg (inj_sub h.inj i))))
def MkEl (n c : Nat) (args : List V) (e : El) : Prop :=
 ∃ (t : Sup → Nat) (R : Sup → List (List D)), ∀ s, goS n c args [] s = some ⟨.agg [iW e.op, .d (.l (t s) (R s))], [], []⟩ ∧ erR (R s) = argRows e.as ∧ (Inj s → Fr s (D.l (t s) (R s)).sts)
def MkNet (n c : Nat) (args : List V) (k op : Int) (as : List Arg) (ks : List Net) : Prop :=
 ∃ (t t2 : Sup → Nat) (R R2 : Sup → List (List D)), ∀ s, goS n c args [] s = some ⟨.agg [iW k, iW op, .d (.l (t s) (R s)), .d (.l (t2 s) (R2 s))], [], []⟩ ∧ erR (R s) = argRows as ∧ erR (R2 s) = netRows ks ∧ (Inj s → Fr s ((D.l (t s) (R s)).sts ++ (D.l (t2 s) (R2 s)).sts))
def MkArm (n c : Nat) (args : List V) (k op : Int) (as : List Arg) (nks : List Net) (cs : List El) (ks : List Arm) : Prop :=
 ∃ (t t2 t3 t4 : Sup → Nat) (R R2 R3 R4 : Sup → List (List D)), ∀ s, goS n c args [] s = some ⟨.agg [iW k, iW op, .d (.l (t s) (R s)), .d (.l (t2 s) (R2 s)), .d (.l (t3 s) (R3 s)), .d (.l (t4 s) (R4 s))], [], []⟩ ∧
  erR (R s) = argRows as ∧ erR (R2 s) = netRows nks ∧ erR (R3 s) = elRows cs ∧ erR (R4 s) = armRows ks ∧ (Inj s → Fr s (((D.l (t s) (R s)).sts ++ (D.l (t2 s) (R2 s)).sts) ++ (D.l (t3 s) (R3 s)).sts ++ (D.l (t4 s) (R4 s)).sts))
def MkIns (n c : Nat) (args : List V) (x : Ins) : Prop :=
 ∃ (t : Sup → Nat) (R : Sup → List (List D)), ∀ s, goS n c args [] s = some ⟨.agg [iW x.c, iW x.e.op, .d (.l (t s) (R s))], [], []⟩ ∧ erR (R s) = argRows x.e.as ∧ (Inj s → Fr s (D.l (t s) (R s)).sts)
theorem MkEl.makes {n c : Nat} {args : List V} {e : El} (h : MkEl n c args e) : Makes n c args 2 e.row := by
 obtain ⟨t, R, h⟩ := h; exact ⟨fun s => [iD e.op, .l (t s) (R s)], fun s => ⟨(h s).1, rfl, by simp [erL, D.er, (h s).2.1, El.row], fun hi => by simpa [stsL_c, stsL_n, sts_s] using (h s).2.2 hi⟩⟩
theorem MkIns.makes {n c : Nat} {args : List V} {x : Ins} (h : MkIns n c args x) : Makes n c args 3 x.row := by
 obtain ⟨t, R, h⟩ := h; exact ⟨fun s => [iD x.c, iD x.e.op, .l (t s) (R s)], fun s => ⟨(h s).1, rfl, by simp [erL, D.er, (h s).2.1, Ins.row], fun hi => by simpa [stsL_c, stsL_n, sts_s] using (h s).2.2 hi⟩⟩
theorem MkNet.makes {n c : Nat} {args : List V} {k op : Int} {as : List Arg} {ks : List Net} (h : MkNet n c args k op as ks) : Makes n c args 4 (Net.mk k op as ks).row := by
 obtain ⟨t, t2, R, R2, h⟩ := h; exact ⟨fun s => [iD k, iD op, .l (t s) (R s), .l (t2 s) (R2 s)], fun s => ⟨(h s).1, rfl, by simp [erL, D.er, (h s).2.1, (h s).2.2.1, Net.row], fun hi => by simpa [stsL_c, stsL_n, sts_s] using (h s).2.2.2 hi⟩⟩
theorem MkArm.makes {n c : Nat} {args : List V} {k op : Int} {as : List Arg} {nks : List Net} {cs : List El} {ks : List Arm} (h : MkArm n c args k op as nks cs ks) : Makes n c args 6 (Arm.mk (.mk k op as nks) cs ks).row := by
 obtain ⟨t, t2, t3, t4, R, R2, R3, R4, h⟩ := h; exact ⟨fun s => [iD k, iD op, .l (t s) (R s), .l (t2 s) (R2 s), .l (t3 s) (R3 s), .l (t4 s) (R4 s)], fun s => ⟨(h s).1, rfl, by simp [erL, D.er, (h s).2.1, (h s).2.2.1, (h s).2.2.2.1, (h s).2.2.2.2.1, Arm.row], fun hi => by simpa [stsL_c, stsL_n, sts_s] using (h s).2.2.2.2.2 hi⟩⟩
theorem mk_arg {n : Nat} (a : Arg) : Makes (n + 1) 241 [rowX a.row] 3 a.row :=
 ⟨fun _ => a.row, fun s => ⟨by rw [gos_go rfl]; exact to_arg a s, rfl, by simp [erL, D.er, Arg.row], fun _ => by simp [stsL_c, stsL_n, sts_s, Arg.row, Fr]⟩⟩
theorem mk_args {n : Nat} (l : List Arg) (hn : l.length + 3 ≤ n) (hl : l.length < 2 ^ 30) : MakesL n 237 [.w (asW l)] (argRows l) := by
 obtain ⟨n, rfl⟩ : ∃ k, n = k + 2 := ⟨n - 2, by omega⟩; have := runS_toS (f := 237) (sz := 3) (bytes := 24) (zero := [iD 0, iD 0, iD 0]) (c := 241) (n := n + 1) rfl rfl rfl rfl rfl 0 (fun r => r) (argRows l) (argRows_all fun a _ => argRow_len a)
  (argRows_all fun a _ => mk_arg a) (by omega) (by simp [argRows]; omega) (by simp [argRows]; omega)
 rw [List.map_id'] at this; exact this
theorem mk_el {n : Nat} (e : El) (hn : e.as.length + 4 ≤ n) (hl : e.as.length < 2 ^ 30) : MkEl n 228 [elX e] e := by
 obtain ⟨n, rfl⟩ : ∃ k, n = k + 1 := ⟨n - 1, by omega⟩; obtain ⟨t, R, w⟩ := mk_args (n := n) e.as (by omega) hl; have w1 := fun s => (w s).1
 refine ⟨fun s => t fun k => subS (restS (restS (restS s))) 2 (2 * k + 1), fun s => R fun k => subS (restS (restS (restS s))) 2 (2 * k + 1), fun s => ⟨?_, (w _).2.1, fun hi => ?_⟩⟩
 · simp [gos_of FT_228 rfl, F228, w1]
 · exact ((past_0 hi).weak.weak.weak.call 2 (w _).2.2).fr
theorem mk_els {n : Nat} (l : List El) (hn : elsWt l + 6 ≤ n) (hl : elsWt l < 2 ^ 30) : MakesL n 252 [.w (csW l)] (elRows l) := by
 obtain ⟨n, rfl⟩ : ∃ k, n = k + 2 := ⟨n - 2, by omega⟩; have hlen := elsWt_len l; have := runS_toS (f := 252) (sz := 2) (bytes := 32) (zero := [iD 0, .l 0 []]) (c := 228) (n := n + 1) rfl rfl rfl rfl rfl 0 (fun r => r) (elRows l) (elRows_all fun a _ => elRow_len a)
  (elRows_all fun a ha => (mk_el (n := n + 1) a (by have := elsWt_mem ha; simp only [El.wt] at this; omega) (by have := elsWt_mem ha; simp only [El.wt] at this; omega)).makes) (by omega) (by simp [elRows]; omega) (by simp [elRows]; omega)
 rw [List.map_id'] at this; exact this
theorem mk_net : ∀ (m : Nat) (k op : Int) (as : List Arg) (ks : List Net), (Net.mk k op as ks).wt ≤ m → m < 2 ^ 30 → ∀ (n : Nat), 2 * m + 6 ≤ n → MkNet n 221 [netX (.mk k op as ks)] k op as ks
 | 0, k, op, as, ks, h, hm, n, hn => by have := (Net.mk k op as ks).wt_pos; omega
 | m + 1, k, op, as, ks, h, hm, n, hn => by
  obtain ⟨n, rfl⟩ : ∃ k, n = k + 3 := ⟨n - 3, by omega⟩; simp only [Net.wt] at h; have hlen := netsWt_len ks; have h2 : MakesL (n + 2) 229 [.w (nsW ks)] (netRows ks) := by
   have := runS_toS (f := 229) (sz := 4) (bytes := 64) (zero := [iD 0, iD 0, .l 0 [], .l 0 []]) (c := 221) (n := n + 1) rfl rfl rfl rfl rfl 0 (fun r => r) (netRows ks) (netRows_all fun a _ => netRow_len a)
    (netRows_all fun a ha => by
     obtain ⟨k', op', as', ks'⟩ := a; rw [rowX_net]; exact (mk_net m k' op' as' ks' (by have := netsWt_mem ha; omega) (by omega) (n + 1) (by omega)).makes) (by omega) (by rw [netRows_map]; simp; omega) (by rw [netRows_map]; simp; omega)
   rw [List.map_id'] at this; exact this
  obtain ⟨t, R, w⟩ := mk_el (n := n + 2) ⟨op, as⟩ (by simp only; omega) (by simp only; omega); obtain ⟨t2, R2, w2⟩ := h2; have w1 := fun s => (w s).1
  have w3 := fun s => (w2 s).1
  refine ⟨fun s => t fun k => subS (restS (restS (restS s))) 2 (2 * k + 1), fun s => t2 fun k => subS (restS (restS (restS (restS s)))) 2 (2 * k + 1), fun s => R fun k => subS (restS (restS (restS s))) 2 (2 * k + 1), fun s => R2 fun k => subS (restS (restS (restS (restS s)))) 2 (2 * k + 1), fun s => ⟨?_, (w _).2.1, (w2 _).2.1, fun hi => ?_⟩⟩
  · simp [gos_of FT_221 rfl, F221, w1, w3]
  · exact (((past_0 hi).weak.weak.weak.call 2 (w _).2.2).call 2 (w2 _).2.2).fr
theorem mk_arms : ∀ (m : Nat) (l : List Arm), armsWt l ≤ m → m < 2 ^ 29 → ∀ (n : Nat), 2 * m + 16 ≤ n → MakesL n 245 [.w (ksW l)] (armRows l)
 | m, l, h, hm, n, hn => by
  obtain ⟨n, rfl⟩ : ∃ k, n = k + 3 := ⟨n - 3, by omega⟩; have hlen := armsWt_len l; have key : ∀ a ∈ l, Makes (n + 2) 249 [armX a] 6 a.row := fun a ha => by
   have hwa := armsWt_mem ha; obtain ⟨⟨nk, op, as, nks⟩, cs, ks⟩ := a; have hnp := (Net.mk nk op as nks).wt_pos; simp only [Arm.wt] at hwa; have hdec : m - 1 < m := by omega
   obtain ⟨t, t2, R, R2, w⟩ := mk_net m nk op as nks (by omega) (by omega) (n + 1) (by omega); obtain ⟨t3, R3, w3⟩ := mk_els (n := n + 1) cs (by omega) (by omega); obtain ⟨t4, R4, w4⟩ := mk_arms (m - 1) ks (by omega) (by omega) (n + 1) (by omega); have v1 := fun s => (w s).1
   have v3 := fun s => (w3 s).1
   have v4 := fun s => (w4 s).1
   refine MkArm.makes ⟨fun s => t fun k => subS (restS (restS s)) 2 (2 * k + 1), fun s => t2 fun k => subS (restS (restS s)) 2 (2 * k + 1), fun s => t3 fun k => subS (restS (restS (restS s))) 2 (2 * k + 1), fun s => t4 fun k => subS (restS (restS (restS (restS s)))) 2 (2 * k + 1),
    fun s => R fun k => subS (restS (restS s)) 2 (2 * k + 1), fun s => R2 fun k => subS (restS (restS s)) 2 (2 * k + 1), fun s => R3 fun k => subS (restS (restS (restS s))) 2 (2 * k + 1), fun s => R4 fun k => subS (restS (restS (restS (restS s)))) 2 (2 * k + 1),
    fun s => ⟨?_, (w _).2.1, (w _).2.2.1, (w3 _).2.1, (w4 _).2.1, fun hi => ?_⟩⟩
   · simp [gos_of FT_249 rfl, F249, v1, v3, v4]
   · exact ((((past_0 hi).weak.weak.call 2 (w _).2.2.2).call 2 (w3 _).2.2).call 2 (w4 _).2.2).fr
  have := runS_toS (f := 245) (sz := 6) (bytes := 112) (zero := [iD 0, iD 0, .l 0 [], .l 0 [], .l 0 [], .l 0 []]) (c := 249) (n := n + 2) rfl rfl rfl rfl rfl 0 (fun r => r) (armRows l) (armRows_all fun a _ => armRow_len a)
   (armRows_all fun a ha => by rw [rowX_arm]; exact key a ha) (by omega) (by rw [armRows_map]; simp; omega) (by rw [armRows_map]; simp; omega)
  rw [List.map_id'] at this; exact this
termination_by m => m
decreasing_by exact hdec
theorem insRows_all {p : List D → Prop} {l : List Ins} (h : ∀ a ∈ l, p a.row) : ∀ r ∈ insRows l, p r := by
 intro r hr; simp only [insRows, List.mem_map] at hr; obtain ⟨a, ha, rfl⟩ := hr; exact h a ha
theorem er_argRows (l : List Arg) : erR (argRows l) = argRows l := by
 induction l with
 | nil => rfl
 | cons a r ih => simp only [argRows, List.map_cons, erR] at ih ⊢; rw [ih]; simp [erL, D.er, Arg.row]
theorem sts_argRows (l : List Arg) : stsR (argRows l) = [] := by
 induction l with
 | nil => rfl
 | cons a r ih => simp only [argRows, List.map_cons, stsR] at ih ⊢; rw [ih]; simp [stsL_c, stsL_n, sts_s, Arg.row]
theorem cp_elem {n : Nat} (hn : 4 ≤ n) (e : El) (hl : e.as.length < 2 ^ 30) : MkEl n 163 [elX e] e := by
 obtain ⟨n, rfl⟩ : ∃ k, n = k + 1 := ⟨n - 1, by omega⟩; obtain ⟨op, as⟩ := e; have w : ∀ s, goS n 186 [.w (asW as)] [] s = some ⟨.w (.own 0 0 as.length (some as.length)), [], [.row none 3 (argRows as) 0]⟩ := fun s => by rw [gos_go rfl]; exact run_cloneA (n := n) (by omega) as hl s
 refine ⟨fun s => restS (restS s) 0, fun _ => argRows as, fun s => ⟨?_, er_argRows as, fun hi => ?_⟩⟩
 · simp [gos_of FT_163 rfl, F163, w]
 · exact Past.lastL (by rw [sts_argRows]; exact (past_0 hi).weak.weak) 0
def CpInv (t18 t19 tl : Nat) (sz bx : Nat) (zero : List D) (src : V) (len : Nat) (done : Nat → List (List D)) (U : List Nat) (s0 : Sup) (C : St → Prop) (k : Nat) (st : St) : Prop :=
 ∃ (i : Nat) (R : List (List D)), i + k = len ∧ C st ∧ st.τ tl = src ∧ st.τ t18 = iV len ∧ st.τ t19 = iV i ∧ st.H bx = .row none sz (R ++ List.replicate k zero) 0 ∧ erR R = done i ∧ R.length = i ∧ (Inj s0 → Past s0 st.s (U ++ stsR R))
theorem loopS330 {n : Nat} (l : List Ins) (ha : ∀ x ∈ l, x.e.as.length < 2 ^ 30) (h4n : 4 ≤ n) (s0 : Sup) (hn : l.length < n) (hl : l.length < 2 ^ 40) (st : St) (h3 : st.τ 3 = .w (.own 192 0 l.length (some l.length))) (hB : st.H 192 = .row none 3 (List.replicate l.length [iD 0, iD 0, .l 0 []]) 0) (h9 : st.τ 9 = .w (isW l)) (h10 : st.τ 10 = iV l.length) (h11 : st.τ 11 = iV 0) (hgg : 192 < st.g) (hp : Inj s0 → Past s0 st.s []) :
 ∃ e st', execC (goS n) modeT GT true 27 n F330_L0 st = some (e, st') ∧ e ≠ .normal ∧ (e = .exit 0 ∧ ∃ R, st'.τ 3 = .w (.own 192 0 l.length (some l.length)) ∧ st'.H 192 = .row none 3 R 0 ∧ erR R = insRows l ∧ R.length = l.length ∧ (Inj s0 → Past s0 st'.s (stsR R))) := by
 rw [F330_L0, execC_loop]; refine iter_rule (CpInv 10 11 9 3 192 [iD 0, iD 0, .l 0 []] (.w (isW l)) l.length (fun i => insRows (l.take i)) [] s0 fun st => st.τ 3 = .w (.own 192 0 l.length (some l.length)) ∧ 192 < st.g) ?_ n l.length st hn
  ⟨0, [], by omega, ⟨h3, hgg⟩, h9, h10, by simpa using h11, by simpa using hB, by simp [insRows, erR], rfl, by simpa [stsR] using hp⟩
 clear h3 hB h9 h10 h11 hgg hp; rintro k ⟨τ, H, g, s⟩ ⟨i, R, hk, ⟨h3, hgg⟩, h9, h10, h11, hB, hR, hRl, hp⟩; simp only [List.nil_append] at h3 hB h9 h10 h11 hgg hp hR; cases k with
 | zero =>
  have : i = l.length := by omega
  subst this; rw [List.take_length] at hR; simp only [List.replicate_zero, List.append_nil] at hB; refine ⟨.exit 0, ?_⟩
  simp [F330_B0, h3, h9, h10, h11, hB]; exact ⟨hR, hRl, fun hi => (hp hi).weak⟩
 | succ k =>
  have hlt : i < l.length := by omega
  have hlt' := ltT hlt; have hg := List.getElem?_eq_getElem hlt; have hmem := List.getElem_mem hlt; have hw := wrap_succ (i := i) (by omega); have hget := fill_get (k := k) hRl [iD 0, iD 0, .l 0 []]; have hset := fun x => fill_set (k := k) hRl [iD 0, iD 0, .l 0 []] x
  have htk := insRows_take hg; obtain ⟨t, R1, w⟩ := cp_elem (n := n) h4n l[i].e (ha _ hmem); obtain ⟨c, op, as, hx⟩ : ∃ c op as, l[i] = ⟨c, ⟨op, as⟩⟩ := ⟨_, _, _, rfl⟩; rw [hx] at hg w htk; have w1 := fun s => (w s).1
  have hb := insRows_get hg; have fgX := far hgg; have gl : (g < g + 64 + 384) = True := eq_true (by omega); refine ⟨.normal, ?_⟩
  simp [-getElem?_pos, F330_B0, h3, h9, h10, h11, hB, hlt, hlt', hb, w1, hw, hget, hset, fgX, gl]; refine ⟨k, by omega, i + 1, R ++ [[iD c, iD op, .l (t fun k => subS (restS (restS s)) 6 (2 * k + 1)) (R1 fun k => subS (restS (restS s)) 6 (2 * k + 1))]], by omega, ⟨by simp [upd, h3], by (show 192 < _) <;> simp <;> omega⟩, by simp [upd, h9], by simp [upd, h10], by simp [upd], by simp [upd], ?_, by simp [hRl], fun hi => ?_⟩
  · show _ = insRows (l.take (i + 1))
    rw [erR_append, hR, ← htk]; simp [erR, erL, D.er, (w _).2.1, Ins.row]
  · have h3 := (((hp hi).weak.weak).call 6 (w _).2.2).weak
    rw [stsR_append]
    simpa [stsR, stsL_c, stsL_n, sts_s] using h3
theorem cp_list {n : Nat} (l : List Ins) (ha : ∀ x ∈ l, x.e.as.length < 2 ^ 30) (hl : l.length < 2 ^ 29) (hn : l.length < n) (h4n : 4 ≤ n) : MakesL (n + 1) 330 [.w (isW l)] (insRows l) := by
 refine .of fun s => ?_
 have rm : room l.length 40 = true := room_of (by omega) (by omega); simp [gos_of FT_330 rfl, F330, insRows_length, rm]; generalize hst : St.mk _ _ _ _ = st; obtain ⟨e, ⟨τ', H', g', s'⟩, hx, -, rfl, R, h3, hB, hR, hRl, hp⟩ := loopS330 (n := n) l ha h4n s hn (by omega) st (by simp [← hst]) (by simp [← hst]) (by simp [← hst]) (by simp [← hst]) (by simp [← hst]) (by simp [← hst]) (by rw [← hst]; exact fun hi => (past_0 hi).weak.weak.weak); simp only at h3 hB hp; clear hst; have tk : List.take l.length R = R := List.take_of_length_le (by omega); refine ⟨restS s' 0, R, ?_, hR, fun hi => (hp hi).weak.lastL 0⟩
 simp [hx, h3, hB, tk, hRl]
end Go.VM

/- Plain lists: how many arguments an instruction has. Conditions: none. -/
namespace Go.VM
set_option linter.unusedSimpArgs false
set_option linter.unusedVariables false
set_option maxHeartbeats 16000000
mutual
theorem begins_args : ∀ t : Net, ∀ x ∈ t.begins, x.e.as.length ≤ t.wt
 | .mk k op as [], x, hx => by
  simp only [Net.begins, List.mem_singleton] at hx; subst hx; simp only [Net.wt, netsWt]; omega
 | .mk k op as (y :: r), x, hx => by
  simp only [Net.begins, List.mem_append] at hx; simp only [Net.wt, netsWt]; rcases hx with hx | hx
  · have := begins_args y x hx; omega
  · split at hx
    · simp only [List.mem_singleton] at hx; subst hx; simp
    · have := taken_args r k x hx; omega
theorem taken_args : ∀ l : List Net, ∀ k : Int, ∀ x ∈ netsTaken k l, x.e.as.length ≤ netsWt l
 | [], k, x, hx => by simp [netsTaken] at hx
 | .mk yk yo ya yks :: r, k, x, hx => by
  simp only [netsTaken, List.mem_append] at hx; simp only [netsWt]; rcases hx with hx | hx
  · split at hx
    · simp only [List.mem_singleton] at hx; subst hx; simp only [Net.as, Net.wt]; omega
    · rw [List.mem_append] at hx
      rcases hx with hx | hx
      · have := begins_args (.mk yk yo ya yks) x hx; omega
      · simp only [List.mem_singleton] at hx; subst hx; simp
  · have := taken_args r k x hx; omega
end
theorem sep_args {N i : Nat} {x : Ins} (h : x ∈ sepI N i) : x.e.as = [] := by
 unfold sepI at h; split at h
 · simp at h
 · split at h
   · simp only [List.mem_singleton] at h; subst h; rfl
   · split at h <;> (simp only [List.mem_singleton] at h; subst h; rfl)
mutual
theorem tail_args : ∀ a : Arm, ∀ x ∈ a.tail, x.e.as.length ≤ a.wt
 | .mk n cs ks, x, hx => by
  simp only [Arm.tail, List.mem_append] at hx; simp only [Arm.wt]; rcases hx with hx | hx
  · simp only [coilsI, List.mem_map] at hx
    obtain ⟨e, he, rfl⟩ := hx; have := elsWt_mem he; simp only [El.wt] at this; simp only; omega
  · have := armsTail_args ks _ _ x hx; omega
theorem armsTail_args : ∀ l : List Arm, ∀ N i : Nat, ∀ x ∈ armsTail N i l, x.e.as.length ≤ armsWt l
 | [], N, i, x, hx => by simp [armsTail] at hx
 | .mk n cs ks :: r, N, i, x, hx => by
  simp only [armsTail, List.mem_append] at hx; simp only [armsWt]; rcases hx with ((hx | hx) | hx) | hx
  · rw [sep_args hx]; simp
  · have h1 := taken_args _ _ x hx
    have h2 := parts_wt n; simp only [Arm.net, Arm.wt] at h1 ⊢; omega
  · have := tail_args (.mk n cs ks) x hx; omega
  · have := armsTail_args r N (i + 1) x hx; omega
end
theorem plain_args (l : List Arm) : ∀ x ∈ plainOf l, x.e.as.length ≤ armsWt l := fun x hx => by
 simp only [plainOf, List.mem_flatMap] at hx; obtain ⟨a, ha, hx⟩ := hx; have hw := armsWt_mem ha; simp only [Arm.plain, List.mem_append, List.mem_singleton] at hx; rcases hx with (hx | hx) | hx
 · have := begins_args _ x hx
   obtain ⟨n, cs, ks⟩ := a; simp only [Arm.net, Arm.wt] at this hw; omega
 · have := tail_args a x hx; omega
 · subst hx; simp
set_option maxHeartbeats 4000000
set_option maxHeartbeats 8000000
theorem len_of3 (l : List Arg) : ∀ x ∈ argRows l, x.length = 3 := fun x hx => by
 simp only [argRows, List.mem_map] at hx; obtain ⟨a, _, rfl⟩ := hx
 rfl
end Go.VM
