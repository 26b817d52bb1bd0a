/- Ladders and lists made anew by the laws' helpers, with stamps. Conditions: none. -/
import Derived.Test.YtfpkfcfiihfopaaDoorXVP1
import Derived.Test.YtfpkfcfiihfopaaDoorXVY8

namespace Go.VM
set_option linter.unusedSimpArgs false
set_option linter.unusedVariables false
set_option maxHeartbeats 8000000
theorem sts_s (v : Value) : (D.s v).sts = [] := rfl
theorem stsL_n : stsL [] = [] := rfl
theorem stsL_c (x : D) (r : List D) : stsL (x :: r) = x.sts ++ stsL r := rfl
theorem Past.call {s0 s : Sup} {U F : List Nat} (h : Past s0 s U) (i : Nat) (hf : Inj (fun k => subS s i (2 * k + 1)) → Fr (fun k => subS s i (2 * k + 1)) F) : Past s0 (restS s) (U ++ F) :=
 h.one i (Fr.sub (f := fun k => 2 * k + 1) (hf (inj_arg (inj_sub h.inj i))))
def MkEl (n c : Nat) (args : List V) (e : El) : Prop :=
 ∃ (t : Sup → Nat) (R : Sup → List (List D)), ∀ s, goS n c args [] s = some ⟨.agg [iW e.op, .d (.l (t s) (R s))], [], []⟩ ∧ erR (R s) = argRows e.as ∧ (Inj s → Fr s (D.l (t s) (R s)).sts)
def MkNet (n c : Nat) (args : List V) (k op : Int) (as : List Arg) (ks : List Net) : Prop :=
 ∃ (t t2 : Sup → Nat) (R R2 : Sup → List (List D)), ∀ s, goS n c args [] s = some ⟨.agg [iW k, iW op, .d (.l (t s) (R s)), .d (.l (t2 s) (R2 s))], [], []⟩ ∧ erR (R s) = argRows as ∧ erR (R2 s) = netRows ks ∧ (Inj s → Fr s ((D.l (t s) (R s)).sts ++ (D.l (t2 s) (R2 s)).sts))
def MkArm (n c : Nat) (args : List V) (k op : Int) (as : List Arg) (nks : List Net) (cs : List El) (ks : List Arm) : Prop :=
 ∃ (t t2 t3 t4 : Sup → Nat) (R R2 R3 R4 : Sup → List (List D)), ∀ s, goS n c args [] s = some ⟨.agg [iW k, iW op, .d (.l (t s) (R s)), .d (.l (t2 s) (R2 s)), .d (.l (t3 s) (R3 s)), .d (.l (t4 s) (R4 s))], [], []⟩ ∧
  erR (R s) = argRows as ∧ erR (R2 s) = netRows nks ∧ erR (R3 s) = elRows cs ∧ erR (R4 s) = armRows ks ∧ (Inj s → Fr s (((D.l (t s) (R s)).sts ++ (D.l (t2 s) (R2 s)).sts) ++ (D.l (t3 s) (R3 s)).sts ++ (D.l (t4 s) (R4 s)).sts))
def MkIns (n c : Nat) (args : List V) (x : Ins) : Prop :=
 ∃ (t : Sup → Nat) (R : Sup → List (List D)), ∀ s, goS n c args [] s = some ⟨.agg [iW x.c, iW x.e.op, .d (.l (t s) (R s))], [], []⟩ ∧ erR (R s) = argRows x.e.as ∧ (Inj s → Fr s (D.l (t s) (R s)).sts)
theorem MkEl.makes {n c : Nat} {args : List V} {e : El} (h : MkEl n c args e) : Makes n c args 2 e.row := by
 obtain ⟨t, R, h⟩ := h; exact ⟨fun s => [iD e.op, .l (t s) (R s)], fun s => ⟨(h s).1, rfl, by simp [erL, D.er, (h s).2.1, El.row], fun hi => by simpa [stsL_c, stsL_n, sts_s] using (h s).2.2 hi⟩⟩
theorem MkIns.makes {n c : Nat} {args : List V} {x : Ins} (h : MkIns n c args x) : Makes n c args 3 x.row := by
 obtain ⟨t, R, h⟩ := h; exact ⟨fun s => [iD x.c, iD x.e.op, .l (t s) (R s)], fun s => ⟨(h s).1, rfl, by simp [erL, D.er, (h s).2.1, Ins.row], fun hi => by simpa [stsL_c, stsL_n, sts_s] using (h s).2.2 hi⟩⟩
theorem MkNet.makes {n c : Nat} {args : List V} {k op : Int} {as : List Arg} {ks : List Net} (h : MkNet n c args k op as ks) : Makes n c args 4 (Net.mk k op as ks).row := by
 obtain ⟨t, t2, R, R2, h⟩ := h; exact ⟨fun s => [iD k, iD op, .l (t s) (R s), .l (t2 s) (R2 s)], fun s => ⟨(h s).1, rfl, by simp [erL, D.er, (h s).2.1, (h s).2.2.1, Net.row], fun hi => by simpa [stsL_c, stsL_n, sts_s] using (h s).2.2.2 hi⟩⟩
theorem MkArm.makes {n c : Nat} {args : List V} {k op : Int} {as : List Arg} {nks : List Net} {cs : List El} {ks : List Arm} (h : MkArm n c args k op as nks cs ks) : Makes n c args 6 (Arm.mk (.mk k op as nks) cs ks).row := by
 obtain ⟨t, t2, t3, t4, R, R2, R3, R4, h⟩ := h; exact ⟨fun s => [iD k, iD op, .l (t s) (R s), .l (t2 s) (R2 s), .l (t3 s) (R3 s), .l (t4 s) (R4 s)], fun s => ⟨(h s).1, rfl, by simp [erL, D.er, (h s).2.1, (h s).2.2.1, (h s).2.2.2.1, (h s).2.2.2.2.1, Arm.row], fun hi => by simpa [stsL_c, stsL_n, sts_s] using (h s).2.2.2.2.2 hi⟩⟩
theorem mk_arg {n : Nat} (a : Arg) : Makes (n + 1) 241 [rowX a.row] 3 a.row :=
 ⟨fun _ => a.row, fun s => ⟨by rw [gos_go rfl]; exact to_arg a s, rfl, by simp [erL, D.er, Arg.row], fun _ => by simp [stsL_c, stsL_n, sts_s, Arg.row, Fr]⟩⟩
theorem mk_args {n : Nat} (l : List Arg) (hn : l.length + 3 ≤ n) (hl : l.length < 2 ^ 30) : MakesL n 237 [.w (asW l)] (argRows l) := by
 obtain ⟨n, rfl⟩ : ∃ k, n = k + 2 := ⟨n - 2, by omega⟩; have := runS_toS (f := 237) (sz := 3) (bytes := 24) (zero := [iD 0, iD 0, iD 0]) (c := 241) (n := n + 1) rfl rfl rfl rfl rfl 0 (fun r => r) (argRows l) (argRows_all fun a _ => argRow_len a)
  (argRows_all fun a _ => mk_arg a) (by omega) (by simp [argRows]; omega) (by simp [argRows]; omega)
 rw [List.map_id'] at this; exact this
theorem mk_el {n : Nat} (e : El) (hn : e.as.length + 4 ≤ n) (hl : e.as.length < 2 ^ 30) : MkEl n 228 [elX e] e := by
 obtain ⟨n, rfl⟩ : ∃ k, n = k + 1 := ⟨n - 1, by omega⟩; obtain ⟨t, R, w⟩ := mk_args (n := n) e.as (by omega) hl; have w1 := fun s => (w s).1
 refine ⟨fun s => t fun k => subS (restS (restS (restS s))) 2 (2 * k + 1), fun s => R fun k => subS (restS (restS (restS s))) 2 (2 * k + 1), fun s => ⟨?_, (w _).2.1, fun hi => ?_⟩⟩
 · simp [gos_of FT_228 rfl, F228, w1]
 · exact ((past_0 hi).weak.weak.weak.call 2 (w _).2.2).fr
theorem mk_net : ∀ (m : Nat) (k op : Int) (as : List Arg) (ks : List Net), (Net.mk k op as ks).wt ≤ m → m < 2 ^ 30 → ∀ (n : Nat), 2 * m + 6 ≤ n → MkNet n 221 [netX (.mk k op as ks)] k op as ks
 | 0, k, op, as, ks, h, hm, n, hn => by have := (Net.mk k op as ks).wt_pos; omega
 | m + 1, k, op, as, ks, h, hm, n, hn => by
  obtain ⟨n, rfl⟩ : ∃ k, n = k + 3 := ⟨n - 3, by omega⟩; simp only [Net.wt] at h; have hlen := netsWt_len ks; have h2 : MakesL (n + 2) 229 [.w (nsW ks)] (netRows ks) := by
   have := runS_toS (f := 229) (sz := 4) (bytes := 64) (zero := [iD 0, iD 0, .l 0 [], .l 0 []]) (c := 221) (n := n + 1) rfl rfl rfl rfl rfl 0 (fun r => r) (netRows ks) (netRows_all fun a _ => netRow_len a)
    (netRows_all fun a ha => by
     obtain ⟨k', op', as', ks'⟩ := a; rw [rowX_net]; exact (mk_net m k' op' as' ks' (by have := netsWt_mem ha; omega) (by omega) (n + 1) (by omega)).makes) (by omega) (by rw [netRows_map]; simp; omega) (by rw [netRows_map]; simp; omega)
   rw [List.map_id'] at this; exact this
  obtain ⟨t, R, w⟩ := mk_el (n := n + 2) ⟨op, as⟩ (by simp only; omega) (by simp only; omega); obtain ⟨t2, R2, w2⟩ := h2; have w1 := fun s => (w s).1
  have w3 := fun s => (w2 s).1
  refine ⟨fun s => t fun k => subS (restS (restS (restS s))) 2 (2 * k + 1), fun s => t2 fun k => subS (restS (restS (restS (restS s)))) 2 (2 * k + 1), fun s => R fun k => subS (restS (restS (restS s))) 2 (2 * k + 1), fun s => R2 fun k => subS (restS (restS (restS (restS s)))) 2 (2 * k + 1), fun s => ⟨?_, (w _).2.1, (w2 _).2.1, fun hi => ?_⟩⟩
  · simp [gos_of FT_221 rfl, F221, w1, w3]
  · exact (((past_0 hi).weak.weak.weak.call 2 (w _).2.2).call 2 (w2 _).2.2).fr
end Go.VM
