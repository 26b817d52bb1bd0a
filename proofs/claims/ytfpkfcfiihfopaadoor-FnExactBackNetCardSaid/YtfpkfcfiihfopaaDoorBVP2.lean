/- Lists of instructions out of ladders, in plain words: they pass the check exactly when they fit; they fall apart into rungs. Conditions: none. -/
import Derived.Test.YtfpkfcfiihfopaaDoorBVW0
import Derived.Test.YtfpkfcfiihfopaaDoorBVZ1

namespace Go.VM
set_option linter.unusedVariables false
def needsI (c : Int) : Int := if c = 1 then 0 else if c = 4 ∨ c = 5 then 2 else 1
def El.bareB (e : El) : Bool := decide (e.op = 0 ∧ e.as = [])
def Ins.ok (i : Ins) : Bool := if 1 ≤ i.c ∧ i.c ≤ 3 then i.e.contact else if i.c = 10 then i.e.coil else decide (4 ≤ i.c ∧ i.c ≤ 11) && i.e.bareB
structure CS where
 b : Int
 f : Int
 based : Bool
 coil : Bool
def CS.wrong (s : CS) (i : Ins) : Int :=
 if i.ok = false then 2 else if s.b < needsI i.c then 3 else if i.c = 1 ∧ 16 ≤ s.b then 4 else if 7 ≤ i.c ∧ 1 < s.b then 5
 else if s.based = true ∧ ((i.c = 3 ∨ i.c = 6) ∧ s.b = 1 ∨ i.c = 5 ∧ s.b = 2) then 6
 else if (i.c = 7 ∧ 8 ≤ s.f) ∨ ((i.c = 8 ∨ i.c = 9) ∧ s.f = 0) ∨ (i.c = 11 ∧ s.f ≠ 0) then 7
 else if (i.c = 8 ∨ i.c = 9 ∨ i.c = 11) ∧ s.coil = false then 8 else 0
def CS.next (s : CS) (i : Ins) : CS :=
 ⟨(behind (s.b, s.f) i.c).1, (behind (s.b, s.f) i.c).2, decide (i.c ≠ 11) && (s.based || decide (i.c = 10) || decide (i.c = 7)), decide (i.c = 10)⟩
def checkFrom (s : CS) (k : Nat) : List Ins → Int × Nat
 | [] => if s.b ≠ 0 then (9, k) else (0, 0)
 | i :: r => if s.wrong i ≠ 0 then (s.wrong i, k) else checkFrom (s.next i) (k + 1) r
def Pass (l : List Ins) (s t : CS) : Prop := ∀ (k : Nat) (r : List Ins), checkFrom s k (l ++ r) = checkFrom t (k + l.length) r
theorem Pass.nil (s : CS) : Pass [] s s := fun k r => rfl
theorem Pass.append {l l' : List Ins} {s t u : CS} (h : Pass l s t) (h' : Pass l' t u) : Pass (l ++ l') s u := fun k r => by
 rw [List.append_assoc, h, h', List.length_append, Nat.add_assoc]
theorem Pass.one {i : Ins} {s t : CS} (h : s.wrong i = 0) (ht : s.next i = t) : Pass [i] s t := fun k r => by
 show checkFrom s k (i :: r) = _
 rw [checkFrom, if_neg (by simp [h]), ht]
 rfl
set_option linter.unusedSimpArgs false
set_option maxHeartbeats 16000000
abbrev isW (l : List Ins) : W := .d (.l 0 (insRows l))
abbrev insX (i : Ins) : V := .agg [iW i.c, iW i.e.op, asW i.e.as]
theorem insRows_length (l : List Ins) : (insRows l).length = l.length := by simp [insRows]
def OwnI (τ : Nat → V) (H : Nat → Box) (g t : Nat) (L : List Ins) (c : Option Nat) : Prop := ∃ b, 0 < b ∧ b < g ∧ τ t = .w (.own b 0 L.length c) ∧ H b = .row none 3 (insRows L) 0
theorem OwnI.mk {τ : Nat → V} {H : Nat → Box} {g t n b : Nat} {L : List Ins} {c : Option Nat} (h2 : τ t = .w (.own b 0 n c)) (h0 : 0 < b) (h1 : b < g) (hn : n = L.length) (h3 : H b = .row none 3 (insRows L) 0) : OwnI τ H g t L c :=
 ⟨b, h0, h1, by rw [h2, hn], h3⟩
@[simp] theorem elRows_nil : elRows [] = [] := rfl
@[simp] theorem argRows_nil : argRows [] = [] := rfl
@[simp] theorem netRows_nil : netRows [] = [] := by simp [netRows]
@[simp] theorem armRows_nil : armRows [] = [] := by simp [armRows]
theorem mx (a b : Nat) : (if (a : Int) < (b : Int) then (b : Int) else (a : Int)) = ((max a b : Nat) : Int) := by split <;> omega
def AccI (τ : Nat → V) (H : Nat → Box) (g t : Nat) (L : List Ins) (p q : Nat) : Prop := (L = [] ∧ τ t = .w .nil) ∨ ∃ b, b ≠ p ∧ b ≠ q ∧ b < g ∧ τ t = .w (.own b 0 L.length none) ∧ H b = .row none 3 (insRows L) 0
theorem AccI.keep {τ τ' : Nat → V} {H H' : Nat → Box} {g g' t p q : Nat} {L : List Ins} (h : AccI τ H g t L p q) (e : τ' t = τ t) (eH : H' = H) (hg : g ≤ g') : AccI τ' H' g' t L p q := by
 subst eH; rcases h with ⟨h1, h2⟩ | ⟨b, h2, h3, h4, h5, h6⟩
 · exact .inl ⟨h1, e.trans h2⟩
 · exact .inr ⟨b, h2, h3, by omega, e.trans h5, h6⟩
theorem AccI.mk {τ : Nat → V} {H : Nat → Box} {g t n b p q : Nat} {L : List Ins} (h2 : τ t = .w (.own b 0 n none)) (hp : b ≠ p) (hq : b ≠ q) (h1 : b < g) (hn : n = L.length) (h3 : H b = .row none 3 (insRows L) 0) : AccI τ H g t L p q :=
 .inr ⟨b, hp, hq, h1, by rw [h2, hn], h3⟩
def AccPost (st st' : St) (N : Nat) (A0 : Box) (q : Nat) (Q : Box) (L' : List Ins) : Prop := (∀ t, t < N → t ≠ 3 → t ≠ 9 → st'.τ t = st.τ t) ∧ st'.H 0 = A0 ∧ st'.H q = Q ∧ st.g ≤ st'.g ∧ AccI st'.τ st'.H st'.g 3 L' 0 q
theorem AccPost.refl {st : St} {N : Nat} {A0 : Box} {q : Nat} {Q : Box} {L : List Ins} (hA : st.H 0 = A0) (hQ : st.H q = Q) (h : AccI st.τ st.H st.g 3 L 0 q) : AccPost st st N A0 q Q L := ⟨fun _ _ _ _ => rfl, hA, hQ, Nat.le_refl _, h⟩
theorem insRows_get {l : List Ins} {i : Nat} {c op : Int} {as : List Arg} (h : l[i]? = some ⟨c, ⟨op, as⟩⟩) : (insRows l)[i]? = some [iD c, iD op, .l 0 (argRows as)] := by simp [insRows, h, Ins.row]
set_option maxHeartbeats 8000000
theorem sts_s (v : Value) : (D.s v).sts = [] := rfl
theorem stsL_n : stsL [] = [] := rfl
theorem stsL_c (x : D) (r : List D) : stsL (x :: r) = x.sts ++ stsL r := rfl
theorem Past.call {s0 s : Sup} {U F : List Nat} (h : Past s0 s U) (i : Nat) (hf : Inj (fun k => subS s i (2 * k + 1)) → Fr (fun k => subS s i (2 * k + 1)) F) : Past s0 (restS s) (U ++ F) :=
 h.one i (Fr.sub (f := fun k => 2 * k + 1) (hf (inj_arg (inj_sub h.inj i))))
def MkEl (n c : Nat) (args : List V) (e : El) : Prop :=
 ∃ (t : Sup → Nat) (R : Sup → List (List D)), ∀ s, goS n c args [] s = some ⟨.agg [iW e.op, .d (.l (t s) (R s))], [], []⟩ ∧ erR (R s) = argRows e.as ∧ (Inj s → Fr s (D.l (t s) (R s)).sts)
def MkNet (n c : Nat) (args : List V) (k op : Int) (as : List Arg) (ks : List Net) : Prop :=
 ∃ (t t2 : Sup → Nat) (R R2 : Sup → List (List D)), ∀ s, goS n c args [] s = some ⟨.agg [iW k, iW op, .d (.l (t s) (R s)), .d (.l (t2 s) (R2 s))], [], []⟩ ∧ erR (R s) = argRows as ∧ erR (R2 s) = netRows ks ∧ (Inj s → Fr s ((D.l (t s) (R s)).sts ++ (D.l (t2 s) (R2 s)).sts))
def MkArm (n c : Nat) (args : List V) (k op : Int) (as : List Arg) (nks : List Net) (cs : List El) (ks : List Arm) : Prop :=
 ∃ (t t2 t3 t4 : Sup → Nat) (R R2 R3 R4 : Sup → List (List D)), ∀ s, goS n c args [] s = some ⟨.agg [iW k, iW op, .d (.l (t s) (R s)), .d (.l (t2 s) (R2 s)), .d (.l (t3 s) (R3 s)), .d (.l (t4 s) (R4 s))], [], []⟩ ∧
  erR (R s) = argRows as ∧ erR (R2 s) = netRows nks ∧ erR (R3 s) = elRows cs ∧ erR (R4 s) = armRows ks ∧ (Inj s → Fr s (((D.l (t s) (R s)).sts ++ (D.l (t2 s) (R2 s)).sts) ++ (D.l (t3 s) (R3 s)).sts ++ (D.l (t4 s) (R4 s)).sts))
def MkIns (n c : Nat) (args : List V) (x : Ins) : Prop :=
 ∃ (t : Sup → Nat) (R : Sup → List (List D)), ∀ s, goS n c args [] s = some ⟨.agg [iW x.c, iW x.e.op, .d (.l (t s) (R s))], [], []⟩ ∧ erR (R s) = argRows x.e.as ∧ (Inj s → Fr s (D.l (t s) (R s)).sts)
theorem MkEl.makes {n c : Nat} {args : List V} {e : El} (h : MkEl n c args e) : Makes n c args 2 e.row := by
 obtain ⟨t, R, h⟩ := h; exact ⟨fun s => [iD e.op, .l (t s) (R s)], fun s => ⟨(h s).1, rfl, by simp [erL, D.er, (h s).2.1, El.row], fun hi => by simpa [stsL_c, stsL_n, sts_s] using (h s).2.2 hi⟩⟩
theorem MkIns.makes {n c : Nat} {args : List V} {x : Ins} (h : MkIns n c args x) : Makes n c args 3 x.row := by
 obtain ⟨t, R, h⟩ := h; exact ⟨fun s => [iD x.c, iD x.e.op, .l (t s) (R s)], fun s => ⟨(h s).1, rfl, by simp [erL, D.er, (h s).2.1, Ins.row], fun hi => by simpa [stsL_c, stsL_n, sts_s] using (h s).2.2 hi⟩⟩
theorem MkNet.makes {n c : Nat} {args : List V} {k op : Int} {as : List Arg} {ks : List Net} (h : MkNet n c args k op as ks) : Makes n c args 4 (Net.mk k op as ks).row := by
 obtain ⟨t, t2, R, R2, h⟩ := h; exact ⟨fun s => [iD k, iD op, .l (t s) (R s), .l (t2 s) (R2 s)], fun s => ⟨(h s).1, rfl, by simp [erL, D.er, (h s).2.1, (h s).2.2.1, Net.row], fun hi => by simpa [stsL_c, stsL_n, sts_s] using (h s).2.2.2 hi⟩⟩
theorem MkArm.makes {n c : Nat} {args : List V} {k op : Int} {as : List Arg} {nks : List Net} {cs : List El} {ks : List Arm} (h : MkArm n c args k op as nks cs ks) : Makes n c args 6 (Arm.mk (.mk k op as nks) cs ks).row := by
 obtain ⟨t, t2, t3, t4, R, R2, R3, R4, h⟩ := h; exact ⟨fun s => [iD k, iD op, .l (t s) (R s), .l (t2 s) (R2 s), .l (t3 s) (R3 s), .l (t4 s) (R4 s)], fun s => ⟨(h s).1, rfl, by simp [erL, D.er, (h s).2.1, (h s).2.2.1, (h s).2.2.2.1, (h s).2.2.2.2.1, Arm.row], fun hi => by simpa [stsL_c, stsL_n, sts_s] using (h s).2.2.2.2.2 hi⟩⟩
theorem mk_arg {n : Nat} (a : Arg) : Makes (n + 1) 241 [rowX a.row] 3 a.row :=
 ⟨fun _ => a.row, fun s => ⟨by rw [gos_go rfl]; exact to_arg a s, rfl, by simp [erL, D.er, Arg.row], fun _ => by simp [stsL_c, stsL_n, sts_s, Arg.row, Fr]⟩⟩
theorem mk_args {n : Nat} (l : List Arg) (hn : l.length + 3 ≤ n) (hl : l.length < 2 ^ 30) : MakesL n 237 [.w (asW l)] (argRows l) := by
 obtain ⟨n, rfl⟩ : ∃ k, n = k + 2 := ⟨n - 2, by omega⟩; have := runS_toS (f := 237) (sz := 3) (bytes := 24) (zero := [iD 0, iD 0, iD 0]) (c := 241) (n := n + 1) rfl rfl rfl rfl rfl 0 (fun r => r) (argRows l) (argRows_all fun a _ => argRow_len a)
  (argRows_all fun a _ => mk_arg a) (by omega) (by simp [argRows]; omega) (by simp [argRows]; omega)
 rw [List.map_id'] at this; exact this
theorem mk_el {n : Nat} (e : El) (hn : e.as.length + 4 ≤ n) (hl : e.as.length < 2 ^ 30) : MkEl n 228 [elX e] e := by
 obtain ⟨n, rfl⟩ : ∃ k, n = k + 1 := ⟨n - 1, by omega⟩; obtain ⟨t, R, w⟩ := mk_args (n := n) e.as (by omega) hl; have w1 := fun s => (w s).1
 refine ⟨fun s => t fun k => subS (restS (restS (restS s))) 2 (2 * k + 1), fun s => R fun k => subS (restS (restS (restS s))) 2 (2 * k + 1), fun s => ⟨?_, (w _).2.1, fun hi => ?_⟩⟩
 · simp [gos_of FT_228 rfl, F228, w1]
 · exact ((past_0 hi).weak.weak.weak.call 2 (w _).2.2).fr
theorem mk_ins {n : Nat} (x : Ins) (hn : x.e.as.length + 5 ≤ n) (hl : x.e.as.length < 2 ^ 30) : MkIns n 321 [rowX x.row] x := by
 obtain ⟨n, rfl⟩ : ∃ k, n = k + 1 := ⟨n - 1, by omega⟩; obtain ⟨t, R, w⟩ := mk_el (n := n) x.e (by omega) hl; have w1 := fun s => (w s).1
 refine ⟨fun s => t fun k => subS (restS (restS (restS s))) 2 (2 * k + 1), fun s => R fun k => subS (restS (restS (restS s))) 2 (2 * k + 1), fun s => ⟨?_, (w _).2.1, fun hi => ?_⟩⟩
 · simp [gos_of FT_321 rfl, F321, Ins.row, w1]
 · exact ((past_0 hi).weak.weak.weak.call 2 (w _).2.2).fr
theorem insRows_all {p : List D → Prop} {l : List Ins} (h : ∀ a ∈ l, p a.row) : ∀ r ∈ insRows l, p r := by
 intro r hr; simp only [insRows, List.mem_map] at hr; obtain ⟨a, ha, rfl⟩ := hr; exact h a ha
theorem mk_list {n : Nat} (l : List Ins) (m : Nat) (ha : ∀ x ∈ l, x.e.as.length ≤ m) (hm : m < 2 ^ 30) (hn : l.length + m + 8 ≤ n) (hl : l.length < 2 ^ 30) : MakesL n 290 [.w (isW l)] (insRows l) := by
 obtain ⟨n, rfl⟩ : ∃ k, n = k + 1 := ⟨n - 1, by omega⟩; have := runS_toS (f := 290) (sz := 3) (bytes := 40) (zero := [iD 0, iD 0, .l 0 []]) (c := 321) (n := n) rfl rfl rfl rfl rfl 0 (fun r => r) (insRows l) (insRows_all fun a _ => rfl)
  (insRows_all fun a h => (mk_ins (n := n) a (by have := ha a h; omega) (by have := ha a h; omega)).makes) (by omega) (by simp [insRows]; omega) (by simp [insRows]; omega)
 rw [List.map_id'] at this; exact this
end Go.VM
