/- Lists of instructions out of ladders, in plain words: how many bits and forks they want. Conditions: none. -/
import Derived.Test.YtfpkfcfiihfopaaDoorXVN2
import Derived.Test.YtfpkfcfiihfopaaDoorXVZ1

namespace Go.VM
set_option linter.unusedVariables false
structure Ins where
 c : Int
 e : El
 deriving DecidableEq
abbrev Ins.bare (c : Int) : Ins := ⟨c, ⟨0, []⟩⟩
def Ins.row (i : Ins) : List D := [iD i.c, iD i.e.op, .l 0 (argRows i.e.as)]
def insRows (l : List Ins) : List (List D) := l.map Ins.row
mutual
def Net.begins : Net → List Ins
 | .mk k op as [] => [⟨1, ⟨op, as⟩⟩]
 | .mk k op as (x :: r) => x.begins ++ (if k = 4 then [Ins.bare 6] else netsTaken k r)
def netsTaken (k : Int) : List Net → List Ins
 | [] => []
 | x :: r => (if x.kind = 1 then [⟨k, ⟨x.op, x.as⟩⟩] else x.begins ++ [Ins.bare (k + 2)]) ++ netsTaken k r
end
def Net.taken (k : Int) (x : Net) : List Ins := if x.kind = 1 then [⟨k, ⟨x.op, x.as⟩⟩] else x.begins ++ [Ins.bare (k + 2)]
def Net.parts (n : Net) : List Net := if n.none then [] else if n.kind = 2 then n.kids else [n]
def sepI (n i : Nat) : List Ins := if n = 1 then [] else if i = 0 then [Ins.bare 7] else if i + 1 = n then [Ins.bare 9] else [Ins.bare 8]
def coilsI (l : List El) : List Ins := l.map fun e => ⟨10, e⟩
mutual
def Arm.tail : Arm → List Ins
 | .mk n cs ks => coilsI cs ++ armsTail ks.length 0 ks
def armsTail (n i : Nat) : List Arm → List Ins
 | [] => []
 | a :: r => sepI n i ++ netsTaken 2 a.net.parts ++ a.tail ++ armsTail n (i + 1) r
end
def Arm.plain (a : Arm) : List Ins := a.net.begins ++ a.tail ++ [Ins.bare 11]
mutual
def Net.bb : Net → Nat
 | .mk k op as [] => 1
 | .mk k op as (x :: r) => if k = 4 then x.bb else max x.bb (netsTb r)
def netsTb : List Net → Nat
 | [] => 0
 | x :: r => max (if x.kind = 1 then 1 else x.bb + 1) (netsTb r)
end
def Net.tb (x : Net) : Nat := if x.kind = 1 then 1 else x.bb + 1
mutual
def Arm.tb : Arm → Nat
 | .mk n cs ks => max 1 (armsTb ks)
def armsTb : List Arm → Nat
 | [] => 0
 | a :: r => max (max (netsTb a.net.parts) a.tb) (armsTb r)
end
mutual
def Arm.forks : Arm → Nat
 | .mk n cs ks => armsForks ks
def armsForks : List Arm → Nat
 | [] => 0
 | a :: r => max (if r.length = 0 then a.forks else a.forks + 1) (armsForks r)
end
def behind (s : Int × Int) (c : Int) : Int × Int :=
 if c = 1 then (s.1 + 1, s.2) else if c = 4 ∨ c = 5 ∨ c = 11 then (s.1 - 1, s.2) else if c = 7 then (s.1, s.2 + 1) else if c = 9 then (s.1, s.2 - 1) else s
def heights (s : Int × Int) : List Ins → List (Int × Int)
 | [] => []
 | i :: r => behind s i.c :: heights (behind s i.c) r
def lastH (s : Int × Int) (l : List Ins) : Int × Int := l.foldl (fun s i => behind s i.c) s
def topH (m : Int × Int) (l : List (Int × Int)) : Int × Int := l.foldl (fun m s => (max m.1 s.1, max m.2 s.2)) m
theorem heights_append (s : Int × Int) : ∀ a b : List Ins, heights s (a ++ b) = heights s a ++ heights (lastH s a) b
 | [], b => rfl
 | i :: r, b => by simp only [List.cons_append, heights, heights_append (behind s i.c) r b]; rfl
theorem lastH_append (s : Int × Int) (a b : List Ins) : lastH s (a ++ b) = lastH (lastH s a) b := by simp [lastH]
theorem topH_append (m : Int × Int) (a b : List (Int × Int)) : topH m (a ++ b) = topH (topH m a) b := by simp [topH]
def Runs (l : List Ins) (s t : Int × Int) (b f : Int) : Prop :=
 lastH s l = t ∧ s.1 ≤ b ∧ s.2 ≤ f ∧ t.1 ≤ b ∧ t.2 ≤ f ∧ ∀ m : Int × Int, s.1 ≤ m.1 → s.2 ≤ m.2 → topH m (heights s l) = (max m.1 b, max m.2 f)
theorem Runs.append {l l' : List Ins} {s t u : Int × Int} {b f b' f' : Int} (h : Runs l s t b f) (h' : Runs l' t u b' f') : Runs (l ++ l') s u (max b b') (max f f') := by
 obtain ⟨h1, h2, h3, h4, h5, h6⟩ := h; obtain ⟨k1, k2, k3, k4, k5, k6⟩ := h'; refine ⟨by rw [lastH_append, h1, k1], by omega, by omega, by omega, by omega, fun m m1 m2 => ?_⟩
 rw [heights_append, topH_append, h6 m m1 m2, h1, k6 _ (by simp only; omega) (by simp only; omega)]; simp only [Prod.mk.injEq]; omega
theorem Runs.nil (b f : Int) : Runs [] (b, f) (b, f) b f := by
 refine ⟨rfl, Int.le_refl _, Int.le_refl _, Int.le_refl _, Int.le_refl _, fun m m1 m2 => ?_⟩
 simp only at m1 m2; simp only [heights, topH, List.foldl_nil]; rw [Int.max_eq_left m1, Int.max_eq_left m2]
theorem Runs.one {i : Ins} {b f b' f' : Int} (h : behind (b, f) i.c = (b', f')) : Runs [i] (b, f) (b', f') (max b b') (max f f') := by
 refine ⟨by simpa [lastH] using h, by simp only; omega, by simp only; omega, by simp only; omega, by simp only; omega, fun m m1 m2 => ?_⟩
 simp only at m1 m2; simp only [heights, topH, h, List.foldl_cons, List.foldl_nil, Prod.mk.injEq]; omega
theorem Runs.weak {l : List Ins} {s t : Int × Int} {b f b' f' : Int} (h : Runs l s t b f) (h1 : b = b') (h2 : f = f') : Runs l s t b' f' := by subst h1 h2; exact h
def needsI (c : Int) : Int := if c = 1 then 0 else if c = 4 ∨ c = 5 then 2 else 1
def El.bareB (e : El) : Bool := decide (e.op = 0 ∧ e.as = [])
def Ins.ok (i : Ins) : Bool := if 1 ≤ i.c ∧ i.c ≤ 3 then i.e.contact else if i.c = 10 then i.e.coil else decide (4 ≤ i.c ∧ i.c ≤ 11) && i.e.bareB
structure CS where
 b : Int
 f : Int
 based : Bool
 coil : Bool
def CS.wrong (s : CS) (i : Ins) : Int :=
 if i.ok = false then 2 else if s.b < needsI i.c then 3 else if i.c = 1 ∧ 16 ≤ s.b then 4 else if 7 ≤ i.c ∧ 1 < s.b then 5
 else if s.based = true ∧ ((i.c = 3 ∨ i.c = 6) ∧ s.b = 1 ∨ i.c = 5 ∧ s.b = 2) then 6
 else if (i.c = 7 ∧ 8 ≤ s.f) ∨ ((i.c = 8 ∨ i.c = 9) ∧ s.f = 0) ∨ (i.c = 11 ∧ s.f ≠ 0) then 7
 else if (i.c = 8 ∨ i.c = 9 ∨ i.c = 11) ∧ s.coil = false then 8 else 0
def CS.next (s : CS) (i : Ins) : CS :=
 ⟨(behind (s.b, s.f) i.c).1, (behind (s.b, s.f) i.c).2, decide (i.c ≠ 11) && (s.based || decide (i.c = 10) || decide (i.c = 7)), decide (i.c = 10)⟩
def checkFrom (s : CS) (k : Nat) : List Ins → Int × Nat
 | [] => if s.b ≠ 0 then (9, k) else (0, 0)
 | i :: r => if s.wrong i ≠ 0 then (s.wrong i, k) else checkFrom (s.next i) (k + 1) r
def Pass (l : List Ins) (s t : CS) : Prop := ∀ (k : Nat) (r : List Ins), checkFrom s k (l ++ r) = checkFrom t (k + l.length) r
theorem Pass.nil (s : CS) : Pass [] s s := fun k r => rfl
theorem Pass.append {l l' : List Ins} {s t u : CS} (h : Pass l s t) (h' : Pass l' t u) : Pass (l ++ l') s u := fun k r => by
 rw [List.append_assoc, h, h', List.length_append, Nat.add_assoc]
theorem Pass.one {i : Ins} {s t : CS} (h : s.wrong i = 0) (ht : s.next i = t) : Pass [i] s t := fun k r => by
 show checkFrom s k (i :: r) = _
 rw [checkFrom, if_neg (by simp [h]), ht]
 rfl
set_option linter.unusedSimpArgs false
set_option maxHeartbeats 16000000
def OwnI (τ : Nat → V) (H : Nat → Box) (g t : Nat) (L : List Ins) (c : Option Nat) : Prop := ∃ b, 0 < b ∧ b < g ∧ τ t = .w (.own b 0 L.length c) ∧ H b = .row none 3 (insRows L) 0
theorem OwnI.mk {τ : Nat → V} {H : Nat → Box} {g t n b : Nat} {L : List Ins} {c : Option Nat} (h2 : τ t = .w (.own b 0 n c)) (h0 : 0 < b) (h1 : b < g) (hn : n = L.length) (h3 : H b = .row none 3 (insRows L) 0) : OwnI τ H g t L c :=
 ⟨b, h0, h1, by rw [h2, hn], h3⟩
@[simp] theorem elRows_nil : elRows [] = [] := rfl
@[simp] theorem argRows_nil : argRows [] = [] := rfl
@[simp] theorem netRows_nil : netRows [] = [] := by simp [netRows]
@[simp] theorem armRows_nil : armRows [] = [] := by simp [armRows]
theorem mx (a b : Nat) : (if (a : Int) < (b : Int) then (b : Int) else (a : Int)) = ((max a b : Nat) : Int) := by split <;> omega
def AccI (τ : Nat → V) (H : Nat → Box) (g t : Nat) (L : List Ins) (p q : Nat) : Prop := (L = [] ∧ τ t = .w .nil) ∨ ∃ b, b ≠ p ∧ b ≠ q ∧ b < g ∧ τ t = .w (.own b 0 L.length none) ∧ H b = .row none 3 (insRows L) 0
theorem AccI.keep {τ τ' : Nat → V} {H H' : Nat → Box} {g g' t p q : Nat} {L : List Ins} (h : AccI τ H g t L p q) (e : τ' t = τ t) (eH : H' = H) (hg : g ≤ g') : AccI τ' H' g' t L p q := by
 subst eH; rcases h with ⟨h1, h2⟩ | ⟨b, h2, h3, h4, h5, h6⟩
 · exact .inl ⟨h1, e.trans h2⟩
 · exact .inr ⟨b, h2, h3, by omega, e.trans h5, h6⟩
theorem AccI.mk {τ : Nat → V} {H : Nat → Box} {g t n b p q : Nat} {L : List Ins} (h2 : τ t = .w (.own b 0 n none)) (hp : b ≠ p) (hq : b ≠ q) (h1 : b < g) (hn : n = L.length) (h3 : H b = .row none 3 (insRows L) 0) : AccI τ H g t L p q :=
 .inr ⟨b, hp, hq, h1, by rw [h2, hn], h3⟩
def AccPost (st st' : St) (N : Nat) (A0 : Box) (q : Nat) (Q : Box) (L' : List Ins) : Prop := (∀ t, t < N → t ≠ 3 → t ≠ 9 → st'.τ t = st.τ t) ∧ st'.H 0 = A0 ∧ st'.H q = Q ∧ st.g ≤ st'.g ∧ AccI st'.τ st'.H st'.g 3 L' 0 q
theorem AccPost.refl {st : St} {N : Nat} {A0 : Box} {q : Nat} {Q : Box} {L : List Ins} (hA : st.H 0 = A0) (hQ : st.H q = Q) (h : AccI st.τ st.H st.g 3 L 0 q) : AccPost st st N A0 q Q L := ⟨fun _ _ _ _ => rfl, hA, hQ, Nat.le_refl _, h⟩
end Go.VM
