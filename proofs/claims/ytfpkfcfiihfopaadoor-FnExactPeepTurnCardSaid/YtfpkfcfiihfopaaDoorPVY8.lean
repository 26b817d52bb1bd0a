/- Lists of instructions out of ladders, in plain words: they pass the check exactly when they fit; they fall apart into rungs. Conditions: none. -/
import Derived.Test.YtfpkfcfiihfopaaDoorPVW0
import Derived.Test.YtfpkfcfiihfopaaDoorPVZ1

namespace Go.VM
set_option linter.unusedVariables false
def needsI (c : Int) : Int := if c = 1 then 0 else if c = 4 ∨ c = 5 then 2 else 1
def El.bareB (e : El) : Bool := decide (e.op = 0 ∧ e.as = [])
def Ins.ok (i : Ins) : Bool := if 1 ≤ i.c ∧ i.c ≤ 3 then i.e.contact else if i.c = 10 then i.e.coil else decide (4 ≤ i.c ∧ i.c ≤ 11) && i.e.bareB
structure CS where
 b : Int
 f : Int
 based : Bool
 coil : Bool
def CS.wrong (s : CS) (i : Ins) : Int :=
 if i.ok = false then 2 else if s.b < needsI i.c then 3 else if i.c = 1 ∧ 16 ≤ s.b then 4 else if 7 ≤ i.c ∧ 1 < s.b then 5
 else if s.based = true ∧ ((i.c = 3 ∨ i.c = 6) ∧ s.b = 1 ∨ i.c = 5 ∧ s.b = 2) then 6
 else if (i.c = 7 ∧ 8 ≤ s.f) ∨ ((i.c = 8 ∨ i.c = 9) ∧ s.f = 0) ∨ (i.c = 11 ∧ s.f ≠ 0) then 7
 else if (i.c = 8 ∨ i.c = 9 ∨ i.c = 11) ∧ s.coil = false then 8 else 0
def CS.next (s : CS) (i : Ins) : CS :=
 ⟨(behind (s.b, s.f) i.c).1, (behind (s.b, s.f) i.c).2, decide (i.c ≠ 11) && (s.based || decide (i.c = 10) || decide (i.c = 7)), decide (i.c = 10)⟩
def checkFrom (s : CS) (k : Nat) : List Ins → Int × Nat
 | [] => if s.b ≠ 0 then (9, k) else (0, 0)
 | i :: r => if s.wrong i ≠ 0 then (s.wrong i, k) else checkFrom (s.next i) (k + 1) r
def Pass (l : List Ins) (s t : CS) : Prop := ∀ (k : Nat) (r : List Ins), checkFrom s k (l ++ r) = checkFrom t (k + l.length) r
theorem Pass.nil (s : CS) : Pass [] s s := fun k r => rfl
theorem Pass.append {l l' : List Ins} {s t u : CS} (h : Pass l s t) (h' : Pass l' t u) : Pass (l ++ l') s u := fun k r => by
 rw [List.append_assoc, h, h', List.length_append, Nat.add_assoc]
theorem Pass.one {i : Ins} {s t : CS} (h : s.wrong i = 0) (ht : s.next i = t) : Pass [i] s t := fun k r => by
 show checkFrom s k (i :: r) = _
 rw [checkFrom, if_neg (by simp [h]), ht]
 rfl
set_option linter.unusedSimpArgs false
set_option maxHeartbeats 16000000
def OwnI (τ : Nat → V) (H : Nat → Box) (g t : Nat) (L : List Ins) (c : Option Nat) : Prop := ∃ b, 0 < b ∧ b < g ∧ τ t = .w (.own b 0 L.length c) ∧ H b = .row none 3 (insRows L) 0
theorem OwnI.mk {τ : Nat → V} {H : Nat → Box} {g t n b : Nat} {L : List Ins} {c : Option Nat} (h2 : τ t = .w (.own b 0 n c)) (h0 : 0 < b) (h1 : b < g) (hn : n = L.length) (h3 : H b = .row none 3 (insRows L) 0) : OwnI τ H g t L c :=
 ⟨b, h0, h1, by rw [h2, hn], h3⟩
@[simp] theorem elRows_nil : elRows [] = [] := rfl
@[simp] theorem argRows_nil : argRows [] = [] := rfl
@[simp] theorem netRows_nil : netRows [] = [] := by simp [netRows]
@[simp] theorem armRows_nil : armRows [] = [] := by simp [armRows]
theorem mx (a b : Nat) : (if (a : Int) < (b : Int) then (b : Int) else (a : Int)) = ((max a b : Nat) : Int) := by split <;> omega
def AccI (τ : Nat → V) (H : Nat → Box) (g t : Nat) (L : List Ins) (p q : Nat) : Prop := (L = [] ∧ τ t = .w .nil) ∨ ∃ b, b ≠ p ∧ b ≠ q ∧ b < g ∧ τ t = .w (.own b 0 L.length none) ∧ H b = .row none 3 (insRows L) 0
theorem AccI.keep {τ τ' : Nat → V} {H H' : Nat → Box} {g g' t p q : Nat} {L : List Ins} (h : AccI τ H g t L p q) (e : τ' t = τ t) (eH : H' = H) (hg : g ≤ g') : AccI τ' H' g' t L p q := by
 subst eH; rcases h with ⟨h1, h2⟩ | ⟨b, h2, h3, h4, h5, h6⟩
 · exact .inl ⟨h1, e.trans h2⟩
 · exact .inr ⟨b, h2, h3, by omega, e.trans h5, h6⟩
theorem AccI.mk {τ : Nat → V} {H : Nat → Box} {g t n b p q : Nat} {L : List Ins} (h2 : τ t = .w (.own b 0 n none)) (hp : b ≠ p) (hq : b ≠ q) (h1 : b < g) (hn : n = L.length) (h3 : H b = .row none 3 (insRows L) 0) : AccI τ H g t L p q :=
 .inr ⟨b, hp, hq, h1, by rw [h2, hn], h3⟩
def AccPost (st st' : St) (N : Nat) (A0 : Box) (q : Nat) (Q : Box) (L' : List Ins) : Prop := (∀ t, t < N → t ≠ 3 → t ≠ 9 → st'.τ t = st.τ t) ∧ st'.H 0 = A0 ∧ st'.H q = Q ∧ st.g ≤ st'.g ∧ AccI st'.τ st'.H st'.g 3 L' 0 q
theorem AccPost.refl {st : St} {N : Nat} {A0 : Box} {q : Nat} {Q : Box} {L : List Ins} (hA : st.H 0 = A0) (hQ : st.H q = Q) (h : AccI st.τ st.H st.g 3 L 0 q) : AccPost st st N A0 q Q L := ⟨fun _ _ _ _ => rfl, hA, hQ, Nat.le_refl _, h⟩
end Go.VM
