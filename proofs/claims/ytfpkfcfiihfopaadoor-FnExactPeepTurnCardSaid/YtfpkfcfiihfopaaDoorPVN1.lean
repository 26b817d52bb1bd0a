/- The stamped machine of the seat: which functions put stamps on what they make. Conditions: none. -/
import Derived.Test.YtfpkfcfiihfopaaDoorPVM31
import Derived.Test.YtfpkfcfiihfopaaDoorPVM50
import Derived.Test.YtfpkfcfiihfopaaDoorPVT1

namespace Go.VM
def stP : List Nat := [237, 228, 229, 221, 252, 249, 245, 290, 321, 163, 147, 139, 125, 330, 120, 306]
def stH : List Nat := [273, 297, 271, 298, 285, 105, 108, 279, 335, 287, 375]
def isS (f : Nat) : Bool := stP.contains f || stH.contains f
def modeT (f : Nat) : Mode := { stamp := stP.contains f, inout := inouts.contains f }
def goS (n : Nat) : CallT := runS FT isS go modeT GT n
theorem gos_of {f : Nat} {F : Fn} (hF : FT f = some F) (hs : isS f = true := by rfl) {n : Nat} {args : List V} {bs : List Box} {s : Sup} : goS (n + 1) f args bs s = runF (goS n) modeT GT n f F args bs s := by
 unfold goS; simp only [runS, hF, hs, if_true]
theorem gos_go {f : Nat} (hs : isS f = false) {n : Nat} : goS n f = go n f := by
 funext args bs s
 unfold goS; cases n <;> simp only [runS, hs, Bool.false_eq_true, if_false]
attribute [simp] modeT stP
end Go.VM

/- Ladders: which operands, contacts, coils, nets and arms are right, and their normal form; in plain words. Conditions: none. -/
namespace Go.VM
set_option linter.unusedVariables false
set_option linter.unusedSimpArgs false
def devSize (k : Int) : Int :=
 if k = 1 then 32 else if k = 2 then 32 else if k = 3 then 64 else if k = 4 then 16 else if k = 5 then 32 else if k = 6 then 5 else if k = 7 then 16 else if k = 8 then 16 else if k = 9 then 32 else if k = 10 then 16 else 0
def Arg.ok (a : Arg) : Bool :=
 if a.k = 11 then decide (-32768 ≤ a.n ∧ a.n ≤ 32767 ∧ a.p = 0)
 else if a.k = 12 then decide (-999999999 ≤ a.n ∧ a.n ≤ 999999999 ∧ 1 ≤ a.p ∧ a.p ≤ 6 ∧ (a.p = 1 ∨ a.n.tmod 10 ≠ 0))
 else if a.k = 13 then decide (0 ≤ a.n ∧ a.n ≤ 3 ∧ a.p = 0)
 else decide (0 ≤ a.n ∧ a.n < devSize a.k ∧ a.p = 0)
def Arg.isK (a : Arg) (l : List Int) : Bool := a.ok && l.contains a.k
def Arg.bit (a : Arg) : Bool := a.isK [1, 2, 3, 4, 6, 7, 8]
def Arg.whole (a : Arg) : Bool := a.isK [7, 8, 9, 11]
def Arg.real (a : Arg) : Bool := a.isK [10, 12, 13]
def arity (op : Int) : Int :=
 if op = 1 ∨ op = 2 ∨ (21 ≤ op ∧ op ≤ 23) ∨ op = 25 then 1 else if 31 ≤ op ∧ op ≤ 35 then 3 else if (3 ≤ op ∧ op ≤ 10) ∨ (24 ≤ op ∧ op ≤ 37) then 2 else 0
def El.contact (e : El) : Bool := match e.as with
 | [a] => decide (e.op = 1 ∨ e.op = 2) && a.bit
 | [a, b] => if e.op = 3 ∨ e.op = 4 then a.bit && b.isK [5] else decide (5 ≤ e.op ∧ e.op ≤ 10) && (a.whole && b.whole || a.real && b.real)
 | _ => false
def Arg.preset (b : Arg) : Bool := b.isK [11] && decide (0 ≤ b.n)
def El.coil (e : El) : Bool := match e.as with
 | [a] => if e.op = 21 then a.isK [2, 3] else if e.op = 22 then a.isK [2, 3, 4] else if e.op = 23 then a.isK [2, 3, 4, 7, 8] else if e.op = 25 then a.isK [4] else false
 | [a, b] => if e.op = 24 then a.isK [2, 3] && b.isK [5] else if 26 ≤ e.op ∧ e.op ≤ 28 then a.isK [7] && b.preset else if e.op = 29 then a.isK [8] && b.preset
  else if e.op = 30 then a.isK [9] && b.whole || a.isK [10] && b.real else if e.op = 36 then a.isK [10] && b.whole else if e.op = 37 then a.isK [9] && b.real else false
 | [a, b, c] => if 31 ≤ e.op ∧ e.op ≤ 34 then a.isK [9] && (b.whole && c.whole) || a.isK [10] && (b.real && c.real) else if e.op = 35 then a.isK [9] && (b.whole && c.whole) else false
 | _ => false
def Net.kind : Net → Int | .mk k _ _ _ => k
def Net.op : Net → Int | .mk _ o _ _ => o
def Net.as : Net → List Arg | .mk _ _ a _ => a
def Net.kids : Net → List Net | .mk _ _ _ ks => ks
mutual
def Net.size : Net → Nat
 | .mk _ _ _ ks => 1 + netsSize ks
def netsSize : List Net → Nat
 | [] => 0
 | n :: r => n.size + netsSize r
end
def Net.none (n : Net) : Bool := decide (n.kind = 0 ∧ n.op = 0 ∧ n.as = [] ∧ n.kids.length = 0)
mutual
def Net.wrong : Net → Int
 | .mk k op as ks => if k = 1 then (if 0 < ks.length then 2 else if El.contact ⟨op, as⟩ then 0 else 3)
  else if ¬ (2 ≤ k ∧ k ≤ 4) ∨ ¬ (op = 0 ∧ as = []) ∨ ks.length = 0 ∨ (k = 4 ∧ 1 < ks.length) then 2 else netsWrong ks
def netsWrong : List Net → Int
 | [] => 0
 | n :: r => if n.wrong ≠ 0 then n.wrong else netsWrong r
end
theorem netsWrong_mem : ∀ {l : List Net}, netsWrong l = 0 → ∀ n ∈ l, n.wrong = 0
 | [], h, n, hn => by cases hn
 | m :: r, h, n, hn => by
  unfold netsWrong at h; split at h
  · rename_i hne; exact absurd h hne
  · rename_i hz
    rcases List.mem_cons.1 hn with rfl | hn
    · simpa using hz
    · exact netsWrong_mem h n hn
def Net.open (k : Int) (x : Net) : List Net := if x.kind = k then x.kids else [x]
/- As a normal form is. -/
theorem right_kids {k op : Int} {as : List Arg} {ks : List Net} (h : Net.wrong (.mk k op as ks) = 0) (hk : k ≠ 1) :
 (k = 2 ∨ k = 3 ∨ k = 4) ∧ op = 0 ∧ as = [] ∧ ks ≠ [] ∧ (k = 4 → ks.length = 1) ∧ ∀ n ∈ ks, n.wrong = 0 := by
 unfold Net.wrong at h; rw [if_neg hk] at h; split at h
 · simp at h
 · rename_i hc
   simp only [not_or, Decidable.not_not] at hc; obtain ⟨h1, h2, h3, h4⟩ := hc; refine ⟨by omega, h2.1, h2.2, fun e => h3 (by simp [e]), fun e => ?_, netsWrong_mem h⟩
   have : ¬ 1 < ks.length := fun hl => h4 ⟨e, hl⟩
   omega
/- What is right stays right in its normal form, which is as a normal form is, and not larger. -/
/- What is right and as a normal form is, is its own normal form. -/
end Go.VM
