/- Coils: small facts about their operands. Conditions: none. -/
import Derived.Test.YtfpkfcfiihfopaaDoorXVQ2
import Derived.Test.YtfpkfcfiihfopaaDoorXVN1

namespace Go.VM
set_option linter.unusedSimpArgs false
set_option linter.unusedVariables false
set_option maxHeartbeats 8000000
end Go.VM

/- Ladders: arms, their normal form; in plain words. Conditions: none. -/
namespace Go.VM
set_option linter.unusedVariables false
set_option linter.unusedSimpArgs false
def Arm.net : Arm → Net | .mk n _ _ => n
def Arm.coils : Arm → List El | .mk _ c _ => c
def Arm.kids : Arm → List Arm | .mk _ _ ks => ks
mutual
def Arm.size : Arm → Nat
 | .mk n cs ks => 1 + cs.length + (if n.none then 0 else n.size) + armsSize ks
def armsSize : List Arm → Nat
 | [] => 0
 | a :: r => a.size + armsSize r
end
mutual
def Arm.wrong (rung : Bool) : Arm → Int
 | .mk n cs ks => if rung && n.none then 4 else if n.none = false ∧ n.wrong ≠ 0 then n.wrong else if cs.all El.coil = false then 3 else if cs.length = 0 ∧ ks.length = 0 then 5 else armsWrong ks
def armsWrong : List Arm → Int
 | [] => 0
 | a :: r => if a.wrong false ≠ 0 then a.wrong false else armsWrong r
end
def Net.join (a b : Net) : Net := if a.none then b else if b.none then a else Net.norm (.mk 2 0 [] [a, b])
def squeeze (n : Net) (cs : List El) : List Arm → Arm
 | [.mk kn kc kk] => if cs.length = 0 ∨ kn.none then squeeze (n.join kn) (cs ++ kc) kk else .mk n cs [.mk kn kc kk]
 | ks => .mk n cs ks
termination_by ks => armsWt ks
decreasing_by
 have := kn.wt_pos; simp [armsWt, Arm.wt]; omega
mutual
def Arm.norm : Arm → Arm
 | .mk n cs ks => squeeze (if n.none then n else n.norm) cs (armsNorm ks)
def armsNorm : List Arm → List Arm
 | [] => []
 | a :: r => a.norm :: armsNorm r
end
mutual
def Arm.wn : Arm → Bool
 | .mk n cs ks => (decide (n.kind = 0) || n.wn) && armsWn ks && (decide (ks.length ≠ 1) || (decide (0 < cs.length) && ks.all fun k => !decide (k.net.kind = 0)))
def armsWn : List Arm → Bool
 | [] => true
 | a :: r => a.wn && armsWn r
end
theorem Net.none_eq {n : Net} (h : n.none = true) : n = .mk 0 0 [] [] := by
 obtain ⟨k, op, as, ks⟩ := n; have h' : k = 0 ∧ op = 0 ∧ as = [] ∧ ks.length = 0 := of_decide_eq_true h; obtain ⟨rfl, rfl, rfl, h2⟩ := h'; rw [List.eq_nil_of_length_eq_zero h2]
theorem none_none : Net.none (.mk 0 0 [] []) = true := by simp [Net.none, Net.kind, Net.op, Net.as, Net.kids]
theorem right_kind {n : Net} (h : n.wrong = 0) : n.kind = 1 ∨ n.kind = 2 ∨ n.kind = 3 ∨ n.kind = 4 := by
 obtain ⟨k, op, as, ks⟩ := n
 by_cases hk : k = 1
 · exact .inl hk
 · have := (right_kids h hk).1
   simp only [Net.kind]; omega
theorem right_some {n : Net} (h : n.wrong = 0) : n.none = false := by
 have := right_kind h; simp only [Net.none, decide_eq_false_iff_not]; omega
def NetFine (n : Net) : Prop := n.none = true ∨ n.wrong = 0
theorem NetFine.kind {n : Net} (h : NetFine n) : (n.kind = 0 ↔ n.none = true) := by
 rcases h with h | h
 · rw [Net.none_eq h]; simp [Net.kind, none_none]
 · have := right_kind h
   rw [right_some h]; constructor
   · intro e; omega
   · intro e; simp at e
end Go.VM
