/- Coils: small facts about their operands. Conditions: none. -/
import Derived.Test.YtfpkfcfiihfopaaDoorPVQ2
import Derived.Test.YtfpkfcfiihfopaaDoorPVN1

namespace Go.VM
set_option linter.unusedSimpArgs false
set_option linter.unusedVariables false
set_option maxHeartbeats 8000000
end Go.VM

/- Ladders: arms, their normal form; in plain words. Conditions: none. -/
namespace Go.VM
set_option linter.unusedVariables false
set_option linter.unusedSimpArgs false
def Arm.net : Arm → Net | .mk n _ _ => n
def Arm.coils : Arm → List El | .mk _ c _ => c
def Arm.kids : Arm → List Arm | .mk _ _ ks => ks
mutual
def Arm.size : Arm → Nat
 | .mk n cs ks => 1 + cs.length + (if n.none then 0 else n.size) + armsSize ks
def armsSize : List Arm → Nat
 | [] => 0
 | a :: r => a.size + armsSize r
end
mutual
def Arm.wrong (rung : Bool) : Arm → Int
 | .mk n cs ks => if rung && n.none then 4 else if n.none = false ∧ n.wrong ≠ 0 then n.wrong else if cs.all El.coil = false then 3 else if cs.length = 0 ∧ ks.length = 0 then 5 else armsWrong ks
def armsWrong : List Arm → Int
 | [] => 0
 | a :: r => if a.wrong false ≠ 0 then a.wrong false else armsWrong r
end
theorem Net.none_eq {n : Net} (h : n.none = true) : n = .mk 0 0 [] [] := by
 obtain ⟨k, op, as, ks⟩ := n; have h' : k = 0 ∧ op = 0 ∧ as = [] ∧ ks.length = 0 := of_decide_eq_true h; obtain ⟨rfl, rfl, rfl, h2⟩ := h'; rw [List.eq_nil_of_length_eq_zero h2]
theorem none_none : Net.none (.mk 0 0 [] []) = true := by simp [Net.none, Net.kind, Net.op, Net.as, Net.kids]
theorem right_kind {n : Net} (h : n.wrong = 0) : n.kind = 1 ∨ n.kind = 2 ∨ n.kind = 3 ∨ n.kind = 4 := by
 obtain ⟨k, op, as, ks⟩ := n
 by_cases hk : k = 1
 · exact .inl hk
 · have := (right_kids h hk).1
   simp only [Net.kind]; omega
theorem right_some {n : Net} (h : n.wrong = 0) : n.none = false := by
 have := right_kind h; simp only [Net.none, decide_eq_false_iff_not]; omega
def NetFine (n : Net) : Prop := n.none = true ∨ n.wrong = 0
theorem NetFine.kind {n : Net} (h : NetFine n) : (n.kind = 0 ↔ n.none = true) := by
 rcases h with h | h
 · rw [Net.none_eq h]; simp [Net.kind, none_none]
 · have := right_kind h
   rw [right_some h]; constructor
   · intro e; omega
   · intro e; simp at e
set_option maxHeartbeats 8000000
abbrev asW (l : List Arg) : W := .d (.l 0 (argRows l))
abbrev bV (b : Bool) : V := .w (.d (.s (.bool b)))
theorem all_len3 (l : List Arg) : (argRows l).all (fun r => r.length == 3) = true := by simp [argRows, Arg.row]
@[simp] theorem take_netRows (l : List Net) : List.take l.length (netRows l) = netRows l := by rw [← netRows_length l, List.take_length]
@[simp] theorem take_armRows (l : List Arm) : List.take l.length (armRows l) = armRows l := by rw [← armRows_length l, List.take_length]
@[simp] theorem take_elRows (l : List El) : List.take l.length (elRows l) = elRows l := by rw [← elRows_length l, List.take_length]
@[simp] theorem take_argRows (l : List Arg) : List.take l.length (argRows l) = argRows l := by rw [← argRows_length l, List.take_length]
theorem room_of {n b : Nat} (h : n < 2 ^ 30) (hb : b ≤ 128) : room n b = true := by
 simp only [room, Bool.and_eq_true, decide_eq_true_eq]; exact ⟨Nat.le_trans (Nat.mul_le_mul (Nat.le_of_lt h) hb) (by decide), by omega⟩
theorem run_cloneA {n : Nat} (hn : 3 ≤ n) (l : List Arg) (hl : l.length < 2 ^ 30) (s : Sup) :
 go n 186 [.w (asW l)] [] s = some ⟨.w (.own 0 0 l.length (some l.length)), [], [.row none 3 (argRows l) 0]⟩ := by
 obtain ⟨n, rfl⟩ : ∃ k, n = k + 2 := ⟨n - 2, by omega⟩; have hr : room l.length 24 = true := room_of hl (by omega); have C : ∀ s, go (n + 1) 197 [.w (asW l)] [] s = some ⟨.w (.own 0 0 l.length none), [], [.row none 3 (argRows l) 0]⟩ := fun s => by
  rw [go_orc rfl, show ans 197 [.w (asW l)] = (if ((argRows l).all (fun r => r.length == 3) && room (argRows l).length 24) = true then some ⟨.w (.own 0 0 (argRows l).length none), [], [.row none 3 (argRows l) 0]⟩ else none) from rfl]; rw [all_len3 l, argRows_length, hr]; rfl
 have D : ∀ s, go (n + 1) 198 [.w (.own 0 0 l.length none)] [.row none 3 (argRows l) 0] s = some ⟨.w (.own 0 0 l.length (some l.length)), [.row none 3 (argRows l) 0], []⟩ := fun s => by
  simp [go_of FT_198 rfl, F198]
 simp [go_of FT_186 rfl, F186, C, D]
theorem fill_get {R : List (List D)} {i k : Nat} (h : R.length = i) (z : List D) : (R ++ List.replicate (k + 1) z)[i]? = some z := by
 rw [List.getElem?_append_right (by omega), h, Nat.sub_self]; rfl
theorem fill_set {R : List (List D)} {i k : Nat} (h : R.length = i) (z x : List D) : (R ++ List.replicate (k + 1) z).set i x = (R ++ [x]) ++ List.replicate k z := by
 rw [List.set_append_right _ _ (by omega), h, Nat.sub_self, List.append_assoc]; rfl
theorem far {b g : Nat} (h : b < g) : ((b = g) = False) ∧
 ((g = b) = False) ∧
 ((g ≤ b) = False) ∧
 (∀ x : Nat, (b = g + x) = False) ∧
 (∀ x : Nat, (g + x = b) = False) ∧
 (∀ x : Nat, (g + x ≤ b) = False) ∧
 (∀ x y : Nat, (b = g + x + y) = False) ∧
 (∀ x y : Nat, (g + x + y = b) = False) ∧
 (∀ x y : Nat, (g + x + y ≤ b) = False) ∧
 (∀ x y z : Nat, (b = g + x + y + z) = False) ∧
 (∀ x y z : Nat, (g + x + y + z = b) = False) ∧
 (∀ x y z : Nat, (g + x + y + z ≤ b) = False) ∧
 (∀ x y z u : Nat, (b = g + x + y + z + u) = False) ∧
 (∀ x y z u : Nat, (g + x + y + z + u = b) = False) ∧
 (∀ x y z u : Nat, (g + x + y + z + u ≤ b) = False) ∧
 (∀ x y z u v : Nat, (b = g + x + y + z + u + v) = False) ∧
 (∀ x y z u v : Nat, (g + x + y + z + u + v = b) = False) ∧
 (∀ x y z u v : Nat, (g + x + y + z + u + v ≤ b) = False) ∧
 (∀ x y z u v w : Nat, (b = g + x + y + z + u + v + w) = False) ∧
 (∀ x y z u v w : Nat, (g + x + y + z + u + v + w = b) = False) ∧
 (∀ x y z u v w : Nat, (g + x + y + z + u + v + w ≤ b) = False) ∧
 (∀ m : Nat, m ≤ b → (m < g) = True) ∧
 (∀ m : Nat, m ≤ b → (g ≤ m) = False) ∧
 (∀ m : Nat, m ≤ b → (g = m) = False) :=
 ⟨eq_false (by omega),
  eq_false (by omega),
  eq_false (by omega),
  fun x => eq_false (by omega),
  fun x => eq_false (by omega),
  fun x => eq_false (by omega),
  fun x y => eq_false (by omega),
  fun x y => eq_false (by omega),
  fun x y => eq_false (by omega),
  fun x y z => eq_false (by omega),
  fun x y z => eq_false (by omega),
  fun x y z => eq_false (by omega),
  fun x y z u => eq_false (by omega),
  fun x y z u => eq_false (by omega),
  fun x y z u => eq_false (by omega),
  fun x y z u v => eq_false (by omega),
  fun x y z u v => eq_false (by omega),
  fun x y z u v => eq_false (by omega),
  fun x y z u v w => eq_false (by omega),
  fun x y z u v w => eq_false (by omega),
  fun x y z u v w => eq_false (by omega),
  fun m h => eq_true (by omega),
  fun m h => eq_false (by omega),
  fun m h => eq_false (by omega)⟩
set_option maxHeartbeats 16000000
end Go.VM
