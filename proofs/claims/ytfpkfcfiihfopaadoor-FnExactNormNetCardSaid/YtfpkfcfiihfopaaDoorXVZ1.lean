/- Arms, reckoned: how large a ladder is, whether it is right; what the program and what the document says. Conditions: none. -/
import Derived.Test.YtfpkfcfiihfopaaDoorXVQ5

namespace Go.VM
set_option linter.unusedSimpArgs false
set_option linter.unusedVariables false
set_option maxHeartbeats 8000000
end Go.VM

/- Arms and ladders, reckoned: whether they are right; what the program and what the document says. Conditions: none. -/
namespace Go.VM
set_option linter.unusedSimpArgs false
set_option linter.unusedVariables false
set_option maxHeartbeats 8000000
abbrev bV (b : Bool) : V := .w (.d (.s (.bool b)))
mutual
theorem Arm.wrong_or (b : Bool) : ∀ a : Arm, a.wrong b = 0 ∨ a.wrong b = 2 ∨ a.wrong b = 3 ∨ a.wrong b = 4 ∨ a.wrong b = 5
 | .mk n cs ks => by
  have h1 := n.wrong_or; have h2 := armsWrong_or ks; unfold Arm.wrong; split
  · simp
  · split
    · omega
    · split
      · simp
      · split
        · simp
        · exact h2
theorem armsWrong_or : ∀ l : List Arm, armsWrong l = 0 ∨ armsWrong l = 2 ∨ armsWrong l = 3 ∨ armsWrong l = 4 ∨ armsWrong l = 5
 | [] => by simp [armsWrong]
 | a :: r => by
  have h1 := a.wrong_or false; have h2 := armsWrong_or r; unfold armsWrong; split
  · exact h1
  · exact h2
end
theorem netRow_len (t : Net) : t.row.length = 4 := by cases t; simp [Net.row]
theorem all_len3 (l : List Arg) : (argRows l).all (fun r => r.length == 3) = true := by simp [argRows, Arg.row]
@[simp] theorem take_netRows (l : List Net) : List.take l.length (netRows l) = netRows l := by rw [← netRows_length l, List.take_length]
@[simp] theorem take_armRows (l : List Arm) : List.take l.length (armRows l) = armRows l := by rw [← armRows_length l, List.take_length]
@[simp] theorem take_elRows (l : List El) : List.take l.length (elRows l) = elRows l := by rw [← elRows_length l, List.take_length]
@[simp] theorem take_argRows (l : List Arg) : List.take l.length (argRows l) = argRows l := by rw [← argRows_length l, List.take_length]
theorem netRows_append : ∀ l m : List Net, netRows (l ++ m) = netRows l ++ netRows m
 | [], m => by simp [netRows]
 | a :: r, m => by simp [netRows, netRows_append r m]
theorem room_of {n b : Nat} (h : n < 2 ^ 30) (hb : b ≤ 128) : room n b = true := by
 simp only [room, Bool.and_eq_true, decide_eq_true_eq]; exact ⟨Nat.le_trans (Nat.mul_le_mul (Nat.le_of_lt h) hb) (by decide), by omega⟩
theorem run_cloneA {n : Nat} (hn : 3 ≤ n) (l : List Arg) (hl : l.length < 2 ^ 30) (s : Sup) :
 go n 186 [.w (asW l)] [] s = some ⟨.w (.own 0 0 l.length (some l.length)), [], [.row none 3 (argRows l) 0]⟩ := by
 obtain ⟨n, rfl⟩ : ∃ k, n = k + 2 := ⟨n - 2, by omega⟩; have hr : room l.length 24 = true := room_of hl (by omega); have C : ∀ s, go (n + 1) 197 [.w (asW l)] [] s = some ⟨.w (.own 0 0 l.length none), [], [.row none 3 (argRows l) 0]⟩ := fun s => by
  rw [go_orc rfl, show ans 197 [.w (asW l)] = (if ((argRows l).all (fun r => r.length == 3) && room (argRows l).length 24) = true then some ⟨.w (.own 0 0 (argRows l).length none), [], [.row none 3 (argRows l) 0]⟩ else none) from rfl]; rw [all_len3 l, argRows_length, hr]; rfl
 have D : ∀ s, go (n + 1) 198 [.w (.own 0 0 l.length none)] [.row none 3 (argRows l) 0] s = some ⟨.w (.own 0 0 l.length (some l.length)), [.row none 3 (argRows l) 0], []⟩ := fun s => by
  simp [go_of FT_198 rfl, F198]
 simp [go_of FT_186 rfl, F186, C, D]
theorem fill_get {R : List (List D)} {i k : Nat} (h : R.length = i) (z : List D) : (R ++ List.replicate (k + 1) z)[i]? = some z := by
 rw [List.getElem?_append_right (by omega), h, Nat.sub_self]; rfl
theorem fill_set {R : List (List D)} {i k : Nat} (h : R.length = i) (z x : List D) : (R ++ List.replicate (k + 1) z).set i x = (R ++ [x]) ++ List.replicate k z := by
 rw [List.set_append_right _ _ (by omega), h, Nat.sub_self, List.append_assoc]; rfl
theorem netRows_take {l : List Net} {i : Nat} {x : Net} (h : l[i]? = some x) : netRows (l.take i) ++ [x.row] = netRows (l.take (i + 1)) := by
 rw [List.take_add_one, h]; simp [netRows_append, netRows]
theorem far {b g : Nat} (h : b < g) : ((b = g) = False) ∧
 ((g = b) = False) ∧
 ((g ≤ b) = False) ∧
 (∀ x : Nat, (b = g + x) = False) ∧
 (∀ x : Nat, (g + x = b) = False) ∧
 (∀ x : Nat, (g + x ≤ b) = False) ∧
 (∀ x y : Nat, (b = g + x + y) = False) ∧
 (∀ x y : Nat, (g + x + y = b) = False) ∧
 (∀ x y : Nat, (g + x + y ≤ b) = False) ∧
 (∀ x y z : Nat, (b = g + x + y + z) = False) ∧
 (∀ x y z : Nat, (g + x + y + z = b) = False) ∧
 (∀ x y z : Nat, (g + x + y + z ≤ b) = False) ∧
 (∀ x y z u : Nat, (b = g + x + y + z + u) = False) ∧
 (∀ x y z u : Nat, (g + x + y + z + u = b) = False) ∧
 (∀ x y z u : Nat, (g + x + y + z + u ≤ b) = False) ∧
 (∀ x y z u v : Nat, (b = g + x + y + z + u + v) = False) ∧
 (∀ x y z u v : Nat, (g + x + y + z + u + v = b) = False) ∧
 (∀ x y z u v : Nat, (g + x + y + z + u + v ≤ b) = False) ∧
 (∀ x y z u v w : Nat, (b = g + x + y + z + u + v + w) = False) ∧
 (∀ x y z u v w : Nat, (g + x + y + z + u + v + w = b) = False) ∧
 (∀ x y z u v w : Nat, (g + x + y + z + u + v + w ≤ b) = False) ∧
 (∀ m : Nat, m ≤ b → (m < g) = True) ∧
 (∀ m : Nat, m ≤ b → (g ≤ m) = False) ∧
 (∀ m : Nat, m ≤ b → (g = m) = False) :=
 ⟨eq_false (by omega),
  eq_false (by omega),
  eq_false (by omega),
  fun x => eq_false (by omega),
  fun x => eq_false (by omega),
  fun x => eq_false (by omega),
  fun x y => eq_false (by omega),
  fun x y => eq_false (by omega),
  fun x y => eq_false (by omega),
  fun x y z => eq_false (by omega),
  fun x y z => eq_false (by omega),
  fun x y z => eq_false (by omega),
  fun x y z u => eq_false (by omega),
  fun x y z u => eq_false (by omega),
  fun x y z u => eq_false (by omega),
  fun x y z u v => eq_false (by omega),
  fun x y z u v => eq_false (by omega),
  fun x y z u v => eq_false (by omega),
  fun x y z u v w => eq_false (by omega),
  fun x y z u v w => eq_false (by omega),
  fun x y z u v w => eq_false (by omega),
  fun m h => eq_true (by omega),
  fun m h => eq_false (by omega),
  fun m h => eq_false (by omega)⟩
def accN (k : Int) (l : List Net) (i : Nat) : List Net := (netsNorm (l.take i)).flatMap (Net.open k)
theorem accN_step {k : Int} {l : List Net} {i : Nat} {x : Net} (h : l[i]? = some x) : accN k l (i + 1) = accN k l i ++ Net.open k x.norm := by
 unfold accN; rw [List.take_add_one, h]; simp [netsNorm_map]
theorem accN_wt {k : Int} {l : List Net} (hr : ∀ x ∈ l, x.wrong = 0) (i : Nat) : netsWt (accN k l i) ≤ netsWt l := by
 have h1 := netsWt_flat_le (k := k) (netsNorm (l.take i)); have h2 := (norms_ok (l.take i) fun x hx => hr x (List.mem_of_mem_take hx)).2.2; have h3 := netsWt_append (l.take i) (l.drop i); rw [List.take_append_drop] at h3; unfold accN; omega
theorem len_of4 (l : List Net) : ∀ x ∈ netRows l, x.length = 4 := fun x hx => by
 rw [netRows_map] at hx; obtain ⟨a, _, rfl⟩ := List.mem_map.1 hx; exact netRow_len a
theorem flat_ne {k : Int} (hk : k ≠ 1) {l : List Net} (hr : ∀ x ∈ l, x.wrong = 0) (hne : l ≠ []) : (netsNorm l).flatMap (Net.open k) ≠ [] := by
 intro e0; obtain ⟨y, hy⟩ : ∃ y, y ∈ netsNorm l := by
  cases l with
  | nil => exact absurd rfl hne
  | cons a r => exact ⟨a.norm, by simp [netsNorm]⟩
 have hy' := List.flatMap_eq_nil_iff.1 e0 y hy; unfold Net.open at hy'; split at hy'
 · rename_i hyk
   obtain ⟨yk, yo, ya, yks⟩ := y; simp only [Net.kind] at hyk; subst hyk; exact (right_kids ((norms_ok l hr).1 _ hy).1 hk).2.2.2.1 hy'
 · cases hy'
set_option maxHeartbeats 16000000
end Go.VM
