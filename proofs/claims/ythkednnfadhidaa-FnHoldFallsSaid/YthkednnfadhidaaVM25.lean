/- The value machine: the functions of a seat under names of their own. Conditions: none. -/
import Derived.Test.YthkednnfadhidaaVM24
namespace Go.VM

def cidOf (l : List (Nat × Nat)) (f : FuncId) : Nat := match l.lookup f with | some c => c | none => f + 100000
def fidOf (l : List (Nat × Nat)) (c : Nat) : FuncId := match l.find? (fun p => p.2 == c) with | some p => p.1 | none => c - 100000
def cidGood (l : List (Nat × Nat)) : Bool := l.all fun p => fidOf l p.2 == p.1 && decide (p.2 < 100000)

theorem lookup_mem : ∀ {l : List (Nat × Nat)} {f c : Nat}, l.lookup f = some c → (f, c) ∈ l
  | [], f, c, h => by simp at h
  | (a, b) :: l, f, c, h => by
    simp only [List.lookup_cons] at h
    split at h
    · rename_i e; simp at e; cases h; simp [e]
    · exact List.mem_cons_of_mem _ (lookup_mem h)

theorem fid_cid {l : List (Nat × Nat)} (h : cidGood l = true) (f : FuncId) : fidOf l (cidOf l f) = f := by
  simp only [cidGood, List.all_eq_true, Bool.and_eq_true, beq_iff_eq, decide_eq_true_eq] at h
  unfold cidOf
  split
  · rename_i c hc
    exact (h _ (lookup_mem hc)).1
  · unfold fidOf
    split
    · rename_i p hp
      have h1 := List.find?_some hp
      have h2 := List.mem_of_find?_eq_some hp
      simp at h1
      have := (h p h2).2
      omega
    · simp

/-- The functions as the seat has them. -/
theorem tab_ok {P : Program} {cid : FuncId → Nat} {fid : Nat → FuncId} {tab : List (Nat × Fn)} (h : ∀ p ∈ tab, ∃ fn, P.funcs[fid p.1]? = some fn ∧ stripF P cid fn = some p.2) :
    ∀ f F, tab.lookup f = some F → ∃ fn, P.funcs[fid f]? = some fn ∧ stripF P cid fn = some F := by
  intro f F hf
  have : (f, F) ∈ tab := by
    clear h
    induction tab with
    | nil => simp at hf
    | cons a l ih =>
      obtain ⟨a, b⟩ := a
      simp only [List.lookup_cons] at hf
      split at hf
      · rename_i e; simp at e; cases hf; simp [e]
      · exact List.mem_cons_of_mem _ (ih hf)
  exact h _ this

end Go.VM
