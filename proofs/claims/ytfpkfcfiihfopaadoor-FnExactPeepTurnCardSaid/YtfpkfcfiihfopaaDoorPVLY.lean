/- The laws' own helpers over ladders: sizes, copies, whether two are the same. Conditions: none. -/
import Derived.Test.YtfpkfcfiihfopaaDoorPVLW

namespace Go.VM
set_option linter.unusedSimpArgs false
set_option linter.unusedVariables false
set_option maxHeartbeats 4000000
mutual
def dW : D → Nat
 | .s _ => 0
 | .l _ rows => rows.length + rowsW rows
def rowW : List D → Nat
 | [] => 0
 | d :: r => dW d + rowW r
def rowsW : List (List D) → Nat
 | [] => 0
 | x :: r => rowW x + rowsW r
end
mutual
def dFits : D → Prop
 | .s _ => True
 | .l _ rows => rows.length < 2 ^ 63 ∧ rowsFits rows
def rowFits : List D → Prop
 | [] => True
 | d :: r => dFits d ∧ rowFits r
def rowsFits : List (List D) → Prop
 | [] => True
 | x :: r => rowFits x ∧ rowsFits r
end
abbrev szV (w K : Nat) : V := iV (if w ≤ K then ((K - w : Nat) : Int) else -1)
theorem args_rowsW : ∀ l : List Arg, rowsW (argRows l) = 0
 | [] => by simp [argRows, rowsW]
 | a :: r => by
  have := args_rowsW r; simp only [argRows] at this; simp [argRows, rowsW, Arg.row, rowW, dW, this]
theorem el_W (e : El) : rowW e.row = e.as.length := by
 have h := args_rowsW e.as; simp only [argRows] at h; simp [El.row, rowW, dW, argRows, h]
theorem argRow_len (a : Arg) : a.row.length = 3 := rfl
theorem argRows_all {p : List D → Prop} {l : List Arg} (h : ∀ a ∈ l, p a.row) : ∀ r ∈ argRows l, p r := by
 intro r hr; simp only [argRows, List.mem_map] at hr; obtain ⟨a, ha, rfl⟩ := hr; exact h a ha
theorem sz_args {n : Nat} (l : List Arg) (hl : l.length < 2 ^ 63) (K : Nat) (hK : K < 2 ^ 40) (s : Sup) : go (n + 1) 236 [.w (asW l), iV K] [] s = some ⟨szV l.length K, [], []⟩ := by
 have := run_szL (f := 236) (n := n) rfl rfl rfl rfl 0 (argRows l) (by simp [argRows]; omega) K hK s; rw [show (argRows l).length = l.length by simp [argRows]] at this; exact this
theorem sz_el {n : Nat} (e : El) (hl : e.as.length < 2 ^ 63) (K : Nat) (hK : K < 2 ^ 40) (s : Sup) : go (n + 2) 226 [elX e, iV K] [] s = some ⟨szV (rowW e.row) K, [], []⟩ := by
 have w := sz_args (n := n) e.as hl K hK; rw [el_W]
 by_cases h : e.as.length ≤ K
 · simp only [szV, if_pos h] at w ⊢
   generalize K - e.as.length = T at w ⊢; have hT : ((T : Int) < 0) = False := eq_false (by omega); simp [go_of FT_226 rfl, F226, w, hT]
 · simp only [szV, if_neg h] at w ⊢
   simp [go_of FT_226 rfl, F226, w]
theorem to_arg {n : Nat} (a : Arg) (s : Sup) : go (n + 1) 241 [argX a] [] s = some ⟨argX a, [], []⟩ := by
 simp [go_of FT_241 rfl, F241]
theorem same_arg {n : Nat} (a : Arg) (s : Sup) : go (n + 1) 242 [argX a, argX a] [] s = some ⟨bV true, [], []⟩ := by
 simp [go_of FT_242 rfl, F242]
theorem same_args {n : Nat} (l : List Arg) (hn : l.length + 3 ≤ n) (hl : l.length < 2 ^ 30) (s : Sup) : go n 238 [.w (asW l), .w (asW l)] [] s = some ⟨bV true, [], []⟩ := by
 obtain ⟨n, rfl⟩ : ∃ k, n = k + 2 := ⟨n - 2, by omega⟩; exact run_eqT (f := 238) (sz := 3) (c := 242) (n := n + 1) rfl rfl rfl rfl rfl 0 0 (argRows l) (argRows l) rfl (argRows_all fun a _ => argRow_len a) (argRows_all fun a _ => argRow_len a)
  (fun i r r' h1 h2 s => by rw [h1] at h2; cases h2; exact argRows_all (p := fun r => go (n + 1) 242 [rowX r, rowX r] [] s = some ⟨bV true, [], []⟩) (fun a _ => same_arg a s) r (List.mem_of_getElem? h1)) (by simp [argRows]; omega) (by simp [argRows]; omega) s
theorem same_el {n : Nat} (e : El) (hn : e.as.length + 4 ≤ n) (hl : e.as.length < 2 ^ 30) (s : Sup) : go n 230 [elX e, elX e] [] s = some ⟨bV true, [], []⟩ := by
 obtain ⟨n, rfl⟩ : ∃ k, n = k + 1 := ⟨n - 1, by omega⟩; have w := same_args (n := n) e.as (by omega) hl; simp [go_of FT_230 rfl, F230, w]
end Go.VM
