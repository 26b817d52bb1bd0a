/- How high a list's stacks are. Conditions: none. -/
import Derived.Test.YtfpkfcfiihfopaaDoorVP5

namespace Go.VM
set_option linter.unusedSimpArgs false
set_option linter.unusedVariables false
set_option maxHeartbeats 16000000
abbrev hX (s : Int × Int) : V := .agg [iW s.1, iW s.2]
theorem behind_bnd {s : Int × Int} {c k : Int} (h : -k ≤ s.1 ∧ s.1 ≤ k ∧ -k ≤ s.2 ∧ s.2 ≤ k) : -(k + 1) ≤ (behind s c).1 ∧ (behind s c).1 ≤ k + 1 ∧ -(k + 1) ≤ (behind s c).2 ∧ (behind s c).2 ≤ k + 1 := by
 unfold behind; split
 · simp only; omega
 · split
   · simp only; omega
   · split
     · simp only; omega
     · split <;> (try simp only) <;> omega
theorem run_behind {n : Nat} (s0 : Int × Int) (c : Int) (h : -(2 ^ 40) ≤ s0.1 ∧ s0.1 ≤ 2 ^ 40 ∧ -(2 ^ 40) ≤ s0.2 ∧ s0.2 ≤ 2 ^ 40) (s : Sup) : go (n + 1) 311 [hX s0, iV c] [] s = some ⟨hX (behind s0 c), [], []⟩ := by
 obtain ⟨b, f⟩ := s0; simp only at h; have w1 : IntKind.i64.wrap (b + 1) = b + 1 := wrap_id (by omega) (by omega); have w2 : IntKind.i64.wrap (b - 1) = b - 1 := wrap_id (by omega) (by omega); have w3 : IntKind.i64.wrap (f + 1) = f + 1 := wrap_id (by omega) (by omega); have w4 : IntKind.i64.wrap (f - 1) = f - 1 := wrap_id (by omega) (by omega); unfold behind
 by_cases c1 : c = 1
 · simp [go_of (n := n) FT_311 rfl, F311, c1, w1]
 by_cases c4 : c = 4
 · simp [go_of (n := n) FT_311 rfl, F311, c4, w2]
 by_cases c5 : c = 5
 · simp [go_of (n := n) FT_311 rfl, F311, c5, w2]
 by_cases c11 : c = 11
 · simp [go_of (n := n) FT_311 rfl, F311, c11, w2]
 by_cases c7 : c = 7
 · simp [go_of (n := n) FT_311 rfl, F311, c7, w3]
 by_cases c9 : c = 9
 · simp [go_of (n := n) FT_311 rfl, F311, c9, w4]
 simp [go_of (n := n) FT_311 rfl, F311, c1, c4, c5, c11, c7, c9]
theorem run_ListOk {n : Nat} (hn : 60 ≤ n) (i : Ins) (hl : i.e.as.length < 2 ^ 62) (s : Sup) : go (n + 1) 315 [insX i] [] s = some ⟨bV i.ok, [], []⟩ := by
 obtain ⟨c, e⟩ := i; have w1 := run_within (n := n) (by omega) c 1 3; have w2 := run_ElemIsContact (n := n) (by omega) e hl; have w3 := run_ElemIsCoil (n := n) (by omega) e; have w4 : ∀ s, go n 60 [iV c, iV 4, iV 11] [] s = some ⟨sV (.bool (decide (4 ≤ c) && decide (c ≤ 11))), [], []⟩ := fun s => run_within (by omega) c 4 11 s
 obtain ⟨op, as⟩ := e; have w5 : ∀ s, go n 138 [elX ⟨op, as⟩] [] s = some ⟨sV (.bool (decide (op = 0 ∧ as = []))), [], []⟩ := fun s => run_bare (by omega) op as s
 unfold Ins.ok El.bareB; simp only; generalize El.contact ⟨op, as⟩ = r1 at w2 ⊢; generalize El.coil ⟨op, as⟩ = r2 at w3 ⊢
 by_cases h1 : 1 ≤ c ∧ c ≤ 3
 · have e1 : (decide (1 ≤ c) && decide (c ≤ 3)) = true := by simp [h1]
   rw [e1] at w1; rw [if_pos h1]; simp [go_of (n := n) FT_315 rfl, F315, w1, w2]
 · have e1 : (decide (1 ≤ c) && decide (c ≤ 3)) = false := by simpa using h1
   rw [e1] at w1; rw [if_neg h1]
   by_cases h2 : c = 10
   · subst h2
     simp [go_of (n := n) FT_315 rfl, F315, w1, w3]
   · rw [if_neg h2]
     by_cases h3 : 4 ≤ c ∧ c ≤ 11
     · have e2 : (decide (4 ≤ c) && decide (c ≤ 11)) = true := by simp [h3]
       rw [e2] at w4; rw [decide_eq_true h3]; simp [go_of (n := n) FT_315 rfl, F315, w1, w4, w5, h2]
     · have e2 : (decide (4 ≤ c) && decide (c ≤ 11)) = false := by simpa using h3
       rw [e2] at w4; rw [decide_eq_false h3]; simp [go_of (n := n) FT_315 rfl, F315, w1, w4, w5, h2]
theorem run_needs {n : Nat} (c : Int) (s : Sup) : go (n + 1) 336 [iV c] [] s = some ⟨iV (needsI c), [], []⟩ := by
 unfold needsI
 by_cases c1 : c = 1
 · simp [go_of (n := n) FT_336 rfl, F336, c1]
 by_cases c4 : c = 4
 · simp [go_of (n := n) FT_336 rfl, F336, c4]
 by_cases c5 : c = 5
 · simp [go_of (n := n) FT_336 rfl, F336, c5]
 simp [go_of (n := n) FT_336 rfl, F336, c1, c4, c5]
theorem ptf (p : Prop) : p = True ∨ p = False := by by_cases h : p; exact .inl (eq_true h); exact .inr (eq_false h)
theorem run_sureWrong {n : Nat} (hn : 61 ≤ n) (u : CS) (i : Ins) (hl : i.e.as.length < 2 ^ 62) (s : Sup) : go (n + 1) 310 [hX (u.b, u.f), insX i, bV u.based, bV u.coil] [] s = some ⟨iV (u.wrong i), [], []⟩ := by
 obtain ⟨n, rfl⟩ : ∃ k, n = k + 1 := ⟨n - 1, by omega⟩; have w1 := run_ListOk (n := n) (by omega) i hl; obtain ⟨c, op, as⟩ := i; have w2 := run_needs (n := n) c; obtain ⟨b, f, B, co⟩ := u; unfold CS.wrong; simp only; generalize Ins.ok ⟨c, ⟨op, as⟩⟩ = ok at w1 ⊢; generalize needsI c = nd at w2 ⊢; cases ok with
 | false => simp [go_of (n := n + 1) FT_310 rfl, F310, w1]
 | true =>
  by_cases h2 : b < nd
  · simp [go_of (n := n + 1) FT_310 rfl, F310, w1, w2, h2]
  have e2 : (b < nd) = False := eq_false h2
  by_cases h1 : c = 1
  · subst h1
    cases B <;> cases co <;> rcases ptf (16 ≤ b) with k0 | k0 <;> simp [go_of (n := n + 1) FT_310 rfl, F310, w1, w2, e2, k0]
  by_cases h3 : c = 3
  · subst h3
    cases B <;> cases co <;> rcases ptf (b = 1) with k0 | k0 <;> simp [go_of (n := n + 1) FT_310 rfl, F310, w1, w2, e2, k0]
  by_cases h5 : c = 5
  · subst h5
    cases B <;> cases co <;> rcases ptf (b = 2) with k0 | k0 <;> simp [go_of (n := n + 1) FT_310 rfl, F310, w1, w2, e2, k0]
  by_cases h6 : c = 6
  · subst h6
    cases B <;> cases co <;> rcases ptf (b = 1) with k0 | k0 <;> simp [go_of (n := n + 1) FT_310 rfl, F310, w1, w2, e2, k0]
  by_cases h7 : c = 7
  · subst h7
    cases B <;> cases co <;> rcases ptf (1 < b) with k0 | k0 <;> rcases ptf (8 ≤ f) with k1 | k1 <;> simp [go_of (n := n + 1) FT_310 rfl, F310, w1, w2, e2, k0, k1]
  by_cases h8 : c = 8
  · subst h8
    cases B <;> cases co <;> rcases ptf (1 < b) with k0 | k0 <;> rcases ptf (f = 0) with k1 | k1 <;> simp [go_of (n := n + 1) FT_310 rfl, F310, w1, w2, e2, k0, k1]
  by_cases h9 : c = 9
  · subst h9
    cases B <;> cases co <;> rcases ptf (1 < b) with k0 | k0 <;> rcases ptf (f = 0) with k1 | k1 <;> simp [go_of (n := n + 1) FT_310 rfl, F310, w1, w2, e2, k0, k1]
  by_cases h11 : c = 11
  · subst h11
    cases B <;> cases co <;> rcases ptf (1 < b) with k0 | k0 <;> rcases ptf (f = 0) with k1 | k1 <;> simp [go_of (n := n + 1) FT_310 rfl, F310, w1, w2, e2, k0, k1]
  by_cases k0 : 7 ≤ c
  · cases B <;> cases co <;> rcases ptf (1 < b) with k1 | k1 <;> simp [go_of (n := n + 1) FT_310 rfl, F310, w1, w2, e2, h1, h3, h5, h6, h7, h8, h9, h11, k0, k1]
  · cases B <;> cases co <;> simp [go_of (n := n + 1) FT_310 rfl, F310, w1, w2, e2, h1, h3, h5, h6, h7, h8, h9, h11, k0]
end Go.VM
