/- Coils as the document has them, reckoned. Conditions: none. -/
import Derived.Test.YtfpkfcfiihfopaaDoorBVQ3

namespace Go.VM
set_option linter.unusedSimpArgs false
set_option linter.unusedVariables false
set_option maxHeartbeats 8000000
theorem isK_two (a : Arg) (k : Int) : a.isK [k, k] = a.isK [k] := by
 unfold Arg.isK; cases a.ok <;> simp
theorem isK_234 (a : Arg) : (a.isK [2, 3] || a.isK [4, 4]) = a.isK [2, 3, 4] := by
 unfold Arg.isK; cases a.ok <;> simp [Bool.or_assoc]
theorem isK_23478 (a : Arg) : (a.isK [2, 3] || a.isK [4, 7] || a.isK [8, 8]) = a.isK [2, 3, 4, 7, 8] := by
 unfold Arg.isK; cases a.ok <;> simp [Bool.or_assoc]
theorem isK_910 (a : Arg) : a.isK [9, 10] = (a.isK [9] || a.isK [10]) := by
 unfold Arg.isK; cases a.ok <;> simp [Bool.or_assoc]
theorem isK_9 {a : Arg} (h : a.isK [9] = true) : a.k = 9 := by
 unfold Arg.isK at h; simp at h; exact h.2
theorem isK_10 {a : Arg} (h : a.isK [10] = true) : a.k = 10 := by
 unfold Arg.isK at h; simp at h; exact h.2
def calcOk (op : Int) (a : Arg) (r : List Arg) : Bool := if a.isK [9] then r.all Arg.whole else a.isK [10] && r.all Arg.real && !decide (op = 35)
theorem run_l4Calc2 {n : Nat} (hn : 8 ≤ n) (op : Int) (a b : Arg) (s : Sup) : go n 170 [elX ⟨op, [a, b]⟩] [] s = some ⟨sV (.bool (calcOk op a [b])), [], []⟩ := by
 obtain ⟨n, rfl⟩ : ∃ k, n = k + 6 := ⟨n - 6, by omega⟩; have w1 := fun a => run_l4Kind (n := n + 5) (by omega) a 9 10
 have w2 := run_DevIsWholeS (n := n + 5) (by omega); have w3 := run_DevIsRealS (n := n + 5) (by omega); have w1a := w1 a; rw [isK_910] at w1a; unfold calcOk; cases h9 : a.isK [9]
 · cases h10 : a.isK [10]
   · simp [go_of FT_170 rfl, F170, argRows, Arg.row, w1a, h9, h10]
   · have hk := isK_10 h10
     have w1b := w1a; simp only [argX, hk] at w1b
     by_cases ho : op = 35
     · cases hb : b.real <;> simp [go_of FT_170 rfl, F170, argRows, Arg.row, w1a, w1b, h9, h10, hk, F170_L0, execC_loop, iter, F170_B0, w2, w3, hb, ho, wrap_id]
     · cases hb : b.real <;> simp [go_of FT_170 rfl, F170, argRows, Arg.row, w1a, w1b, h9, h10, hk, F170_L0, execC_loop, iter, F170_B0, w2, w3, hb, ho, wrap_id]
 · have hk := isK_9 h9
   have w1b := w1a; simp only [argX, hk] at w1b; cases hb : b.whole <;> simp [go_of FT_170 rfl, F170, argRows, Arg.row, w1a, w1b, h9, hk, F170_L0, execC_loop, iter, F170_B0, w2, w3, hb, wrap_id]
theorem run_l4Calc3 {n : Nat} (hn : 8 ≤ n) (op : Int) (a b c : Arg) (s : Sup) : go n 170 [elX ⟨op, [a, b, c]⟩] [] s = some ⟨sV (.bool (calcOk op a [b, c])), [], []⟩ := by
 obtain ⟨n, rfl⟩ : ∃ k, n = k + 6 := ⟨n - 6, by omega⟩; have w1 := fun a => run_l4Kind (n := n + 5) (by omega) a 9 10
 have w2 := run_DevIsWholeS (n := n + 5) (by omega); have w3 := run_DevIsRealS (n := n + 5) (by omega); have w1a := w1 a; rw [isK_910] at w1a; unfold calcOk; cases h9 : a.isK [9]
 · cases h10 : a.isK [10]
   · simp [go_of FT_170 rfl, F170, argRows, Arg.row, w1a, h9, h10]
   · have hk := isK_10 h10
     have w1b := w1a; simp only [argX, hk] at w1b; cases hb : b.real
     · simp [go_of FT_170 rfl, F170, argRows, Arg.row, w1a, w1b, h9, h10, hk, F170_L0, execC_loop, iter, F170_B0, w2, w3, hb, wrap_id]
     · by_cases ho : op = 35
       · cases hc : c.real <;> simp [go_of FT_170 rfl, F170, argRows, Arg.row, w1a, w1b, h9, h10, hk, F170_L0, execC_loop, iter, F170_B0, w2, w3, hb, hc, ho, wrap_id]
       · cases hc : c.real <;> simp [go_of FT_170 rfl, F170, argRows, Arg.row, w1a, w1b, h9, h10, hk, F170_L0, execC_loop, iter, F170_B0, w2, w3, hb, hc, ho, wrap_id]
 · have hk := isK_9 h9
   have w1b := w1a; simp only [argX, hk] at w1b; cases hb : b.whole
   · simp [go_of FT_170 rfl, F170, argRows, Arg.row, w1a, w1b, h9, hk, F170_L0, execC_loop, iter, F170_B0, w2, w3, hb, wrap_id]
   · cases hc : c.whole <;> simp [go_of FT_170 rfl, F170, argRows, Arg.row, w1a, w1b, h9, hk, F170_L0, execC_loop, iter, F170_B0, w2, w3, hb, hc, wrap_id]
theorem run_ElemIsCoilS {n : Nat} (hn : 20 ≤ n) (e : El) (s : Sup) : go n 143 [elX e] [] s = some ⟨sV (.bool e.coil), [], []⟩ := by
 obtain ⟨n, rfl⟩ : ∃ k, n = k + 1 := ⟨n - 1, by omega⟩; have w2 := run_ElemArityS (n := n) (by omega); obtain ⟨op, as⟩ := e
 by_cases ho : 21 ≤ op ∧ op ≤ 37
 · have ho1 : ¬ op < 21 := by omega
   have ho2 : ¬ 37 < op := by omega
   by_cases ha : (as.length : Int) = arity op
   · have k := run_l4Kind (n := n) (by omega)
     have dw := run_DevIsWholeS (n := n) (by omega); have dr := run_DevIsRealS (n := n) (by omega); have c2 := run_l4Calc2 (n := n) (by omega); have c3 := run_l4Calc3 (n := n) (by omega); simp only [elX, argRows, Arg.row, List.map_cons, List.map_nil] at c2 c3
     by_cases h34 : 31 ≤ op ∧ op ≤ 35
     · have har : arity op = 3 := by unfold arity; rw [if_neg (by omega), if_pos (by omega)]
       obtain ⟨a, b, c, rfl⟩ := three_of (ha.trans har); have hk : ∀ m : Int, m ≤ 30 ∨ 36 ≤ m → (op = m) = False := fun m hm => eq_false fun e => by omega
       have hr : El.coil ⟨op, [a, b, c]⟩ = calcOk op a [b, c] := by
        unfold El.coil calcOk; simp only [List.all_cons, List.all_nil, Bool.and_true]
        by_cases h5 : op = 35
        · subst h5
          cases h9 : a.isK [9] <;> simp
        · rw [if_pos (by omega)]
          cases h9 : a.isK [9]
          · simp [h5]
          · simp [is9_10 h9]
       simp [go_of FT_143 rfl, F143, w2, har, argRows, Arg.row, hk, ho1, ho2, c3, hr]
     obtain rfl | rfl | rfl | rfl | rfl | rfl | rfl | rfl | rfl | rfl | rfl | rfl : op = 21 ∨ op = 22 ∨ op = 23 ∨ op = 24 ∨ op = 25 ∨ op = 26 ∨ op = 27 ∨ op = 28 ∨ op = 29 ∨ op = 30 ∨ op = 36 ∨ op = 37 := by omega
     · obtain ⟨a, rfl⟩ := one_of (ha.trans (by simp [arity]))
       unfold El.coil; simp [go_of FT_143 rfl, F143, w2, arity, argRows, Arg.row, k, isK_two]
     · obtain ⟨a, rfl⟩ := one_of (ha.trans (by simp [arity]))
       unfold El.coil; simp only [show (22 : Int) = 21 ↔ False by decide, if_true, if_false]; rw [← isK_234]; cases h : a.isK [2, 3] <;> simp [go_of FT_143 rfl, F143, w2, arity, argRows, Arg.row, k, isK_two, h]
     · obtain ⟨a, rfl⟩ := one_of (ha.trans (by simp [arity]))
       unfold El.coil; simp only [show (23 : Int) = 21 ↔ False by decide, show (23 : Int) = 22 ↔ False by decide, if_true, if_false]; rw [← isK_23478]; cases h : a.isK [2, 3] <;> cases h2 : a.isK [4, 7] <;> simp [go_of FT_143 rfl, F143, w2, arity, argRows, Arg.row, k, isK_two, h, h2]
     · obtain ⟨a, b, rfl⟩ := two_of (ha.trans (by simp [arity]))
       unfold El.coil; cases h : a.isK [2, 3] <;> simp [go_of FT_143 rfl, F143, w2, arity, argRows, Arg.row, k, isK_two, h]
     · obtain ⟨a, rfl⟩ := one_of (ha.trans (by simp [arity]))
       unfold El.coil; simp [go_of FT_143 rfl, F143, w2, arity, argRows, Arg.row, k, isK_two]
     · obtain ⟨a, b, rfl⟩ := two_of (ha.trans (by simp [arity]))
       unfold El.coil; unfold Arg.preset; cases h : a.isK [7] <;> cases h2 : b.isK [11] <;> simp [go_of FT_143 rfl, F143, w2, arity, argRows, Arg.row, k, isK_two, h, h2]
     · obtain ⟨a, b, rfl⟩ := two_of (ha.trans (by simp [arity]))
       unfold El.coil; unfold Arg.preset; cases h : a.isK [7] <;> cases h2 : b.isK [11] <;> simp [go_of FT_143 rfl, F143, w2, arity, argRows, Arg.row, k, isK_two, h, h2]
     · obtain ⟨a, b, rfl⟩ := two_of (ha.trans (by simp [arity]))
       unfold El.coil; unfold Arg.preset; cases h : a.isK [7] <;> cases h2 : b.isK [11] <;> simp [go_of FT_143 rfl, F143, w2, arity, argRows, Arg.row, k, isK_two, h, h2]
     · obtain ⟨a, b, rfl⟩ := two_of (ha.trans (by simp [arity]))
       unfold El.coil; unfold Arg.preset; cases h : a.isK [8] <;> cases h2 : b.isK [11] <;> simp [go_of FT_143 rfl, F143, w2, arity, argRows, Arg.row, k, isK_two, h, h2]
     · obtain ⟨a, b, rfl⟩ := two_of (ha.trans (by simp [arity]))
       unfold El.coil; have hr : (a.isK [9] && b.whole || a.isK [10] && b.real) = calcOk 30 a [b] := by
        unfold calcOk; cases h9 : a.isK [9]
        · simp
        · simp [is9_10 h9]
       simp [go_of FT_143 rfl, F143, w2, arity, argRows, Arg.row, k, isK_two, c2, hr]
     · obtain ⟨a, b, rfl⟩ := two_of (ha.trans (by simp [arity]))
       unfold El.coil; cases h : a.isK [10] <;> simp [go_of FT_143 rfl, F143, w2, arity, argRows, Arg.row, k, isK_two, dw, h]
     · obtain ⟨a, b, rfl⟩ := two_of (ha.trans (by simp [arity]))
       unfold El.coil; cases h : a.isK [9] <;> simp [go_of FT_143 rfl, F143, w2, arity, argRows, Arg.row, k, isK_two, dr, h]
   · have hf : El.coil ⟨op, as⟩ = false := by
      cases h : El.coil ⟨op, as⟩ with
      | false => rfl
      | true => exact absurd (coil_arity h).2 ha
     simp [go_of FT_143 rfl, F143, w2, ho1, ho2, ha, hf]
 · have hf : El.coil ⟨op, as⟩ = false := by
    cases h : El.coil ⟨op, as⟩ with
    | false => rfl
    | true => exact absurd (coil_arity h).1 ho
   by_cases h1 : op < 21
   · simp [go_of FT_143 rfl, F143, w2, h1, hf]
   · have h2 : 37 < op := by omega
     simp [go_of FT_143 rfl, F143, w2, h1, h2, hf]
end Go.VM
