/- Coils: small facts about their operands. Conditions: none. -/
import Derived.Test.YtfpkfcfiihfopaaDoorBVQ2

namespace Go.VM
set_option linter.unusedSimpArgs false
set_option linter.unusedVariables false
set_option maxHeartbeats 8000000
theorem coil_arity {e : El} (h : e.coil = true) : (21 ≤ e.op ∧ e.op ≤ 37) ∧ (e.as.length : Int) = arity e.op := by
 obtain ⟨op, as⟩ := e; unfold El.coil at h
 match as, h with
 | [a], h =>
  simp only at h; have ho : op = 21 ∨ op = 22 ∨ op = 23 ∨ op = 25 := by
   by_cases c1 : op = 21
   · omega
   by_cases c2 : op = 22
   · omega
   by_cases c3 : op = 23
   · omega
   by_cases c4 : op = 25
   · omega
   simp [c1, c2, c3, c4] at h
  refine ⟨by simp only; omega, ?_⟩
  unfold arity; rw [if_pos (by simp only; omega)]; rfl
 | [a, b], h =>
  simp only at h; have ho : op = 24 ∨ (26 ≤ op ∧ op ≤ 30) ∨ op = 36 ∨ op = 37 := by
   by_cases c1 : op = 24
   · omega
   by_cases c2 : 26 ≤ op ∧ op ≤ 28
   · omega
   by_cases c3 : op = 29
   · omega
   by_cases c4 : op = 30
   · omega
   by_cases c5 : op = 36
   · omega
   by_cases c6 : op = 37
   · omega
   simp [c1, c2, c3, c4, c5, c6] at h
  refine ⟨by simp only; omega, ?_⟩
  unfold arity; rw [if_neg (by simp only; omega), if_neg (by simp only; omega), if_pos (by simp only; omega)]; rfl
 | [a, b, c], h =>
  simp only at h; have ho : 31 ≤ op ∧ op ≤ 35 := by
   by_cases c1 : 31 ≤ op ∧ op ≤ 34
   · omega
   by_cases c2 : op = 35
   · omega
   simp [c1, c2] at h
  refine ⟨by simp only; omega, ?_⟩
  unfold arity; rw [if_neg (by simp only; omega), if_pos (by simp only; omega)]; rfl
 | [], h => simp at h
 | a :: b :: c :: d :: r, h => simp at h
theorem run_preset {n : Nat} (hn : 20 ≤ n) (b : Arg) (r : List Arg) (s : Sup) :
 go n 202 [.w (.ptr 0 0)] [.cells [.d (.l 0 (argRows (b :: r)))]] s = some ⟨sV (.bool b.preset), [.cells [.d (.l 0 (argRows (b :: r)))]], []⟩ := by
 obtain ⟨n, rfl⟩ : ∃ k, n = k + 1 := ⟨n - 1, by omega⟩; have w4 := run_kindIs (n := n) [11] b (by simp; omega) (by simp); simp only [List.map_cons, List.map_nil] at w4; unfold Arg.preset; have hr : argRows (b :: r) = [iD b.k, iD b.n, iD b.p] :: argRows r := rfl; rw [hr]; cases h : b.isK [11] <;> simp [go_of FT_202 rfl, F202, w4, h, List.replicate]
theorem one_of {as : List Arg} (h : (as.length : Int) = 1) : ∃ a, as = [a] := by
 match as, h with
 | [a], _ => exact ⟨a, rfl⟩
 | [], h => simp at h
 | _ :: _ :: _, h => simp at h; omega
theorem two_of {as : List Arg} (h : (as.length : Int) = 2) : ∃ a b, as = [a, b] := by
 match as, h with
 | [a, b], _ => exact ⟨a, b, rfl⟩
 | [], h => simp at h
 | [_], h => simp at h
 | _ :: _ :: _ :: _, h => simp at h; omega
theorem three_of {as : List Arg} (h : (as.length : Int) = 3) : ∃ a b c, as = [a, b, c] := by
 match as, h with
 | [a, b, c], _ => exact ⟨a, b, c, rfl⟩
 | [], h => simp at h
 | [_], h => simp at h
 | [_, _], h => simp at h
 | _ :: _ :: _ :: _ :: _, h => simp at h; omega
theorem is9_10 {a : Arg} (h : a.isK [9] = true) : a.isK [10] = false := by
 unfold Arg.isK at h ⊢; simp at h; simp [h.2]
theorem run_ElemIsCoil {n : Nat} (hn : 60 ≤ n) (e : El) (s : Sup) : go n 200 [elX e] [] s = some ⟨sV (.bool e.coil), [], []⟩ := by
 obtain ⟨n, rfl⟩ : ∃ k, n = k + 1 := ⟨n - 1, by omega⟩; have w := run_within (n := n) (by omega); have w2 := run_ElemArity (n := n) (by omega); obtain ⟨op, as⟩ := e
 by_cases ho : 21 ≤ op ∧ op ≤ 37
 · have e1 : (decide (21 ≤ op) && decide (op ≤ 37)) = true := by simp; omega
   by_cases ha : (as.length : Int) = arity op
   · have K := fun l a (h : l.length ≤ 10) => run_kindIs (n := n) l a (by omega) (by omega)
     have k23 := fun a => K [2, 3] a (by simp)
     have k234 := fun a => K [2, 3, 4] a (by simp)
     have k23478 := fun a => K [2, 3, 4, 7, 8] a (by simp)
     have k4 := fun a => K [4] a (by simp)
     have k5 := fun a => K [5] a (by simp)
     have k7 := fun a => K [7] a (by simp)
     have k8 := fun a => K [8] a (by simp)
     have k9 := fun a => K [9] a (by simp)
     have k10 := fun a => K [10] a (by simp)
     have p1 := fun b => run_preset (n := n) (by omega) b []
     have aw1 := fun b => run_allW (n := n) [b] (by simp; omega) (by simp)
     have ar1 := fun b => run_allR (n := n) [b] (by simp; omega) (by simp)
     have aw2 := fun b c => run_allW (n := n) [b, c] (by simp; omega) (by simp)
     have ar2 := fun b c => run_allR (n := n) [b, c] (by simp; omega) (by simp)
     have dw := run_DevIsWhole (n := n) (by omega); have dr := run_DevIsReal (n := n) (by omega); clear K; simp only [List.map_cons, List.map_nil, argRows, Arg.row, List.all_cons, List.all_nil, Bool.and_true] at k23 k234 k23478 k4 k5 k7 k8 k9 k10 p1 aw1 ar1 aw2 ar2
     by_cases h34 : 31 ≤ op ∧ op ≤ 34
     · have har : arity op = 3 := by unfold arity; rw [if_neg (by omega), if_pos (by omega)]
       obtain ⟨a, b, c, rfl⟩ := three_of (ha.trans har); have hk : ∀ m : Int, m ≤ 30 ∨ 35 ≤ m → (op = m) = False := fun m hm => eq_false fun e => by omega
       have aw := aw2 b c; have ar := ar2 b c; have g1 : 21 ≤ op := by omega
       have g2 : op ≤ 37 := by omega
       unfold El.coil; simp only [h34, and_self, if_true]; generalize (b.whole && c.whole) = bw at aw ⊢; generalize (b.real && c.real) = br at ar ⊢; cases h : a.isK [9]
       · cases h3 : a.isK [10] <;> simp [go_of FT_200 rfl, F200, w, w2, har, argRows, Arg.row, List.replicate, hk, g1, g2, k9, k10, aw, ar, h, h3]
       · have h3 := is9_10 h
         cases bw <;> simp [go_of FT_200 rfl, F200, w, w2, har, argRows, Arg.row, List.replicate, hk, g1, g2, k9, k10, aw, ar, h, h3]
     obtain rfl | rfl | rfl | rfl | rfl | rfl | rfl | rfl | rfl | rfl | rfl | rfl | rfl : op = 21 ∨ op = 22 ∨ op = 23 ∨ op = 24 ∨ op = 25 ∨ op = 26 ∨ op = 27 ∨ op = 28 ∨ op = 29 ∨ op = 30 ∨ op = 35 ∨ op = 36 ∨ op = 37 := by omega
     · obtain ⟨a, rfl⟩ := one_of (ha.trans (by simp [arity]))
       simp [go_of FT_200 rfl, F200, w, w2, arity, argRows, Arg.row, El.coil, List.replicate, k23]
     · obtain ⟨a, rfl⟩ := one_of (ha.trans (by simp [arity]))
       simp [go_of FT_200 rfl, F200, w, w2, arity, argRows, Arg.row, El.coil, List.replicate, k234]
     · obtain ⟨a, rfl⟩ := one_of (ha.trans (by simp [arity]))
       simp [go_of FT_200 rfl, F200, w, w2, arity, argRows, Arg.row, El.coil, List.replicate, k23478]
     · obtain ⟨a, b, rfl⟩ := two_of (ha.trans (by simp [arity]))
       cases h : a.isK [2, 3] <;> simp [go_of FT_200 rfl, F200, w, w2, arity, argRows, Arg.row, El.coil, List.replicate, k23, k5, h]
     · obtain ⟨a, rfl⟩ := one_of (ha.trans (by simp [arity]))
       simp [go_of FT_200 rfl, F200, w, w2, arity, argRows, Arg.row, El.coil, List.replicate, k4]
     · obtain ⟨a, b, rfl⟩ := two_of (ha.trans (by simp [arity]))
       cases h : a.isK [7] <;> simp [go_of FT_200 rfl, F200, w, w2, arity, argRows, Arg.row, El.coil, List.replicate, k7, p1, h]
     · obtain ⟨a, b, rfl⟩ := two_of (ha.trans (by simp [arity]))
       cases h : a.isK [7] <;> simp [go_of FT_200 rfl, F200, w, w2, arity, argRows, Arg.row, El.coil, List.replicate, k7, p1, h]
     · obtain ⟨a, b, rfl⟩ := two_of (ha.trans (by simp [arity]))
       cases h : a.isK [7] <;> simp [go_of FT_200 rfl, F200, w, w2, arity, argRows, Arg.row, El.coil, List.replicate, k7, p1, h]
     · obtain ⟨a, b, rfl⟩ := two_of (ha.trans (by simp [arity]))
       cases h : a.isK [8] <;> simp [go_of FT_200 rfl, F200, w, w2, arity, argRows, Arg.row, El.coil, List.replicate, k8, p1, h]
     · obtain ⟨a, b, rfl⟩ := two_of (ha.trans (by simp [arity]))
       cases h : a.isK [9]
       · cases h3 : a.isK [10] <;> simp [go_of FT_200 rfl, F200, w, w2, arity, argRows, Arg.row, El.coil, List.replicate, k9, k10, aw1, ar1, h, h3]
       · have h3 := is9_10 h
         cases h2 : b.whole <;> simp [go_of FT_200 rfl, F200, w, w2, arity, argRows, Arg.row, El.coil, List.replicate, k9, k10, aw1, ar1, h, h2, h3]
     · obtain ⟨a, b, c, rfl⟩ := three_of (ha.trans (by simp [arity]))
       have aw := aw2 b c; cases h : a.isK [9] <;> simp [go_of FT_200 rfl, F200, w, w2, arity, argRows, Arg.row, El.coil, List.replicate, k9, aw, h]
     · obtain ⟨a, b, rfl⟩ := two_of (ha.trans (by simp [arity]))
       cases h : a.isK [10] <;> simp [go_of FT_200 rfl, F200, w, w2, arity, argRows, Arg.row, El.coil, List.replicate, k10, dw, h]
     · obtain ⟨a, b, rfl⟩ := two_of (ha.trans (by simp [arity]))
       cases h : a.isK [9] <;> simp [go_of FT_200 rfl, F200, w, w2, arity, argRows, Arg.row, El.coil, List.replicate, k9, dr, h]
   · have hf : El.coil ⟨op, as⟩ = false := by
      cases h : El.coil ⟨op, as⟩ with
      | false => rfl
      | true => exact absurd (coil_arity h).2 ha
     simp [go_of FT_200 rfl, F200, w, w2, e1, ha, hf]
 · have e1 : (decide (21 ≤ op) && decide (op ≤ 37)) = false := by simp; omega
   have hf : El.coil ⟨op, as⟩ = false := by
    cases h : El.coil ⟨op, as⟩ with
    | false => rfl
    | true => exact absurd (coil_arity h).1 ho
   simp [go_of FT_200 rfl, F200, w, w2, e1, hf]
end Go.VM
