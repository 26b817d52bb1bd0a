/- Coils: small facts about their operands. Conditions: none. -/
import Derived.Test.YtcjdokngpmnkjaaGreatDoorVQ2
import Derived.Test.YtcjdokngpmnkjaaGreatDoorVN1

namespace Go.VM
set_option linter.unusedSimpArgs false
set_option linter.unusedVariables false
set_option maxHeartbeats 8000000
theorem kh9 {e : El} (h : e.coil = true) : (21 ≤ e.op ∧ e.op ≤ 37) ∧ (e.as.length : Int) = arity e.op := by
 obtain ⟨op, as⟩ := e; unfold El.coil at h
 match as, h with
 | [a], h =>
  simp only at h; have ho : op = 21 ∨ op = 22 ∨ op = 23 ∨ op = 25 := by
   by_cases c1 : op = 21
   · omega
   by_cases c2 : op = 22
   · omega
   by_cases c3 : op = 23
   · omega
   by_cases c4 : op = 25
   · omega
   simp [c1, c2, c3, c4] at h
  refine ⟨by simp only; omega, ?_⟩
  unfold arity; rw [if_pos (by simp only; omega)]; rfl
 | [a, b], h =>
  simp only at h; have ho : op = 24 ∨ (26 ≤ op ∧ op ≤ 30) ∨ op = 36 ∨ op = 37 := by
   by_cases c1 : op = 24
   · omega
   by_cases c2 : 26 ≤ op ∧ op ≤ 28
   · omega
   by_cases c3 : op = 29
   · omega
   by_cases c4 : op = 30
   · omega
   by_cases c5 : op = 36
   · omega
   by_cases c6 : op = 37
   · omega
   simp [c1, c2, c3, c4, c5, c6] at h
  refine ⟨by simp only; omega, ?_⟩
  unfold arity; rw [if_neg (by simp only; omega), if_neg (by simp only; omega), if_pos (by simp only; omega)]; rfl
 | [a, b, c], h =>
  simp only at h; have ho : 31 ≤ op ∧ op ≤ 35 := by
   by_cases c1 : 31 ≤ op ∧ op ≤ 34
   · omega
   by_cases c2 : op = 35
   · omega
   simp [c1, c2] at h
  refine ⟨by simp only; omega, ?_⟩
  unfold arity; rw [if_neg (by simp only; omega), if_pos (by simp only; omega)]; rfl
 | [], h => simp at h
 | a :: b :: c :: d :: r, h => simp at h
theorem run_preset {n : Nat} (hn : 20 ≤ n) (b : Arg) (r : List Arg) (s : Sup) :
 go n 202 [.w (.ptr 0 0)] [.cells [.d (.l 0 (argRows (b :: r)))]] s = some ⟨sV (.bool b.preset), [.cells [.d (.l 0 (argRows (b :: r)))]], []⟩ := by
 obtain ⟨n, rfl⟩ : ∃ k, n = k + 1 := ⟨n - 1, by omega⟩; have w4 := k98 (n := n) [11] b (by simp; omega) (by simp); simp only [List.map_cons, List.map_nil] at w4; unfold Arg.preset; have hr : argRows (b :: r) = [iD b.k, iD b.n, iD b.p] :: argRows r := rfl; rw [hr]; cases h : b.isK [11] <;> simp [go_of FT_202 rfl, F202, w4, h, List.replicate]
theorem one_of {as : List Arg} (h : (as.length : Int) = 1) : ∃ a, as = [a] := by
 match as, h with
 | [a], _ => exact ⟨a, rfl⟩
 | [], h => simp at h
 | _ :: _ :: _, h => simp at h; omega
theorem two_of {as : List Arg} (h : (as.length : Int) = 2) : ∃ a b, as = [a, b] := by
 match as, h with
 | [a, b], _ => exact ⟨a, b, rfl⟩
 | [], h => simp at h
 | [_], h => simp at h
 | _ :: _ :: _ :: _, h => simp at h; omega
theorem kz2 {as : List Arg} (h : (as.length : Int) = 3) : ∃ a b c, as = [a, b, c] := by
 match as, h with
 | [a, b, c], _ => exact ⟨a, b, c, rfl⟩
 | [], h => simp at h
 | [_], h => simp at h
 | [_, _], h => simp at h
 | _ :: _ :: _ :: _ :: _, h => simp at h; omega
theorem is9_10 {a : Arg} (h : a.isK [9] = true) : a.isK [10] = false := by
 unfold Arg.isK at h ⊢; simp at h; simp [h.2]
theorem ki4 {n : Nat} (hn : 60 ≤ n) (e : El) (s : Sup) : go n 200 [elX e] [] s = some ⟨sV (.bool e.coil), [], []⟩ := by
 obtain ⟨n, rfl⟩ : ∃ k, n = k + 1 := ⟨n - 1, by omega⟩; have w := k65 (n := n) (by omega); have w2 := kl4 (n := n) (by omega); obtain ⟨op, as⟩ := e
 by_cases ho : 21 ≤ op ∧ op ≤ 37
 · have e1 : (decide (21 ≤ op) && decide (op ≤ 37)) = true := by simp; omega
   by_cases ha : (as.length : Int) = arity op
   · have K := fun l a (h : l.length ≤ 10) => k98 (n := n) l a (by omega) (by omega)
     have k23 := fun a => K [2, 3] a (by simp)
     have k234 := fun a => K [2, 3, 4] a (by simp)
     have k23478 := fun a => K [2, 3, 4, 7, 8] a (by simp)
     have k4 := fun a => K [4] a (by simp)
     have k5 := fun a => K [5] a (by simp)
     have k7 := fun a => K [7] a (by simp)
     have k8 := fun a => K [8] a (by simp)
     have k9 := fun a => K [9] a (by simp)
     have k10 := fun a => K [10] a (by simp)
     have p1 := fun b => run_preset (n := n) (by omega) b []
     have aw1 := fun b => kz7 (n := n) [b] (by simp; omega) (by simp)
     have ar1 := fun b => kz8 (n := n) [b] (by simp; omega) (by simp)
     have aw2 := fun b c => kz7 (n := n) [b, c] (by simp; omega) (by simp)
     have ar2 := fun b c => kz8 (n := n) [b, c] (by simp; omega) (by simp)
     have dw := ki5 (n := n) (by omega); have dr := kl5 (n := n) (by omega); clear K; simp only [List.map_cons, List.map_nil, argRows, Arg.row, List.all_cons, List.all_nil, Bool.and_true] at k23 k234 k23478 k4 k5 k7 k8 k9 k10 p1 aw1 ar1 aw2 ar2
     by_cases h34 : 31 ≤ op ∧ op ≤ 34
     · have har : arity op = 3 := by unfold arity; rw [if_neg (by omega), if_pos (by omega)]
       obtain ⟨a, b, c, rfl⟩ := kz2 (ha.trans har); have hk : ∀ m : Int, m ≤ 30 ∨ 35 ≤ m → (op = m) = False := fun m hm => eq_false fun e => by omega
       have aw := aw2 b c; have ar := ar2 b c; have g1 : 21 ≤ op := by omega
       have g2 : op ≤ 37 := by omega
       unfold El.coil; simp only [h34, and_self, if_true]; generalize (b.whole && c.whole) = bw at aw ⊢; generalize (b.real && c.real) = br at ar ⊢; cases h : a.isK [9]
       · cases h3 : a.isK [10] <;> simp [go_of FT_200 rfl, F200, w, w2, har, argRows, Arg.row, List.replicate, hk, g1, g2, k9, k10, aw, ar, h, h3]
       · have h3 := is9_10 h
         cases bw <;> simp [go_of FT_200 rfl, F200, w, w2, har, argRows, Arg.row, List.replicate, hk, g1, g2, k9, k10, aw, ar, h, h3]
     obtain rfl | rfl | rfl | rfl | rfl | rfl | rfl | rfl | rfl | rfl | rfl | rfl | rfl : op = 21 ∨ op = 22 ∨ op = 23 ∨ op = 24 ∨ op = 25 ∨ op = 26 ∨ op = 27 ∨ op = 28 ∨ op = 29 ∨ op = 30 ∨ op = 35 ∨ op = 36 ∨ op = 37 := by omega
     · obtain ⟨a, rfl⟩ := one_of (ha.trans (by simp [arity]))
       simp [go_of FT_200 rfl, F200, w, w2, arity, argRows, Arg.row, El.coil, List.replicate, k23]
     · obtain ⟨a, rfl⟩ := one_of (ha.trans (by simp [arity]))
       simp [go_of FT_200 rfl, F200, w, w2, arity, argRows, Arg.row, El.coil, List.replicate, k234]
     · obtain ⟨a, rfl⟩ := one_of (ha.trans (by simp [arity]))
       simp [go_of FT_200 rfl, F200, w, w2, arity, argRows, Arg.row, El.coil, List.replicate, k23478]
     · obtain ⟨a, b, rfl⟩ := two_of (ha.trans (by simp [arity]))
       cases h : a.isK [2, 3] <;> simp [go_of FT_200 rfl, F200, w, w2, arity, argRows, Arg.row, El.coil, List.replicate, k23, k5, h]
     · obtain ⟨a, rfl⟩ := one_of (ha.trans (by simp [arity]))
       simp [go_of FT_200 rfl, F200, w, w2, arity, argRows, Arg.row, El.coil, List.replicate, k4]
     · obtain ⟨a, b, rfl⟩ := two_of (ha.trans (by simp [arity]))
       cases h : a.isK [7] <;> simp [go_of FT_200 rfl, F200, w, w2, arity, argRows, Arg.row, El.coil, List.replicate, k7, p1, h]
     · obtain ⟨a, b, rfl⟩ := two_of (ha.trans (by simp [arity]))
       cases h : a.isK [7] <;> simp [go_of FT_200 rfl, F200, w, w2, arity, argRows, Arg.row, El.coil, List.replicate, k7, p1, h]
     · obtain ⟨a, b, rfl⟩ := two_of (ha.trans (by simp [arity]))
       cases h : a.isK [7] <;> simp [go_of FT_200 rfl, F200, w, w2, arity, argRows, Arg.row, El.coil, List.replicate, k7, p1, h]
     · obtain ⟨a, b, rfl⟩ := two_of (ha.trans (by simp [arity]))
       cases h : a.isK [8] <;> simp [go_of FT_200 rfl, F200, w, w2, arity, argRows, Arg.row, El.coil, List.replicate, k8, p1, h]
     · obtain ⟨a, b, rfl⟩ := two_of (ha.trans (by simp [arity]))
       cases h : a.isK [9]
       · cases h3 : a.isK [10] <;> simp [go_of FT_200 rfl, F200, w, w2, arity, argRows, Arg.row, El.coil, List.replicate, k9, k10, aw1, ar1, h, h3]
       · have h3 := is9_10 h
         cases h2 : b.whole <;> simp [go_of FT_200 rfl, F200, w, w2, arity, argRows, Arg.row, El.coil, List.replicate, k9, k10, aw1, ar1, h, h2, h3]
     · obtain ⟨a, b, c, rfl⟩ := kz2 (ha.trans (by simp [arity]))
       have aw := aw2 b c; cases h : a.isK [9] <;> simp [go_of FT_200 rfl, F200, w, w2, arity, argRows, Arg.row, El.coil, List.replicate, k9, aw, h]
     · obtain ⟨a, b, rfl⟩ := two_of (ha.trans (by simp [arity]))
       cases h : a.isK [10] <;> simp [go_of FT_200 rfl, F200, w, w2, arity, argRows, Arg.row, El.coil, List.replicate, k10, dw, h]
     · obtain ⟨a, b, rfl⟩ := two_of (ha.trans (by simp [arity]))
       cases h : a.isK [9] <;> simp [go_of FT_200 rfl, F200, w, w2, arity, argRows, Arg.row, El.coil, List.replicate, k9, dr, h]
   · have hf : El.coil ⟨op, as⟩ = false := by
      cases h : El.coil ⟨op, as⟩ with
      | false => rfl
      | true => exact absurd (kh9 h).2 ha
     simp [go_of FT_200 rfl, F200, w, w2, e1, ha, hf]
 · have e1 : (decide (21 ≤ op) && decide (op ≤ 37)) = false := by simp; omega
   have hf : El.coil ⟨op, as⟩ = false := by
    cases h : El.coil ⟨op, as⟩ with
    | false => rfl
    | true => exact absurd (kh9 h).1 ho
   simp [go_of FT_200 rfl, F200, w, w2, e1, hf]
theorem k88 (a : Arg) (k : Int) : a.isK [k, k] = a.isK [k] := by
 unfold Arg.isK; cases a.ok <;> simp
theorem isK_234 (a : Arg) : (a.isK [2, 3] || a.isK [4, 4]) = a.isK [2, 3, 4] := by
 unfold Arg.isK; cases a.ok <;> simp [Bool.or_assoc]
theorem isK_23478 (a : Arg) : (a.isK [2, 3] || a.isK [4, 7] || a.isK [8, 8]) = a.isK [2, 3, 4, 7, 8] := by
 unfold Arg.isK; cases a.ok <;> simp [Bool.or_assoc]
theorem kK9 (a : Arg) : a.isK [9, 10] = (a.isK [9] || a.isK [10]) := by
 unfold Arg.isK; cases a.ok <;> simp [Bool.or_assoc]
theorem isK_9 {a : Arg} (h : a.isK [9] = true) : a.k = 9 := by
 unfold Arg.isK at h; simp at h; exact h.2
theorem isK_10 {a : Arg} (h : a.isK [10] = true) : a.k = 10 := by
 unfold Arg.isK at h; simp at h; exact h.2
def calcOk (op : Int) (a : Arg) (r : List Arg) : Bool := if a.isK [9] then r.all Arg.whole else a.isK [10] && r.all Arg.real && !decide (op = 35)
theorem run_l4Calc2 {n : Nat} (hn : 8 ≤ n) (op : Int) (a b : Arg) (s : Sup) : go n 170 [elX ⟨op, [a, b]⟩] [] s = some ⟨sV (.bool (calcOk op a [b])), [], []⟩ := by
 obtain ⟨n, rfl⟩ : ∃ k, n = k + 6 := ⟨n - 6, by omega⟩; have w1 := fun a => kn8 (n := n + 5) (by omega) a 9 10
 have w2 := k70 (n := n + 5) (by omega); have w3 := k80 (n := n + 5) (by omega); have w1a := w1 a; rw [kK9] at w1a; unfold calcOk; cases h9 : a.isK [9]
 · cases h10 : a.isK [10]
   · simp [go_of FT_170 rfl, F170, argRows, Arg.row, w1a, h9, h10]
   · have hk := isK_10 h10
     have w1b := w1a; simp only [argX, hk] at w1b
     by_cases ho : op = 35
     · cases hb : b.real <;> simp [go_of FT_170 rfl, F170, argRows, Arg.row, w1a, w1b, h9, h10, hk, F170_L0, k00, iter, F170_B0, w2, w3, hb, ho, k29]
     · cases hb : b.real <;> simp [go_of FT_170 rfl, F170, argRows, Arg.row, w1a, w1b, h9, h10, hk, F170_L0, k00, iter, F170_B0, w2, w3, hb, ho, k29]
 · have hk := isK_9 h9
   have w1b := w1a; simp only [argX, hk] at w1b; cases hb : b.whole <;> simp [go_of FT_170 rfl, F170, argRows, Arg.row, w1a, w1b, h9, hk, F170_L0, k00, iter, F170_B0, w2, w3, hb, k29]
theorem run_l4Calc3 {n : Nat} (hn : 8 ≤ n) (op : Int) (a b c : Arg) (s : Sup) : go n 170 [elX ⟨op, [a, b, c]⟩] [] s = some ⟨sV (.bool (calcOk op a [b, c])), [], []⟩ := by
 obtain ⟨n, rfl⟩ : ∃ k, n = k + 6 := ⟨n - 6, by omega⟩; have w1 := fun a => kn8 (n := n + 5) (by omega) a 9 10
 have w2 := k70 (n := n + 5) (by omega); have w3 := k80 (n := n + 5) (by omega); have w1a := w1 a; rw [kK9] at w1a; unfold calcOk; cases h9 : a.isK [9]
 · cases h10 : a.isK [10]
   · simp [go_of FT_170 rfl, F170, argRows, Arg.row, w1a, h9, h10]
   · have hk := isK_10 h10
     have w1b := w1a; simp only [argX, hk] at w1b; cases hb : b.real
     · simp [go_of FT_170 rfl, F170, argRows, Arg.row, w1a, w1b, h9, h10, hk, F170_L0, k00, iter, F170_B0, w2, w3, hb, k29]
     · by_cases ho : op = 35
       · cases hc : c.real <;> simp [go_of FT_170 rfl, F170, argRows, Arg.row, w1a, w1b, h9, h10, hk, F170_L0, k00, iter, F170_B0, w2, w3, hb, hc, ho, k29]
       · cases hc : c.real <;> simp [go_of FT_170 rfl, F170, argRows, Arg.row, w1a, w1b, h9, h10, hk, F170_L0, k00, iter, F170_B0, w2, w3, hb, hc, ho, k29]
 · have hk := isK_9 h9
   have w1b := w1a; simp only [argX, hk] at w1b; cases hb : b.whole
   · simp [go_of FT_170 rfl, F170, argRows, Arg.row, w1a, w1b, h9, hk, F170_L0, k00, iter, F170_B0, w2, w3, hb, k29]
   · cases hc : c.whole <;> simp [go_of FT_170 rfl, F170, argRows, Arg.row, w1a, w1b, h9, hk, F170_L0, k00, iter, F170_B0, w2, w3, hb, hc, k29]
theorem run_ElemIsCoilS {n : Nat} (hn : 20 ≤ n) (e : El) (s : Sup) : go n 143 [elX e] [] s = some ⟨sV (.bool e.coil), [], []⟩ := by
 obtain ⟨n, rfl⟩ : ∃ k, n = k + 1 := ⟨n - 1, by omega⟩; have w2 := kb5 (n := n) (by omega); obtain ⟨op, as⟩ := e
 by_cases ho : 21 ≤ op ∧ op ≤ 37
 · have ho1 : ¬ op < 21 := by omega
   have ho2 : ¬ 37 < op := by omega
   by_cases ha : (as.length : Int) = arity op
   · have k := kn8 (n := n) (by omega)
     have dw := k70 (n := n) (by omega); have dr := k80 (n := n) (by omega); have c2 := run_l4Calc2 (n := n) (by omega); have c3 := run_l4Calc3 (n := n) (by omega); simp only [elX, argRows, Arg.row, List.map_cons, List.map_nil] at c2 c3
     by_cases h34 : 31 ≤ op ∧ op ≤ 35
     · have har : arity op = 3 := by unfold arity; rw [if_neg (by omega), if_pos (by omega)]
       obtain ⟨a, b, c, rfl⟩ := kz2 (ha.trans har); have hk : ∀ m : Int, m ≤ 30 ∨ 36 ≤ m → (op = m) = False := fun m hm => eq_false fun e => by omega
       have hr : El.coil ⟨op, [a, b, c]⟩ = calcOk op a [b, c] := by
        unfold El.coil calcOk; simp only [List.all_cons, List.all_nil, Bool.and_true]
        by_cases h5 : op = 35
        · subst h5
          cases h9 : a.isK [9] <;> simp
        · rw [if_pos (by omega)]
          cases h9 : a.isK [9]
          · simp [h5]
          · simp [is9_10 h9]
       simp [go_of FT_143 rfl, F143, w2, har, argRows, Arg.row, hk, ho1, ho2, c3, hr]
     obtain rfl | rfl | rfl | rfl | rfl | rfl | rfl | rfl | rfl | rfl | rfl | rfl : op = 21 ∨ op = 22 ∨ op = 23 ∨ op = 24 ∨ op = 25 ∨ op = 26 ∨ op = 27 ∨ op = 28 ∨ op = 29 ∨ op = 30 ∨ op = 36 ∨ op = 37 := by omega
     · obtain ⟨a, rfl⟩ := one_of (ha.trans (by simp [arity]))
       unfold El.coil; simp [go_of FT_143 rfl, F143, w2, arity, argRows, Arg.row, k, k88]
     · obtain ⟨a, rfl⟩ := one_of (ha.trans (by simp [arity]))
       unfold El.coil; simp only [show (22 : Int) = 21 ↔ False by decide, if_true, if_false]; rw [← isK_234]; cases h : a.isK [2, 3] <;> simp [go_of FT_143 rfl, F143, w2, arity, argRows, Arg.row, k, k88, h]
     · obtain ⟨a, rfl⟩ := one_of (ha.trans (by simp [arity]))
       unfold El.coil; simp only [show (23 : Int) = 21 ↔ False by decide, show (23 : Int) = 22 ↔ False by decide, if_true, if_false]; rw [← isK_23478]; cases h : a.isK [2, 3] <;> cases h2 : a.isK [4, 7] <;> simp [go_of FT_143 rfl, F143, w2, arity, argRows, Arg.row, k, k88, h, h2]
     · obtain ⟨a, b, rfl⟩ := two_of (ha.trans (by simp [arity]))
       unfold El.coil; cases h : a.isK [2, 3] <;> simp [go_of FT_143 rfl, F143, w2, arity, argRows, Arg.row, k, k88, h]
     · obtain ⟨a, rfl⟩ := one_of (ha.trans (by simp [arity]))
       unfold El.coil; simp [go_of FT_143 rfl, F143, w2, arity, argRows, Arg.row, k, k88]
     · obtain ⟨a, b, rfl⟩ := two_of (ha.trans (by simp [arity]))
       unfold El.coil; unfold Arg.preset; cases h : a.isK [7] <;> cases h2 : b.isK [11] <;> simp [go_of FT_143 rfl, F143, w2, arity, argRows, Arg.row, k, k88, h, h2]
     · obtain ⟨a, b, rfl⟩ := two_of (ha.trans (by simp [arity]))
       unfold El.coil; unfold Arg.preset; cases h : a.isK [7] <;> cases h2 : b.isK [11] <;> simp [go_of FT_143 rfl, F143, w2, arity, argRows, Arg.row, k, k88, h, h2]
     · obtain ⟨a, b, rfl⟩ := two_of (ha.trans (by simp [arity]))
       unfold El.coil; unfold Arg.preset; cases h : a.isK [7] <;> cases h2 : b.isK [11] <;> simp [go_of FT_143 rfl, F143, w2, arity, argRows, Arg.row, k, k88, h, h2]
     · obtain ⟨a, b, rfl⟩ := two_of (ha.trans (by simp [arity]))
       unfold El.coil; unfold Arg.preset; cases h : a.isK [8] <;> cases h2 : b.isK [11] <;> simp [go_of FT_143 rfl, F143, w2, arity, argRows, Arg.row, k, k88, h, h2]
     · obtain ⟨a, b, rfl⟩ := two_of (ha.trans (by simp [arity]))
       unfold El.coil; have hr : (a.isK [9] && b.whole || a.isK [10] && b.real) = calcOk 30 a [b] := by
        unfold calcOk; cases h9 : a.isK [9]
        · simp
        · simp [is9_10 h9]
       simp [go_of FT_143 rfl, F143, w2, arity, argRows, Arg.row, k, k88, c2, hr]
     · obtain ⟨a, b, rfl⟩ := two_of (ha.trans (by simp [arity]))
       unfold El.coil; cases h : a.isK [10] <;> simp [go_of FT_143 rfl, F143, w2, arity, argRows, Arg.row, k, k88, dw, h]
     · obtain ⟨a, b, rfl⟩ := two_of (ha.trans (by simp [arity]))
       unfold El.coil; cases h : a.isK [9] <;> simp [go_of FT_143 rfl, F143, w2, arity, argRows, Arg.row, k, k88, dr, h]
   · have hf : El.coil ⟨op, as⟩ = false := by
      cases h : El.coil ⟨op, as⟩ with
      | false => rfl
      | true => exact absurd (kh9 h).2 ha
     simp [go_of FT_143 rfl, F143, w2, ho1, ho2, ha, hf]
 · have hf : El.coil ⟨op, as⟩ = false := by
    cases h : El.coil ⟨op, as⟩ with
    | false => rfl
    | true => exact absurd (kh9 h).1 ho
   by_cases h1 : op < 21
   · simp [go_of FT_143 rfl, F143, w2, h1, hf]
   · have h2 : 37 < op := by omega
     simp [go_of FT_143 rfl, F143, w2, h1, h2, hf]
end Go.VM

/- Ladders: arms, their normal form; in plain words. Conditions: none. -/
namespace Go.VM
set_option linter.unusedVariables false
set_option linter.unusedSimpArgs false
def Arm.net : Arm → Net | .mk n _ _ => n
def Arm.coils : Arm → List El | .mk _ c _ => c
def Arm.kids : Arm → List Arm | .mk _ _ ks => ks
mutual
def Arm.size : Arm → Nat
 | .mk n cs ks => 1 + cs.length + (if n.none then 0 else n.size) + armsSize ks
def armsSize : List Arm → Nat
 | [] => 0
 | a :: r => a.size + armsSize r
end
mutual
def Arm.wrong (rung : Bool) : Arm → Int
 | .mk n cs ks => if rung && n.none then 4 else if n.none = false ∧ n.wrong ≠ 0 then n.wrong else if cs.all El.coil = false then 3 else if cs.length = 0 ∧ ks.length = 0 then 5 else armsWrong ks
def armsWrong : List Arm → Int
 | [] => 0
 | a :: r => if a.wrong false ≠ 0 then a.wrong false else armsWrong r
end
def rungsWrong : List Arm → Int
 | [] => 0
 | a :: r => if a.wrong true ≠ 0 then a.wrong true else rungsWrong r
def treeCode (l : List Arm) : Int := if 40 < l.length ∨ 400 < armsSize l then 1 else rungsWrong l
def Net.join (a b : Net) : Net := if a.none then b else if b.none then a else Net.norm (.mk 2 0 [] [a, b])
def squeeze (n : Net) (cs : List El) : List Arm → Arm
 | [.mk kn kc kk] => if cs.length = 0 ∨ kn.none then squeeze (n.join kn) (cs ++ kc) kk else .mk n cs [.mk kn kc kk]
 | ks => .mk n cs ks
termination_by ks => armsWt ks
decreasing_by
 have := kn.wt_pos; simp [armsWt, Arm.wt]; omega
mutual
def Arm.norm : Arm → Arm
 | .mk n cs ks => squeeze (if n.none then n else n.norm) cs (armsNorm ks)
def armsNorm : List Arm → List Arm
 | [] => []
 | a :: r => a.norm :: armsNorm r
end
theorem k30 : ∀ l : List Arm, armsNorm l = l.map Arm.norm
 | [] => by simp [armsNorm]
 | n :: r => by simp [armsNorm, k30 r]
mutual
def Arm.wn : Arm → Bool
 | .mk n cs ks => (decide (n.kind = 0) || n.wn) && armsWn ks && (decide (ks.length ≠ 1) || (decide (0 < cs.length) && ks.all fun k => !decide (k.net.kind = 0)))
def armsWn : List Arm → Bool
 | [] => true
 | a :: r => a.wn && armsWn r
end
theorem k77 : ∀ l : List Arm, armsWn l = true ↔ ∀ a ∈ l, a.wn = true
 | [] => by simp [armsWn]
 | n :: r => by simp [armsWn, k77 r]
theorem Net.none_eq {n : Net} (h : n.none = true) : n = .mk 0 0 [] [] := by
 obtain ⟨k, op, as, ks⟩ := n; have h' : k = 0 ∧ op = 0 ∧ as = [] ∧ ks.length = 0 := of_decide_eq_true h; obtain ⟨rfl, rfl, rfl, h2⟩ := h'; rw [List.eq_nil_of_length_eq_zero h2]
theorem ku0 : Net.none (.mk 0 0 [] []) = true := by simp [Net.none, Net.kind, Net.op, Net.as, Net.kids]
theorem kc5 {n : Net} (h : n.wrong = 0) : n.kind = 1 ∨ n.kind = 2 ∨ n.kind = 3 ∨ n.kind = 4 := by
 obtain ⟨k, op, as, ks⟩ := n
 by_cases hk : k = 1
 · exact .inl hk
 · have := (k45 h hk).1
   simp only [Net.kind]; omega
theorem kc4 {n : Net} (h : n.wrong = 0) : n.none = false := by
 have := kc5 h; simp only [Net.none, decide_eq_false_iff_not]; omega
def NetFine (n : Net) : Prop := n.none = true ∨ n.wrong = 0
theorem NetFine.kind {n : Net} (h : NetFine n) : (n.kind = 0 ↔ n.none = true) := by
 rcases h with h | h
 · rw [Net.none_eq h]; simp [Net.kind, ku0]
 · have := kc5 h
   rw [kc4 h]; constructor
   · intro e; omega
   · intro e; simp at e
theorem join_ok {a b : Net} (ha : NetFine a) (hb : NetFine b) (wa : a.none = true ∨ a.wn = true) (wb : b.none = true ∨ b.wn = true) :
 NetFine (a.join b) ∧ ((a.join b).none = true ∨ (a.join b).wn = true) ∧ ((a.join b).none = true → a.none = true ∧ b.none = true) ∧
 (if (a.join b).none then 0 else (a.join b).size) ≤ (if a.none then 0 else a.size) + (if b.none then 0 else b.size) + (if a.none ∨ b.none then 0 else 1) ∧ (a.join b).wt ≤ a.wt + b.wt + 1 := by
 unfold Net.join
 by_cases h1 : a.none = true
 · simp [h1, hb, wb]
   omega
 · by_cases h2 : b.none = true
   · have wa' : a.wn = true := by rcases wa with w | w; exact absurd w h1; exact w
     simp [h1, h2, ha, wa']; omega
   · have ra : a.wrong = 0 := by rcases ha with h | h; exact absurd h h1; exact h
     have rb : b.wrong = 0 := by rcases hb with h | h; exact absurd h h2; exact h
     have hr : Net.wrong (.mk 2 0 [] [a, b]) = 0 := kl6 (.inl rfl) (by simp) (fun e => by omega) (by simp [ra, rb]); obtain ⟨k1, k2, k3, k4⟩ := ko1 _ hr; have hs := kc4 k1; simp only [Bool.not_eq_true] at h1 h2; simp only [h1, h2, Bool.false_eq_true, if_false, hs]; simp only [Net.size, netsSize, Net.wt, netsWt, List.length_nil] at k3 k4; refine ⟨.inr k1, .inr k2, fun h => h.elim, ?_, by omega⟩
     simp only [or_self, if_false]; omega
theorem k13 {rung : Bool} {n : Net} {cs : List El} {ks : List Arm} (h : Arm.wrong rung (.mk n cs ks) = 0) :
 (rung = true → n.none = false) ∧ NetFine n ∧ cs.all El.coil = true ∧ ¬ (cs.length = 0 ∧ ks.length = 0) ∧ armsWrong ks = 0 := by
 unfold Arm.wrong at h; split at h
 · simp at h
 · rename_i h1
   split at h
   · rename_i h2; exact absurd h h2.2
   · rename_i h2
     split at h
     · simp at h
     · rename_i h3
       split at h
       · simp at h
       · rename_i h4
         refine ⟨fun e => by simpa [e] using h1, ?_, by simpa using h3, h4, h⟩
         by_cases hn : n.none = true
         · exact .inl hn
         · refine .inr ?_
           by_cases hw : n.wrong = 0
           · exact hw
           · exact absurd ⟨by simpa using hn, hw⟩ h2
theorem arm_mk {rung : Bool} {n : Net} {cs : List El} {ks : List Arm} (h1 : rung = true → n.none = false) (h2 : NetFine n) (h3 : cs.all El.coil = true) (h4 : ¬ (cs.length = 0 ∧ ks.length = 0)) (h5 : armsWrong ks = 0) :
 Arm.wrong rung (.mk n cs ks) = 0 := by
 unfold Arm.wrong; rw [if_neg, if_neg, if_neg (by simp [h3]), if_neg h4, h5]
 · rintro ⟨e1, e2⟩
   rcases h2 with h | h
   · rw [e1] at h; cases h
   · exact e2 h
 · intro e
   simp only [Bool.and_eq_true] at e; have := h1 e.1; rw [e.2] at this; cases this
theorem k95 {a : Arm} (h : a.wrong true = 0) : a.wrong false = 0 := by
 obtain ⟨n, cs, ks⟩ := a; obtain ⟨h1, h2, h3, h4, h5⟩ := k13 h; exact arm_mk (fun e => by cases e) h2 h3 h4 h5
theorem k20 : ∀ l : List Arm, armsWrong l = 0 ↔ ∀ a ∈ l, a.wrong false = 0
 | [] => by simp [armsWrong]
 | a :: r => by
  unfold armsWrong
  by_cases h : a.wrong false = 0
  · simp [h, k20 r]
  · simp [h]
theorem k78 : ∀ l : List Arm, rungsWrong l = 0 ↔ ∀ a ∈ l, a.wrong true = 0
 | [] => by simp [rungsWrong]
 | a :: r => by
  unfold rungsWrong
  by_cases h : a.wrong true = 0
  · simp [h, k78 r]
  · simp [h]
theorem kv8 (rung : Bool) : ∀ (n : Net) (cs : List El) (ks : List Arm), Arm.wrong rung (.mk n cs ks) = 0 → (n.none = true ∨ n.wn = true) → (∀ a ∈ ks, a.wn = true) →
 (squeeze n cs ks).wrong rung = 0 ∧ (squeeze n cs ks).wn = true ∧ (squeeze n cs ks).size ≤ (Arm.mk n cs ks).size ∧ (squeeze n cs ks).wt ≤ (Arm.mk n cs ks).wt
 | n, cs, [.mk kn kc kk], h, hn, hk => by
  obtain ⟨h1, h2, h3, h4, h5⟩ := k13 h; have hkr := (k20 _).1 h5 (.mk kn kc kk) (by simp); obtain ⟨g1, g2, g3, g4, g5⟩ := k13 hkr; have hkw := hk (.mk kn kc kk) (by simp); simp only [Arm.wn, Bool.and_eq_true, k77] at hkw; obtain ⟨⟨w1, w2⟩, w3⟩ := hkw
  by_cases hc : cs.length = 0 ∨ kn.none = true
  · rw [squeeze, if_pos hc]
    have wk : kn.none = true ∨ kn.wn = true := by
     simp only [Bool.or_eq_true, decide_eq_true_eq] at w1; rcases w1 with w | w
     · exact .inl (g2.kind.1 w)
     · exact .inr w
    obtain ⟨j1, j2, j3, j4, j5⟩ := join_ok h2 g2 hn wk; have hr : Arm.wrong rung (.mk (n.join kn) (cs ++ kc) kk) = 0 := by
     refine arm_mk (fun e => ?_) j1 (by simp [h3, g3]) (fun e => g4 ⟨by have := e.1; simp at this; simp [this.2], e.2⟩) g5
     cases hj : (n.join kn).none with
     | false => rfl
     | true => have := h1 e; rw [(j3 hj).1] at this; cases this
    obtain ⟨k1, k2, k3, k4⟩ := kv8 rung (n.join kn) (cs ++ kc) kk hr j2 w2; refine ⟨k1, k2, Nat.le_trans k3 ?_, Nat.le_trans k4 ?_⟩
    · simp only [Arm.size, armsSize, List.length_append]
      have : (if n.none = true ∨ kn.none = true then 0 else 1) ≤ 1 := by split <;> omega
      omega
    · simp only [Arm.wt, armsWt, k56]
      omega
  · rw [squeeze, if_neg hc]
    refine ⟨h, ?_, Nat.le_refl _, Nat.le_refl _⟩
    simp only [not_or] at hc; have hk0 : ¬ kn.kind = 0 := fun e => hc.2 (g2.kind.1 e)
    simp only [Arm.wn, Bool.and_eq_true, k77, Bool.or_eq_true, decide_eq_true_eq]; refine ⟨⟨?_, hk⟩, .inr ⟨by omega, by simp [Arm.net, hk0]⟩⟩
    rcases hn with hn | hn
    · exact .inl (h2.kind.2 hn)
    · exact .inr hn
 | n, cs, [], h, hn, hk => by
  obtain ⟨h1, h2, h3, h4, h5⟩ := k13 h; rw [squeeze]
  · refine ⟨h, ?_, Nat.le_refl _, Nat.le_refl _⟩
    simp only [Arm.wn, Bool.and_eq_true, k77, Bool.or_eq_true, decide_eq_true_eq]; refine ⟨⟨?_, hk⟩, .inl (by simp)⟩
    rcases hn with hn | hn
    · exact .inl (h2.kind.2 hn)
    · exact .inr hn
  · simp
 | n, cs, a :: b :: r, h, hn, hk => by
  obtain ⟨h1, h2, h3, h4, h5⟩ := k13 h; rw [squeeze]
  · refine ⟨h, ?_, Nat.le_refl _, Nat.le_refl _⟩
    simp only [Arm.wn, Bool.and_eq_true, k77, Bool.or_eq_true, decide_eq_true_eq]; refine ⟨⟨?_, hk⟩, .inl (by simp)⟩
    rcases hn with hn | hn
    · exact .inl (h2.kind.2 hn)
    · exact .inr hn
  · simp
termination_by n cs ks => armsWt ks
decreasing_by
 simp [armsWt, Arm.wt]; omega
mutual
theorem kv4 (rung : Bool) : ∀ a : Arm, a.wrong rung = 0 → a.norm.wrong rung = 0 ∧ a.norm.wn = true ∧ a.norm.size ≤ a.size ∧ a.norm.wt ≤ a.wt
 | .mk n cs ks, h => by
  obtain ⟨h1, h2, h3, h4, h5⟩ := k13 h; obtain ⟨i1, i2, i3⟩ := k86 ks ((k20 _).1 h5); have hf : NetFine (if n.none then n else n.norm) ∧ ((if n.none then n else n.norm).none = n.none) ∧ ((if n.none then n else n.norm).none = true ∨ (if n.none then n else n.norm).wn = true) ∧
   (if (if n.none then n else n.norm).none then 0 else (if n.none then n else n.norm).size) ≤ (if n.none then 0 else n.size) ∧ (if n.none then n else n.norm).wt ≤ n.wt := by
   by_cases hn : n.none = true
   · simp [hn]; exact .inl hn
   · have hr : n.wrong = 0 := by rcases h2 with h | h; exact absurd h hn; exact h
     obtain ⟨k1, k2, k3, k4⟩ := ko1 n hr; simp only [Bool.not_eq_true] at hn; simp only [hn, Bool.false_eq_true, if_false, kc4 k1]; exact ⟨.inr k1, trivial, .inr k2, k3, k4⟩
  obtain ⟨f1, f2, f3, f4, f5⟩ := hf; have hlen : (armsNorm ks).length = ks.length := by simp [k30]
  have hw : Arm.wrong rung (.mk (if n.none then n else n.norm) cs (armsNorm ks)) = 0 :=
   arm_mk (fun e => by rw [f2]; exact h1 e) f1 h3 (by rw [hlen]; exact h4) ((k20 _).2 fun a ha => (i1 a ha).1)
  obtain ⟨q1, q2, q3, q4⟩ := kv8 rung _ cs (armsNorm ks) hw f3 fun a ha => (i1 a ha).2
  have e : Arm.norm (.mk n cs ks) = squeeze (if n.none then n else n.norm) cs (armsNorm ks) := by simp [Arm.norm]
  rw [e]; refine ⟨q1, q2, Nat.le_trans q3 ?_, Nat.le_trans q4 ?_⟩
  · simp only [Arm.size]; omega
  · simp only [Arm.wt]; omega
theorem k86 : ∀ l : List Arm, (∀ a ∈ l, a.wrong false = 0) → (∀ a ∈ armsNorm l, a.wrong false = 0 ∧ a.wn = true) ∧ armsSize (armsNorm l) ≤ armsSize l ∧ armsWt (armsNorm l) ≤ armsWt l
 | [], h => ⟨by simp [armsNorm], by simp [armsNorm], by simp [armsNorm]⟩
 | a :: r, h => by
  have h1 := kv4 false a (h a (List.mem_cons_self ..)); have h2 := k86 r fun m hm => h m (List.mem_cons_of_mem _ hm)
  refine ⟨fun x hx => ?_, ?_, ?_⟩
  · simp only [armsNorm, List.mem_cons] at hx
    rcases hx with rfl | hx
    · exact ⟨h1.1, h1.2.1⟩
    · exact h2.1 x hx
  · simp only [armsNorm, armsSize]; have := h2.2.1; omega
  · simp only [armsNorm, armsWt]; have := h2.2.2; omega
end
mutual
theorem kn6 (rung : Bool) : ∀ a : Arm, a.wrong rung = 0 → a.wn = true → a.norm = a
 | .mk n cs ks, h, hw => by
  obtain ⟨h1, h2, h3, h4, h5⟩ := k13 h; simp only [Arm.wn, Bool.and_eq_true, k77, Bool.or_eq_true, decide_eq_true_eq] at hw; obtain ⟨⟨w1, w2⟩, w3⟩ := hw; have hk := (k20 _).1 h5; have ih := kj0 ks hk w2; have hn : (if n.none then n else n.norm) = n := by
   by_cases hn : n.none = true
   · simp [hn]
   · rw [if_neg hn]
     have hr : n.wrong = 0 := by rcases h2 with h | h; exact absurd h hn; exact h
     rcases w1 with w | w
     · exact absurd (h2.kind.1 w) hn
     · exact kD7 n hr w
  have e : Arm.norm (.mk n cs ks) = squeeze (if n.none then n else n.norm) cs (armsNorm ks) := by simp [Arm.norm]
  rw [e, hn, ih]
  match ks, hk, w3 with
  | [], _, _ => rw [squeeze]; simp
  | a :: b :: r, _, _ => rw [squeeze]; simp
  | [.mk kn kc kk], hk, w3 =>
   rw [squeeze, if_neg]; rcases w3 with w3 | ⟨w3, w4⟩
   · simp at w3
   · have g2 := (k13 (hk _ (List.mem_singleton.2 rfl))).2.1
     simp [Arm.net] at w4; intro hc; rcases hc with hc | hc
     · omega
     · exact of_decide_eq_false w4 (g2.kind.2 hc)
theorem kj0 : ∀ l : List Arm, (∀ a ∈ l, a.wrong false = 0) → (∀ a ∈ l, a.wn = true) → armsNorm l = l
 | [], _, _ => by simp [armsNorm]
 | a :: r, h, hw => by
  rw [armsNorm, kn6 false a (h a (List.mem_cons_self ..)) (hw a (List.mem_cons_self ..)), kj0 r (fun m hm => h m (List.mem_cons_of_mem _ hm)) fun m hm => hw m (List.mem_cons_of_mem _ hm)]
end
end Go.VM
