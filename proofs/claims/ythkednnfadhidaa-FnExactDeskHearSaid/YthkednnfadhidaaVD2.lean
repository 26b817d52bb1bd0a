/- Whether a desk is well formed, reckoned. Conditions: none. -/
import Derived.Test.YthkednnfadhidaaVD1

namespace Go.VM
set_option linter.unusedSimpArgs false
set_option maxHeartbeats 40000000

theorem wrap_id {x : Int} (h1 : -(2 ^ 63) ≤ x) (h2 : x < 2 ^ 63) : IntKind.wrap .i64 x = x := by
  simp [IntKind.wrap, IntKind.bits, IntKind.signed]; omega

def wireOf (n : Nat) : Int := if n = 0 ∨ n > 21600 then 0 else ((n + 23) / 24 : Nat)

theorem run_wireOfS {n : Nat} (hn : 1 ≤ n) (st : Nat) (l : List Int) (hl : l.length < 2 ^ 62) (s : Sup) :
    go n 59 [.w (bW st l)] [] s = some ⟨sV (.int .i64 (wireOf l.length)), [], []⟩ := by
  obtain ⟨n, rfl⟩ : ∃ k, n = k + 1 := ⟨n - 1, by omega⟩
  unfold wireOf
  generalize hk : l.length = k at hl
  have w1 : IntKind.wrap .i64 ((k : Int) + 24) = k + 24 := wrap_id (by omega) (by omega)
  have w2 : IntKind.wrap .i64 ((k : Int) + 24 - 1) = k + 24 - 1 := wrap_id (by omega) (by omega)
  have w3 : IntKind.wrap .i64 (((k : Int) + 24 - 1).tdiv 24) = ((k + 23) / 24 : Nat) := by
    have : ((k : Int) + 24 - 1).tdiv 24 = ((k + 23) / 24 : Nat) := by
      rw [Int.tdiv_eq_ediv_of_nonneg (by omega)]; omega
    rw [this]; exact wrap_id (by omega) (by omega)
  by_cases h0 : k = 0
  · simp [go_of FT_59 rfl, F59, hk, h0]
  · have h0' : ((k : Int) = 0) = False := eq_false (by omega)
    by_cases h1 : k > 21600
    · have h1' : (21600 < (k : Int)) = True := eq_true (by omega)
      simp [go_of FT_59 rfl, F59, hk, h0, h0', h1, h1']
    · have h1' : (21600 < (k : Int)) = False := eq_false (by omega)
      simp [go_of FT_59 rfl, F59, hk, h0, h0', h1, h1', w1, w2, w3]

theorem run_wireOfI {n : Nat} (hn : 1 ≤ n) (st : Nat) (l : List Int) (hl : l.length < 2 ^ 62) (s : Sup) :
    go n 61 [.w (bW st l)] [] s = some ⟨sV (.int .i64 (wireOf l.length)), [], []⟩ := by
  obtain ⟨n, rfl⟩ : ∃ k, n = k + 1 := ⟨n - 1, by omega⟩
  unfold wireOf
  generalize hk : l.length = k at hl
  have w1 : IntKind.wrap .i64 ((k : Int) + 24) = k + 24 := wrap_id (by omega) (by omega)
  have w2 : IntKind.wrap .i64 ((k : Int) + 24 - 1) = k + 24 - 1 := wrap_id (by omega) (by omega)
  have w3 : IntKind.wrap .i64 (((k : Int) + 24 - 1).tdiv 24) = ((k + 23) / 24 : Nat) := by
    have : ((k : Int) + 24 - 1).tdiv 24 = ((k + 23) / 24 : Nat) := by
      rw [Int.tdiv_eq_ediv_of_nonneg (by omega)]; omega
    rw [this]; exact wrap_id (by omega) (by omega)
  by_cases h1 : k > 21600
  · have h1' : (900 < (((k + 23) / 24 : Nat) : Int)) = True := eq_true (by omega)
    have h2 : k = 0 ∨ k > 21600 := .inr h1
    rw [if_pos h2]
    simp [go_of FT_61 rfl, F61, hk, w1, w2, w3, -Int.natCast_ediv, h1']
  · have h1' : (900 < (((k + 23) / 24 : Nat) : Int)) = False := eq_false (by omega)
    have h3 : (if k = 0 ∨ k > 21600 then (0 : Int) else ((k + 23) / 24 : Nat)) = ((k + 23) / 24 : Nat) := by
      split
      · rename_i h; rcases h with h | h
        · subst h; rfl
        · omega
      · rfl
    rw [h3]
    simp [go_of FT_61 rfl, F61, hk, w1, w2, w3, -Int.natCast_ediv, h1']

def deskOk (last num next state : Int) (n : Nat) : Bool :=
  decide (0 ≤ last ∧ last ≤ 1000000) && if state = 0 then decide (num = 0 ∧ n = 0 ∧ next = 0) else
    decide (1 ≤ state ∧ state ≤ 3 ∧ 1 ≤ num ∧ num ≤ last ∧ 0 < wireOf n ∧ 0 ≤ next ∧ next ≤ wireOf n)

theorem run_deskOkS {n : Nat} (hn : 2 ≤ n) (last num next state : Int) (st : Nat) (l : List Int) (hl : l.length < 2 ^ 62) (s : Sup) :
    go n 17 [.agg [iW last, iW num, bW st l, iW next, iW state]] [] s = some ⟨sV (.bool (deskOk last num next state l.length)), [], []⟩ := by
  obtain ⟨n, rfl⟩ : ∃ k, n = k + 1 := ⟨n - 1, by omega⟩
  have W := run_wireOfS (n := n) (by omega) st l hl
  unfold deskOk
  by_cases c1 : last < 0
  · have : ¬ 0 ≤ last := by omega
    simp [go_of FT_17 rfl, F17, c1, this]
  have c1' : 0 ≤ last := by omega
  by_cases c2 : 1000000 < last
  · have : ¬ last ≤ 1000000 := by omega
    simp [go_of FT_17 rfl, F17, c1, c2, this]
  have c2' : last ≤ 1000000 := by omega
  by_cases c3 : state = 0
  · subst c3
    by_cases d1 : num = 0
    · by_cases d2 : l.length = 0
      · have : l = [] := List.eq_nil_of_length_eq_zero d2
        by_cases d3 : next = 0 <;> simp [go_of FT_17 rfl, F17, c1, c2, c1', c2', d1, this, d3]
      · have d2' : l ≠ [] := fun e => d2 (by simp [e])
        simp [go_of FT_17 rfl, F17, c1, c2, c1', c2', d1, d2, d2']
    · simp [go_of FT_17 rfl, F17, c1, c2, c1', c2', d1]
  by_cases c4 : state < 0
  · have : ¬ 1 ≤ state := by omega
    simp [go_of FT_17 rfl, F17, c1, c2, c1', c2', c3, c4, this]
  by_cases c5 : 3 < state
  · have : ¬ state ≤ 3 := by omega
    simp [go_of FT_17 rfl, F17, c1, c2, c1', c2', c3, c4, c5, this]
  have c4' : 1 ≤ state := by omega
  have c5' : state ≤ 3 := by omega
  by_cases c6 : num < 1
  · have : ¬ 1 ≤ num := by omega
    simp [go_of FT_17 rfl, F17, c1, c2, c1', c2', c3, c4, c5, c6, this]
  have c6' : 1 ≤ num := by omega
  by_cases c7 : last < num
  · have : ¬ num ≤ last := by omega
    simp [go_of FT_17 rfl, F17, c1, c2, c1', c2', c3, c4, c5, c6, c7, this]
  have c7' : num ≤ last := by omega
  by_cases c8 : 0 < wireOf l.length
  · by_cases c9 : 0 ≤ next
    · simp [go_of FT_17 rfl, F17, c1, c2, c1', c2', c3, c4, c5, c4', c5', c6, c6', c7, c7', W, c8, c9]
    · simp [go_of FT_17 rfl, F17, c1, c2, c1', c2', c3, c4, c5, c4', c5', c6, c6', c7, c7', W, c8, c9]
  · simp [go_of FT_17 rfl, F17, c1, c2, c1', c2', c3, c4, c5, c4', c5', c6, c6', c7, c7', W, c8]

theorem wireOf_nonneg (n : Nat) : 0 ≤ wireOf n := by unfold wireOf; split <;> omega
theorem wireOf_zero : wireOf 0 = 0 := rfl

theorem deskOk_no {last num next state : Int} {n : Nat} (h : (state = 0 ∧ ¬ (num = 0 ∧ n = 0 ∧ next = 0)) ∨ (state ≠ 0 ∧ ¬ (1 ≤ state ∧ state ≤ 3 ∧ 1 ≤ num ∧ num ≤ last ∧ 0 < wireOf n ∧ 0 ≤ next ∧ next ≤ wireOf n))) : deskOk last num next state n = false := by
  unfold deskOk
  rcases h with ⟨h1, h2⟩ | ⟨h1, h2⟩
  · rw [if_pos h1, decide_eq_false h2, Bool.and_false]
  · rw [if_neg h1, decide_eq_false h2, Bool.and_false]
theorem deskOk_yes {last num next state : Int} {n : Nat} (h0 : 0 ≤ last ∧ last ≤ 1000000) (h1 : state ≠ 0) (h : 1 ≤ state ∧ state ≤ 3 ∧ 1 ≤ num ∧ num ≤ last ∧ 0 < wireOf n ∧ 0 ≤ next ∧ next ≤ wireOf n) : deskOk last num next state n = true := by
  unfold deskOk
  rw [if_neg h1, decide_eq_true h0, decide_eq_true h]; rfl

theorem run_deskOkI {n : Nat} (hn : 2 ≤ n) (last num next state : Int) (st : Nat) (l : List Int) (hl : l.length < 2 ^ 62) (s : Sup) :
    go n 18 [.agg [iW last, iW num, bW st l, iW next, iW state]] [] s = some ⟨sV (.bool (deskOk last num next state l.length)), [], []⟩ := by
  obtain ⟨n, rfl⟩ : ∃ k, n = k + 1 := ⟨n - 1, by omega⟩
  have W := run_wireOfI (n := n) (by omega) st l hl
  have I := fun a lo hi s => run_within (n := n) (by omega) a lo hi s
  have hw := wireOf_nonneg l.length
  by_cases c1 : 0 ≤ last
  · by_cases c2 : last ≤ 1000000
    · by_cases c3 : num = 0 ∧ l.length = 0 ∧ next = 0 ∧ state = 0
      · obtain ⟨rfl, h2, rfl, rfl⟩ := c3
        have : l = [] := List.eq_nil_of_length_eq_zero h2
        simp [go_of FT_18 rfl, F18, I, c1, c2, this, deskOk]
      · by_cases e1 : num = 0
        · subst e1
          by_cases e2 : l.length = 0
          · have e2' : l = [] := List.eq_nil_of_length_eq_zero e2
            subst e2'
            simp only [List.length_nil] at W hw c3 ⊢
            by_cases e3 : next = 0
            · subst e3
              have e4 : ¬ state = 0 := fun h => c3 (by simp [h])
              by_cases t1 : 1 ≤ state ∧ state ≤ 3
              · obtain ⟨t1a, t1b⟩ := t1
                have hr : deskOk last 0 0 state 0 = false := deskOk_no (by omega)
                simp [go_of FT_18 rfl, F18, I, W, c1, c2, hr, e4, t1a, t1b]
              · have hr : deskOk last 0 0 state 0 = false := deskOk_no (by omega)
                have t1' : (decide (1 ≤ state) && decide (state ≤ 3)) = false := by rw [← Bool.decide_and]; exact decide_eq_false t1
                simp [go_of FT_18 rfl, F18, I, W, c1, c2, hr, e4, t1']
            · skip
              by_cases t1 : 1 ≤ state ∧ state ≤ 3
              · obtain ⟨t1a, t1b⟩ := t1
                have hr : deskOk last 0 next state 0 = false := deskOk_no (by omega)
                simp [go_of FT_18 rfl, F18, I, W, c1, c2, hr, e3, t1a, t1b]
              · have hr : deskOk last 0 next state 0 = false := deskOk_no (by omega)
                have t1' : (decide (1 ≤ state) && decide (state ≤ 3)) = false := by rw [← Bool.decide_and]; exact decide_eq_false t1
                simp [go_of FT_18 rfl, F18, I, W, c1, c2, hr, e3, t1']
          · have e2' : l ≠ [] := fun e => e2 (by simp [e])
            by_cases t1 : 1 ≤ state ∧ state ≤ 3
            · obtain ⟨t1a, t1b⟩ := t1
              have hr : deskOk last 0 next state l.length = false := deskOk_no (by omega)
              simp [go_of FT_18 rfl, F18, I, W, c1, c2, hr, e2, e2', t1a, t1b]
            · have hr : deskOk last 0 next state l.length = false := deskOk_no (by omega)
              have t1' : (decide (1 ≤ state) && decide (state ≤ 3)) = false := by rw [← Bool.decide_and]; exact decide_eq_false t1
              simp [go_of FT_18 rfl, F18, I, W, c1, c2, hr, e2, e2', t1']
        · skip
          by_cases t1 : 1 ≤ state ∧ state ≤ 3
          · obtain ⟨t1a, t1b⟩ := t1
            by_cases t2 : 1 ≤ num ∧ num ≤ last
            · obtain ⟨t2a, t2b⟩ := t2
              by_cases t3 : wireOf l.length = 0
              · have hr : deskOk last num next state l.length = false := deskOk_no (by omega)
                simp [go_of FT_18 rfl, F18, I, W, c1, c2, hr, e1, t1a, t1b, t2a, t2b, t3]
              · by_cases t4 : 0 ≤ next ∧ next ≤ wireOf l.length
                · obtain ⟨t4a, t4b⟩ := t4
                  have hr : deskOk last num next state l.length = true := deskOk_yes (by omega) (by omega) (by omega)
                  simp [go_of FT_18 rfl, F18, I, W, c1, c2, hr, e1, t1a, t1b, t2a, t2b, t3, t4a, t4b]
                · have hr : deskOk last num next state l.length = false := deskOk_no (by omega)
                  have t4' : (decide (0 ≤ next) && decide (next ≤ wireOf l.length)) = false := by rw [← Bool.decide_and]; exact decide_eq_false t4
                  simp [go_of FT_18 rfl, F18, I, W, c1, c2, hr, e1, t1a, t1b, t2a, t2b, t3, t4']
            · have hr : deskOk last num next state l.length = false := deskOk_no (by omega)
              have t2' : (decide (1 ≤ num) && decide (num ≤ last)) = false := by rw [← Bool.decide_and]; exact decide_eq_false t2
              simp [go_of FT_18 rfl, F18, I, W, c1, c2, hr, e1, t1a, t1b, t2']
          · have hr : deskOk last num next state l.length = false := deskOk_no (by omega)
            have t1' : (decide (1 ≤ state) && decide (state ≤ 3)) = false := by rw [← Bool.decide_and]; exact decide_eq_false t1
            simp [go_of FT_18 rfl, F18, I, W, c1, c2, hr, e1, t1']
    · simp [go_of FT_18 rfl, F18, I, c1, c2, deskOk]
  · simp [go_of FT_18 rfl, F18, I, c1, deskOk]

end Go.VM
