/- The desk's first words, reckoned. Conditions: none. -/
import Derived.Test.YthkednnfadhidaaVB1

namespace Go.VM
set_option linter.unusedSimpArgs false
set_option maxHeartbeats 4000000

abbrev iV (n : Int) : V := .w (.d (.s (.int .i64 n)))
abbrev iW (n : Int) : W := .d (.s (.int .i64 n))
abbrev bW (st : Nat) (l : List Int) : W := .d (.l st (byt l))

theorem run_within {n : Nat} (hn : 1 ≤ n) (a lo hi : Int) (s : Sup) : go n 60 [iV a, iV lo, iV hi] [] s = some ⟨sV (.bool (decide (lo ≤ a) && decide (a ≤ hi))), [], []⟩ := by
  obtain ⟨n, rfl⟩ : ∃ k, n = k + 1 := ⟨n - 1, by omega⟩
  by_cases h : lo ≤ a <;> simp [go_of FT_60 rfl, F60, h]

def szJ (left : Int) (n : Nat) : Int := if szB left n < 0 then -1 else szB left n
theorem run_szDeskJob {n : Nat} (hn : 2 ≤ n) (num next state left : Int) (st : Nat) (l : List Int) (s : Sup) :
    go n 57 [.agg [iW num, bW st l, iW next, iW state], iV left] [] s = some ⟨sV (.int .i64 (szJ left l.length)), [], []⟩ := by
  obtain ⟨n, rfl⟩ : ∃ k, n = k + 1 := ⟨n - 1, by omega⟩
  unfold szJ
  by_cases h : szB left l.length < 0 <;> simp [go_of FT_57 rfl, F57, run_szByteS (n := n) (by omega), h]
def szD (left : Int) (n : Nat) : Int := if szJ left n < 0 then -1 else szJ left n
theorem run_szDesk {n : Nat} (hn : 3 ≤ n) (last num next state left : Int) (st : Nat) (l : List Int) (s : Sup) :
    go n 15 [.agg [iW last, iW num, bW st l, iW next, iW state], iV left] [] s = some ⟨sV (.int .i64 (szD left l.length)), [], []⟩ := by
  obtain ⟨n, rfl⟩ : ∃ k, n = k + 1 := ⟨n - 1, by omega⟩
  unfold szD
  by_cases h : szJ left l.length < 0 <;> simp [go_of FT_15 rfl, F15, run_szDeskJob (n := n) (by omega), h]

theorem run_toDeskJob {n : Nat} (num next state : Int) (st : Nat) (l : List Int) (hn : l.length + 3 ≤ n) (hl : room l.length 1 = true) (s : Sup) :
    go n 58 [.agg [iW num, bW st l, iW next, iW state]] [] s = some ⟨.agg [iW num, .own 0 0 l.length (some l.length), iW next, iW state], [], [.row none 1 (byt l) 0]⟩ := by
  obtain ⟨n, rfl⟩ : ∃ k, n = k + 1 := ⟨n - 1, by omega⟩
  simp [go_of FT_58 rfl, F58, run_toByteS (n := n) l (by omega) hl]
theorem run_toDesk {n : Nat} (last num next state : Int) (st : Nat) (l : List Int) (hn : l.length + 4 ≤ n) (hl : room l.length 1 = true) (s : Sup) :
    go n 16 [.agg [iW last, iW num, bW st l, iW next, iW state]] [] s = some ⟨.agg [iW last, iW num, .own 0 0 l.length (some l.length), iW next, iW state], [], [.row none 1 (byt l) 0]⟩ := by
  obtain ⟨n, rfl⟩ : ∃ k, n = k + 1 := ⟨n - 1, by omega⟩
  simp [go_of FT_16 rfl, F16, run_toDeskJob (n := n) num next state st l (by omega) hl]

theorem run_eqDeskJob {n : Nat} (a1 a3 a4 b1 b3 b4 : Int) (s0 s1 : Nat) (l m : List Int) (hn : l.length + 3 ≤ n) (hl : l.length < 2 ^ 62) (s : Sup) :
    go n 62 [.agg [iW a1, bW s0 l, iW a3, iW a4], .agg [iW b1, bW s1 m, iW b3, iW b4]] [] s = some ⟨sV (.bool (decide (a1 = b1 ∧ l = m ∧ a3 = b3 ∧ a4 = b4))), [], []⟩ := by
  obtain ⟨n, rfl⟩ : ∃ k, n = k + 1 := ⟨n - 1, by omega⟩
  have E := run_eqByteS (n := n) l m (by omega) hl s0 s1
  by_cases h1 : a1 = b1
  · by_cases h2 : l = m
    · by_cases h3 : a3 = b3
      · by_cases h4 : a4 = b4
        · subst h1 h2 h3 h4; simp [go_of FT_62 rfl, F62, E]
        · subst h1 h2 h3; simp [go_of FT_62 rfl, F62, E, h4]
      · subst h1 h2; simp [go_of FT_62 rfl, F62, E, h3]
    · subst h1; simp [go_of FT_62 rfl, F62, E, h2]
  · simp [go_of FT_62 rfl, F62, E, h1]

theorem run_eqDesk {n : Nat} (a0 a1 a3 a4 b0 b1 b3 b4 : Int) (s0 s1 : Nat) (l m : List Int) (hn : l.length + 4 ≤ n) (hl : l.length < 2 ^ 62) (s : Sup) :
    go n 19 [.agg [iW a0, iW a1, bW s0 l, iW a3, iW a4], .agg [iW b0, iW b1, bW s1 m, iW b3, iW b4]] [] s = some ⟨sV (.bool (decide (a0 = b0 ∧ a1 = b1 ∧ l = m ∧ a3 = b3 ∧ a4 = b4))), [], []⟩ := by
  obtain ⟨n, rfl⟩ : ∃ k, n = k + 1 := ⟨n - 1, by omega⟩
  have E := run_eqDeskJob (n := n) a1 a3 a4 b1 b3 b4 s0 s1 l m (by omega) hl
  by_cases h0 : a0 = b0
  · by_cases h : a1 = b1 ∧ l = m ∧ a3 = b3 ∧ a4 = b4
    · obtain ⟨rfl, rfl, rfl, rfl⟩ := h; subst h0; simp [go_of FT_19 rfl, F19, E]
    · have h' := eq_false h
      subst h0; simp [go_of FT_19 rfl, F19, E, h']
  · simp [go_of FT_19 rfl, F19, h0]

end Go.VM
