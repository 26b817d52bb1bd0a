/- Stores: their sizes, copies, comparisons and marks. Conditions: none. -/
import Derived.Test.YthkednnfadhidaaVX1
import Derived.Test.YthkednnfadhidaaVHA
import Derived.Test.YthkednnfadhidaaVD2

namespace Go.VM
set_option linter.unusedSimpArgs false
set_option linter.unusedVariables false
set_option maxHeartbeats 8000000

/-- The size that is left of a store. -/
def szS (left : Int) (n : Nat) : Int := if szB left n < 0 then -1 else szB left n
def szR (left : Int) (a b : Nat) : Int := if szS left a < 0 then -1 else if szS (szS left a) b < 0 then -1 else szS (szS left a) b
theorem run_szSlot {n : Nat} (hn : 2 ≤ n) (m t left : Int) (st : Nat) (l : List Int) (s : Sup) :
    go n 72 [.agg [u8W m, u8W t, dW st l], .w (.d (.s (.int .i64 left)))] [] s = some ⟨sV (.int .i64 (szS left l.length)), [], []⟩ := by
  obtain ⟨n, rfl⟩ : ∃ k, n = k + 1 := ⟨n - 1, by omega⟩
  unfold szS
  by_cases h : szB left l.length < 0 <;> simp [go_of FT_72 rfl, F72, run_szByteS (n := n) (by omega), h]
theorem run_szRom {n : Nat} (hn : 3 ≤ n) (am at_ bm bt left : Int) (sa sb : Nat) (ra rb : List Int) (s : Sup) :
    go n 27 [.agg (romV am at_ (dW sa ra) bm bt (dW sb rb)), .w (.d (.s (.int .i64 left)))] [] s = some ⟨sV (.int .i64 (szR left ra.length rb.length)), [], []⟩ := by
  obtain ⟨n, rfl⟩ : ∃ k, n = k + 1 := ⟨n - 1, by omega⟩
  have Q := fun m t left st l s => run_szSlot (n := n) (by omega) m t left st l s
  unfold szR
  by_cases h : szS left ra.length < 0
  · simp [go_of FT_27 rfl, F27, Q, h]
  · by_cases h2 : szS (szS left ra.length) rb.length < 0 <;> simp [go_of FT_27 rfl, F27, Q, h, h2]

theorem run_toSlot {n : Nat} (m t : Int) (st : Nat) (l : List Int) (hn : l.length + 3 ≤ n) (hl : room l.length 1 = true) (s : Sup) :
    go n 73 [.agg [u8W m, u8W t, dW st l]] [] s = some ⟨.agg [u8W m, u8W t, ownW 0 l.length (some l.length)], [], [rowB l]⟩ := by
  obtain ⟨n, rfl⟩ : ∃ k, n = k + 1 := ⟨n - 1, by omega⟩
  have Q := fun st s => run_toByteS (n := n) l (by omega) hl st s
  simp [go_of FT_73 rfl, F73, Q]
theorem run_toRom {n : Nat} (am at_ bm bt : Int) (sa sb : Nat) (ra rb : List Int) (hn : ra.length + 4 ≤ n) (hn2 : rb.length + 4 ≤ n) (h1 : room ra.length 1 = true) (h2 : room rb.length 1 = true) (s : Sup) :
    go n 28 [.agg (romV am at_ (dW sa ra) bm bt (dW sb rb))] [] s = some ⟨.agg (romV am at_ (ownW 0 ra.length (some ra.length)) bm bt (ownW 1 rb.length (some rb.length))), [], [rowB ra, rowB rb]⟩ := by
  obtain ⟨n, rfl⟩ : ∃ k, n = k + 1 := ⟨n - 1, by omega⟩
  have Q1 := fun m t st s => run_toSlot (n := n) m t st ra (by omega) h1 s
  have Q2 := fun m t st s => run_toSlot (n := n) m t st rb (by omega) h2 s
  simp [go_of FT_28 rfl, F28, Q1, Q2]

theorem run_eqSlot {n : Nat} (m t : Int) (s0 s1 : Nat) (l : List Int) (hn : l.length + 3 ≤ n) (hl : l.length < 2 ^ 62) (s : Sup) :
    go n 75 [.agg [u8W m, u8W t, dW s0 l], .agg [u8W m, u8W t, dW s1 l]] [] s = some ⟨sV (.bool true), [], []⟩ := by
  obtain ⟨n, rfl⟩ : ∃ k, n = k + 1 := ⟨n - 1, by omega⟩
  have E := fun s0 s1 s => run_eqByteS (n := n) l l (by omega) hl s0 s1 s
  simp [go_of FT_75 rfl, F75, E]
theorem run_eqRom {n : Nat} (am at_ bm bt : Int) (sa sb sa' sb' : Nat) (ra rb : List Int) (hn : ra.length + 4 ≤ n) (hn2 : rb.length + 4 ≤ n) (h1 : ra.length < 2 ^ 62) (h2 : rb.length < 2 ^ 62) (s : Sup) :
    go n 31 [.agg (romV am at_ (dW sa ra) bm bt (dW sb rb)), .agg (romV am at_ (dW sa' ra) bm bt (dW sb' rb))] [] s = some ⟨sV (.bool true), [], []⟩ := by
  obtain ⟨n, rfl⟩ : ∃ k, n = k + 1 := ⟨n - 1, by omega⟩
  have Q1 := fun m t s0 s1 s => run_eqSlot (n := n) m t s0 s1 ra (by omega) h1 s
  have Q2 := fun m t s0 s1 s => run_eqSlot (n := n) m t s0 s1 rb (by omega) h2 s
  simp [go_of FT_31 rfl, F31, Q1, Q2]

theorem run_markSlot {n : Nat} (m t : Int) (l : List Int) (hn : l.length + 3 ≤ n) (hl : l.length < 2 ^ 40) (k0 : Nat) (hk0 : k0 < 2 ^ 40) (c : Option Nat) (s : Sup) :
    goM n 76 [.agg [u8W m, u8W t, ownW 0 l.length c], .w (.d (.s (.int .i64 k0)))] [rowB l] s = some ⟨sV (.int .i64 (k0 + l.length : Nat)), [rowB (markL k0 l.length)], []⟩ := by
  obtain ⟨n, rfl⟩ : ∃ k, n = k + 1 := ⟨n - 1, by omega⟩
  have Q := fun s => run_markByte (n := n) l (by omega) hl k0 hk0 c s
  simp only [Int.natCast_add] at Q
  simp [goM_of FT_76, F76, Q, modeI]
theorem run_markRom {n : Nat} (am at_ bm bt : Int) (ra rb : List Int) (hn : ra.length + 4 ≤ n) (hn2 : rb.length + 4 ≤ n) (h1 : ra.length < 2 ^ 38) (h2 : rb.length < 2 ^ 38) (k0 : Nat) (hk0 : k0 < 2 ^ 38) (c d : Option Nat) (s : Sup) :
    goM n 32 [.agg (romV am at_ (ownW 0 ra.length c) bm bt (ownW 1 rb.length d)), .w (.d (.s (.int .i64 k0)))] [rowB ra, rowB rb] s =
      some ⟨sV (.int .i64 (k0 + ra.length + rb.length : Nat)), [rowB (markL k0 ra.length), rowB (markL (k0 + ra.length : Nat) rb.length)], []⟩ := by
  obtain ⟨n, rfl⟩ : ∃ k, n = k + 1 := ⟨n - 1, by omega⟩
  have Q1 := fun m t c s => run_markSlot (n := n) m t ra (by omega) (by omega) k0 (by omega) c s
  have Q2 := fun m t c s => run_markSlot (n := n) m t rb (by omega) (by omega) (k0 + ra.length) (by omega) c s
  simp only [Int.natCast_add] at Q1 Q2
  simp [goM_of FT_32, F32, Q1, Q2, modeI]

theorem run_heldSlot {n : Nat} (m t : Int) (q : Nat) (hn : q + 3 ≤ n) (hl : q < 2 ^ 39) (k0 : Nat) (hk0 : k0 < 2 ^ 39) (st : Nat) (s : Sup) :
    go n 77 [.agg [u8W m, u8W t, dW st (markL k0 q)], .w (.d (.s (.int .i64 k0)))] [] s = some ⟨sV (.int .i64 (k0 + q : Nat)), [], []⟩ := by
  obtain ⟨n, rfl⟩ : ∃ k, n = k + 1 := ⟨n - 1, by omega⟩
  have Q := fun s => run_heldByte (n := n) q (by omega) (by omega) k0 (by omega) st s
  have h0 : ((k0 : Int) + q < 0) = False := eq_false (by omega)
  simp only [Int.natCast_add] at Q
  simp [go_of FT_77 rfl, F77, Q, h0]
theorem run_heldRom {n : Nat} (am at_ bm bt : Int) (a b : Nat) (hn : a + 4 ≤ n) (hn2 : b + 4 ≤ n) (h1 : a < 2 ^ 37) (h2 : b < 2 ^ 37) (k0 : Nat) (hk0 : k0 < 2 ^ 37) (sa sb : Nat) (s : Sup) :
    go n 33 [.agg (romV am at_ (dW sa (markL k0 a)) bm bt (dW sb (markL (k0 + a : Nat) b))), .w (.d (.s (.int .i64 k0)))] [] s = some ⟨sV (.int .i64 (k0 + a + b : Nat)), [], []⟩ := by
  obtain ⟨n, rfl⟩ : ∃ k, n = k + 1 := ⟨n - 1, by omega⟩
  have Q1 := fun m t st s => run_heldSlot (n := n) m t a (by omega) (by omega) k0 (by omega) st s
  have Q2 := fun m t st s => run_heldSlot (n := n) m t b (by omega) (by omega) (k0 + a) (by omega) st s
  have h0 : ((k0 : Int) + a < 0) = False := eq_false (by omega)
  have h3 : ((k0 : Int) + a + b < 0) = False := eq_false (by omega)
  simp only [Int.natCast_add] at Q1 Q2
  simp [go_of FT_33 rfl, F33, Q1, Q2, h0, h3]

end Go.VM
