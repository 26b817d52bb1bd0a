/- The store's small functions, reckoned. Conditions: none. -/
import Derived.Test.YthkednnfadhidaaVB1
namespace Go.VM
set_option linter.unusedSimpArgs false
set_option maxHeartbeats 4000000

abbrev u8W (n : Int) : W := .d (.s (.int .u8 n))
abbrev dW (st : Nat) (l : List Int) : W := .d (.l st (byt l))
abbrev rowB (l : List Int) : Box := .row none 1 (byt l) 0
abbrev romV (am at_ : Int) (x : W) (bm bt : Int) (y : W) : List W := [u8W am, u8W at_, x, u8W bm, u8W bt, y]
abbrev ownW (b n : Nat) (c : Option Nat) : W := .own b 0 n c

theorem byt_all (l : List Int) : (∀ x ∈ byt l, x.length = 1) = True := eq_true (by simp [byt])
theorem byt_all' (l : List Int) : (byt l).all (fun r => r.length == 1) = true := by simp [byt]

def goodB (m t : Int) (n : Nat) : Bool := m == 165 && (decide (t ≤ 2) && decide (n ≤ 20100))

theorem run_good {n : Nat} (hn : 1 ≤ n) (m t : Int) (st : Nat) (rows : List (List D)) (s : Sup) :
    go n 84 [.agg [u8W m, u8W t, .d (.l st rows)]] [] s = some ⟨sV (.bool (goodB m t rows.length)), [], []⟩ := by
  obtain ⟨n, rfl⟩ : ∃ k, n = k + 1 := ⟨n - 1, by omega⟩
  unfold goodB
  by_cases h1 : m = 165 <;> by_cases h2 : t ≤ 2 <;>
  simp [go_of FT_84 rfl, F84, h1, h2] <;> omega

def slotNow (am at_ : Int) (an : Nat) (bm bt : Int) (bn : Nat) : Int :=
  if goodB am at_ an = true ∧ goodB bm bt bn = true ∧ bt = (IntKind.wrap .u8 (at_ + 1)).tmod 3 then 1 else if goodB am at_ an = true then 0 else if goodB bm bt bn = true then 1 else -1

theorem run_slotNow {n : Nat} (hn : 2 ≤ n) (am at_ bm bt : Int) (sa sb : Nat) (ra rb : List Int) (s : Sup) :
    go n 41 [.agg (romV am at_ (dW sa ra) bm bt (dW sb rb))] [] s = some ⟨sV (.int .i64 (slotNow am at_ ra.length bm bt rb.length)), [], []⟩ := by
  obtain ⟨n, rfl⟩ : ∃ k, n = k + 1 := ⟨n - 1, by omega⟩
  unfold slotNow
  have G := fun m t st rows s => run_good (n := n) (by omega) m t st rows s
  by_cases h : bt = (IntKind.wrap .u8 (at_ + 1)).tmod 3
  · have h3 := eq_true h
    clear h
    cases h1 : goodB am at_ ra.length <;> cases h2 : goodB bm bt rb.length <;>
    simp [go_of FT_41 rfl, F41, G, h1, h2, h3]
  · have h3 := eq_false h
    clear h
    cases h1 : goodB am at_ ra.length <;> cases h2 : goodB bm bt rb.length <;>
    simp [go_of FT_41 rfl, F41, G, h1, h2, h3]

/-- A copy is memory of its own. -/
theorem run_clone0 {n : Nat} (hn : 1 ≤ n) (st : Nat) (l : List Int) (h2 : room l.length 1 = true) (s : Sup) :
    go n 93 [.w (dW st l)] [] s = some ⟨.w (ownW 0 l.length none), [], [rowB l]⟩ := by
  obtain ⟨n, rfl⟩ : ∃ k, n = k + 1 := ⟨n - 1, by omega⟩
  rw [go_orc rfl]
  have := byt_all' l
  simp [ans, this, h2, byt_all]

theorem run_clip0 {n : Nat} (hn : 1 ≤ n) (l : List Int) (s : Sup) :
    go n 94 [.w (ownW 0 l.length none)] [rowB l] s = some ⟨.w (ownW 0 l.length (some l.length)), [rowB l], []⟩ := by
  obtain ⟨n, rfl⟩ : ∃ k, n = k + 1 := ⟨n - 1, by omega⟩
  simp [go_of FT_94 rfl, F94]

theorem run_clone {n : Nat} (hn : 2 ≤ n) (st : Nat) (l : List Int) (h2 : room l.length 1 = true) (s : Sup) :
    go n 56 [.w (dW st l)] [] s = some ⟨.w (ownW 0 l.length (some l.length)), [], [rowB l]⟩ := by
  obtain ⟨n, rfl⟩ : ∃ k, n = k + 1 := ⟨n - 1, by omega⟩
  have C := fun st s => run_clone0 (n := n) (by omega) st l h2 s
  have D := fun s => run_clip0 (n := n) (by omega) l s
  simp [go_of FT_56 rfl, F56, C, D]

theorem run_copyOf {n : Nat} (hn : 3 ≤ n) (am at_ bm bt : Int) (sa sb : Nat) (ra rb : List Int) (h1 : room ra.length 1 = true) (h2 : room rb.length 1 = true) (s : Sup) :
    go n 54 [.agg (romV am at_ (dW sa ra) bm bt (dW sb rb))] [] s =
      some ⟨.agg (romV am at_ (ownW 0 ra.length (some ra.length)) bm bt (ownW 1 rb.length (some rb.length))), [], [rowB ra, rowB rb]⟩ := by
  obtain ⟨n, rfl⟩ : ∃ k, n = k + 1 := ⟨n - 1, by omega⟩
  have C := fun st s => run_clone (n := n) (by omega) st ra h1 s
  have D := fun st s => run_clone (n := n) (by omega) st rb h2 s
  simp [go_of FT_54 rfl, F54, C, D]

theorem run_slot_dd {n : Nat} (hn : 1 ≤ n) (am at_ bm bt : Int) (sa sb : Nat) (ra rb : List Int) (k : Int) (s : Sup) :
    go n 52 [.w (.ptr 0 0), .w (.d (.s (.int .i64 k)))] [.cells (romV am at_ (dW sa ra) bm bt (dW sb rb))] s =
      some ⟨.w (if k = 0 then .ptr 0 0 else if k = 1 then .ptr 0 3 else .d (.s (.pointer none))), [.cells (romV am at_ (dW sa ra) bm bt (dW sb rb))], []⟩ := by
  obtain ⟨n, rfl⟩ : ∃ k, n = k + 1 := ⟨n - 1, by omega⟩
  by_cases h0 : k = 0
  · simp [go_of FT_52 rfl, F52, h0]
  · by_cases h1 : k = 1
    · simp [go_of FT_52 rfl, F52, h0, h1]
    · simp [go_of FT_52 rfl, F52, h0, h1]

/-- What a store holds. -/
def holdNow (am at_ : Int) (ra : List Int) (bm bt : Int) (rb : List Int) : List Int × Bool :=
  if slotNow am at_ ra.length bm bt rb.length = 0 then (ra, true) else if slotNow am at_ ra.length bm bt rb.length = 1 then (rb, true) else ([], false)

theorem run_holdNow {n : Nat} (hn : 3 ≤ n) (am at_ bm bt : Int) (sa sb : Nat) (ra rb : List Int) (h1 : room ra.length 1 = true) (h2 : room rb.length 1 = true) (s : Sup) :
    go n 13 [.agg (romV am at_ (dW sa ra) bm bt (dW sb rb))] [] s =
      some ⟨.tup [(false, [dW 0 (holdNow am at_ ra bm bt rb).1]), (false, [.d (.s (.bool (holdNow am at_ ra bm bt rb).2))])], [], []⟩ := by
  obtain ⟨n, rfl⟩ : ∃ k, n = k + 1 := ⟨n - 1, by omega⟩
  have A := fun s => run_slotNow (n := n) (by omega) am at_ bm bt sa sb ra rb s
  have B := fun k s => run_slot_dd (n := n) (by omega) am at_ bm bt sa sb ra rb k s
  have C := fun st s => run_clone (n := n) (by omega) st ra h1 s
  have D := fun st s => run_clone (n := n) (by omega) st rb h2 s
  unfold holdNow
  by_cases h0 : slotNow am at_ ra.length bm bt rb.length = 0
  · simp [go_of FT_13 rfl, F13, A, B, C, D, h0]
  · by_cases h1 : slotNow am at_ ra.length bm bt rb.length = 1
    · simp [go_of FT_13 rfl, F13, A, B, C, D, h0, h1]
    · simp [go_of FT_13 rfl, F13, A, B, C, D, h0, h1, byt]

end Go.VM
