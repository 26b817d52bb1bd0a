/- What a desk says: the reference's and the program's, reckoned. Conditions: none. -/
import Derived.Test.YthkednnfadhidaaVL3
import Derived.Test.YthkednnfadhidaaVHA
import Derived.Test.YthkednnfadhidaaVRA

namespace Go.VM
set_option linter.unusedSimpArgs false
set_option linter.unusedVariables false
set_option maxHeartbeats 8000000

theorem room_q {n : Nat} (h : n ≤ 30000) : room n 1 = true := by simp [room]; omega
abbrev wwD (kd nm of ix : Int) (x : W) : V := .agg [iW kd, iW nm, iW of, iW ix, x]

theorem run_eqWord {n : Nat} (kd nm of ix : Int) (s0 s1 : Nat) (l : List Int) (hn : l.length + 3 ≤ n) (hl : l.length < 2 ^ 62) (s : Sup) :
    go n 36 [wwD kd nm of ix (bW s0 l), wwD kd nm of ix (bW s1 l)] [] s = some ⟨sV (.bool true), [], []⟩ := by
  obtain ⟨n, rfl⟩ : ∃ k, n = k + 1 := ⟨n - 1, by omega⟩
  have E := fun s0 s1 s => run_eqByteS (n := n) l l (by omega) hl s0 s1 s
  simp [go_of FT_36 rfl, F36, E]
theorem run_markWord {n : Nat} (kd nm of ix : Int) (l : List Int) (hn : l.length + 3 ≤ n) (hl : l.length < 2 ^ 40) (k0 : Nat) (hk0 : k0 < 2 ^ 40) (c : Option Nat) (s : Sup) :
    goM n 37 [wwD kd nm of ix (.own 0 0 l.length c), iV k0] [.row none 1 (byt l) 0] s = some ⟨iV (k0 + l.length : Nat), [.row none 1 (byt (markL k0 l.length)) 0], []⟩ := by
  obtain ⟨n, rfl⟩ : ∃ k, n = k + 1 := ⟨n - 1, by omega⟩
  have Q := fun s => run_markByte (n := n) l (by omega) hl k0 hk0 c s
  simp only [Int.natCast_add] at Q
  simp [goM_of FT_37, F37, Q, modeI]
theorem run_markWordNil {n : Nat} (hn : 6 ≤ n) (kd nm of ix : Int) (k0 : Nat) (s : Sup) : goM n 37 [wwD kd nm of ix .nil, iV k0] [] s = some ⟨iV k0, [], []⟩ := by
  obtain ⟨n, rfl⟩ : ∃ k, n = k + 1 := ⟨n - 1, by omega⟩
  have Q := fun s => run_markNil (n := n) (by omega) k0 s
  simp [goM_of FT_37, F37, Q, modeI]
theorem run_heldWord {n : Nat} (kd nm of ix : Int) (m : Nat) (hn : m + 3 ≤ n) (hl : m < 2 ^ 39) (k0 : Nat) (hk0 : k0 < 2 ^ 39) (st0 : Nat) (s : Sup) :
    go n 38 [wwD kd nm of ix (bW st0 (markL k0 m)), iV k0] [] s = some ⟨iV (k0 + m : Nat), [], []⟩ := by
  obtain ⟨n, rfl⟩ : ∃ k, n = k + 1 := ⟨n - 1, by omega⟩
  have Q := fun s => run_heldByte (n := n) m (by omega) (by omega) k0 (by omega) st0 s
  have h0 : ((k0 : Int) + m < 0) = False := eq_false (by omega)
  simp only [Int.natCast_add] at Q
  simp [go_of FT_38 rfl, F38, Q, h0]

/-- A piece of an image. -/
def pieceL (l : List Int) (i : Nat) : List Int := (l.drop (24 * i)).take 24
theorem pieceL_len (l : List Int) (i : Nat) : (pieceL l i).length ≤ 24 := by simp [pieceL]; omega
theorem byt_drop (l : List Int) (k : Nat) : (byt l).drop k = byt (l.drop k) := by simp [byt, List.map_drop]
theorem byt_take (l : List Int) (k : Nat) : (byt l).take k = byt (l.take k) := by simp [byt, List.map_take]
theorem take_min (l : List Int) (i : Nat) (h : 24 * i ≤ l.length) : (l.drop (24 * i)).take (min l.length (24 * i + 24) - 24 * i) = pieceL l i := by
  unfold pieceL
  by_cases c : 24 * i + 24 ≤ l.length
  · rw [show min l.length (24 * i + 24) - 24 * i = 24 from by omega]
  · rw [show min l.length (24 * i + 24) - 24 * i = l.length - 24 * i from by omega, List.take_of_length_le (by simp), List.take_of_length_le (by simp; omega)]

theorem run_pieceS {n : Nat} (hn : 4 ≤ n) (nm : Int) (i : Nat) (st : Nat) (l : List Int) (hl : l.length ≤ 2 ^ 20) (hi : 24 * i ≤ l.length) (s : Sup) :
    go n 78 [iV nm, .w (bW st l), iV i] [] s = some ⟨wwD 1 nm (wireOf l.length) i (bW 0 (pieceL l i)), [], []⟩ := by
  obtain ⟨n, rfl⟩ : ∃ k, n = k + 1 := ⟨n - 1, by omega⟩
  have W := fun st s => run_wireOfS (n := n) (by omega) st l (by omega) s
  have w1 : IntKind.wrap .i64 ((i : Int) + 1) = i + 1 := wrap_id (by omega) (by omega)
  have w2 : IntKind.wrap .i64 (((i : Int) + 1) * 24) = (i + 1) * 24 := wrap_id (by omega) (by omega)
  have w3 : IntKind.wrap .i64 ((i : Int) * 24) = i * 24 := wrap_id (by omega) (by omega)
  have hp := pieceL_len l i
  have hr : room (pieceL l i).length 1 = true := room_q (by omega)
  have c0 : (0 ≤ (i : Int) * 24) = True := eq_true (by omega)
  have tn : ((i : Int) * 24).toNat = 24 * i := by omega
  have tk := take_min l i hi
  by_cases c : (l.length : Int) < ((i : Int) + 1) * 24
  · have c' := eq_true c
    have c2 : ((i : Int) * 24 ≤ (l.length : Int)) = True := eq_true (by omega)
    have e : min l.length (24 * i + 24) - 24 * i = l.length - 24 * i := by omega
    rw [e] at tk
    simp [go_of FT_78 rfl, F78, W, w1, w2, w3, c', c0, c2, tn, byt_all, byt_drop, byt_take, tk, rowParts, hr]
  · have c' := eq_false c
    have c2 : ((i : Int) * 24 ≤ ((i : Int) + 1) * 24) = True := eq_true (by omega)
    have c3 : (((i : Int) + 1) * 24 ≤ (l.length : Int)) = True := eq_true (by omega)
    have tn2 : (((i : Int) + 1) * 24).toNat - 24 * i = 24 := by omega
    have c4 : ((i : Int) ≤ (i : Int) + 1) = True := eq_true (by omega)
    have e : min l.length (24 * i + 24) - 24 * i = 24 := by omega
    rw [e] at tk
    simp [go_of FT_78 rfl, F78, W, w1, w2, w3, c', c0, c2, c3, c4, tn, tn2, byt_all, byt_drop, byt_take, tk, rowParts, hr]

theorem run_pieceI {n : Nat} (hn : 4 ≤ n) (i : Nat) (st : Nat) (l : List Int) (hl : l.length ≤ 2 ^ 20) (hi : 24 * i ≤ l.length) (s : Sup) :
    runMv (go n) mode (fun _ => none) n F97 [.w (bW st l), iV i] [] s = some ⟨.w (ownW 0 (pieceL l i).length (some (pieceL l i).length)), [], [rowB (pieceL l i)]⟩ := by
  have hp := pieceL_len l i
  have C := fun st s => run_clone (n := n) (by omega) st (pieceL l i) (room_q (by omega)) s
  have w3 : IntKind.wrap .i64 ((i : Int) * 24) = i * 24 := wrap_id (by omega) (by omega)
  have w4 : IntKind.wrap .i64 ((i : Int) * 24 + 24) = i * 24 + 24 := wrap_id (by omega) (by omega)
  have c0 : (0 ≤ (i : Int) * 24) = True := eq_true (by omega)
  have tn : ((i : Int) * 24).toNat = 24 * i := by omega
  have tk := take_min l i hi
  by_cases c : (i : Int) * 24 + 24 < (l.length : Int)
  · have c' := eq_true c
    have c2 : ((i : Int) * 24 ≤ (i : Int) * 24 + 24) = True := eq_true (by omega)
    have c3 : ((i : Int) * 24 + 24 ≤ (l.length : Int)) = True := eq_true (by omega)
    have tn2 : ((i : Int) * 24 + 24).toNat - 24 * i = 24 := by omega
    have e : min l.length (24 * i + 24) - 24 * i = 24 := by omega
    rw [e] at tk
    simp [runMv_at, F97, C, w3, w4, c', c0, c2, c3, tn, tn2, byt_all, byt_drop, byt_take, tk]
  · have c' := eq_false c
    have c2 : ((i : Int) * 24 ≤ (l.length : Int)) = True := eq_true (by omega)
    have e : min l.length (24 * i + 24) - 24 * i = l.length - 24 * i := by omega
    rw [e] at tk
    simp [runMv_at, F97, C, w3, w4, c', c0, c2, tn, byt_all, byt_drop, byt_take, tk]

end Go.VM
