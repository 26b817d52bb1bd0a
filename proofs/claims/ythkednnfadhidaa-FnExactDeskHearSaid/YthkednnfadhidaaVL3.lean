/- A desk falls as the reference's: the law's run. Conditions: none. -/
import Derived.Test.YthkednnfadhidaaVX1
import Derived.Test.YthkednnfadhidaaVD2

namespace Go.VM
set_option linter.unusedSimpArgs false
set_option linter.unusedVariables false
set_option maxHeartbeats 8000000

theorem szB_ge' {left : Int} {n : Nat} (h : ¬ szB left n < 0) (h0 : 0 ≤ left) (h1 : left < 2 ^ 40) (h2 : n < 2 ^ 63) : (n : Int) ≤ left := by
  have w : IntKind.wrap .i64 (left - n) = left - n := wrap_id (by omega) (by omega)
  unfold szB at h
  rw [w] at h
  split at h <;> omega
theorem szD_ge' {left : Int} {n : Nat} (h : ¬ szD left n < 0) (h0 : 0 ≤ left) (h1 : left < 2 ^ 40) (h2 : n < 2 ^ 63) : (n : Int) ≤ left := by
  refine szB_ge' (left := left) (n := n) (fun hb => h ?_) h0 h1 h2
  unfold szD szJ
  simp [hb]
theorem room_p {n : Nat} (h : n ≤ 2 ^ 20) : room n 1 = true := by simp [room]; omega

abbrev dkD (last num : Int) (x : W) (next state : Int) : V := .agg [iW last, iW num, x, iW next, iW state]

theorem run_markJob {n : Nat} (num next state : Int) (l : List Int) (hn : l.length + 3 ≤ n) (hl : l.length < 2 ^ 40) (k0 : Nat) (hk0 : k0 < 2 ^ 40) (c : Option Nat) (s : Sup) :
    goM n 63 [.agg [iW num, .own 0 0 l.length c, iW next, iW state], iV k0] [.row none 1 (byt l) 0] s = some ⟨iV (k0 + l.length : Nat), [.row none 1 (byt (markL k0 l.length)) 0], []⟩ := by
  obtain ⟨n, rfl⟩ : ∃ k, n = k + 1 := ⟨n - 1, by omega⟩
  have Q := fun s => run_markByte (n := n) l (by omega) hl k0 hk0 c s
  simp only [Int.natCast_add] at Q
  simp [goM_of FT_63, F63, Q, modeI]
theorem run_markDesk {n : Nat} (last num next state : Int) (l : List Int) (hn : l.length + 4 ≤ n) (hl : l.length < 2 ^ 40) (k0 : Nat) (hk0 : k0 < 2 ^ 40) (c : Option Nat) (s : Sup) :
    goM n 22 [dkD last num (.own 0 0 l.length c) next state, iV k0] [.row none 1 (byt l) 0] s = some ⟨iV (k0 + l.length : Nat), [.row none 1 (byt (markL k0 l.length)) 0], []⟩ := by
  obtain ⟨n, rfl⟩ : ∃ k, n = k + 1 := ⟨n - 1, by omega⟩
  have Q := fun s => run_markJob (n := n) num next state l (by omega) hl k0 hk0 c s
  simp only [Int.natCast_add] at Q
  simp [goM_of FT_22, F22, Q, modeI]
theorem run_markDeskNil {n : Nat} (hn : 6 ≤ n) (last num next state : Int) (k0 : Nat) (s : Sup) : goM n 22 [dkD last num .nil next state, iV k0] [] s = some ⟨iV k0, [], []⟩ := by
  obtain ⟨n, rfl⟩ : ∃ k, n = k + 2 := ⟨n - 2, by omega⟩
  have Q := fun s => run_markNil (n := n) (by omega) k0 s
  simp [goM_of FT_22, F22, goM_of FT_63, F63, Q, modeI]

theorem run_heldJob {n : Nat} (num next state : Int) (m : Nat) (hn : m + 3 ≤ n) (hl : m < 2 ^ 39) (k0 : Nat) (hk0 : k0 < 2 ^ 39) (st0 : Nat) (s : Sup) :
    go n 64 [.agg [iW num, bW st0 (markL k0 m), iW next, iW state], iV k0] [] s = some ⟨iV (k0 + m : Nat), [], []⟩ := by
  obtain ⟨n, rfl⟩ : ∃ k, n = k + 1 := ⟨n - 1, by omega⟩
  have Q := fun s => run_heldByte (n := n) m (by omega) (by omega) k0 (by omega) st0 s
  have h0 : ((k0 : Int) + m < 0) = False := eq_false (by omega)
  simp only [Int.natCast_add] at Q
  simp [go_of FT_64 rfl, F64, Q, h0]
theorem run_heldDesk {n : Nat} (last num next state : Int) (m : Nat) (hn : m + 4 ≤ n) (hl : m < 2 ^ 39) (k0 : Nat) (hk0 : k0 < 2 ^ 39) (st0 : Nat) (s : Sup) :
    go n 23 [dkD last num (bW st0 (markL k0 m)) next state, iV k0] [] s = some ⟨iV (k0 + m : Nat), [], []⟩ := by
  obtain ⟨n, rfl⟩ : ∃ k, n = k + 1 := ⟨n - 1, by omega⟩
  have Q := fun s => run_heldJob (n := n) num next state m (by omega) (by omega) k0 (by omega) st0 s
  have h0 : ((k0 : Int) + m < 0) = False := eq_false (by omega)
  simp only [Int.natCast_add] at Q
  simp [go_of FT_23 rfl, F23, Q, h0]

def fallLast (last num next state : Int) (n : Nat) : Int := if deskOk last num next state n = true then last else 0
theorem run_fallS {n : Nat} (hn : 3 ≤ n) (last num next state : Int) (st : Nat) (l : List Int) (hl : l.length < 2 ^ 62) (s : Sup) :
    go n 20 [dkD last num (bW st l) next state] [] s = some ⟨dkD (fallLast last num next state l.length) 0 (.d (.l 0 [])) 0 0, [], []⟩ := by
  obtain ⟨n, rfl⟩ : ∃ k, n = k + 1 := ⟨n - 1, by omega⟩
  have Q := fun s => run_deskOkS (n := n) (by omega) last num next state st l hl s
  unfold fallLast
  cases h : deskOk last num next state l.length <;> simp [go_of FT_20 rfl, F20, Q, h]
theorem run_fallI {n : Nat} (hn : 3 ≤ n) (last num next state : Int) (st : Nat) (l : List Int) (hl : l.length < 2 ^ 62) (s : Sup) :
    runMv (go n) mode (fun _ => none) n F21 [dkD last num (bW st l) next state] [] s = some ⟨dkD (fallLast last num next state l.length) 0 .nil 0 0, [], []⟩ := by
  have Q := fun s => run_deskOkI (n := n) (by omega) last num next state st l hl s
  unfold fallLast
  cases h : deskOk last num next state l.length <;> simp [runMv_at, F21, Q, h]

theorem run_lawDeskFall (last num next state : Int) (l : List Int) (hl0 : l.length < 2 ^ 63) (s : Sup) :
    goT (l.length + 20) 3 [dkD last num (bW 0 l) next state] [] s = some ⟨sV (.bool true), [], []⟩ := by
  obtain ⟨n, hn⟩ : ∃ n, l.length + 20 = n := ⟨_, rfl⟩
  rw [hn]
  have hnl : l.length + 20 ≤ n := by omega
  clear hn
  have S := fun s => run_szDesk (n := n) (by omega) last num next state 1048576 0 l s
  have X15 := fun args bs s => goX_else (f := 15) (n := n) (args := args) (bs := bs) (s := s) rfl rfl rfl
  by_cases h : szD 1048576 l.length < 0
  · simp [goT_of FT_3, F3, modeT, specIds, X15, brw_at, brwCall, brwEnd, S, h, V.flat, W.flat]
  · have hle := szD_ge' h (by omega) (by omega) hl0
    have hl : l.length < 2 ^ 62 := by omega
    have hr : room l.length 1 = true := room_p (by omega)
    have T := fun st s => run_toDesk (n := n) last num next state st l (by omega) hr s
    have A := fun st s => run_fallS (n := n) (by omega) last num next state st l hl s
    have B := fun st s => run_fallI (n := n) (by omega) last num next state st l hl s
    generalize fallLast last num next state l.length = fl at A B
    have E1 := fun s0 s1 s => run_eqDesk (n := n) last num next state last num next state s0 s1 l l (by omega) hl s
    have E2 : ∀ s, go n 19 [dkD fl 0 (.d (.l 0 [])) 0 0, dkD fl 0 (.d (.l 0 [])) 0 0] [] s = some ⟨sV (.bool true), [], []⟩ := fun s =>
      (run_eqDesk (n := n) fl 0 0 0 fl 0 0 0 0 0 [] [] (by simp; omega) (by simp) s).trans (by simp)
    have K1 := fun c s => run_markDesk (n := n) last num next state l (by omega) (by omega) 1 (by omega) c s
    have K2 := fun s => run_markDeskNil (n := n) (by omega) fl 0 0 0 1 s
    have D2 : ∀ s, go n 23 [dkD fl 0 (.d (.l 0 [])) 0 0, iV 1] [] s = some ⟨iV 1, [], []⟩ := fun s => run_heldDesk (n := n) fl 0 0 0 0 (by omega) (by omega) 1 (by omega) 0 s
    have hk : ((1 : Int) + l.length < 0) = False := eq_false (by omega)
    simp only [Int.natCast_add, Int.cast_ofNat_Int] at K1 K2
    have X16 := fun args bs s => goX_else (f := 16) (n := n) (args := args) (bs := bs) (s := s) rfl rfl rfl
    have X19 := fun args bs s => goX_else (f := 19) (n := n) (args := args) (bs := bs) (s := s) rfl rfl rfl
    have X23 := fun args bs s => goX_else (f := 23) (n := n) (args := args) (bs := bs) (s := s) rfl rfl rfl
    have X20 := fun args bs s => goX_spec (f := 20) (n := n) (args := args) (bs := bs) (s := s) rfl rfl
    have X21 := fun args bs s => goX_impl (f := 21) FT_21 (n := n) (args := args) (bs := bs) (s := s) rfl rfl rfl
    have X22 := fun args bs s => goX_mark (f := 22) (n := n) (args := args) (bs := bs) (s := s) rfl
    simp [goT_of FT_3, F3, modeT, specIds, X15, X16, X19, X20, X21, X22, X23, brw_at, brwCall, brwEnd, S, h, T, A, B, E1, E2, K1, K2, D2, hk, V.flat, W.flat]

end Go.VM
