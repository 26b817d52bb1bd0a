/- The law of a desk's being well formed, reckoned. Conditions: none. -/
import Derived.Test.YthkednnfadhidaaVD2
namespace Go.VM
set_option linter.unusedSimpArgs false
set_option maxHeartbeats 40000000

theorem szB_ge {left : Int} {n : Nat} (h : ¬ szB left n < 0) (h0 : 0 ≤ left) (h1 : left < 2 ^ 40) (h2 : n < 2 ^ 63) : szB left n = left - n ∧ (n : Int) ≤ left := by
  have w : IntKind.wrap .i64 (left - n) = left - n := wrap_id (by omega) (by omega)
  unfold szB at h ⊢
  rw [w] at h ⊢
  split at h <;> omega

theorem szD_ge {left : Int} {n : Nat} (h : ¬ szD left n < 0) (h0 : 0 ≤ left) (h1 : left < 2 ^ 40) (h2 : n < 2 ^ 63) : (n : Int) ≤ left := by
  refine (szB_ge (left := left) (n := n) (fun hb => h ?_) h0 h1 h2).2
  unfold szD szJ
  simp [hb]

theorem room_small {n : Nat} (h : n ≤ 2 ^ 20) : room n 1 = true := by simp [room]; omega

theorem run_lawDeskOk (last num next state : Int) (l : List Int) (hl0 : l.length < 2 ^ 63) (s : Sup) :
    go (l.length + 10) 2 [.agg [iW last, iW num, bW 0 l, iW next, iW state]] [] s = some ⟨sV (.bool true), [], []⟩ := by
  have S := fun s => run_szDesk (n := l.length + 9) (by omega) last num next state 1048576 0 l s
  by_cases h : szD 1048576 l.length < 0
  · simp [go_of FT_2 rfl, F2, S, h]
  · have hle := szD_ge h (by omega) (by omega) hl0
    have hl : l.length < 2 ^ 62 := by omega
    have hr : room l.length 1 = true := room_small (by omega)
    have T := fun s => run_toDesk (n := l.length + 9) last num next state 0 l (by omega) hr s
    have A := fun s => run_deskOkS (n := l.length + 9) (by omega) last num next state 0 l hl s
    have B := fun s => run_deskOkI (n := l.length + 9) (by omega) last num next state 0 l hl s
    have E := fun s => run_eqDesk (n := l.length + 9) last num next state last num next state 0 0 l l (by omega) hl s
    simp [go_of FT_2 rfl, F2, S, h, T, A, B, E]

end Go.VM
