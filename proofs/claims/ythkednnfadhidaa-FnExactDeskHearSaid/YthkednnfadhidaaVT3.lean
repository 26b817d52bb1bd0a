/- Desks as data. Conditions: none. -/
import Derived.Test.YthkednnfadhidaaVE0

namespace Go.Proofs.Ythkednnfadhidaa
open Go.VM
set_option linter.unusedVariables false

theorem tyd_desk {n : Nat} {ds : List D} (h : TyD Try.prog n 38 ds) : ∃ (last num next state : Int) (l : List Int), ds = [.s (.int .i64 last), .s (.int .i64 num), .l 0 (byt l), .s (.int .i64 next), .s (.int .i64 state)] ∧ l.length < 2 ^ 63 ∧ ∀ x ∈ l, 0 ≤ x ∧ x < 256 := by
  obtain ⟨m, hl, hf⟩ := tyd_struct Try.underlying38 h
  rw [show Try.prog.cellsOf 38 = 5 from by kernel_rfl] at hl
  obtain ⟨a, b, c, d, e, rfl⟩ := list5 hl
  have h0 := hf _ (by simp; exact .inl rfl)
  have h1 := hf _ (by simp; exact .inr rfl)
  simp only [show Try.prog.cellsOf 3 = 1 from by kernel_rfl, show Try.prog.cellsOf 36 = 4 from by kernel_rfl, List.drop_succ_cons, List.drop_zero, List.take_succ_cons, List.take_zero] at h0 h1
  obtain ⟨last, e0, -⟩ := tyd_i64 Try.underlying3 h0
  obtain ⟨m, hl, hf⟩ := tyd_struct Try.underlying36 h1
  have k0 := hf _ (by simp; exact .inl rfl)
  have k1 := hf _ (by simp; exact .inr (.inl rfl))
  have k2 := hf _ (by simp; exact .inr (.inr (.inl rfl)))
  have k3 := hf _ (by simp; exact .inr (.inr (.inr rfl)))
  simp only [show Try.prog.cellsOf 3 = 1 from by kernel_rfl, show Try.prog.cellsOf 22 = 1 from by kernel_rfl, List.drop_succ_cons, List.drop_zero, List.take_succ_cons, List.take_zero] at k0 k1 k2 k3
  obtain ⟨num, q0, -⟩ := tyd_i64 Try.underlying3 k0
  obtain ⟨l, q1, hl1, hl2⟩ := tyd_bytes Try.underlying22 Try.underlying5 k1
  obtain ⟨next, q2, -⟩ := tyd_i64 Try.underlying3 k2
  obtain ⟨state, q3, -⟩ := tyd_i64 Try.underlying3 k3
  cases e0; cases q0; cases q1; cases q2; cases q3
  exact ⟨last, num, next, state, l, rfl, hl1, hl2⟩

end Go.Proofs.Ythkednnfadhidaa
