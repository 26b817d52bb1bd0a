/- Words as data. Conditions: none. -/
import Derived.Test.YthkednnfadhidaaVT3

namespace Go.Proofs.Ythkednnfadhidaa
open Go.VM
set_option linter.unusedVariables false

theorem tyd_word {n : Nat} {ds : List D} (h : TyD Try.prog n 79 ds) : ∃ (kd nm of ix : Int) (p : List Int), ds = [.s (.int .i64 kd), .s (.int .i64 nm), .s (.int .i64 of), .s (.int .i64 ix), .l 0 (byt p)] ∧ p.length < 2 ^ 63 ∧ ∀ x ∈ p, 0 ≤ x ∧ x < 256 := by
  obtain ⟨m, hl, hf⟩ := tyd_struct Try.underlying79 h
  rw [show Try.prog.cellsOf 79 = 5 from by kernel_rfl] at hl
  obtain ⟨a, b, c, d, e, rfl⟩ := list5 hl
  have k0 := hf _ (by simp; exact .inl rfl)
  have k1 := hf _ (by simp; exact .inr (.inl rfl))
  have k2 := hf _ (by simp; exact .inr (.inr (.inl rfl)))
  have k3 := hf _ (by simp; exact .inr (.inr (.inr (.inl rfl))))
  have k4 := hf _ (by simp; exact .inr (.inr (.inr (.inr rfl))))
  simp only [show Try.prog.cellsOf 3 = 1 from by kernel_rfl, show Try.prog.cellsOf 22 = 1 from by kernel_rfl, List.drop_succ_cons, List.drop_zero, List.take_succ_cons, List.take_zero] at k0 k1 k2 k3 k4
  obtain ⟨kd, q0, -⟩ := tyd_i64 Try.underlying3 k0
  obtain ⟨nm, q1, -⟩ := tyd_i64 Try.underlying3 k1
  obtain ⟨of, q2, -⟩ := tyd_i64 Try.underlying3 k2
  obtain ⟨ix, q3, -⟩ := tyd_i64 Try.underlying3 k3
  obtain ⟨l, q4, hl1, hl2⟩ := tyd_bytes Try.underlying22 Try.underlying5 k4
  cases q0; cases q1; cases q2; cases q3; cases q4
  exact ⟨kd, nm, of, ix, l, rfl, hl1, hl2⟩
end Go.Proofs.Ythkednnfadhidaa
