/- The program's DeskFall returns what the reference's returns: the law FnExactDeskFall answers true for every input. Conditions: none. -/
import Derived.Test.YthkednnfadhidaaVE0
import Derived.Test.YthkednnfadhidaaVXT
import Derived.Test.YthkednnfadhidaaVL3

namespace Go.Proofs.Ythkednnfadhidaa
open Go.ChangeShapes Go.WideShapes Go.ChangeAt Go.RowKit Go.VM
set_option linter.unusedVariables false

theorem tyd_desk {n : Nat} {ds : List D} (h : TyD Try.prog n 38 ds) : ∃ (last num next state : Int) (l : List Int), ds = [.s (.int .i64 last), .s (.int .i64 num), .l 0 (byt l), .s (.int .i64 next), .s (.int .i64 state)] ∧ l.length < 2 ^ 63 ∧ ∀ x ∈ l, 0 ≤ x ∧ x < 256 := by
  obtain ⟨m, hl, hf⟩ := tyd_struct Try.underlying38 h
  rw [show Try.prog.cellsOf 38 = 5 from by kernel_rfl] at hl
  obtain ⟨a, b, c, d, e, rfl⟩ := list5 hl
  have h0 := hf _ (by simp; exact .inl rfl)
  have h1 := hf _ (by simp; exact .inr rfl)
  simp only [show Try.prog.cellsOf 3 = 1 from by kernel_rfl, show Try.prog.cellsOf 36 = 4 from by kernel_rfl, List.drop_succ_cons, List.drop_zero, List.take_succ_cons, List.take_zero] at h0 h1
  obtain ⟨last, e0, -⟩ := tyd_i64 Try.underlying3 h0
  obtain ⟨m, hl, hf⟩ := tyd_struct Try.underlying36 h1
  have k0 := hf _ (by simp; exact .inl rfl)
  have k1 := hf _ (by simp; exact .inr (.inl rfl))
  have k2 := hf _ (by simp; exact .inr (.inr (.inl rfl)))
  have k3 := hf _ (by simp; exact .inr (.inr (.inr rfl)))
  simp only [show Try.prog.cellsOf 3 = 1 from by kernel_rfl, show Try.prog.cellsOf 22 = 1 from by kernel_rfl, List.drop_succ_cons, List.drop_zero, List.take_succ_cons, List.take_zero] at k0 k1 k2 k3
  obtain ⟨num, q0, -⟩ := tyd_i64 Try.underlying3 k0
  obtain ⟨l, q1, hl1, hl2⟩ := tyd_bytes Try.underlying22 Try.underlying5 k1
  obtain ⟨next, q2, -⟩ := tyd_i64 Try.underlying3 k2
  obtain ⟨state, q3, -⟩ := tyd_i64 Try.underlying3 k3
  cases e0; cases q0; cases q1; cases q2; cases q3
  exact ⟨last, num, next, state, l, rfl, hl1, hl2⟩

theorem run_FnExactDeskFall (xs : List V) (h : ArgOk Try.prog Try.f5.params.toList xs) : ∃ r, CallOK Try.prog (fidOf cidTab) (fun _ => none) 3 xs [] (fun k => k + 1) r ∧ r.v = sV (.bool true) := by
  obtain ⟨n, ds, a, h1, h2, rfl⟩ := argOk_1 (by simpa only [Try.params5] using h)
  obtain ⟨last, num, next, state, l, rfl, hl, -⟩ := tyd_desk h1
  have ha : a = true := by simpa [agg?, Try.underlying38] using h2.symm
  subst ha
  exact ⟨_, goT_ok _ _ _ _ (run_lawDeskFall last num next state l hl _), rfl⟩

set_option maxRecDepth 100000 in
theorem lifted_FnExactDeskFall (os : Os) (started : os.Started) (H : Type) (enc : TypeId × Value → H) :
    ReturnsInHanded {} Try.checked os 5 .any (Rows.fnExactDeskFallSpec.pre6 enc Try.prog Try.f5 [] false) (Rows.fnExactDeskFallSpec.post enc Try.prog Try.f5 false true false false) :=
  law_lifted (C := Try.checked) (S := [38, 3, 36, 22, 5]) (tb := 4) (c := 3) own started (by kernel_rfl) Try.func5
    (ChangeSpec.witness6 (enc := enc) (C := Try.checked) false ⟨#[], #[.agg #[.int .i64 0, .int .i64 0, .slice none 0 0, .int .i64 0, .int .i64 0]], []⟩ 8 (by kernel_rfl) (by kernel_rfl) (by kernel_rfl) (by kernel_rfl))
    laidOut (by kernel_rfl) (by kernel_rfl) (by kernel_rfl) (by kernel_rfl) rfl
    (fun ds hd => by
      have h1 : ds.length = 1 := hd
      match ds, h1 with
      | [d0], _ => rfl)
    noGlob (by kernel_rfl) run_FnExactDeskFall

theorem over_FnExactDeskFall : Rows.fnExactDeskFallRow.holds Try.pinned (OpenSpec.ofChange Rows.fnExactDeskFallSpec) :=
  OpenClaim.holds_of_wide 5 Try.f5 rfl rfl rfl rfl rfl rfl rfl ⟨rfl, rfl, rfl, rfl, rfl⟩ rfl rfl rfl rfl rfl (by kernel_rfl) Try.func5 (by kernel_rfl)
    (of_decide_eq_true (by kernel_rfl)) (by unfold Func.isWrapper; first | (rw [if_pos (by decide +kernel)]; kernel_rfl) | (rw [if_neg (by decide +kernel)]; exact ⟨rfl, rfl⟩))
    (fun os started H enc _ => lifted_FnExactDeskFall os started H enc)

theorem fnExactDeskFall_holds : Rows.FnExactDeskFallSaid := over_FnExactDeskFall
#print axioms fnExactDeskFall_holds
end Go.Proofs.Ythkednnfadhidaa
