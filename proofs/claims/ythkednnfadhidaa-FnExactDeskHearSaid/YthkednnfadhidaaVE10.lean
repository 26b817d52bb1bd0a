/- The program's DeskHear returns what the reference's returns: the law FnExactDeskHear answers true for every input. Conditions: none. -/
import Derived.Test.YthkednnfadhidaaVT4
import Derived.Test.YthkednnfadhidaaVXH

namespace Go.Proofs.Ythkednnfadhidaa
open Go.ChangeShapes Go.WideShapes Go.ChangeAt Go.RowKit Go.VM
set_option linter.unusedVariables false

theorem run_FnExactDeskHear (xs : List V) (h : ArgOk Try.prog Try.f12.params.toList xs) : ∃ r, CallOK Try.prog (fidOf cidTab) (fun _ => none) 10 xs [] (fun k => k + 1) r ∧ r.v = sV (.bool true) := by
  obtain ⟨n, ds, a, m, es, b, h1, h2, h3, h4, rfl⟩ := argOk_2 (by simpa only [Try.params12] using h)
  obtain ⟨last, num, next, state, l, rfl, hl, -⟩ := tyd_desk h1
  obtain ⟨kd, nm, of, ix, p, rfl, hp, -⟩ := tyd_word h3
  have ha : a = true := by simpa [agg?, Try.underlying38] using h2.symm
  have hb : b = true := by simpa [agg?, Try.underlying79] using h4.symm
  subst ha hb
  exact ⟨_, goUT_ok _ _ _ _ (run_lawDeskHear last num next state l hl kd nm of ix p hp _), rfl⟩

set_option maxRecDepth 100000 in
theorem lifted_FnExactDeskHear (os : Os) (started : os.Started) (H : Type) (enc : TypeId × Value → H) :
    ReturnsInHanded {} Try.checked os 12 .any (Rows.fnExactDeskHearSpec.pre6 enc Try.prog Try.f12 [] false) (Rows.fnExactDeskHearSpec.post enc Try.prog Try.f12 false true false false) :=
  law_lifted (C := Try.checked) (S := [38, 79, 3, 36, 22, 5]) (tb := 4) (c := 10) own started (by kernel_rfl) Try.func12
    (ChangeSpec.witness6 (enc := enc) (C := Try.checked) false ⟨#[], #[.agg #[.int .i64 0, .int .i64 0, .slice none 0 0, .int .i64 0, .int .i64 0], .agg #[.int .i64 0, .int .i64 0, .int .i64 0, .int .i64 0, .slice none 0 0]], []⟩ 8 (by kernel_rfl) (by kernel_rfl) (by kernel_rfl) (by kernel_rfl))
    laidOut (by kernel_rfl) (by kernel_rfl) (by kernel_rfl) (by kernel_rfl) rfl
    (fun ds hd => by
      have h1 : ds.length = 2 := hd
      match ds, h1 with
      | [d0, d1], _ => rfl)
    noGlob (by kernel_rfl) run_FnExactDeskHear

theorem over_FnExactDeskHear : Rows.fnExactDeskHearRow.holds Try.pinned (OpenSpec.ofChange Rows.fnExactDeskHearSpec) :=
  OpenClaim.holds_of_wide 12 Try.f12 rfl rfl rfl rfl rfl rfl rfl ⟨rfl, rfl, rfl, rfl, rfl⟩ rfl rfl rfl rfl rfl (by kernel_rfl) Try.func12 (by kernel_rfl)
    (of_decide_eq_true (by kernel_rfl)) (by unfold Func.isWrapper; first | (rw [if_pos (by decide +kernel)]; kernel_rfl) | (rw [if_neg (by decide +kernel)]; exact ⟨rfl, rfl⟩))
    (fun os started H enc _ => lifted_FnExactDeskHear os started H enc)

theorem fnExactDeskHear_holds : Rows.FnExactDeskHearSaid := over_FnExactDeskHear
#print axioms fnExactDeskHear_holds
end Go.Proofs.Ythkednnfadhidaa
