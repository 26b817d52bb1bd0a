/- The program's DeskSay returns what the reference's returns: the law FnExactDeskSay answers true for every input. Conditions: none. -/
import Derived.Test.YthkednnfadhidaaVT3
import Derived.Test.YthkednnfadhidaaVXS

namespace Go.Proofs.Ythkednnfadhidaa
open Go.ChangeShapes Go.WideShapes Go.ChangeAt Go.RowKit Go.VM
set_option linter.unusedVariables false

theorem run_FnExactDeskSay (xs : List V) (h : ArgOk Try.prog Try.f8.params.toList xs) : ∃ r, CallOK Try.prog (fidOf cidTab) (fun _ => none) 6 xs [] (fun k => k + 1) r ∧ r.v = sV (.bool true) := by
  obtain ⟨n, ds, a, h1, h2, rfl⟩ := argOk_1 (by simpa only [Try.params8] using h)
  obtain ⟨last, num, next, state, l, rfl, hl, -⟩ := tyd_desk h1
  have ha : a = true := by simpa [agg?, Try.underlying38] using h2.symm
  subst ha
  exact ⟨_, goET_ok _ _ _ _ (run_lawDeskSay last num next state l hl _), rfl⟩

set_option maxRecDepth 100000 in
theorem lifted_FnExactDeskSay (os : Os) (started : os.Started) (H : Type) (enc : TypeId × Value → H) :
    ReturnsInHanded {} Try.checked os 8 .any (Rows.fnExactDeskSaySpec.pre6 enc Try.prog Try.f8 [] false) (Rows.fnExactDeskSaySpec.post enc Try.prog Try.f8 false true false false) :=
  law_lifted (C := Try.checked) (S := [38, 3, 36, 22, 5]) (tb := 4) (c := 6) own started (by kernel_rfl) Try.func8
    (ChangeSpec.witness6 (enc := enc) (C := Try.checked) false ⟨#[], #[.agg #[.int .i64 0, .int .i64 0, .slice none 0 0, .int .i64 0, .int .i64 0]], []⟩ 8 (by kernel_rfl) (by kernel_rfl) (by kernel_rfl) (by kernel_rfl))
    laidOut (by kernel_rfl) (by kernel_rfl) (by kernel_rfl) (by kernel_rfl) rfl
    (fun ds hd => by
      have h1 : ds.length = 1 := hd
      match ds, h1 with
      | [d0], _ => rfl)
    noGlob (by kernel_rfl) run_FnExactDeskSay

theorem over_FnExactDeskSay : Rows.fnExactDeskSayRow.holds Try.pinned (OpenSpec.ofChange Rows.fnExactDeskSaySpec) :=
  OpenClaim.holds_of_wide 8 Try.f8 rfl rfl rfl rfl rfl rfl rfl ⟨rfl, rfl, rfl, rfl, rfl⟩ rfl rfl rfl rfl rfl (by kernel_rfl) Try.func8 (by kernel_rfl)
    (of_decide_eq_true (by kernel_rfl)) (by unfold Func.isWrapper; first | (rw [if_pos (by decide +kernel)]; kernel_rfl) | (rw [if_neg (by decide +kernel)]; exact ⟨rfl, rfl⟩))
    (fun os started H enc _ => lifted_FnExactDeskSay os started H enc)

theorem fnExactDeskSay_holds : Rows.FnExactDeskSaySaid := over_FnExactDeskSay
#print axioms fnExactDeskSay_holds
end Go.Proofs.Ythkednnfadhidaa
