/- After a complete write exactly the new slot counts: the law FnHoldOnce answers true for every input. Conditions: none. -/
import Derived.Test.YthkednnfadhidaaVE0
import Derived.Test.YthkednnfadhidaaVL7

namespace Go.Proofs.Ythkednnfadhidaa
open Go.ChangeShapes Go.WideShapes Go.ChangeAt Go.RowKit Go.VM
set_option linter.unusedVariables false

theorem run_FnHoldOnce (xs : List V) (h : ArgOk Try.prog Try.f9.params.toList xs) : ∃ r, CallOK Try.prog (fidOf cidTab) (fun _ => none) 7 xs [] (fun k => k + 1) r ∧ r.v = sV (.bool true) := by
  obtain ⟨n, ds, a, h1, h2, rfl⟩ := argOk_1 (by simpa only [Try.params9] using h)
  obtain ⟨l, rfl, hl, hb⟩ := tyd_bytes Try.underlying22 Try.underlying5 h1
  have ha : a = false := by simpa [agg?, Try.underlying22] using h2.symm
  subst ha
  exact ⟨_, go_ok _ _ _ _ _ _ (run_lawHoldOnce l hb hl 0 _), rfl⟩

set_option maxRecDepth 100000 in
theorem lifted_FnHoldOnce (os : Os) (started : os.Started) (H : Type) (enc : TypeId × Value → H) :
    ReturnsInHanded {} Try.checked os 9 .any (Rows.fnHoldOnceSpec.pre6 enc Try.prog Try.f9 [] false) (Rows.fnHoldOnceSpec.post enc Try.prog Try.f9 false true false false) :=
  law_lifted (C := Try.checked) (S := [22, 5]) (tb := 4) (c := 7) own started (by kernel_rfl) Try.func9
    (ChangeSpec.witness6 (enc := enc) (C := Try.checked) false ⟨#[], #[.slice none 0 0], []⟩ 8 (by kernel_rfl) (by kernel_rfl) (by kernel_rfl) (by kernel_rfl))
    laidOut (by kernel_rfl) (by kernel_rfl) (by kernel_rfl) (by kernel_rfl) rfl
    (fun ds hd => by
      have h1 : ds.length = 1 := hd
      match ds, h1 with
      | [d0], _ => rfl)
    noGlob (by kernel_rfl) run_FnHoldOnce

theorem over_FnHoldOnce : Rows.fnHoldOnceRow.holds Try.pinned (OpenSpec.ofChange Rows.fnHoldOnceSpec) :=
  OpenClaim.holds_of_wide 9 Try.f9 rfl rfl rfl rfl rfl rfl rfl ⟨rfl, rfl, rfl, rfl, rfl⟩ rfl rfl rfl rfl rfl (by kernel_rfl) Try.func9 (by kernel_rfl)
    (of_decide_eq_true (by kernel_rfl)) (by unfold Func.isWrapper; first | (rw [if_pos (by decide +kernel)]; kernel_rfl) | (rw [if_neg (by decide +kernel)]; exact ⟨rfl, rfl⟩))
    (fun os started H enc _ => lifted_FnHoldOnce os started H enc)

theorem fnHoldOnce_holds : Rows.FnHoldOnceSaid := over_FnHoldOnce
#print axioms fnHoldOnce_holds
end Go.Proofs.Ythkednnfadhidaa
