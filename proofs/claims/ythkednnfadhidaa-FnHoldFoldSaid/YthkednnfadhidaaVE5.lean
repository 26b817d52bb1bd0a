/- A plan is carried out write by write: the law FnHoldFold answers true for every input. Conditions: none. -/
import Derived.Test.YthkednnfadhidaaVE0
import Derived.Test.YthkednnfadhidaaVL4

namespace Go.Proofs.Ythkednnfadhidaa
open Go.ChangeShapes Go.WideShapes Go.ChangeAt Go.RowKit Go.VM
set_option linter.unusedVariables false

theorem run_FnHoldFold (xs : List V) (h : ArgOk Try.prog Try.f6.params.toList xs) : ∃ r, CallOK Try.prog (fidOf cidTab) (fun _ => none) 4 xs [] (fun k => k + 1) r ∧ r.v = sV (.bool true) := by
  obtain ⟨n, ds, a, h1, h2, rfl⟩ := argOk_1 (by simpa only [Try.params6] using h)
  obtain ⟨l, rfl, hl, hb⟩ := tyd_bytes Try.underlying22 Try.underlying5 h1
  have ha : a = false := by simpa [agg?, Try.underlying22] using h2.symm
  subst ha
  exact ⟨_, go_ok _ _ _ _ _ _ (run_lawHoldFold l hb hl 0 _), rfl⟩

set_option maxRecDepth 100000 in
theorem lifted_FnHoldFold (os : Os) (started : os.Started) (H : Type) (enc : TypeId × Value → H) :
    ReturnsInHanded {} Try.checked os 6 .any (Rows.fnHoldFoldSpec.pre6 enc Try.prog Try.f6 [] false) (Rows.fnHoldFoldSpec.post enc Try.prog Try.f6 false true false false) :=
  law_lifted (C := Try.checked) (S := [22, 5]) (tb := 4) (c := 4) own started (by kernel_rfl) Try.func6
    (ChangeSpec.witness6 (enc := enc) (C := Try.checked) false ⟨#[], #[.slice none 0 0], []⟩ 8 (by kernel_rfl) (by kernel_rfl) (by kernel_rfl) (by kernel_rfl))
    laidOut (by kernel_rfl) (by kernel_rfl) (by kernel_rfl) (by kernel_rfl) rfl
    (fun ds hd => by
      have h1 : ds.length = 1 := hd
      match ds, h1 with
      | [d0], _ => rfl)
    noGlob (by kernel_rfl) run_FnHoldFold

theorem over_FnHoldFold : Rows.fnHoldFoldRow.holds Try.pinned (OpenSpec.ofChange Rows.fnHoldFoldSpec) :=
  OpenClaim.holds_of_wide 6 Try.f6 rfl rfl rfl rfl rfl rfl rfl ⟨rfl, rfl, rfl, rfl, rfl⟩ rfl rfl rfl rfl rfl (by kernel_rfl) Try.func6 (by kernel_rfl)
    (of_decide_eq_true (by kernel_rfl)) (by unfold Func.isWrapper; first | (rw [if_pos (by decide +kernel)]; kernel_rfl) | (rw [if_neg (by decide +kernel)]; exact ⟨rfl, rfl⟩))
    (fun os started H enc _ => lifted_FnHoldFold os started H enc)

theorem fnHoldFold_holds : Rows.FnHoldFoldSaid := over_FnHoldFold
#print axioms fnHoldFold_holds
end Go.Proofs.Ythkednnfadhidaa
