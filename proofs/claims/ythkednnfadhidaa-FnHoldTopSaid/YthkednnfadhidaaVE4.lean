/- Wherever power fails during a write, the store holds the old content or the new one: the law FnHoldTop answers true for every input. Conditions: none. -/
import Derived.Test.YthkednnfadhidaaVE0
import Derived.Test.YthkednnfadhidaaVL8

namespace Go.Proofs.Ythkednnfadhidaa
open Go.ChangeShapes Go.WideShapes Go.ChangeAt Go.RowKit Go.VM
set_option linter.unusedVariables false

theorem run_FnHoldTop (xs : List V) (h : ArgOk Try.prog Try.f10.params.toList xs) : ∃ r, CallOK Try.prog (fidOf cidTab) (fun _ => none) 8 xs [] (fun k => k + 1) r ∧ r.v = sV (.bool true) := by
  obtain ⟨n, ds, a, h1, h2, rfl⟩ := argOk_1 (by simpa only [Try.params10] using h)
  obtain ⟨l, rfl, hl, hb⟩ := tyd_bytes Try.underlying22 Try.underlying5 h1
  have ha : a = false := by simpa [agg?, Try.underlying22] using h2.symm
  subst ha
  exact ⟨_, go_ok _ _ _ _ _ _ (run_lawHoldTop l hb hl 0 _), rfl⟩

set_option maxRecDepth 100000 in
theorem lifted_FnHoldTop (os : Os) (started : os.Started) (H : Type) (enc : TypeId × Value → H) :
    ReturnsInHanded {} Try.checked os 10 .any (Rows.fnHoldTopSpec.pre6 enc Try.prog Try.f10 [] false) (Rows.fnHoldTopSpec.post enc Try.prog Try.f10 false true false false) :=
  law_lifted (C := Try.checked) (S := [22, 5]) (tb := 4) (c := 8) own started (by kernel_rfl) Try.func10
    (ChangeSpec.witness6 (enc := enc) (C := Try.checked) false ⟨#[], #[.slice none 0 0], []⟩ 8 (by kernel_rfl) (by kernel_rfl) (by kernel_rfl) (by kernel_rfl))
    laidOut (by kernel_rfl) (by kernel_rfl) (by kernel_rfl) (by kernel_rfl) rfl
    (fun ds hd => by
      have h1 : ds.length = 1 := hd
      match ds, h1 with
      | [d0], _ => rfl)
    noGlob (by kernel_rfl) run_FnHoldTop

theorem over_FnHoldTop : Rows.fnHoldTopRow.holds Try.pinned (OpenSpec.ofChange Rows.fnHoldTopSpec) :=
  OpenClaim.holds_of_wide 10 Try.f10 rfl rfl rfl rfl rfl rfl rfl ⟨rfl, rfl, rfl, rfl, rfl⟩ rfl rfl rfl rfl rfl (by kernel_rfl) Try.func10 (by kernel_rfl)
    (of_decide_eq_true (by kernel_rfl)) (by unfold Func.isWrapper; first | (rw [if_pos (by decide +kernel)]; kernel_rfl) | (rw [if_neg (by decide +kernel)]; exact ⟨rfl, rfl⟩))
    (fun os started H enc _ => lifted_FnHoldTop os started H enc)

theorem fnHoldTop_holds : Rows.FnHoldTopSaid := over_FnHoldTop
#print axioms fnHoldTop_holds
end Go.Proofs.Ythkednnfadhidaa
