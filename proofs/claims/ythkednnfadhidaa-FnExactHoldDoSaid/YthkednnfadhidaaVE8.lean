/- The program's HoldDo returns what the reference's returns: the law FnExactHoldDo answers true for every input. Conditions: none. -/
import Derived.Test.YthkednnfadhidaaVT2
import Derived.Test.YthkednnfadhidaaVXD

namespace Go.Proofs.Ythkednnfadhidaa
open Go.ChangeShapes Go.WideShapes Go.ChangeAt Go.RowKit Go.VM
set_option linter.unusedVariables false

theorem run_FnExactHoldDo (xs : List V) (h : ArgOk Try.prog Try.f7.params.toList xs) : ∃ r, CallOK Try.prog (fidOf cidTab) (fun _ => none) 5 xs [] (fun k => k + 1) r ∧ r.v = sV (.bool true) := by
  obtain ⟨n, ds, a, m, es, b, h1, h2, h3, h4, rfl⟩ := argOk_2 (by simpa only [Try.params7] using h)
  obtain ⟨r, hr, ha, hb⟩ := tyd_rom h1
  obtain ⟨w, rfl⟩ := tyd_write h3
  have e1 : a = true := by simpa [agg?, Try.underlying56] using h2.symm
  have e2 : b = true := by simpa [agg?, Try.underlying57] using h4.symm
  subst e1; subst e2
  have hx : argV true ds = .agg (r.v 0 0) := by show V.agg (ds.map W.d) = _; rw [hr]
  rw [hx]
  exact ⟨_, goDT_ok _ _ _ _ (run_lawHoldDo r w ha hb _), rfl⟩

set_option maxRecDepth 100000 in
theorem lifted_FnExactHoldDo (os : Os) (started : os.Started) (H : Type) (enc : TypeId × Value → H) :
    ReturnsInHanded {} Try.checked os 7 .any (Rows.fnExactHoldDoSpec.pre6 enc Try.prog Try.f7 [] false) (Rows.fnExactHoldDoSpec.post enc Try.prog Try.f7 false true false false) :=
  law_lifted (C := Try.checked) (S := [56, 57, 54, 3, 5, 22]) (tb := 4) (c := 5) own started (by kernel_rfl) Try.func7
    (ChangeSpec.witness6 (enc := enc) (C := Try.checked) false ⟨#[], #[.agg #[.int .u8 0, .int .u8 0, .slice none 0 0, .int .u8 0, .int .u8 0, .slice none 0 0], .agg #[.int .i64 0, .int .i64 0, .int .u8 0]], []⟩ 8 (by kernel_rfl) (by kernel_rfl) (by kernel_rfl) (by kernel_rfl))
    laidOut (by kernel_rfl) (by kernel_rfl) (by kernel_rfl) (by kernel_rfl) rfl
    (fun ds hd => by
      have h1 : ds.length = 2 := hd
      match ds, h1 with
      | [d0, d1], _ => rfl)
    noGlob (by kernel_rfl) run_FnExactHoldDo

theorem over_FnExactHoldDo : Rows.fnExactHoldDoRow.holds Try.pinned (OpenSpec.ofChange Rows.fnExactHoldDoSpec) :=
  OpenClaim.holds_of_wide 7 Try.f7 rfl rfl rfl rfl rfl rfl rfl ⟨rfl, rfl, rfl, rfl, rfl⟩ rfl rfl rfl rfl rfl (by kernel_rfl) Try.func7 (by kernel_rfl)
    (of_decide_eq_true (by kernel_rfl)) (by unfold Func.isWrapper; first | (rw [if_pos (by decide +kernel)]; kernel_rfl) | (rw [if_neg (by decide +kernel)]; exact ⟨rfl, rfl⟩))
    (fun os started H enc _ => lifted_FnExactHoldDo os started H enc)

theorem fnExactHoldDo_holds : Rows.FnExactHoldDoSaid := over_FnExactHoldDo
#print axioms fnExactHoldDo_holds
end Go.Proofs.Ythkednnfadhidaa
