/- The program's HoldPlay returns what the reference's returns: the law FnExactHoldPlay answers true for every input. Conditions: none. -/
import Derived.Test.YthkednnfadhidaaVT2
import Derived.Test.YthkednnfadhidaaVXT
import Derived.Test.YthkednnfadhidaaVL9

namespace Go.Proofs.Ythkednnfadhidaa
open Go.ChangeShapes Go.WideShapes Go.ChangeAt Go.RowKit Go.VM
set_option linter.unusedVariables false

theorem run_FnExactHoldPlay (xs : List V) (h : ArgOk Try.prog Try.f11.params.toList xs) : ∃ r, CallOK Try.prog (fidOf cidTab) (fun _ => none) 9 xs [] (fun k => k + 1) r ∧ r.v = sV (.bool true) := by
  obtain ⟨n, ds, a, m, es, b, q, fs, c, h1, h2, h3, h4, h5, h6, rfl⟩ := argOk_3 (by simpa only [Try.params11] using h)
  obtain ⟨r, hr, ha, hb⟩ := tyd_rom h1
  obtain ⟨l, rfl, hl⟩ := tyd_writes h3
  obtain ⟨k, rfl, -⟩ := tyd_i64 Try.underlying3 h5
  have e1 : a = true := by simpa [agg?, Try.underlying56] using h2.symm
  have e2 : b = false := by simpa [agg?, Try.underlying73] using h4.symm
  have e3 : c = false := by simpa [agg?, Try.underlying3] using h6.symm
  subst e1; subst e2; subst e3
  have hx : argV true ds = .agg (r.v 0 0) := by show V.agg (ds.map W.d) = _; rw [hr]
  rw [hx]
  exact ⟨_, goT_ok _ _ _ _ (run_lawHoldPlay r l k ha hb hl _), rfl⟩

set_option maxRecDepth 100000 in
theorem lifted_FnExactHoldPlay (os : Os) (started : os.Started) (H : Type) (enc : TypeId × Value → H) :
    ReturnsInHanded {} Try.checked os 11 .any (Rows.fnExactHoldPlaySpec.pre6 enc Try.prog Try.f11 [] false) (Rows.fnExactHoldPlaySpec.post enc Try.prog Try.f11 false true false false) :=
  law_lifted (C := Try.checked) (S := [56, 73, 3, 54, 57, 5, 22]) (tb := 4) (c := 9) own started (by kernel_rfl) Try.func11
    (ChangeSpec.witness6 (enc := enc) (C := Try.checked) false ⟨#[], #[.agg #[.int .u8 0, .int .u8 0, .slice none 0 0, .int .u8 0, .int .u8 0, .slice none 0 0], .slice none 0 0, .int .i64 0], []⟩ 8 (by kernel_rfl) (by kernel_rfl) (by kernel_rfl) (by kernel_rfl))
    laidOut (by kernel_rfl) (by kernel_rfl) (by kernel_rfl) (by kernel_rfl) rfl
    (fun ds hd => by
      have h1 : ds.length = 3 := hd
      match ds, h1 with
      | [d0, d1, d2], _ => rfl)
    noGlob (by kernel_rfl) run_FnExactHoldPlay

theorem over_FnExactHoldPlay : Rows.fnExactHoldPlayRow.holds Try.pinned (OpenSpec.ofChange Rows.fnExactHoldPlaySpec) :=
  OpenClaim.holds_of_wide 11 Try.f11 rfl rfl rfl rfl rfl rfl rfl ⟨rfl, rfl, rfl, rfl, rfl⟩ rfl rfl rfl rfl rfl (by kernel_rfl) Try.func11 (by kernel_rfl)
    (of_decide_eq_true (by kernel_rfl)) (by unfold Func.isWrapper; first | (rw [if_pos (by decide +kernel)]; kernel_rfl) | (rw [if_neg (by decide +kernel)]; exact ⟨rfl, rfl⟩))
    (fun os started H enc _ => lifted_FnExactHoldPlay os started H enc)

theorem fnExactHoldPlay_holds : Rows.FnExactHoldPlaySaid := over_FnExactHoldPlay
#print axioms fnExactHoldPlay_holds
end Go.Proofs.Ythkednnfadhidaa
