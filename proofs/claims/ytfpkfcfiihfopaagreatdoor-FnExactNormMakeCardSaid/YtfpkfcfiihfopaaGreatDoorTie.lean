/-
  DERIVED. GIVEN WITH THE SEED: THE PROGRAM's TIES (one call each: nine closed facts by the kernel) AND EACH ROW's TIE, after the 31st guide's Derived/Test/Toyas{Tie, Card}.lean. No idea stands in it: it is a product of the set-up. Laid BY PROGRAM, IN A SANDBOX (cutbox-door.mjs). By AI agents, Wed Nov 11 2026. No macro, syntax, notation, axiom, sorry.
-/
import Derived.Test.YtfpkfcfiihfopaaGreatDoorRows
import Derived.LaidByTextLater
import Derived.SevenTiedAt
import Derived.LaidSub
import Derived.LaidOnce
namespace Go.Proofs.YtfpkfcfiihfopaaGreatDoor
open Go
set_option maxRecDepth 100000
theorem seatTie1 : Tryz.prog.laidByTextLater [("loop.example/stile/impl.and", Rows.laid_loop_example_stile_impl_and), ("loop.example/stile/impl.once", Rows.laid_loop_example_stile_impl_once), ("loop.example/stile/impl.devSizes", Rows.laid_loop_example_stile_impl_devSizes), ("loop.example/stile/impl.devWords", Rows.laid_loop_example_stile_impl_devWords), ("loop.example/stile/impl.cmpFlips", Rows.laid_loop_example_stile_impl_cmpFlips)] [.widerDeep, .widerDeep, .data, .widerDeep, .data] true :=
  Program.laidByTextLater_by_one 34 8 12 (by kernel_rfl) (by kernel_rfl) (by kernel_rfl) (by kernel_rfl) (by kernel_rfl) (by kernel_rfl) (fun _ _ => by kernel_rfl)
theorem noOwnUnsafe : Tryz.pinned.checked.prog.headLifts.contains "ownunsafe" = false := by kernel_rfl
theorem tie : Tryz.prog.laidByTextLater [("loop.example/stile/impl.devSizes", Rows.laid_loop_example_stile_impl_devSizes), ("loop.example/stile/impl.devWords", Rows.laid_loop_example_stile_impl_devWords)] [.data, .widerDeep] true :=
  Program.laidByTextLater.sub seatTie1 ["loop.example/stile/impl.devSizes", "loop.example/stile/impl.devWords"] (by kernel_rfl) (by kernel_rfl)
theorem fnExactNormMake_row_tie : Rows.fnExactNormMakeRow.laidByTextAt .later Tryz.pinned [.data, .widerDeep] true :=
  OpenClaim.laidByTextAt_later rfl rfl tie noOwnUnsafe
theorem tie2 : Tryz.prog.laidByTextLater [("loop.example/stile/impl.and", Rows.laid_loop_example_stile_impl_and), ("loop.example/stile/impl.once", Rows.laid_loop_example_stile_impl_once), ("loop.example/stile/impl.devSizes", Rows.laid_loop_example_stile_impl_devSizes), ("loop.example/stile/impl.devWords", Rows.laid_loop_example_stile_impl_devWords), ("loop.example/stile/impl.cmpFlips", Rows.laid_loop_example_stile_impl_cmpFlips)] [.widerDeep, .widerDeep, .data, .widerDeep, .data] true :=
  Program.laidByTextLater.sub seatTie1 ["loop.example/stile/impl.and", "loop.example/stile/impl.once", "loop.example/stile/impl.devSizes", "loop.example/stile/impl.devWords", "loop.example/stile/impl.cmpFlips"] (by kernel_rfl) (by kernel_rfl)
theorem fnExactDeskList_row_tie : Rows.fnExactDeskListRow.laidByTextAt .later Tryz.pinned [.widerDeep, .widerDeep, .data, .widerDeep, .data] true :=
  OpenClaim.laidByTextAt_later rfl rfl tie2 noOwnUnsafe
theorem fnExactNormMakeUpto_row_tie : Rows.fnExactNormMakeUptoRow.laidByTextAt .later Tryz.pinned [.data, .widerDeep] true :=
  OpenClaim.laidByTextAt_later rfl rfl tie noOwnUnsafe
theorem fnExactDeskListUpto_row_tie : Rows.fnExactDeskListUptoRow.laidByTextAt .later Tryz.pinned [.widerDeep, .widerDeep, .data, .widerDeep, .data] true :=
  OpenClaim.laidByTextAt_later rfl rfl tie2 noOwnUnsafe
end Go.Proofs.YtfpkfcfiihfopaaGreatDoor
