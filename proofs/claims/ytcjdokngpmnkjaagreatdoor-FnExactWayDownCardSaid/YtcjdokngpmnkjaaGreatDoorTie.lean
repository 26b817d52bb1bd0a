/-
  DERIVED. GIVEN WITH THE SEED: THE PROGRAM's TIES (one call each: nine closed facts by the kernel) AND EACH ROW's TIE, after the 31st guide's Derived/Test/Toyas{Tie, Card}.lean. No idea stands in it: it is a product of the set-up. Laid BY PROGRAM, IN A SANDBOX (cutbox-door.mjs). By AI agents, Wed Nov 11 2026. No macro, syntax, notation, axiom, sorry.
-/
import Derived.Test.YtcjdokngpmnkjaaGreatDoorRows
import Derived.LaidByTextLater
import Derived.SevenTiedAt
import Derived.LaidSub
import Derived.LaidOnce
namespace Go.Proofs.YtcjdokngpmnkjaaGreatDoor
open Go
set_option maxRecDepth 100000
theorem seatTie1 : Tryz.prog.laidByTextLater [("loop.example/stile/impl.and", Rows.laid_loop_example_stile_impl_and), ("loop.example/stile/impl.devSizes", Rows.laid_loop_example_stile_impl_devSizes), ("loop.example/stile/impl.devWords", Rows.laid_loop_example_stile_impl_devWords)] [.widerDeep, .data, .widerDeep] true :=
  Program.laidByTextLater_by_one 24 8 12 (by kernel_rfl) (by kernel_rfl) (by kernel_rfl) (by kernel_rfl) (by kernel_rfl) (by kernel_rfl) (fun _ _ => by kernel_rfl)
theorem noOwnUnsafe : Tryz.pinned.checked.prog.headLifts.contains "ownunsafe" = false := by kernel_rfl
theorem tie : Tryz.prog.laidByTextLater [("loop.example/stile/impl.devSizes", Rows.laid_loop_example_stile_impl_devSizes), ("loop.example/stile/impl.devWords", Rows.laid_loop_example_stile_impl_devWords)] [.data, .widerDeep] true :=
  Program.laidByTextLater.sub seatTie1 ["loop.example/stile/impl.devSizes", "loop.example/stile/impl.devWords"] (by kernel_rfl) (by kernel_rfl)
theorem fnExactWayBits_row_tie : Rows.fnExactWayBitsRow.laidByTextAt .later Tryz.pinned [.data, .widerDeep] true :=
  OpenClaim.laidByTextAt_later rfl rfl tie noOwnUnsafe
theorem fnExactBackUp_row_tie : Rows.fnExactBackUpRow.laidByTextAt .later Tryz.pinned [.data, .widerDeep] true :=
  OpenClaim.laidByTextAt_later rfl rfl tie noOwnUnsafe
theorem tie2 : Tryz.prog.laidByTextLater [("loop.example/stile/impl.and", Rows.laid_loop_example_stile_impl_and), ("loop.example/stile/impl.devSizes", Rows.laid_loop_example_stile_impl_devSizes), ("loop.example/stile/impl.devWords", Rows.laid_loop_example_stile_impl_devWords)] [.widerDeep, .data, .widerDeep] true :=
  Program.laidByTextLater.sub seatTie1 ["loop.example/stile/impl.and", "loop.example/stile/impl.devSizes", "loop.example/stile/impl.devWords"] (by kernel_rfl) (by kernel_rfl)
theorem fnWayNorm_row_tie : Rows.fnWayNormRow.laidByTextAt .later Tryz.pinned [.widerDeep, .data, .widerDeep] true :=
  OpenClaim.laidByTextAt_later rfl rfl tie2 noOwnUnsafe
theorem fnExactWayPlain_row_tie : Rows.fnExactWayPlainRow.laidByTextAt .later Tryz.pinned [.widerDeep, .data, .widerDeep] true :=
  OpenClaim.laidByTextAt_later rfl rfl tie2 noOwnUnsafe
theorem fnExactWayDown_row_tie : Rows.fnExactWayDownRow.laidByTextAt .later Tryz.pinned [.widerDeep, .data, .widerDeep] true :=
  OpenClaim.laidByTextAt_later rfl rfl tie2 noOwnUnsafe
theorem fnWayRungs_row_tie : Rows.fnWayRungsRow.laidByTextAt .later Tryz.pinned [.widerDeep, .data, .widerDeep] true :=
  OpenClaim.laidByTextAt_later rfl rfl tie2 noOwnUnsafe
theorem fnWayTop_row_tie : Rows.fnWayTopRow.laidByTextAt .later Tryz.pinned [.widerDeep, .data, .widerDeep] true :=
  OpenClaim.laidByTextAt_later rfl rfl tie2 noOwnUnsafe
theorem fnBackTop_row_tie : Rows.fnBackTopRow.laidByTextAt .later Tryz.pinned [.widerDeep, .data, .widerDeep] true :=
  OpenClaim.laidByTextAt_later rfl rfl tie2 noOwnUnsafe
theorem fnBackNet_row_tie : Rows.fnBackNetRow.laidByTextAt .later Tryz.pinned [.widerDeep, .data, .widerDeep] true :=
  OpenClaim.laidByTextAt_later rfl rfl tie2 noOwnUnsafe
theorem fnExactWayBitsUpto_row_tie : Rows.fnExactWayBitsUptoRow.laidByTextAt .later Tryz.pinned [.data, .widerDeep] true :=
  OpenClaim.laidByTextAt_later rfl rfl tie noOwnUnsafe
theorem fnWayNormUpto_row_tie : Rows.fnWayNormUptoRow.laidByTextAt .later Tryz.pinned [.widerDeep, .data, .widerDeep] true :=
  OpenClaim.laidByTextAt_later rfl rfl tie2 noOwnUnsafe
theorem fnExactWayPlainUpto_row_tie : Rows.fnExactWayPlainUptoRow.laidByTextAt .later Tryz.pinned [.widerDeep, .data, .widerDeep] true :=
  OpenClaim.laidByTextAt_later rfl rfl tie2 noOwnUnsafe
theorem fnExactWayDownUpto_row_tie : Rows.fnExactWayDownUptoRow.laidByTextAt .later Tryz.pinned [.widerDeep, .data, .widerDeep] true :=
  OpenClaim.laidByTextAt_later rfl rfl tie2 noOwnUnsafe
theorem fnWayRungsUpto_row_tie : Rows.fnWayRungsUptoRow.laidByTextAt .later Tryz.pinned [.widerDeep, .data, .widerDeep] true :=
  OpenClaim.laidByTextAt_later rfl rfl tie2 noOwnUnsafe
theorem fnWayTopUpto_row_tie : Rows.fnWayTopUptoRow.laidByTextAt .later Tryz.pinned [.widerDeep, .data, .widerDeep] true :=
  OpenClaim.laidByTextAt_later rfl rfl tie2 noOwnUnsafe
theorem fnBackTopUpto_row_tie : Rows.fnBackTopUptoRow.laidByTextAt .later Tryz.pinned [.widerDeep, .data, .widerDeep] true :=
  OpenClaim.laidByTextAt_later rfl rfl tie2 noOwnUnsafe
theorem fnBackNetUpto_row_tie : Rows.fnBackNetUptoRow.laidByTextAt .later Tryz.pinned [.widerDeep, .data, .widerDeep] true :=
  OpenClaim.laidByTextAt_later rfl rfl tie2 noOwnUnsafe
theorem fnExactBackUpUpto_row_tie : Rows.fnExactBackUpUptoRow.laidByTextAt .later Tryz.pinned [.data, .widerDeep] true :=
  OpenClaim.laidByTextAt_later rfl rfl tie noOwnUnsafe
end Go.Proofs.YtcjdokngpmnkjaaGreatDoor
