/-
  DERIVED. GIVEN WITH THE SEED: THE PROGRAM's TIES (one call each: nine closed facts by the kernel) AND EACH ROW's TIE, after the 31st guide's Derived/Test/Toyas{Tie, Card}.lean. No idea stands in it: it is a product of the set-up. Laid BY PROGRAM, IN A SANDBOX (cutbox-door.mjs). By AI agents, Wed Nov 11 2026. No macro, syntax, notation, axiom, sorry.
-/
import Derived.Test.YtfpkfcfiihfopaaDoorRows
import Derived.LaidByTextLater
import Derived.SevenTiedAt
import Derived.LaidSub
import Derived.LaidOnce
namespace Go.Proofs.YtfpkfcfiihfopaaDoor
open Go
set_option maxRecDepth 100000
theorem seatTie1 : Tryd.prog.laidByTextLater [("loop.example/stile/impl.once", Rows.laid_loop_example_stile_impl_once), ("loop.example/stile/impl.devSizes", Rows.laid_loop_example_stile_impl_devSizes), ("loop.example/stile/impl.devWords", Rows.laid_loop_example_stile_impl_devWords), ("loop.example/stile/impl.cmpFlips", Rows.laid_loop_example_stile_impl_cmpFlips)] [.widerDeep, .data, .widerDeep, .data] true :=
  Program.laidByTextLater_by_one 29 8 12 (by kernel_rfl) (by kernel_rfl) (by kernel_rfl) (by kernel_rfl) (by kernel_rfl) (by kernel_rfl) (fun _ _ => by kernel_rfl)
theorem noOwnUnsafe : Tryd.pinned.checked.prog.headLifts.contains "ownunsafe" = false := by kernel_rfl
theorem tie : Tryd.prog.laidByTextLater [("loop.example/stile/impl.devSizes", Rows.laid_loop_example_stile_impl_devSizes), ("loop.example/stile/impl.devWords", Rows.laid_loop_example_stile_impl_devWords)] [.data, .widerDeep] true :=
  Program.laidByTextLater.sub seatTie1 ["loop.example/stile/impl.devSizes", "loop.example/stile/impl.devWords"] (by kernel_rfl) (by kernel_rfl)
theorem fnExactNormNet_row_tie : Rows.fnExactNormNetRow.laidByTextAt .later Tryd.pinned [.data, .widerDeep] true :=
  OpenClaim.laidByTextAt_later rfl rfl tie noOwnUnsafe
theorem fnExactSureRungs_row_tie : Rows.fnExactSureRungsRow.laidByTextAt .later Tryd.pinned [.data, .widerDeep] true :=
  OpenClaim.laidByTextAt_later rfl rfl tie noOwnUnsafe
theorem fnExactBackNet_row_tie : Rows.fnExactBackNetRow.laidByTextAt .later Tryd.pinned [.data, .widerDeep] true :=
  OpenClaim.laidByTextAt_later rfl rfl tie noOwnUnsafe
theorem tie2 : Tryd.prog.laidByTextLater [("loop.example/stile/impl.devSizes", Rows.laid_loop_example_stile_impl_devSizes), ("loop.example/stile/impl.devWords", Rows.laid_loop_example_stile_impl_devWords), ("loop.example/stile/impl.cmpFlips", Rows.laid_loop_example_stile_impl_cmpFlips)] [.data, .widerDeep, .data] true :=
  Program.laidByTextLater.sub seatTie1 ["loop.example/stile/impl.devSizes", "loop.example/stile/impl.devWords", "loop.example/stile/impl.cmpFlips"] (by kernel_rfl) (by kernel_rfl)
theorem fnExactPeepTurn_row_tie : Rows.fnExactPeepTurnRow.laidByTextAt .later Tryd.pinned [.data, .widerDeep, .data] true :=
  OpenClaim.laidByTextAt_later rfl rfl tie2 noOwnUnsafe
theorem fnPeepTurn_row_tie : Rows.fnPeepTurnRow.laidByTextAt .later Tryd.pinned [.data, .widerDeep, .data] true :=
  OpenClaim.laidByTextAt_later rfl rfl tie2 noOwnUnsafe
theorem tie3 : Tryd.prog.laidByTextLater [("loop.example/stile/impl.once", Rows.laid_loop_example_stile_impl_once), ("loop.example/stile/impl.devSizes", Rows.laid_loop_example_stile_impl_devSizes), ("loop.example/stile/impl.devWords", Rows.laid_loop_example_stile_impl_devWords), ("loop.example/stile/impl.cmpFlips", Rows.laid_loop_example_stile_impl_cmpFlips)] [.widerDeep, .data, .widerDeep, .data] true :=
  Program.laidByTextLater.sub seatTie1 ["loop.example/stile/impl.once", "loop.example/stile/impl.devSizes", "loop.example/stile/impl.devWords", "loop.example/stile/impl.cmpFlips"] (by kernel_rfl) (by kernel_rfl)
theorem fnPeepReal_row_tie : Rows.fnPeepRealRow.laidByTextAt .later Tryd.pinned [.widerDeep, .data, .widerDeep, .data] true :=
  OpenClaim.laidByTextAt_later rfl rfl tie3 noOwnUnsafe
theorem fnExactNormNetUpto_row_tie : Rows.fnExactNormNetUptoRow.laidByTextAt .later Tryd.pinned [.data, .widerDeep] true :=
  OpenClaim.laidByTextAt_later rfl rfl tie noOwnUnsafe
theorem fnExactSureRungsUpto_row_tie : Rows.fnExactSureRungsUptoRow.laidByTextAt .later Tryd.pinned [.data, .widerDeep] true :=
  OpenClaim.laidByTextAt_later rfl rfl tie noOwnUnsafe
theorem fnExactBackNetUpto_row_tie : Rows.fnExactBackNetUptoRow.laidByTextAt .later Tryd.pinned [.data, .widerDeep] true :=
  OpenClaim.laidByTextAt_later rfl rfl tie noOwnUnsafe
theorem fnExactPeepTurnUpto_row_tie : Rows.fnExactPeepTurnUptoRow.laidByTextAt .later Tryd.pinned [.data, .widerDeep, .data] true :=
  OpenClaim.laidByTextAt_later rfl rfl tie2 noOwnUnsafe
theorem fnPeepRealUpto_row_tie : Rows.fnPeepRealUptoRow.laidByTextAt .later Tryd.pinned [.widerDeep, .data, .widerDeep, .data] true :=
  OpenClaim.laidByTextAt_later rfl rfl tie3 noOwnUnsafe
theorem fnPeepTurnUpto_row_tie : Rows.fnPeepTurnUptoRow.laidByTextAt .later Tryd.pinned [.data, .widerDeep, .data] true :=
  OpenClaim.laidByTextAt_later rfl rfl tie2 noOwnUnsafe
end Go.Proofs.YtfpkfcfiihfopaaDoor
