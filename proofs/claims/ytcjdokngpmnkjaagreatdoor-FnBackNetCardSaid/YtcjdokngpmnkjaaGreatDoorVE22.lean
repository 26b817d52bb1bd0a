/- A block that is decompiled compiles back to the same block: the law FnBackNet answers true for every input. Conditions: none but the tables the row lists, and these are tied. -/
import Derived.Test.YtcjdokngpmnkjaaGreatDoorVMT
import Derived.Test.YtcjdokngpmnkjaaGreatDoorVT1
import Derived.Test.YtcjdokngpmnkjaaGreatDoorVY44
import Derived.Test.YtcjdokngpmnkjaaGreatDoorVS14
import Derived.Test.YtcjdokngpmnkjaaGreatDoorVM29
import Derived.Test.YtcjdokngpmnkjaaGreatDoorVM34
import Derived.Test.YtcjdokngpmnkjaaGreatDoorCards
import Derived.Test.YtcjdokngpmnkjaaGreatDoorTie
import Derived.WalkKit
import Derived.ProofKit
import Derived.LaidMore
import Derived.SevenTiedAt

namespace Go.Proofs.YtcjdokngpmnkjaaGreatDoor
open Go.ChangeShapes Go.WideShapes Go.ChangeAt Go.RowKit Go.VM
set_option linter.unusedVariables false
theorem own : ownKnob Tryz.prog.godebug = none := by kernel_rfl
theorem laidOut : laidOutB Tryz.prog = true := by kernel_rfl
def laidL {H : Type} : List (String × DataW H) := [("loop.example/stile/impl.and", Rows.laid_loop_example_stile_impl_and), ("loop.example/stile/impl.devSizes", Rows.laid_loop_example_stile_impl_devSizes), ("loop.example/stile/impl.devWords", Rows.laid_loop_example_stile_impl_devWords)]
theorem laidGlob (W : World) (h : laidMetH Tryz.prog laidL W) : Glob GT (ctx0 W) := by
  rw [MakeChecks.laidMetH_plain _ _ _ (by kernel_rfl)] at h; obtain ⟨ps, hl, _⟩ := h; have h0 := laid_net (n := "loop.example/stile/impl.and") (k := 2) (op := 0) (g := 0) (t := 59) hl (.head _) (by kernel_rfl) (by kernel_rfl) (by kernel_rfl); have h1 := gRow_ok (laid_glob (n := "loop.example/stile/impl.devSizes") (g := 2) (t := 120) (e := 3) (ds := sizesD) hl (.tail _ (.head _)) (by kernel_rfl) (by kernel_rfl) (by kernel_rfl) (by kernel_rfl) rfl (by simp [sizesD, ints]))
  have h2 := gRow_ok (laid_glob (n := "loop.example/stile/impl.devWords") (g := 1) (t := 198) (e := 9) (ds := wordsD) hl (.tail _ (.tail _ (.head _))) (by kernel_rfl) (by kernel_rfl) (by kernel_rfl) (by kernel_rfl) rfl (by simp [wordsD])); intro g row hg; unfold GT at hg; split at hg
  · rename_i e; subst e; cases hg; exact h0
  · split at hg
    · rename_i e; subst e; cases hg; exact h2
    · split at hg
      · rename_i e; subst e; cases hg; exact h1
      · cases hg
theorem door_met (os : Os) (args : Array Value) : laidMetH Tryz.prog laidL ((World.doorLaid Tryz.prog 29 os).forCall (fun _ _ => 0) ⟨#[], args, []⟩).memory :=
  laidMetH_of_parts3 (fuel := 8) (laidMet_of_run' 8 (by kernel_rfl) (by kernel_rfl)) (by kernel_rfl) (by kernel_rfl)
theorem run_FnBackNet (xs : List V) (h : ArgOk Tryz.prog Tryz.f10.params.toList xs) : ∃ r, CallOK Tryz.prog (fidOf cidTab) GT 266 xs [] (fun k => k + 1) r ∧ r.v = sV (.bool true) := by
  have hu : Tryz.prog.underlying 29 = some (.slice 5) := by kernel_rfl
  obtain ⟨n, ds, a, h1, h2, rfl⟩ := argOk_1 (by simpa only [Tryz.params10] using h); obtain ⟨l, rfl, hl, hb⟩ := tyd_bytes hu Tryz.underlying5 h1; have ha : a = false := by simpa [agg?, hu] using h2.symm
  subst ha; obtain ⟨L, hL, hA, w⟩ : ∃ L : List Ins, L.length ≤ 3000 ∧ (∀ x ∈ L, x.e.as.length ≤ 10) ∧ (¬ 1048576 < l.length → ∀ s, go 400000 286 [.w (bW 0 l)] [] s = some ⟨.w (isW L), [], []⟩) := by
    by_cases hlen : 1048576 < l.length
    · exact ⟨[], by simp, by simp, fun h => absurd hlen h⟩
    · obtain ⟨L, hL, hA, w⟩ := draw_DrawBackNet (b := l) (by omega) hb 400000 (by omega)
      exact ⟨L, hL, hA, fun _ => w⟩
  exact ⟨_, go_ok _ _ _ _ _ _ (run_lawBackNet 0 l 400000 (Nat.le_refl _) L hL hA w _), rfl⟩
set_option maxRecDepth 100000 in
theorem lifted_FnBackNet (os : Os) (started : os.Started) (H : Type) (enc : TypeId × Value → H) :
    ReturnsInHanded {} Tryz.checked os 10 .any (fun w args => (Rows.fnBackNetSpec.pre enc Tryz.prog Tryz.f10 [] false w args ∧ laidMetH Tryz.prog laidL w) ∧ sizedMet enc Tryz.prog Tryz.f10 (OpenSpec.ofChange Rows.fnBackNetSpec) false w args)
      (Rows.fnBackNetSpec.post enc Tryz.prog Tryz.f10 false true false false) :=
  law_laid (C := Tryz.checked) (S := [29, 5]) (tb := 4) (c := 266) (G := GT) (laid := laidL) own started (by kernel_rfl) Tryz.func10
    (ChangeSpec.witness_shaped (enc := enc) (C := Tryz.checked) (os := os) (X := fun w _ => laidMetH Tryz.prog laidL w) false (World.doorLaid Tryz.prog 29 os) #[.slice none 0 0] 8 rfl (World.shaped_of_RefB (by kernel_rfl) (by kernel_rfl)) (by kernel_rfl) (by kernel_rfl) (by kernel_rfl) (door_met os _))
    laidOut (by kernel_rfl) (by kernel_rfl) (by kernel_rfl) (by kernel_rfl) (by kernel_rfl)
    (fun ds gs hd hg => by
      have h1 : ds.length = 1 := hd; have h2 : gs.length = 3 := hg
      match ds, gs, h1, h2 with
      | [d0], [g0, g1, g2], _, _ => rfl)
    laidGlob (by kernel_rfl) run_FnBackNet
theorem over_FnBackNet : Rows.FnBackNetSaid :=
  OpenClaim.holds_of_wide 10 Tryz.f10 rfl rfl rfl rfl rfl rfl rfl ⟨rfl, rfl, rfl, rfl, rfl⟩ rfl rfl rfl rfl rfl (by kernel_rfl) Tryz.func10 (by kernel_rfl)
    (of_decide_eq_true (by kernel_rfl)) (by unfold Func.isWrapper; first | (rw [if_pos (by decide +kernel)]; kernel_rfl) | (rw [if_neg (by decide +kernel)]; exact ⟨rfl, rfl⟩))
    (fun os started H enc _ => lifted_FnBackNet os started H enc)
theorem fnBackNetCard_holds : Rows.FnBackNetCardSaid :=
  Claim7.holds_tied_plain_at .later [] [.widerDeep, .data, .widerDeep] true (true, "982a15cb2871f8728d2d3a51de9e43532ec2a8051370a2e4c7146add53360a08") false
    over_FnBackNet (fun _ h => by cases h) (by kernel_rfl) (fun _ h => by cases h) fnBackNet_row_tie rfl ⟨rfl, rfl⟩ (by kernel_rfl) rfl
    (fun f fn hf hfn => by
      obtain rfl : f = 10 := Option.some.inj ((show Tryz.prog.funcNamed "loop.example/stile/laws.FnBackNet" = some 10 by kernel_rfl).symm.trans hf) |>.symm
      obtain rfl : fn = Tryz.f10 := (Option.some.inj (Tryz.func10.symm.trans hfn)).symm; exact ⟨by kernel_rfl, fun j t ht => by
        rw [Tryz.params10] at ht; have hm : t ∈ [29] := by simpa using Array.mem_of_getElem? ht
        have hall : ([29].all fun u => !Tryz.prog.wantsStandIn u) = true := by kernel_rfl
        exact (show Tryz.prog.wantsStandIn t = false by simpa using List.all_eq_true.1 hall t hm)⟩)
    (by kernel_rfl)
#print axioms fnBackNetCard_holds
end Go.Proofs.YtcjdokngpmnkjaaGreatDoor
