/- Bringing a ladder to its normal form loses no contact and no coil: the law FnNormUses answers true for every input. Conditions: none but the tables the row lists, and these are tied. -/
import Derived.Test.YtacfoamnbdlmpaaDoorVMT
import Derived.Test.YtacfoamnbdlmpaaDoorVT1
import Derived.Test.YtacfoamnbdlmpaaDoorVU3
import Derived.Test.YtacfoamnbdlmpaaDoorVS10
import Derived.Test.YtacfoamnbdlmpaaDoorVM29
import Derived.Test.YtacfoamnbdlmpaaDoorCards
import Derived.Test.YtacfoamnbdlmpaaDoorTie
import Derived.WalkKit
import Derived.ProofKit
import Derived.LaidMore
import Derived.SevenTiedAt

namespace Go.Proofs.YtacfoamnbdlmpaaDoor
open Go.ChangeShapes Go.WideShapes Go.ChangeAt Go.RowKit Go.VM
set_option linter.unusedVariables false

theorem own : ownKnob Tryd.prog.godebug = none := by kernel_rfl
theorem laidOut : laidOutB Tryd.prog = true := by kernel_rfl
def laidL {H : Type} : List (String × DataW H) := [("loop.example/stile/impl.devSizes", Rows.laid_loop_example_stile_impl_devSizes), ("loop.example/stile/impl.devWords", Rows.laid_loop_example_stile_impl_devWords)]

theorem laidGlob (W : World) (h : laidMetH Tryd.prog laidL W) : Glob GT (ctx0 W) := by
  rw [MakeChecks.laidMetH_plain _ _ _ (by kernel_rfl)] at h
  obtain ⟨ps, hl, _⟩ := h
  have hs := gRow_ok (laid_glob (n := "loop.example/stile/impl.devSizes") (g := 3) (t := 123) (e := 3) (ds := sizesD) hl (.head _) (by kernel_rfl) (by kernel_rfl) (by kernel_rfl) (by kernel_rfl) rfl (by simp [sizesD, ints]))
  have hw := gRow_ok (laid_glob (n := "loop.example/stile/impl.devWords") (g := 2) (t := 217) (e := 9) (ds := wordsD) hl (.tail _ (.head _)) (by kernel_rfl) (by kernel_rfl) (by kernel_rfl) (by kernel_rfl) rfl (by simp [wordsD]))
  intro g row hg
  unfold GT at hg
  split at hg
  · rename_i e; subst e; cases hg; exact hw
  · split at hg
    · rename_i e; subst e; cases hg; exact hs
    · cases hg

/-- The door's own heap meets the condition. -/
theorem door_met (os : Os) (args : Array Value) : laidMetH Tryd.prog laidL ((World.doorLaid Tryd.prog 29 os).forCall (fun _ _ => 0) ⟨#[], args, []⟩).memory :=
  laidMetH_of_parts3 (fuel := 8) (laidMet_of_run' 8 (by kernel_rfl) (by kernel_rfl)) (by kernel_rfl) (by kernel_rfl)

theorem run_FnNormUses (xs : List V) (h : ArgOk Tryd.prog Tryd.f5.params.toList xs) : ∃ r, CallOK Tryd.prog (fidOf cidTab) GT 103 xs [] (fun k => k + 1) r ∧ r.v = sV (.bool true) := by
  have hu : Tryd.prog.underlying 35 = some (.slice 5) := by kernel_rfl
  obtain ⟨n, ds, a, m, es, c, h1, h2, k1, k2, rfl⟩ := argOk_2 (by simpa only [Tryd.params5] using h)
  obtain ⟨l, rfl, hl, hb⟩ := tyd_bytes hu Tryd.underlying5 h1
  obtain ⟨l2, rfl, hl2, hb2⟩ := tyd_bytes hu Tryd.underlying5 k1
  have ha : a = false := by simpa [agg?, hu] using h2.symm
  have hc : c = false := by simpa [agg?, hu] using k2.symm
  subst ha; subst hc
  obtain ⟨L, hL, w⟩ : ∃ L : List Arm, armsWt L ≤ 15000 ∧ (¬ 1048576 < l.length → ∀ s, go 100000 111 [.w (bW 0 l)] [] s = some ⟨.w (ksW L), [], []⟩) := by
    by_cases hlen : 1048576 < l.length
    · exact ⟨[], by simp [armsWt], fun h => absurd hlen h⟩
    · obtain ⟨L, hL, w⟩ := draw_DrawNormMake (b := l) (by omega) hb 100000 (by omega)
      exact ⟨L, hL, fun _ => w⟩
  obtain ⟨L2, x, w2⟩ : ∃ (L2 : List Arm) (x : Arg), (¬ 1048576 < l2.length → ∀ s, go 100000 112 [.w (bW 0 l2)] [] s = some ⟨.tup [(false, [ksW L2]), (true, [iW x.k, iW x.n, iW x.p])], [], []⟩) := by
    by_cases hlen : 1048576 < l2.length
    · exact ⟨[], ⟨0, 0, 0⟩, fun h => absurd hlen h⟩
    · obtain ⟨L2, x, _, w⟩ := draw_DrawTreeUses (b := l2) (by omega) hb2 100000 (by omega)
      exact ⟨L2, x, fun _ => w⟩
  exact ⟨_, go_ok _ _ _ _ _ _ (run_lawNormUses 0 0 l l2 100000 (Nat.le_refl _) L L2 x (by omega) w w2 _), rfl⟩

set_option maxRecDepth 100000 in
theorem lifted_FnNormUses (os : Os) (started : os.Started) (H : Type) (enc : TypeId × Value → H) :
    ReturnsInHanded {} Tryd.checked os 5 .any (fun w args => (Rows.fnNormUsesSpec.pre enc Tryd.prog Tryd.f5 [] false w args ∧ laidMetH Tryd.prog laidL w) ∧ sizedMet enc Tryd.prog Tryd.f5 (OpenSpec.ofChange Rows.fnNormUsesSpec) false w args)
      (Rows.fnNormUsesSpec.post enc Tryd.prog Tryd.f5 false true false false) :=
  law_laid (C := Tryd.checked) (S := [35, 5]) (tb := 4) (c := 103) (G := GT) (laid := laidL) own started (by kernel_rfl) Tryd.func5
    (ChangeSpec.witness_shaped (enc := enc) (C := Tryd.checked) (os := os) (X := fun w _ => laidMetH Tryd.prog laidL w) false (World.doorLaid Tryd.prog 29 os) #[.slice none 0 0, .slice none 0 0] 8 rfl (World.shaped_of_RefB (by kernel_rfl) (by kernel_rfl)) (by kernel_rfl) (by kernel_rfl) (by kernel_rfl) (door_met os _))
    laidOut (by kernel_rfl) (by kernel_rfl) (by kernel_rfl) (by kernel_rfl) (by kernel_rfl)
    (fun ds gs hd hg => by
      have h1 : ds.length = 2 := hd
      have h2 : gs.length = 2 := hg
      match ds, gs, h1, h2 with
      | [d0, d1], [g1, g2], _, _ => rfl)
    laidGlob (by kernel_rfl) run_FnNormUses

theorem over_FnNormUses : Rows.FnNormUsesSaid :=
  OpenClaim.holds_of_wide 5 Tryd.f5 rfl rfl rfl rfl rfl rfl rfl ⟨rfl, rfl, rfl, rfl, rfl⟩ rfl rfl rfl rfl rfl (by kernel_rfl) Tryd.func5 (by kernel_rfl)
    (of_decide_eq_true (by kernel_rfl)) (by unfold Func.isWrapper; first | (rw [if_pos (by decide +kernel)]; kernel_rfl) | (rw [if_neg (by decide +kernel)]; exact ⟨rfl, rfl⟩))
    (fun os started H enc _ => lifted_FnNormUses os started H enc)

theorem fnNormUsesCard_holds : Rows.FnNormUsesCardSaid :=
  Claim7.holds_tied_plain_at .later [] [.data, .widerDeep] true (true, "beeced9f5d06d9f1ef3cad858619a2f8ad6d2075b5d29878a2aab4e49e317a14") false
    over_FnNormUses (fun _ h => by cases h) (by kernel_rfl) (fun _ h => by cases h) fnNormUses_row_tie rfl ⟨rfl, rfl⟩ (by kernel_rfl) rfl
    (fun f fn hf hfn => by
      obtain rfl : f = 5 := Option.some.inj ((show Tryd.prog.funcNamed "loop.example/stile/laws.FnNormUses" = some 5 by kernel_rfl).symm.trans hf) |>.symm
      obtain rfl : fn = Tryd.f5 := (Option.some.inj (Tryd.func5.symm.trans hfn)).symm
      exact ⟨by kernel_rfl, fun j t ht => by
        rw [Tryd.params5] at ht
        have hm : t ∈ [35] := by simpa using Array.mem_of_getElem? ht
        have hall : ([35].all fun u => !Tryd.prog.wantsStandIn u) = true := by kernel_rfl
        exact (show Tryd.prog.wantsStandIn t = false by simpa using List.all_eq_true.1 hall t hm)⟩)
    (by kernel_rfl)
#print axioms fnNormUsesCard_holds
end Go.Proofs.YtacfoamnbdlmpaaDoor
