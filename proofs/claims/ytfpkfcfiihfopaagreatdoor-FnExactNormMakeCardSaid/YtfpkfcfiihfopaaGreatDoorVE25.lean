/- NormMake answers as the reference answers, for all arguments: the law FnExactNormMake answers true for every input. Conditions: none but the tables the row lists, and these are tied. -/
import Derived.Test.YtfpkfcfiihfopaaGreatDoorVMT
import Derived.Test.YtfpkfcfiihfopaaGreatDoorVT1
import Derived.Test.YtfpkfcfiihfopaaGreatDoorVM34
import Derived.Test.YtfpkfcfiihfopaaGreatDoorVM29
import Derived.Test.YtfpkfcfiihfopaaGreatDoorCards
import Derived.Test.YtfpkfcfiihfopaaGreatDoorTie
import Derived.WalkKit
import Derived.ProofKit
import Derived.LaidMore
import Derived.SevenTiedAt

namespace Go.Proofs.YtfpkfcfiihfopaaGreatDoor
open Go.ChangeShapes Go.WideShapes Go.ChangeAt Go.RowKit Go.VM
set_option linter.unusedVariables false
theorem own : ownKnob Tryz.prog.godebug = none := by kernel_rfl
theorem laidOut : laidOutB Tryz.prog = true := by kernel_rfl
def laidL {H : Type} : List (String × DataW H) := [("loop.example/stile/impl.devSizes", Rows.laid_loop_example_stile_impl_devSizes), ("loop.example/stile/impl.devWords", Rows.laid_loop_example_stile_impl_devWords)]
theorem laidGlob (W : World) (h : laidMetH Tryz.prog laidL W) : Glob GT (ctx0 W) := by
  rw [MakeChecks.laidMetH_plain _ _ _ (by kernel_rfl)] at h; obtain ⟨ps, hl, _⟩ := h; have h0 := gRow_ok (laid_glob (n := "loop.example/stile/impl.devSizes") (g := 4) (t := 141) (e := 3) (ds := sizesD) hl (.head _) (by kernel_rfl) (by kernel_rfl) (by kernel_rfl) (by kernel_rfl) rfl (by simp [sizesD, ints])); have h1 := gRow_ok (laid_glob (n := "loop.example/stile/impl.devWords") (g := 3) (t := 157) (e := 9) (ds := wordsD) hl (.tail _ (.head _)) (by kernel_rfl) (by kernel_rfl) (by kernel_rfl) (by kernel_rfl) rfl (by simp [wordsD])); intro g row hg; unfold GT at hg; split at hg
  · rename_i e; subst e; cases hg; exact h1
  · split at hg
    · rename_i e; subst e; cases hg; exact h0
    · cases hg
theorem door_met (os : Os) (args : Array Value) : laidMetH Tryz.prog laidL ((World.doorLaid Tryz.prog 29 os).forCall (fun _ _ => 0) ⟨#[], args, []⟩).memory :=
  laidMetH_of_parts3 (fuel := 8) (laidMet_of_run' 8 (by kernel_rfl) (by kernel_rfl)) (by kernel_rfl) (by kernel_rfl)
set_option maxRecDepth 100000
set_option linter.unusedSimpArgs false
theorem tyd_arg {n : Nat} {ds : List D} (h : TyD Tryz.prog n 146 ds) : ∃ a : Arg, ds = a.row := by
  obtain ⟨m, hl, hf⟩ := tyd_struct Tryz.underlying146 h; rw [show Tryz.prog.cellsOf 146 = 3 from by kernel_rfl] at hl; obtain ⟨a, b, c, rfl⟩ := list3 hl; have k0 := hf _ (by simp; exact .inl rfl); have k1 := hf _ (by simp; exact .inr (.inl rfl)); have k2 := hf _ (by simp; exact .inr (.inr rfl)); simp only [show Tryz.prog.cellsOf 3 = 1 from by kernel_rfl, List.drop_succ_cons, List.drop_zero, List.take_succ_cons, List.take_zero] at k0 k1 k2; obtain ⟨x, e0, -⟩ := tyd_i64 Tryz.underlying3 k0; obtain ⟨y, e1, -⟩ := tyd_i64 Tryz.underlying3 k1; obtain ⟨z, e2, -⟩ := tyd_i64 Tryz.underlying3 k2; cases e0; cases e1; cases e2
  exact ⟨⟨x, y, z⟩, rfl⟩
theorem list_of_rows {α : Type} {row : α → List D} {q : α → Prop} : ∀ rows : List (List D), (∀ r ∈ rows, ∃ a : α, r = row a ∧ q a) → ∃ l : List α, rows = l.map row ∧ ∀ a ∈ l, q a
  | [], _ => ⟨[], rfl, by simp⟩
  | a :: r, h => by
    obtain ⟨w, rfl, hw⟩ := h a (List.mem_cons_self ..); obtain ⟨l, rfl, hl⟩ := list_of_rows r fun x hx => h x (List.mem_cons_of_mem _ hx)
    exact ⟨w :: l, rfl, by simpa using ⟨hw, hl⟩⟩
theorem max_lt {k : Nat} (h : k ≤ maxLen) : k < 2 ^ 63 := by
  simp [maxLen] at h; omega
theorem args_fit : ∀ l : List Arg, rowsFits (argRows l)
  | [] => trivial
  | a :: r => ⟨⟨trivial, trivial, trivial, trivial⟩, args_fit r⟩
theorem tyd_args {n : Nat} {ds : List D} (h : TyD Tryz.prog n 37 ds) : ∃ l : List Arg, ds = [.l 0 (argRows l)] ∧ l.length < 2 ^ 63 := by
  obtain ⟨rows, m, rfl, h1, h2⟩ := tyd_slice Tryz.underlying37 h; obtain ⟨l, rfl, -⟩ := list_of_rows (row := Arg.row) (q := fun _ => True) rows fun row hrow => let ⟨a, ha⟩ := tyd_arg (h2 row hrow).2; ⟨a, ha, trivial⟩
  exact ⟨l, rfl, by simpa using max_lt h1⟩
theorem tyd_el {n : Nat} {ds : List D} (h : TyD Tryz.prog n 39 ds) : ∃ e : El, ds = e.row ∧ e.as.length < 2 ^ 63 := by
  obtain ⟨m, hl, hf⟩ := tyd_struct Tryz.underlying39 h; rw [show Tryz.prog.cellsOf 39 = 2 from by kernel_rfl] at hl; obtain ⟨a, b, rfl⟩ := list2 hl; have k0 := hf _ (by simp; exact .inl rfl); have k1 := hf _ (by simp; exact .inr rfl); simp only [show Tryz.prog.cellsOf 3 = 1 from by kernel_rfl, show Tryz.prog.cellsOf 37 = 1 from by kernel_rfl, List.drop_succ_cons, List.drop_zero, List.take_succ_cons, List.take_zero] at k0 k1; obtain ⟨x, e0, -⟩ := tyd_i64 Tryz.underlying3 k0; obtain ⟨l, e1, hq⟩ := tyd_args k1; cases e0; cases e1
  exact ⟨⟨x, l⟩, rfl, hq⟩
theorem els_fit : ∀ l : List El, (∀ a ∈ l, a.as.length < 2 ^ 63) → rowsFits (elRows l)
  | [], _ => trivial
  | a :: r, h => ⟨⟨trivial, ⟨by simpa [argRows] using h a (List.mem_cons_self ..), args_fit a.as⟩, trivial⟩, els_fit r fun x hx => h x (List.mem_cons_of_mem _ hx)⟩
theorem tyd_els {n : Nat} {ds : List D} (h : TyD Tryz.prog n 43 ds) : ∃ l : List El, ds = [.l 0 (elRows l)] ∧ dFits (.l 0 (elRows l)) := by
  obtain ⟨rows, m, rfl, h1, h2⟩ := tyd_slice Tryz.underlying43 h; obtain ⟨l, rfl, hl⟩ := list_of_rows (row := El.row) (q := fun e : El => e.as.length < 2 ^ 63) rows fun row hrow => tyd_el (h2 row hrow).2
  exact ⟨l, rfl, by simpa [elRows] using max_lt h1, els_fit l hl⟩
theorem tyd_nets : ∀ (n : Nat) (ds : List D), TyD Tryz.prog n 40 ds → ∃ l : List Net, ds = [.l 0 (netRows l)] ∧ dFits (.l 0 (netRows l))
  | 0, ds, h => absurd h (by simp [TyD])
  | n + 1, ds, h => by
    unfold TyD at h; rw [Tryz.underlying40] at h; obtain ⟨rows, rfl, h1, h2⟩ := h; obtain ⟨l, rfl, hl⟩ := list_of_rows (row := Net.row) (q := fun t : Net => rowFits t.row) rows fun row hrow => by
      obtain ⟨hlen, h⟩ := h2 row hrow; cases n with
      | zero => exact absurd h (by simp [TyD])
      | succ n =>
        unfold TyD at h; rw [Tryz.underlying42] at h; obtain ⟨hl, hf⟩ := h; rw [show Tryz.prog.cellsOf 42 = 4 from by kernel_rfl] at hl; obtain ⟨a, b, c, d, rfl⟩ := list4 hl; have k0 := hf _ (by simp; exact .inl rfl); have k1 := hf _ (by simp; exact .inr (.inl rfl)); have k2 := hf _ (by simp; exact .inr (.inr rfl)); simp only [show Tryz.prog.cellsOf 3 = 1 from by kernel_rfl, show Tryz.prog.cellsOf 39 = 2 from by kernel_rfl, show Tryz.prog.cellsOf 40 = 1 from by kernel_rfl, List.drop_succ_cons, List.drop_zero, List.take_succ_cons, List.take_zero] at k0 k1 k2; obtain ⟨x, e0, -⟩ := tyd_i64 Tryz.underlying3 k0; obtain ⟨⟨op, ars⟩, e1, ha⟩ := tyd_el k1; obtain ⟨ks, e2, hk⟩ := tyd_nets n _ k2
        cases e0; cases e1; cases e2
        exact ⟨.mk x op ars ks, by simp [Net.row], by simp only [Net.row, rowFits]; exact ⟨trivial, trivial, ⟨by simpa [argRows] using ha, args_fit ars⟩, hk, trivial⟩⟩
    have e : l.map Net.row = netRows l := (netRows_map l).symm; rw [e] at h1; refine ⟨l, by rw [e], max_lt h1, ?_⟩
    clear h1 h2 e
    induction l with
    | nil => simp [netRows, rowsFits]
    | cons a r ih => simp only [netRows, rowsFits]; exact ⟨hl a (List.mem_cons_self ..), ih fun x hx => hl x (List.mem_cons_of_mem _ hx)⟩
theorem tyd_net {n : Nat} {ds : List D} (h : TyD Tryz.prog n 42 ds) : ∃ t : Net, ds = t.row ∧ rowFits t.row := by
  obtain ⟨m, hl, hf⟩ := tyd_struct Tryz.underlying42 h; rw [show Tryz.prog.cellsOf 42 = 4 from by kernel_rfl] at hl; obtain ⟨a, b, c, d, rfl⟩ := list4 hl; have k0 := hf _ (by simp; exact .inl rfl); have k1 := hf _ (by simp; exact .inr (.inl rfl)); have k2 := hf _ (by simp; exact .inr (.inr rfl)); simp only [show Tryz.prog.cellsOf 3 = 1 from by kernel_rfl, show Tryz.prog.cellsOf 39 = 2 from by kernel_rfl, show Tryz.prog.cellsOf 40 = 1 from by kernel_rfl, List.drop_succ_cons, List.drop_zero, List.take_succ_cons, List.take_zero] at k0 k1 k2; obtain ⟨x, e0, -⟩ := tyd_i64 Tryz.underlying3 k0; obtain ⟨⟨op, ars⟩, e1, ha⟩ := tyd_el k1; obtain ⟨ks, e2, hk⟩ := tyd_nets _ _ k2
  cases e0; cases e1; cases e2
  exact ⟨.mk x op ars ks, by simp [Net.row], by simp only [Net.row, rowFits]; exact ⟨trivial, trivial, ⟨by simpa [argRows] using ha, args_fit ars⟩, hk, trivial⟩⟩
theorem tyd_arms : ∀ (n : Nat) (ds : List D), TyD Tryz.prog n 22 ds → ∃ l : List Arm, ds = [.l 0 (armRows l)] ∧ dFits (.l 0 (armRows l))
  | 0, ds, h => absurd h (by simp [TyD])
  | n + 1, ds, h => by
    unfold TyD at h; rw [Tryz.underlying22] at h; obtain ⟨rows, rfl, h1, h2⟩ := h; obtain ⟨l, rfl, hl⟩ := list_of_rows (row := Arm.row) (q := fun t : Arm => rowFits t.row) rows fun row hrow => by
      obtain ⟨hlen, h⟩ := h2 row hrow; cases n with
      | zero => exact absurd h (by simp [TyD])
      | succ n =>
        unfold TyD at h; rw [Tryz.underlying45] at h; obtain ⟨hl, hf⟩ := h; rw [show Tryz.prog.cellsOf 45 = 6 from by kernel_rfl] at hl; obtain ⟨a, b, c, d, e, f, rfl⟩ := list6 hl; have k0 := hf _ (by simp; exact .inl rfl); have k1 := hf _ (by simp; exact .inr (.inl rfl)); have k2 := hf _ (by simp; exact .inr (.inr rfl)); simp only [show Tryz.prog.cellsOf 42 = 4 from by kernel_rfl, show Tryz.prog.cellsOf 43 = 1 from by kernel_rfl, show Tryz.prog.cellsOf 22 = 1 from by kernel_rfl, List.drop_succ_cons, List.drop_zero, List.take_succ_cons, List.take_zero] at k0 k1 k2; obtain ⟨⟨k, op, ars, nks⟩, e0, hn⟩ := tyd_net k0; obtain ⟨cs, e1, hc⟩ := tyd_els k1; obtain ⟨ks, e2, hk⟩ := tyd_arms n _ k2
        simp only [Net.row] at e0; cases e0; cases e1; cases e2
        simp only [Net.row, rowFits] at hn; exact ⟨.mk (.mk k op ars nks) cs ks, by simp [Arm.row], by simp only [Arm.row, rowFits]; exact ⟨trivial, trivial, hn.2.2.1, hn.2.2.2.1, hc, hk, trivial⟩⟩
    have e : l.map Arm.row = armRows l := (armRows_map l).symm; rw [e] at h1; refine ⟨l, by rw [e], max_lt h1, ?_⟩
    clear h1 h2 e
    induction l with
    | nil => simp [armRows, rowsFits]
    | cons a r ih => simp only [armRows, rowsFits]; exact ⟨hl a (List.mem_cons_self ..), ih fun x hx => hl x (List.mem_cons_of_mem _ hx)⟩
theorem gos_ok (n f : Nat) (args : List V) (bs : List Box) (s : Sup) (r : Res) : goS n f args bs s = some r → CallOK Tryz.prog (fidOf cidTab) GT f args bs s r :=
  runS_ok cid_ok mix FT_ok go_ok n f args bs s r
theorem env : Env Tryz.prog (fidOf cidTab) (cidOf cidTab) := ⟨cid_ok, FT_ok, go_ok, gos_ok⟩
theorem gt_er : ∀ g row, GT g = some row → erL row = row := by
  intro g row h; unfold GT at h
  repeat' (split at h)
  all_goals first
    | (cases h; rfl)
    | cases h
theorem run_FnExactNormMake (xs : List V) (h : ArgOk Tryz.prog Tryz.f3.params.toList xs) : ∃ r, CallOK Tryz.prog (fidOf cidTab) GT 254 xs [] (fun k => k + 1) r ∧ r.v = sV (.bool true) := by
  have hu := Tryz.underlying22; obtain ⟨n, ds, a, h1, h2, rfl⟩ := argOk_1 (by simpa only [Tryz.params3] using h); obtain ⟨l, rfl, hf⟩ := tyd_arms _ _ h1; have ha : a = false := by simpa [agg?, hu] using h2.symm
  subst ha; exact ⟨_, law_NormMake env gt_er rfl hf, rfl⟩
set_option maxRecDepth 100000 in
theorem lifted_FnExactNormMake (os : Os) (started : os.Started) (H : Type) (enc : TypeId × Value → H) :
    ReturnsInHanded {} Tryz.checked os 3 .any (fun w args => (Rows.fnExactNormMakeSpec.pre enc Tryz.prog Tryz.f3 [] false w args ∧ laidMetH Tryz.prog laidL w) ∧ sizedMet enc Tryz.prog Tryz.f3 (OpenSpec.ofChange Rows.fnExactNormMakeSpec) false w args)
      (Rows.fnExactNormMakeSpec.post enc Tryz.prog Tryz.f3 false true false false) :=
  law_laid (C := Tryz.checked) (S := [22, 37, 39, 40, 42, 43, 45, 146, 3]) (tb := 4) (c := 254) (G := GT) (laid := laidL) own started (by kernel_rfl) Tryz.func3
    (ChangeSpec.witness_shaped (enc := enc) (C := Tryz.checked) (os := os) (X := fun w _ => laidMetH Tryz.prog laidL w) false (World.doorLaid Tryz.prog 29 os) #[.slice none 0 0] 8 rfl (World.shaped_of_RefB (by kernel_rfl) (by kernel_rfl)) (by kernel_rfl) (by kernel_rfl) (by kernel_rfl) (door_met os _))
    laidOut (by kernel_rfl) (by kernel_rfl) (by kernel_rfl) (by kernel_rfl) (by kernel_rfl)
    (fun ds gs hd hg => by
      have h1 : ds.length = 1 := hd; have h2 : gs.length = 2 := hg
      match ds, gs, h1, h2 with
      | [d0], [g0, g1], _, _ => rfl)
    laidGlob (by kernel_rfl) run_FnExactNormMake
theorem over_FnExactNormMake : Rows.FnExactNormMakeSaid :=
  OpenClaim.holds_of_wide 3 Tryz.f3 rfl rfl rfl rfl rfl rfl rfl ⟨rfl, rfl, rfl, rfl, rfl⟩ rfl rfl rfl rfl rfl (by kernel_rfl) Tryz.func3 (by kernel_rfl)
    (of_decide_eq_true (by kernel_rfl)) (by unfold Func.isWrapper; first | (rw [if_pos (by decide +kernel)]; kernel_rfl) | (rw [if_neg (by decide +kernel)]; exact ⟨rfl, rfl⟩))
    (fun os started H enc _ => lifted_FnExactNormMake os started H enc)
theorem fnExactNormMakeCard_holds : Rows.FnExactNormMakeCardSaid :=
  Claim7.holds_tied_plain_at .later [] [.data, .widerDeep] true (true, "088333721043c7fc54b08b57248f8678bf7f97a57206818b1916534beb798d25") false
    over_FnExactNormMake (fun _ h => by cases h) (by kernel_rfl) (fun _ h => by cases h) fnExactNormMake_row_tie rfl ⟨rfl, rfl⟩ (by kernel_rfl) rfl
    (fun f fn hf hfn => by
      obtain rfl : f = 3 := Option.some.inj ((show Tryz.prog.funcNamed "loop.example/stile/laws.FnExactNormMake" = some 3 by kernel_rfl).symm.trans hf) |>.symm
      obtain rfl : fn = Tryz.f3 := (Option.some.inj (Tryz.func3.symm.trans hfn)).symm; exact ⟨by kernel_rfl, fun j t ht => by
        rw [Tryz.params3] at ht; have hm : t ∈ [22] := by simpa using Array.mem_of_getElem? ht
        have hall : ([22].all fun u => !Tryz.prog.wantsStandIn u) = true := by kernel_rfl
        exact (show Tryz.prog.wantsStandIn t = false by simpa using List.all_eq_true.1 hall t hm)⟩)
    (by kernel_rfl)
#print axioms fnExactNormMakeCard_holds
end Go.Proofs.YtfpkfcfiihfopaaGreatDoor
