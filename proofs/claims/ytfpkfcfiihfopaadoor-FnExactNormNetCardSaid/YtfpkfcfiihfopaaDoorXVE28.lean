/- NormNet answers as the reference answers, for all arguments: the law FnExactNormNet answers true for every input. Conditions: none but the tables the row lists, and these are tied. -/
import Derived.Test.YtfpkfcfiihfopaaDoorXVMT
import Derived.Test.YtfpkfcfiihfopaaDoorXVT1
import Derived.Test.YtfpkfcfiihfopaaDoorXVM34
import Derived.Test.YtfpkfcfiihfopaaDoorXVM29
import Derived.Test.YtfpkfcfiihfopaaDoorCards
import Derived.Test.YtfpkfcfiihfopaaDoorTie
import Derived.WalkKit
import Derived.ProofKit
import Derived.LaidMore
import Derived.SevenTiedAt

namespace Go.Proofs.YtfpkfcfiihfopaaDoor
open Go.ChangeShapes Go.WideShapes Go.ChangeAt Go.RowKit Go.VM
set_option linter.unusedVariables false
theorem own : ownKnob Tryd.prog.godebug = none := by kernel_rfl
theorem laidOut : laidOutB Tryd.prog = true := by kernel_rfl
def laidL {H : Type} : List (String × DataW H) := [("loop.example/stile/impl.devSizes", Rows.laid_loop_example_stile_impl_devSizes), ("loop.example/stile/impl.devWords", Rows.laid_loop_example_stile_impl_devWords)]
theorem laidGlob (W : World) (h : laidMetH Tryd.prog laidL W) : Glob GT (ctx0 W) := by
  rw [MakeChecks.laidMetH_plain _ _ _ (by kernel_rfl)] at h; obtain ⟨ps, hl, _⟩ := h; have h0 := gRow_ok (laid_glob (n := "loop.example/stile/impl.devSizes") (g := 3) (t := 151) (e := 3) (ds := sizesD) hl (.head _) (by kernel_rfl) (by kernel_rfl) (by kernel_rfl) (by kernel_rfl) rfl (by simp [sizesD, ints])); have h1 := gRow_ok (laid_glob (n := "loop.example/stile/impl.devWords") (g := 2) (t := 181) (e := 9) (ds := wordsD) hl (.tail _ (.head _)) (by kernel_rfl) (by kernel_rfl) (by kernel_rfl) (by kernel_rfl) rfl (by simp [wordsD])); intro g row hg; unfold GT at hg; split at hg
  · rename_i e; subst e; cases hg; exact h1
  · split at hg
    · rename_i e; subst e; cases hg; exact h0
    · cases hg
theorem door_met (os : Os) (args : Array Value) : laidMetH Tryd.prog laidL ((World.doorLaid Tryd.prog 29 os).forCall (fun _ _ => 0) ⟨#[], args, []⟩).memory :=
  laidMetH_of_parts3 (fuel := 8) (laidMet_of_run' 8 (by kernel_rfl) (by kernel_rfl)) (by kernel_rfl) (by kernel_rfl)
set_option maxRecDepth 100000
set_option linter.unusedSimpArgs false
theorem tyd_arg {n : Nat} {ds : List D} (h : TyD Tryd.prog n 153 ds) : ∃ a : Arg, ds = a.row := by
  obtain ⟨m, hl, hf⟩ := tyd_struct Tryd.underlying153 h; rw [show Tryd.prog.cellsOf 153 = 3 from by kernel_rfl] at hl; obtain ⟨a, b, c, rfl⟩ := list3 hl; have k0 := hf _ (by simp; exact .inl rfl); have k1 := hf _ (by simp; exact .inr (.inl rfl)); have k2 := hf _ (by simp; exact .inr (.inr rfl)); simp only [show Tryd.prog.cellsOf 3 = 1 from by kernel_rfl, List.drop_succ_cons, List.drop_zero, List.take_succ_cons, List.take_zero] at k0 k1 k2; obtain ⟨x, e0, -⟩ := tyd_i64 Tryd.underlying3 k0; obtain ⟨y, e1, -⟩ := tyd_i64 Tryd.underlying3 k1; obtain ⟨z, e2, -⟩ := tyd_i64 Tryd.underlying3 k2; cases e0; cases e1; cases e2
  exact ⟨⟨x, y, z⟩, rfl⟩
theorem list_of_rows {α : Type} {row : α → List D} {q : α → Prop} : ∀ rows : List (List D), (∀ r ∈ rows, ∃ a : α, r = row a ∧ q a) → ∃ l : List α, rows = l.map row ∧ ∀ a ∈ l, q a
  | [], _ => ⟨[], rfl, by simp⟩
  | a :: r, h => by
    obtain ⟨w, rfl, hw⟩ := h a (List.mem_cons_self ..); obtain ⟨l, rfl, hl⟩ := list_of_rows r fun x hx => h x (List.mem_cons_of_mem _ hx)
    exact ⟨w :: l, rfl, by simpa using ⟨hw, hl⟩⟩
theorem max_lt {k : Nat} (h : k ≤ maxLen) : k < 2 ^ 63 := by
  simp [maxLen] at h; omega
theorem args_fit : ∀ l : List Arg, rowsFits (argRows l)
  | [] => trivial
  | a :: r => ⟨⟨trivial, trivial, trivial, trivial⟩, args_fit r⟩
theorem tyd_args {n : Nat} {ds : List D} (h : TyD Tryd.prog n 22 ds) : ∃ l : List Arg, ds = [.l 0 (argRows l)] ∧ l.length < 2 ^ 63 := by
  obtain ⟨rows, m, rfl, h1, h2⟩ := tyd_slice Tryd.underlying22 h; obtain ⟨l, rfl, -⟩ := list_of_rows (row := Arg.row) (q := fun _ => True) rows fun row hrow => let ⟨a, ha⟩ := tyd_arg (h2 row hrow).2; ⟨a, ha, trivial⟩
  exact ⟨l, rfl, by simpa using max_lt h1⟩
theorem tyd_el {n : Nat} {ds : List D} (h : TyD Tryd.prog n 24 ds) : ∃ e : El, ds = e.row ∧ e.as.length < 2 ^ 63 := by
  obtain ⟨m, hl, hf⟩ := tyd_struct Tryd.underlying24 h; rw [show Tryd.prog.cellsOf 24 = 2 from by kernel_rfl] at hl; obtain ⟨a, b, rfl⟩ := list2 hl; have k0 := hf _ (by simp; exact .inl rfl); have k1 := hf _ (by simp; exact .inr rfl); simp only [show Tryd.prog.cellsOf 3 = 1 from by kernel_rfl, show Tryd.prog.cellsOf 22 = 1 from by kernel_rfl, List.drop_succ_cons, List.drop_zero, List.take_succ_cons, List.take_zero] at k0 k1; obtain ⟨x, e0, -⟩ := tyd_i64 Tryd.underlying3 k0; obtain ⟨l, e1, hq⟩ := tyd_args k1; cases e0; cases e1
  exact ⟨⟨x, l⟩, rfl, hq⟩
theorem els_fit : ∀ l : List El, (∀ a ∈ l, a.as.length < 2 ^ 63) → rowsFits (elRows l)
  | [], _ => trivial
  | a :: r, h => ⟨⟨trivial, ⟨by simpa [argRows] using h a (List.mem_cons_self ..), args_fit a.as⟩, trivial⟩, els_fit r fun x hx => h x (List.mem_cons_of_mem _ hx)⟩
theorem tyd_nets : ∀ (n : Nat) (ds : List D), TyD Tryd.prog n 25 ds → ∃ l : List Net, ds = [.l 0 (netRows l)] ∧ dFits (.l 0 (netRows l))
  | 0, ds, h => absurd h (by simp [TyD])
  | n + 1, ds, h => by
    unfold TyD at h; rw [Tryd.underlying25] at h; obtain ⟨rows, rfl, h1, h2⟩ := h; obtain ⟨l, rfl, hl⟩ := list_of_rows (row := Net.row) (q := fun t : Net => rowFits t.row) rows fun row hrow => by
      obtain ⟨hlen, h⟩ := h2 row hrow; cases n with
      | zero => exact absurd h (by simp [TyD])
      | succ n =>
        unfold TyD at h; rw [Tryd.underlying27] at h; obtain ⟨hl, hf⟩ := h; rw [show Tryd.prog.cellsOf 27 = 4 from by kernel_rfl] at hl; obtain ⟨a, b, c, d, rfl⟩ := list4 hl; have k0 := hf _ (by simp; exact .inl rfl); have k1 := hf _ (by simp; exact .inr (.inl rfl)); have k2 := hf _ (by simp; exact .inr (.inr rfl)); simp only [show Tryd.prog.cellsOf 3 = 1 from by kernel_rfl, show Tryd.prog.cellsOf 24 = 2 from by kernel_rfl, show Tryd.prog.cellsOf 25 = 1 from by kernel_rfl, List.drop_succ_cons, List.drop_zero, List.take_succ_cons, List.take_zero] at k0 k1 k2; obtain ⟨x, e0, -⟩ := tyd_i64 Tryd.underlying3 k0; obtain ⟨⟨op, ars⟩, e1, ha⟩ := tyd_el k1; obtain ⟨ks, e2, hk⟩ := tyd_nets n _ k2
        cases e0; cases e1; cases e2
        exact ⟨.mk x op ars ks, by simp [Net.row], by simp only [Net.row, rowFits]; exact ⟨trivial, trivial, ⟨by simpa [argRows] using ha, args_fit ars⟩, hk, trivial⟩⟩
    have e : l.map Net.row = netRows l := (netRows_map l).symm; rw [e] at h1; refine ⟨l, by rw [e], max_lt h1, ?_⟩
    clear h1 h2 e
    induction l with
    | nil => simp [netRows, rowsFits]
    | cons a r ih => simp only [netRows, rowsFits]; exact ⟨hl a (List.mem_cons_self ..), ih fun x hx => hl x (List.mem_cons_of_mem _ hx)⟩
theorem tyd_net {n : Nat} {ds : List D} (h : TyD Tryd.prog n 27 ds) : ∃ t : Net, ds = t.row ∧ rowFits t.row := by
  obtain ⟨m, hl, hf⟩ := tyd_struct Tryd.underlying27 h; rw [show Tryd.prog.cellsOf 27 = 4 from by kernel_rfl] at hl; obtain ⟨a, b, c, d, rfl⟩ := list4 hl; have k0 := hf _ (by simp; exact .inl rfl); have k1 := hf _ (by simp; exact .inr (.inl rfl)); have k2 := hf _ (by simp; exact .inr (.inr rfl)); simp only [show Tryd.prog.cellsOf 3 = 1 from by kernel_rfl, show Tryd.prog.cellsOf 24 = 2 from by kernel_rfl, show Tryd.prog.cellsOf 25 = 1 from by kernel_rfl, List.drop_succ_cons, List.drop_zero, List.take_succ_cons, List.take_zero] at k0 k1 k2; obtain ⟨x, e0, -⟩ := tyd_i64 Tryd.underlying3 k0; obtain ⟨⟨op, ars⟩, e1, ha⟩ := tyd_el k1; obtain ⟨ks, e2, hk⟩ := tyd_nets _ _ k2
  cases e0; cases e1; cases e2
  exact ⟨.mk x op ars ks, by simp [Net.row], by simp only [Net.row, rowFits]; exact ⟨trivial, trivial, ⟨by simpa [argRows] using ha, args_fit ars⟩, hk, trivial⟩⟩
theorem gos_ok (n f : Nat) (args : List V) (bs : List Box) (s : Sup) (r : Res) : goS n f args bs s = some r → CallOK Tryd.prog (fidOf cidTab) GT f args bs s r :=
  runS_ok cid_ok mix FT_ok go_ok n f args bs s r
theorem env : Env Tryd.prog (fidOf cidTab) (cidOf cidTab) := ⟨cid_ok, FT_ok, go_ok, gos_ok⟩
theorem gt_er : ∀ g row, GT g = some row → erL row = row := by
  intro g row h; unfold GT at h
  repeat' (split at h)
  all_goals first
    | (cases h; rfl)
    | cases h
theorem run_FnExactNormNet (xs : List V) (h : ArgOk Tryd.prog Tryd.f3.params.toList xs) : ∃ r, CallOK Tryd.prog (fidOf cidTab) GT 219 xs [] (fun k => k + 1) r ∧ r.v = sV (.bool true) := by
  have hu := Tryd.underlying27; obtain ⟨n, ds, a, h1, h2, rfl⟩ := argOk_1 (by simpa only [Tryd.params3] using h); obtain ⟨l, rfl, hf⟩ := tyd_net h1; have ha : a = true := by simpa [agg?, hu] using h2.symm
  subst ha; exact ⟨_, law_NormNet env mix gt_er rfl rfl rfl rfl rfl rfl rfl hf, rfl⟩
set_option maxRecDepth 100000 in
theorem lifted_FnExactNormNet (os : Os) (started : os.Started) (H : Type) (enc : TypeId × Value → H) :
    ReturnsInHanded {} Tryd.checked os 3 .any (fun w args => (Rows.fnExactNormNetSpec.pre enc Tryd.prog Tryd.f3 [] false w args ∧ laidMetH Tryd.prog laidL w) ∧ sizedMet enc Tryd.prog Tryd.f3 (OpenSpec.ofChange Rows.fnExactNormNetSpec) false w args)
      (Rows.fnExactNormNetSpec.post enc Tryd.prog Tryd.f3 false true false false) :=
  law_laid (C := Tryd.checked) (S := [22, 24, 25, 27, 153, 3]) (tb := 4) (c := 219) (G := GT) (laid := laidL) own started (by kernel_rfl) Tryd.func3
    (ChangeSpec.witness_shaped (enc := enc) (C := Tryd.checked) (os := os) (X := fun w _ => laidMetH Tryd.prog laidL w) false (World.doorLaid Tryd.prog 29 os) #[.agg #[.int .i64 0, .int .i64 0, .slice none 0 0, .slice none 0 0]] 8 rfl (World.shaped_of_RefB (by kernel_rfl) (by kernel_rfl)) (by kernel_rfl) (by kernel_rfl) (by kernel_rfl) (door_met os _))
    laidOut (by kernel_rfl) (by kernel_rfl) (by kernel_rfl) (by kernel_rfl) (by kernel_rfl)
    (fun ds gs hd hg => by
      have h1 : ds.length = 1 := hd; have h2 : gs.length = 2 := hg
      match ds, gs, h1, h2 with
      | [d0], [g0, g1], _, _ => rfl)
    laidGlob (by kernel_rfl) run_FnExactNormNet
theorem over_FnExactNormNet : Rows.FnExactNormNetSaid :=
  OpenClaim.holds_of_wide 3 Tryd.f3 rfl rfl rfl rfl rfl rfl rfl ⟨rfl, rfl, rfl, rfl, rfl⟩ rfl rfl rfl rfl rfl (by kernel_rfl) Tryd.func3 (by kernel_rfl)
    (of_decide_eq_true (by kernel_rfl)) (by unfold Func.isWrapper; first | (rw [if_pos (by decide +kernel)]; kernel_rfl) | (rw [if_neg (by decide +kernel)]; exact ⟨rfl, rfl⟩))
    (fun os started H enc _ => lifted_FnExactNormNet os started H enc)
theorem fnExactNormNetCard_holds : Rows.FnExactNormNetCardSaid :=
  Claim7.holds_tied_plain_at .later [] [.data, .widerDeep] true (true, "56f5c6dcac7a8cc535e3e15751dca4ea3f0dd0c4eef7c43b1f7d093a23780049") false
    over_FnExactNormNet (fun _ h => by cases h) (by kernel_rfl) (fun _ h => by cases h) fnExactNormNet_row_tie rfl ⟨rfl, rfl⟩ (by kernel_rfl) rfl
    (fun f fn hf hfn => by
      obtain rfl : f = 3 := Option.some.inj ((show Tryd.prog.funcNamed "loop.example/stile/laws.FnExactNormNet" = some 3 by kernel_rfl).symm.trans hf) |>.symm
      obtain rfl : fn = Tryd.f3 := (Option.some.inj (Tryd.func3.symm.trans hfn)).symm; exact ⟨by kernel_rfl, fun j t ht => by
        rw [Tryd.params3] at ht; have hm : t ∈ [27] := by simpa using Array.mem_of_getElem? ht
        have hall : ([27].all fun u => !Tryd.prog.wantsStandIn u) = true := by kernel_rfl
        exact (show Tryd.prog.wantsStandIn t = false by simpa using List.all_eq_true.1 hall t hm)⟩)
    (by kernel_rfl)
#print axioms fnExactNormNetCard_holds
end Go.Proofs.YtfpkfcfiihfopaaDoor
