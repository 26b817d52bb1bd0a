/- The value machine: what 'slices.Clone' answers, whether its argument is nil or not. Conditions: none. -/
import Derived.Test.YtfpkfcfiihfopaaDoorXVMC
import Derived.Test.YtfpkfcfiihfopaaDoorXVM30

namespace Go.VM
set_option linter.unusedSimpArgs false
set_option linter.unusedVariables false
set_option maxHeartbeats 4000000
section
variable {P : Program} {fid : Nat → FuncId} {cid : FuncId → Nat} {G : Nat → Option (List D)}
theorem nil_split {f st : Nat} {s : Sup} {r : Res} (h1 : CallOK P fid G f [.w .nil] [] s r) (h2 : CallOK P fid G f [.w (.ln st [])] [] s r) : CallOK P fid G f [.w (.d (.l st []))] [] s r := by
 refine ⟨h1.1, fun κ vs hI hl hr => ?_⟩
 obtain ⟨v, hv, hrel⟩ := hr 0 _ rfl; have hvs : ∀ i : Nat, ∀ x : V, ∀ y : V, [y][i]? = some x → i = 0 ∧ x = y := fun i x y h => by
  match i with
  | 0 => simp at h; exact ⟨rfl, h.symm⟩
  | i + 1 => simp at h
 by_cases hn : v = .slice none 0 0
 · refine h1.2 κ vs hI hl fun i x hx => ?_
   obtain ⟨rfl, rfl⟩ := hvs i x _ hx; exact ⟨v, hv, hn⟩
 · refine h2.2 κ vs hI hl fun i x hx => ?_
   obtain ⟨rfl, rfl⟩ := hvs i x _ hx; exact ⟨v, hv, hrel, hn⟩
theorem nil_own {f : Nat} {args : List V} {s : Sup} {sz : Nat} (h : CallOK P fid G f args [] s ⟨.w .nil, [], []⟩) : CallOK P fid G f args [] s ⟨.w (.own 0 0 0 none), [], [.row none sz [] 0]⟩ := by
 refine ⟨h.1, fun κ vs hI hl hr => (h.2 κ vs hI hl hr).mono ?_⟩
 rintro e w' ⟨v, κ', rfl, rfl, O⟩; have hd : ∀ b, κ'.β b = none := fun b => O.dom b (by simp)
 have hv : v = .slice none 0 0 := O.v; have hge : ∀ b, b ≠ 0 → (([] : List Box) ++ [Box.row none sz [] 0]).getD b .dead = .dead := fun b hb => by
  obtain ⟨k, rfl⟩ : ∃ k, b = k + 1 := ⟨b - 1, by omega⟩
  rfl
 refine ⟨v, { κ' with β := upd κ'.β 0 (some ⟨0, 0, sz, 0, false⟩) }, rfl, rfl, ⟨O.le.size, O.le.im, O.le.cell, O.le.z, fun n i hn => ?_⟩, O.os, O.tape, O.output, O.same, O.im, O.imlt, O.zlt, O.zinj, O.znew, rfl, fun b hb => by simp at hb, ?_, ?_, ?_, ?_, ?_⟩
 · rw [hI.dom n (by simp)] at hn; cases hn
 · intro b hb
   have hb' : b ≠ 0 := fun e => by subst e; simp at hb
   show upd κ'.β 0 _ b = none
   simp [upd, hb', hd]
 · intro b i hb hi hre
   by_cases e : b = 0
   · subst e
     have : i = ⟨0, 0, sz, 0, false⟩ := by
      have h0 : upd κ'.β 0 (some ⟨0, 0, sz, 0, false⟩) 0 = some i := hi; simp [upd] at h0; exact h0.symm
     subst this; cases hre
   · exact absurd (hge b e) hb
 · intro b
   by_cases e : b = 0
   · subst e
     exact ⟨⟨0, 0, sz, 0, false⟩, by simp [upd], rfl, by simp, .inl ⟨rfl, rfl⟩⟩
   · rw [hge b e]; trivial
 · intro b b' i i' hne hb hb' hi hi' hre hre'
   by_cases e : b = 0
   · by_cases e' : b' = 0
     · exact absurd (e.trans e'.symm) hne
     · exact absurd (hge b' e') hb'
   · exact absurd (hge b e) hb
 · exact ⟨⟨0, 0, sz, 0, false⟩, 0, by simp [upd], .inl rfl, Nat.le_refl _, .inl ⟨hv, rfl, rfl⟩⟩
def cloneF (sz bytes : Nat) (zero : List D) : Fn := ⟨8, [.tmp 2],
 (.seq (.reg [⟨(some 2), .mv (.k (.w .nil)), none⟩])
 (.seq (.seq (.reg [⟨(some 3), .mv (.t 0), none⟩,
  ⟨(some 4), .bin .eql .sl (.t 3) (.k (.w .nil)), none⟩])
 (.cond (.t 4)
  (.seq (.reg [⟨(some 2), .mv (.k (.w .nil)), none⟩])
  .ret)
  .skip))
 (.seq (.reg [⟨(some 5), .bsl sz 0 zero [], none⟩,
  ⟨(some 6), .mv (.t 0), none⟩,
  ⟨(some 7), .app sz bytes zero (.t 5) (.t 6), none⟩,
  ⟨(some 2), .mv (.t 7), none⟩])
 .ret)))⟩
def keep (_ : Nat) : Mode := { move := true }
theorem clone_nil (call : CallT) (n f sz bytes : Nat) (zero : List D) (s : Sup) : runF call keep G n f (cloneF sz bytes zero) [.w .nil] [] s = some ⟨.w .nil, [], []⟩ := by
 simp [cloneF, keep]
theorem clone_ln (call : CallT) (n f sz bytes st : Nat) (zero : List D) (hz : zero.length = sz) (rows : List (List D)) (h1 : rows.all (·.length == sz) = true) (h2 : room rows.length bytes = true) (s : Sup) :
 runF call keep G n f (cloneF sz bytes zero) [.w (.ln st rows)] [] s = some ⟨.w (.own 0 0 rows.length none), [], [.row none sz rows 0]⟩ := by
 have h1' : (∀ x ∈ rows, x.length = sz) = True := eq_true (by simpa using h1); simp [cloneF, keep, rowParts, h1', h2, hz]
theorem clone_d (call : CallT) (n f sz bytes st : Nat) (zero : List D) (hz : zero.length = sz) (rows : List (List D)) (h0 : rows ≠ []) (h1 : rows.all (·.length == sz) = true) (h2 : room rows.length bytes = true) (s : Sup) :
 runF call keep G n f (cloneF sz bytes zero) [.w (.d (.l st rows))] [] s = some ⟨.w (.own 0 0 rows.length none), [], [.row none sz rows 0]⟩ := by
 have h1' : (∀ x ∈ rows, x.length = sz) = True := eq_true (by simpa using h1); simp [cloneF, keep, rowParts, h1', h2, hz, h0]
theorem clone_ok (hcid : ∀ f, fid (cid f) = f) (hmix : P.follows .mixedOrders = true) {f sz bytes st : Nat} {zero : List D} {fn : Func} {rows : List (List D)} {s : Sup} (hfn : P.funcs[fid f]? = some fn) (hF : stripF P cid fn = some (cloneF sz bytes zero))
 (hz : zero.length = sz) (h1 : rows.all (·.length == sz) = true) (h2 : room rows.length bytes = true) :
 CallOK P fid G f [.w (.d (.l st rows))] [] s ⟨.w (.own 0 0 rows.length none), [], [.row none sz rows 0]⟩ := by
 have key := fun args r s (h : runF (fun _ _ _ _ => none) keep G 0 f (cloneF sz bytes zero) args [] s = some r) => runF_ok (fid := fid) hcid hmix (fun _ _ _ _ _ h => by cases h) hfn hF h
 by_cases h0 : rows = []
 · subst h0
   exact nil_split (nil_own (key _ _ _ (clone_nil _ _ _ _ _ _ _))) (key _ _ _ (clone_ln _ _ _ _ _ _ _ hz [] h1 h2 _))
 · exact key _ _ _ (clone_d _ _ _ _ _ _ _ hz rows h0 h1 h2 _)
end
end Go.VM
