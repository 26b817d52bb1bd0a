/- The value machine: a law's row. Conditions: none. -/
import Derived.Test.YthkednnfadhidaaVM27
namespace Go.VM
open Go.ChangeShapes Go.WideShapes Go.ChangeAt Go.RowKit
set_option linter.unusedVariables false

/-- THE ROW's STEP: where the machine answers true for all data of the parameters' types, the law returns true, and its arguments read as they did. -/
theorem law_lifted {H : Type} {enc : TypeId × Value → H} {C : Checked} {os : Os} {f : FuncId} {fn : Func} {s : ChangeSpec} {S : List TypeId} {tb : TypeId} {G : Nat → Option (List D)} {fid : Nat → FuncId} {c : Nat}
    (own : ownKnob C.prog.godebug = none) (started : os.Started) (noInit : C.prog.inits.idxOf? f = none) (hfn : C.prog.funcs[f]? = some fn)
    (witness : ∃ (w : World) (tape : Tape) (i : Input), w.os = os ∧ (w.forCall tape i).Shaped C.prog ∧ i.vars = [] ∧ Input.okWide C.prog (w.forCall tape i) .any w.heap.size f i ∧
      s.pre6 enc C.prog fn [] false (w.forCall tape i).memory i.args ∧ ({} : Assume).holds C.prog (lone (Frame.enter C.prog f i.args .normal) [] (w.forCall tape i)))
    (hl : laidOutB C.prog = true) (hS : plainIn C.prog S = true) (hpS : fn.params.toList.all (fun t => S.contains t && C.prog.readableRec t) = true) (hres : fn.resultTypes = #[tb]) (hb : C.prog.underlying tb = some .bool)
    (hvars : s.vars = []) (hspec : ∀ ds : List (DataW H), ds.length = fn.params.size → s.fn H ds = { results := [.lit (.bool true)], args := ds })
    (hG : ∀ W : World, Glob G (ctx0 W)) (hf : fid c = f)
    (hrun : ∀ xs, ArgOk C.prog fn.params.toList xs → ∃ r, CallOK C.prog fid G c xs [] (fun k => k + 1) r ∧ r.v = sV (.bool true)) :
    ReturnsInHanded {} C os f .any (s.pre6 enc C.prog fn [] false) (s.post enc C.prog fn false true false false) := by
  refine returnsInHanded_of_change (C := C) own started noInit hfn witness ?_
  intro W base args ds gs before hval hW _ _
  have hW' := hW
  obtain ⟨p, q, hA, hV, rfl, hfz, hnd⟩ := hW
  simp only [List.all_eq_true, Bool.and_eq_true, List.contains_iff_mem] at hpS
  have hS' := hS
  simp only [plainIn, List.all_eq_true, Bool.and_eq_true, decide_eq_true_eq] at hS'
  obtain ⟨xs, hx, hlen, hdl, hrel⟩ := args_rel (fid := fid) hl hS fn.params.toList args.toList ds p (fun t ht => (hpS t ht).1)
    (fun j t v hj hv => hval j t v (by rw [← Array.getElem?_toList]; exact hj) (by rw [← Array.getElem?_toList]; exact hv)) hA
  obtain ⟨rfl, rfl⟩ : gs = [] ∧ q = [] := by
    rw [hvars] at hV
    cases gs with
    | nil => exact ⟨rfl, hV⟩
    | cons => cases hV
  obtain ⟨r, hc, hrv⟩ := hrun xs hx
  have := hc.2 (ctx0 W) args.toList (in0 (fun k => Nat.succ_ne_zero k) (fun a b e => Nat.succ.inj e) (hG W)) hlen hrel
  rw [hf, Array.toArray_toList] at this
  refine this.mono ?_
  rintro e W' ⟨v, κ', rfl, rfl, O⟩
  have hv : v = .bool true := by
    have := O.v
    rw [hrv] at this
    cases this
    rfl
  subst hv
  have hbel : Below W.heap.size W κ'.w := out_below (G := G) O
  have hlt : ∀ x ∈ p, x.block < W.heap.size := fun x hx => by simpa using hW'.lt x (by simp [hx])
  have hsp : s.fn H (ds ++ []) = { results := [.lit (.bool true)], args := ds } := by rw [List.append_nil]; exact hspec ds (by simpa using hdl)
  refine ⟨_, rfl, ds, [], p ++ [], [], p, [], hW', ?_, ?_, ?_, hbel.frame _, fun h => by cases h⟩
  · rw [hsp, hres]
    exact trodAll_mk1 ⟨1, by simp [DataW.trod, Value.cells, hb]⟩
  · rw [hsp]
    exact args_stay hl hbel _ _ _ _ (fun t ht => ⟨(hpS t ht).2, (hS' t (hpS t ht).1).1⟩) hlt (fun x hx => by simpa using hlt x hx) hA
  · rw [hsp, hvars]; rfl

end Go.VM
