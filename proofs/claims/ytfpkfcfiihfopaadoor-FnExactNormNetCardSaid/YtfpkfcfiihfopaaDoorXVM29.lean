/- The value machine: a law whose code reads package-level tables of scalars. Conditions: none. -/
import Derived.Test.YtfpkfcfiihfopaaDoorXVMC
import Derived.OpenVars
import Derived.LaidMore
import Derived.MakeChecks
import Derived.Stop.Joined

namespace Go.VM
open Go.ChangeShapes Go.WideShapes Go.ChangeAt Go.RowKit
set_option linter.unusedVariables false
def scal : DataW Unit → Option D
 | .lit (.int k n) => some (.s (.int k n))
 | .lit (.string l) => some (.s (.string ⟨l.toArray⟩))
 | _ => none
def scals : List (DataW Unit) → Option (List D)
 | [] => some []
 | x :: r => match scal x, scals r with | some d, some l => some (d :: l) | _, _ => none
theorem scals_get : ∀ {es : List (DataW Unit)} {ds : List D}, scals es = some ds → es.length = ds.length ∧ ∀ (i : Nat) (e : DataW Unit), es[i]? = some e → ∃ d, ds[i]? = some d ∧ scal e = some d
 | [], ds, h => by simp [scals] at h; subst h; simp
 | x :: r, ds, h => by
  simp only [scals] at h; split at h
  · rename_i d l hd hl
    cases h
    obtain ⟨h1, h2⟩ := scals_get hl; refine ⟨by simp [h1], fun i e hi => ?_⟩
    match i with
    | 0 => simp at hi; subst hi; exact ⟨d, rfl, hd⟩
    | i + 1 => simpa using h2 i e (by simpa using hi)
  · cases h
def scalT (P : Program) (e : TypeId) : Bool := P.cellsOf e == 1 && match P.underlying e with | some (.int _) => true | some .string => true | _ => false
theorem scal_trod {P : Program} {W : World} {e : TypeId} {n : Nat} {cs : List Value} {x : DataW Unit × List MemPlace} (he : scalT P e = true)
 (h : DataW.trod (fun _ => ()) P W 0 (fun _ => true) false n e cs = some x) : ∃ v d, cs = [v] ∧ scal x.1 = some (.s d) ∧ d = v ∧ v.oneCell' = true := by
 simp only [scalT, Bool.and_eq_true] at he; cases hd : P.underlying e with
 | none => rw [hd] at he; cases he.2
 | some k =>
  rw [hd] at he; cases k <;> simp at he
  · obtain ⟨m, rfl, rfl, _⟩ := DataW.trod_int hd h
    exact ⟨_, _, rfl, rfl, rfl, rfl⟩
  · obtain ⟨s, rfl, rfl, _⟩ := DataW.trod_string hd h
    exact ⟨_, _, rfl, rfl, by cases s; rfl, rfl⟩
theorem table_rel {P : Program} {W : World} {t e : TypeId} {fuel : Nat} {cs : List Value} {es sp : List (DataW Unit)} {p : List MemPlace} {ds : List D}
 (ht : P.underlying t = some (.slice e)) (he : scalT P e = true) (h : DataW.trod (fun _ => ()) P W 0 (fun _ => true) false fuel t cs = some (.slice es sp, p)) (hd : scals es = some ds) (hne : ds ≠ []) :
 ∃ v, cs = [v] ∧ (ctx0 W).rel v (.l 0 (ds.map fun d => [d])) := by
 have hc1 : P.cellsOf e = 1 := by simp only [scalT, Bool.and_eq_true, beq_iff_eq] at he; exact he.1
 rcases DataW.trod_slice ht h with ⟨_, hx⟩ | ⟨a, len, cap, elems, rest, n, hfu, rfl, hx, hb, hlc, hm, hlen, hel, _, _⟩
 · cases hx
 · simp only [Prod.mk.injEq, DataW.slice.injEq] at hx
   obtain ⟨⟨rfl, _⟩, _⟩ := hx; obtain ⟨hl, hg⟩ := scals_get hd; have hll : ds.length = len := by rw [← hl]; simpa using hlen
   have each : ∀ i (hi : i < len), ∃ v d, W.cell? (a.add i) = some v ∧ ds[i]? = some d ∧ d = .s v ∧ v.oneCell' = true := fun i hi => by
    have h1 := hel i hi; rw [List.getElem?_eq_getElem (by omega), hc1, Nat.mul_one] at h1; obtain ⟨cs', h2, h3⟩ := Option.bind_eq_some_iff.1 h1; obtain ⟨v, d, rfl, h4, rfl, h5⟩ := scal_trod he h3; obtain ⟨d', k1, k2⟩ := hg i _ (by rw [List.getElem?_map, List.getElem?_eq_getElem (by omega)]; rfl); rw [h4] at k2; obtain ⟨_, _, hc⟩ := World.cells?_some h2; have h6 := hc 0 (by omega); have e0 : (a.add i).add 0 = a.add i := by simp [Addr.add]
    rw [e0] at h6; exact ⟨d, d', h6, k1, (Option.some.inj k2).symm, h5⟩
   have hpos : 0 < len := by rw [← hll]; exact List.length_pos_iff.2 hne
   obtain ⟨v0, _, hv0, _⟩ := each 0 hpos; have e0 : a.add 0 = a := by simp [Addr.add]
   rw [e0] at hv0; obtain ⟨hspot, hblk⟩ : a.spot = none ∧ a.block < W.heap.size := by
    unfold World.cell? at hv0; split at hv0
    · rename_i c _ _ hh
      split at hv0
      · cases hv0
      · rename_i hs
        refine ⟨by simpa using hs, ?_⟩
        rcases Nat.lt_or_ge a.block W.heap.size with h' | h'
        · exact h'
        · simp [Array.getElem?_eq_none h'] at hh
    · cases hv0
   obtain ⟨blk, o, spt⟩ := a; simp only at hspot hblk; subst hspot; refine ⟨_, rfl, ?_⟩
   have hrl : (ds.map fun d => [d]).length = len := by simpa using hll
   have key : (ctx0 W).rel (.slice (some ⟨blk, o, none⟩) (ds.map fun d => [d]).length cap) (.l 0 (ds.map fun d => [d])) := by
    refine .l 0 _ blk o cap 1 (fun i j => (W.cell? ⟨blk, o + i * 1 + j, none⟩).getD undef) ?_ (by omega) hblk ?_ (fun _ _ _ _ => hblk) ?_ (fun h => absurd rfl h)
    · intro i row hi
      rw [List.getElem?_map, Option.map_eq_some_iff] at hi; obtain ⟨d, _, rfl⟩ := hi
      rfl
    · intro i j hi hj
      obtain rfl : j = 0 := by omega
      obtain ⟨v, d, hv, _⟩ := each i (by omega); rw [Addr.add_none] at hv
      show W.cell? _ = _
      rw [Nat.mul_one, Nat.add_zero, hv]; rfl
    · intro i row j x hi hj
      rw [List.getElem?_map, Option.map_eq_some_iff] at hi; obtain ⟨d, hd1, rfl⟩ := hi; obtain rfl : j = 0 := by
       match j, hj with
       | 0, _ => rfl
       | j + 1, hj => simp at hj
      simp only [List.getElem?_cons_zero, Option.some.injEq] at hj; subst hj; obtain ⟨v, d', hv, hd', rfl, hone⟩ := each i (by rw [← hll]; exact (List.getElem?_eq_some_iff.1 hd1).1); rw [hd1] at hd'; rw [Option.some.inj hd']; rw [Addr.add_none] at hv; rw [Nat.mul_one, Nat.add_zero, hv]; exact .s v hone
   rw [hrl] at key; exact key
theorem laid_glob {P : Program} {W : World} : ∀ {l : List (String × DataW Unit)} {ps : List MemPlace}, DataW.LaidVars P W l ps → ∀ {n : String} {es sp : List (DataW Unit)} {g : Nat} {t e : TypeId} {ds : List D},
 (n, DataW.slice es sp) ∈ l → P.globalNamed n = some g → (P.globals[g]?).map (·.type) = some t → P.underlying t = some (.slice e) → scalT P e = true → scals es = some ds → ds ≠ [] →
 g < W.heap.size ∧ ∃ y, W.cell? ⟨g, 0, none⟩ = some y ∧ (ctx0 W).rel y (.l 0 (ds.map fun d => [d]))
 | [], ps, h, n, es, sp, g, t, e, ds, hm, _, _, _, _, _, _ => by cases hm
 | (n', d') :: r, ps, h, n, es, sp, g, t, e, ds, hm, hg, ht, hu, he, hs, hne => by
  obtain ⟨g', t', cs, fuel, p, q, k1, k2, k3, k4, k5, _⟩ := h; rcases List.mem_cons.1 hm with e0 | hm
  · cases e0
    obtain rfl := Option.some.inj (k1.symm.trans hg); obtain rfl := Option.some.inj (k2.symm.trans ht); obtain ⟨v, hv, hr⟩ := table_rel hu he k4 hs hne; have hc := World.var?_cell k1 k3 0; rw [Array.eq_one_of_toList hv] at hc; have hc' : W.cell? ⟨g', 0, none⟩ = some v := by simpa using hc
    refine ⟨?_, v, hc', hr⟩
    rcases Nat.lt_or_ge g' W.heap.size with h' | h'
    · exact h'
    · simp [World.cell?, Array.getElem?_eq_none h'] at hc'
  · exact laid_glob k5 hm hg ht hu he hs hne
def gRow (ds : List D) : List D := [.l 0 (ds.map fun d => [d])]
theorem gRow_ok {W : World} {g : Nat} {ds : List D} (h : g < W.heap.size ∧ ∃ y, W.cell? ⟨g, 0, none⟩ = some y ∧ (ctx0 W).rel y (.l 0 (ds.map fun d => [d]))) :
 g < (ctx0 W).w.heap.size ∧ ∀ (j : Nat) (x : D), (gRow ds)[j]? = some x → (ctx0 W).Im g j ∧ ∃ y, (ctx0 W).w.cell? ⟨g, j, none⟩ = some y ∧ (ctx0 W).rel y x := by
 obtain ⟨h1, y, h2, h3⟩ := h; refine ⟨h1, fun j x hx => ?_⟩
 match j with
 | 0 => simp [gRow] at hx; subst hx; exact ⟨h1, y, h2, h3⟩
 | j + 1 => simp [gRow] at hx
theorem law_laid {H : Type} {enc : TypeId × Value → H} {C : Checked} {os : Os} {f : FuncId} {fn : Func} {s : ChangeSpec} {S : List TypeId} {tb : TypeId} {laid : List (String × DataW Unit)} {G : Nat → Option (List D)} {fid : Nat → FuncId} {c : Nat}
 (own : ownKnob C.prog.godebug = none) (started : os.Started) (noInit : C.prog.inits.idxOf? f = none) (hfn : C.prog.funcs[f]? = some fn)
 (witness : ∃ (w : World) (tape : Tape) (i : Input), w.os = os ∧ (w.forCall tape i).Shaped C.prog ∧ i.vars = [] ∧ Input.okWide C.prog (w.forCall tape i) .any w.heap.size f i ∧
  ((s.pre enc C.prog fn [] false (w.forCall tape i).memory i.args ∧ laidMetH C.prog laid (w.forCall tape i).memory) ∧ sizedMet enc C.prog fn (OpenSpec.ofChange s) false (w.forCall tape i).memory i.args) ∧
  ({} : Assume).holds C.prog (lone (Frame.enter C.prog f i.args .normal) [] (w.forCall tape i)))
 (hl : laidOutB C.prog = true) (hS : plainIn C.prog S = true) (hpS : fn.params.toList.all (fun t => S.contains t && C.prog.readableRec t) = true) (hres : fn.resultTypes = #[tb]) (hb : C.prog.underlying tb = some .bool)
 (hvars : varsRowed C.prog s.vars = true) (hspec : ∀ ds gs : List (DataW H), ds.length = fn.params.size → gs.length = s.vars.length → s.fn H (ds ++ gs) = { results := [.lit (.bool true)], args := ds, vars := gs })
 (hG : ∀ W : World, laidMetH C.prog laid W → Glob G (ctx0 W)) (hf : fid c = f)
 (hrun : ∀ xs, ArgOk C.prog fn.params.toList xs → ∃ r, CallOK C.prog fid G c xs [] (fun k => k + 1) r ∧ r.v = sV (.bool true)) :
 ReturnsInHanded {} C os f .any (fun w args => (s.pre enc C.prog fn [] false w args ∧ laidMetH C.prog laid w) ∧ sizedMet enc C.prog fn (OpenSpec.ofChange s) false w args) (s.post enc C.prog fn false true false false) := by
 refine returnsInHanded_of_change_and (C := C) (X := fun w _ => laidMetH C.prog laid w) (fun _ _ _ hh h => h.of_heap hh) own started noInit hfn witness ?_
 intro W base args ds gs before hval hW _ _ hL _; have hW' := hW; obtain ⟨p, q, hA, hV, rfl, hfz, hnd⟩ := hW; simp only [List.all_eq_true, Bool.and_eq_true, List.contains_iff_mem] at hpS; have hS' := hS; simp only [plainIn, List.all_eq_true, Bool.and_eq_true, decide_eq_true_eq] at hS'; obtain ⟨xs, hx, hlen, hdl, hrel⟩ := args_rel (fid := fid) hl hS fn.params.toList args.toList ds p (fun t ht => (hpS t ht).1)
  (fun j t v hj hv => hval j t v (by rw [← Array.getElem?_toList]; exact hj) (by rw [← Array.getElem?_toList]; exact hv)) hA
 obtain ⟨r, hc, hrv⟩ := hrun xs hx; have := hc.2 (ctx0 W) args.toList (in0 (fun k => Nat.succ_ne_zero k) (fun a b e => Nat.succ.inj e) (hG W hL)) hlen hrel; rw [hf, Array.toArray_toList] at this; refine this.mono ?_
 rintro e W' ⟨v, κ', rfl, rfl, O⟩; have hv : v = .bool true := by
  have := O.v; rw [hrv] at this; cases this
  rfl
 subst hv; have hbel : Below W.heap.size W κ'.w := out_below (G := G) O; have hlt : ∀ x ∈ p, x.block < W.heap.size := fun x hx => by simpa using hW'.lt x (by simp [hx])
 have hgl : ∀ {ns : List String} {gs : List (DataW H)} {q : List MemPlace}, DataW.TrodVars enc C.prog W (fun _ => true) ns gs q → gs.length = ns.length := by
  intro ns
  induction ns with
  | nil => intro gs q h; cases gs with | nil => rfl | cons => exact h.elim
  | cons n ns ih => intro gs q h; cases gs with | nil => exact h.elim | cons => obtain ⟨_, _, _, _, _, _, _, _, _, _, h, _⟩ := h; simp [ih h]
 have hsp : s.fn H (ds ++ gs) = { results := [.lit (.bool true)], args := ds, vars := gs } := hspec ds gs (by simpa using hdl) (hgl hV); refine ⟨_, rfl, ds, gs, p ++ q, [], p, q, hW', ?_, ?_, ?_, hbel.frame _, fun h => by cases h⟩
 · rw [hsp, hres]
   exact trodAll_mk1 ⟨1, by simp [DataW.trod, Value.cells, hb]⟩
 · rw [hsp]
   exact args_stay hl hbel _ _ _ _ (fun t ht => ⟨(hpS t ht).2, (hS' t (hpS t ht).1).1⟩) hlt (fun x hx => by simpa using hlt x hx) hA
 · rw [hsp]; exact Below.trodVars hl hbel hvars hV
end Go.VM
