/- What the law of exactness for BackNet wants. Conditions: none. -/
import Derived.Test.YtfpkfcfiihfopaaDoorPVK2
import Derived.Test.YtfpkfcfiihfopaaDoorPVP18
import Derived.Test.YtfpkfcfiihfopaaDoorPVK5

namespace Go.VM
set_option linter.unusedVariables false
set_option linter.unusedSimpArgs false
set_option maxHeartbeats 4000000
section
variable {P : Program} {fid : Nat → FuncId} {cid : FuncId → Nat} {w0 w : World}
theorem Env.callR2 (E : Env P fid cid) (hg : Glob GT (ctxN w0.heap.size w0)) (hw : OnW w0 w) {f n : Nat} {d e : List D} {r : Res} (h : go n f [rowX d, rowX e] [] sup0 = some r) {N M : Nat} {u v : Value} (hu : RdRow N w u d) (hv : RdRow M w v e) :
 MC P fid f [u, v] w fun u w' => ∃ κ', κ'.w = w' ∧ Out fid (ctxN w.heap.size w) [] sup0 κ' r u :=
 E.call hg hw h rfl fun i x hx => by
  match i with
  | 0 => simp at hx; subst hx; exact ⟨u, rfl, hu.rel⟩
  | 1 => simp at hx; subst hx; exact ⟨v, rfl, hv.rel⟩
  | i + 2 => simp at hx
theorem out_row2 {N : Nat} {s : Sup} {κ' : Ctx} {v x : Value} {ds : List D} (O : Out fid (ctxN N w) [] s κ' ⟨.tup [(true, ds.map W.d), (false, [.d (.s x)])], [], []⟩ v) : ∃ arr : Array Value, v = .tuple #[.agg arr, x] ∧ LRel fid κ' arr (ds.map W.d) := by
 obtain ⟨arr, rfl, hs, hr⟩ := O.v; obtain ⟨a, ha, h1⟩ := hr 0 _ rfl; obtain ⟨b, hb, h2⟩ := hr 1 _ rfl; obtain ⟨ar, rfl, h1⟩ := h1; have e2 : b = x := by
  have h : Rel κ'.w κ'.Im κ'.ζ b (.s x) := h2; cases h; rfl
 subst e2; refine ⟨ar, ?_, h1⟩
 have : arr = #[.agg ar, b] := by
  apply Array.ext
  · simpa using hs
  · intro i h1 h2
    have : i < 2 := by simpa using h2
    match i with
    | 0 => rw [Array.getElem?_eq_getElem h1] at ha; simpa using ha
    | 1 => rw [Array.getElem?_eq_getElem h1] at hb; simpa using hb
 rw [this]
end
end Go.VM

/- Structs as arguments and results of the laws of exactness. Conditions: none. -/
namespace Go.VM
set_option linter.unusedVariables false
set_option linter.unusedSimpArgs false
set_option maxHeartbeats 4000000
section
variable {P : Program} {fid : Nat → FuncId} {cid : FuncId → Nat} {w0 w : World}
theorem Env.callR1 (E : Env P fid cid) (hg : Glob GT (ctxN w0.heap.size w0)) (hw : OnW w0 w) {f n : Nat} {d : List D} {r : Res} (h : go n f [rowX d] [] sup0 = some r) {N : Nat} {v : Value} (hv : RdRow N w v d) :
 MC P fid f [v] w fun u w' => ∃ κ', κ'.w = w' ∧ Out fid (ctxN w.heap.size w) [] sup0 κ' r u :=
 E.call hg hw h rfl fun i x hx => by
  match i with
  | 0 => simp at hx; subst hx; exact ⟨v, rfl, hv.rel⟩
  | i + 1 => simp at hx
theorem Env.callsR1 (E : Env P fid cid) (hg : Glob GT (ctxN w0.heap.size w0)) (hw : OnW w0 w) {f n : Nat} {d : List D} {r : Res} (h : goS n f [rowX d] [] sup0 = some r) {N : Nat} {v : Value} (hv : RdRow N w v d) :
 MC P fid f [v] w fun u w' => ∃ κ', κ'.w = w' ∧ Out fid (ctxN w.heap.size w) [] sup0 κ' r u :=
 call_at (E.gosOk _ _ _ _ _ _ h) sup0_ne sup0_inj (Nat.le_refl _) (glob_at hg hw) rfl fun i x hx => by
  match i with
  | 0 => simp at hx; subst hx; exact ⟨v, rfl, hv.rel⟩
  | i + 1 => simp at hx
theorem out_row {N : Nat} {s : Sup} {κ' : Ctx} {v : Value} {ds : List D} (O : Out fid (ctxN N w) [] s κ' ⟨rowX ds, [], []⟩ v) : ∃ arr : Array Value, v = .agg arr ∧ LRel fid κ' arr (ds.map W.d) := O.v
theorem row_in {κ : Ctx} {v : Value} {ds : List D} (h : VRel fid κ v (rowX ds)) (e : erL ds = ds) : RdRow κ.w.heap.size κ.w v ds := by
 obtain ⟨arr, rfl, hL⟩ := h; refine ⟨Nat.le_refl _, arr, rfl, by simpa using hL.1, fun i d hi => ?_⟩
 obtain ⟨x, hx, q⟩ := hL.2 i (.d d) (by rw [List.getElem?_map, hi]; rfl); have hd : d.er = d := by
  have : (erL ds)[i]? = some d.er := by rw [erL_get, hi]; rfl
  rw [e, hi] at this; exact (Option.some.inj this).symm
 have q' : Rel κ.w κ.Im κ.ζ x d := q; have := (Rel.top q').size.er (ζ' := fun _ => none); rw [hd] at this; exact ⟨x, hx, this⟩
end
end Go.VM

/- The laws of exactness over kinds of data: structs in cells, and a bool beside what is handed back. Conditions: none. -/
namespace Go.VM
set_option linter.unusedVariables false
set_option linter.unusedSimpArgs false
set_option maxHeartbeats 4000000
structure CellA (w : World) (p : Nat) (arr : Array Value) : Prop where
 lt : p < w.heap.size
 get : ∀ j, w.cell? ⟨p, j, none⟩ = arr[j]?
theorem CellA.tou {S : Nat → Prop} {w w' : World} {p : Nat} {arr : Array Value} (h : CellA w p arr) (t : Tou S w w') (hp : ¬ S p) : CellA w' p arr :=
 ⟨Nat.lt_of_lt_of_le h.lt t.size, fun j => by rw [cell_heap (t.heap p h.lt hp)]; exact h.get j⟩
theorem CellA.same {w w' : World} {p : Nat} {arr : Array Value} (h : CellA w p arr) (t : Tou Old w w') : CellA w' p arr := h.tou t fun h => h.elim
theorem mldA_cell {w : World} {p n : Nat} {arr : Array Value} {K : Value → World → Prop} (h : CellA w p arr) (hs : arr.size = n) (hK : K (.agg arr) w) : mldA n w K (some (.pointer (some ⟨p, 0, none⟩))) :=
 ⟨arr.toList, by simpa using hs, fun j v hv => by rw [Nat.zero_add, h.get j]; simpa using hv, by simpa using hK⟩
theorem mnew_st {w : World} {n : Nat} {arr : Array Value} {K : Value → Value → World → Prop} (hs : arr.size = n) (h1 : ∀ x ∈ arr.toList, x.oneCell' = true)
 (hK : ∀ w', Tou Old w w' → CellA w' w.heap.size arr → K (.pointer (some ⟨w.heap.size, 0, none⟩)) undef w') : mnew n w fun v w' => mstA n w' (fun u w'' => K v u w'') (some v) (some (.agg arr)) := by
 intro arr0 t h0; have hb : (w.alloc (.cells arr0 t)).heap[w.heap.size]? = some (.cells arr0 t (0, 0)) := by
  have h : (w.alloc (.cells arr0 t)).heap = w.heap.push (.cells arr0 t) := rfl; rw [h, Array.getElem?_push, if_pos rfl]
 refine ⟨by simpa [Value.cells] using hs, by simpa [Value.cells] using h1, arr0, t, hb, by omega, ?_⟩
 have hsp : (splice arr0.toList 0 (Value.agg arr).cells.toList).toArray = arr := by
  have e0 : arr0.toList.length ≤ arr.toList.length := by simp; omega
  have hin : 0 + arr.toList.length ≤ arr0.toList.length := by simp; omega
  apply Array.ext'
  show splice arr0.toList 0 arr.toList = arr.toList
  apply List.ext_getElem?
  intro i; rw [splice_get hin]
  by_cases hi : i < arr.toList.length
  · rw [if_pos (by omega)]; simp
  · rw [if_neg (by omega), List.getElem?_eq_none (by omega), List.getElem?_eq_none (by omega)]
 rw [hsp]; have ha := alloc_tou w arr0 t; generalize w.alloc (.cells arr0 t) = w1 at hb ha; have hlt : w.heap.size < w1.heap.size := (Array.getElem?_eq_some_iff.1 hb).1; have hb' := setRow_heap w1 w.heap.size arr0 arr t (0, 0) hb; refine hK _ ⟨by rw [size_setRow]; exact ha.size, ha.os, ha.tape, ha.output, fun b h h2 => (setRow_other _ _ _ _ (by omega)).trans (ha.heap b h h2), fun b h => ?_⟩ ⟨by rw [size_setRow]; exact hlt, fun j => cell_of hb' j⟩
 by_cases e : b = w.heap.size
 · subst e; exact ⟨_, _, hb'⟩
 · exact (ha.clean b h).of (setRow_other _ _ _ _ e)
section
variable {P : Program} {fid : Nat → FuncId} {cid : FuncId → Nat}
end
end Go.VM
