/- What calls do to a world in which a law of exactness runs: what is read, what is new. Conditions: none. -/
import Derived.Test.YtfpkfcfiihfopaaDoorPVM54
import Derived.Test.YtfpkfcfiihfopaaDoorPVMC

namespace Go.VM
set_option linter.unusedVariables false
set_option linter.unusedSimpArgs false
set_option linter.unusedSectionVars false
def Rd (N : Nat) (w : World) (v : Value) (d : D) : Prop := N ≤ w.heap.size ∧ Rel w (fun b _ => b < N) (fun _ => none) v d
def ctxN (N : Nat) (w : World) : Ctx := ⟨w, fun b _ => b < N, fun _ => none, fun _ => none⟩
def Old : Nat → Prop := fun _ => False
theorem Rd.tou {N : Nat} {S : Nat → Prop} {w w' : World} {v : Value} {d : D} (h : Rd N w v d) (hw : Tou S w w') (hs : ∀ b, S b → N ≤ b) : Rd N w' v d :=
 ⟨Nat.le_trans h.1 hw.size, Rel.old h.2 h.1 hw hs⟩
theorem Rd.same {N : Nat} {w w' : World} {v : Value} {d : D} (h : Rd N w v d) (hw : Tou Old w w') : Rd N w' v d := h.tou hw (fun _ h => h.elim)
theorem Rd.up {N M : Nat} {w : World} {v : Value} {d : D} (h : Rd N w v d) (hN : N ≤ M) (hM : M ≤ w.heap.size) : Rd M w v d :=
 ⟨hM, Rel.mono (Nat.le_refl _) (fun b _ hb => Nat.lt_of_lt_of_le hb hN) (fun _ _ _ => rfl) (fun _ _ h => h) h.2⟩
theorem Rel.size {w : World} {ζ : Nat → Option Nat} {v : Value} {d : D} (h : Rel w Top ζ v d) : Rel w (fun b _ => b < w.heap.size) ζ v d := by
 induction h with
 | s v h => exact .s v h
 | nil st => exact .nil st
 | e a => exact .e a
 | l st rows blk o cap sz f hlen hcap hb hcell him hrel hst ih => exact .l st rows blk o cap sz f hlen hcap hb hcell (fun _ _ _ _ => hb) ih hst
theorem Own.read {w : World} {ζ : Nat → Option Nat} {v : Value} {d : D} (h : Own w ζ v d) : Rd w.heap.size w v d.er := ⟨Nat.le_refl _, (h.rel.size).er⟩
structure New (w w' : World) (ζ : Nat → Option Nat) (v : Value) (d : D) : Prop where
 tou : Tou Old w w'
 own : Own w' ζ v d
 inj : ZInj ζ
 low : ∀ b, Sb ζ d.sts b → w.heap.size ≤ b
theorem Own.lt {w : World} {ζ : Nat → Option Nat} {v : Value} {d : D} (h : Own w ζ v d) : ∀ b, Sb ζ d.sts b → b < w.heap.size := fun b ⟨t, ht, e⟩ => (h.cl t ht b e).lt
theorem Own.same {w w' : World} {ζ : Nat → Option Nat} {v : Value} {d : D} (h : Own w ζ v d) (hw : Tou Old w w') : Own w' ζ v d := h.tou hw (fun _ _ h => h.elim)
section
variable {P : Program} {fid : Nat → FuncId} {cid : FuncId → Nat} {G : Nat → Option (List D)}
theorem inN {N : Nat} {w : World} {s : Sup} (hN : N ≤ w.heap.size) (hs : ∀ k, s k ≠ 0) (hinj : Inj s) (hG : Glob G (ctxN N w)) : In fid G (ctxN N w) [] s where
 imlt := fun _ _ h => Nat.lt_of_lt_of_le h hN
 zlt := fun _ _ h => by cases h
 zinj := fun _ _ _ h => by cases h
 zfree := fun k => ⟨rfl, hs k⟩
 sinj := hinj
 dom := fun _ _ => rfl
 some := fun _ h => by simp at h
 box := fun b => by simp [BoxRel]
 dist := fun _ _ _ _ _ h => by simp at h
 glob := hG
theorem out_tou {N : Nat} {w : World} {s : Sup} {κ' : Ctx} {r : Res} {v : Value} (O : Out fid (ctxN N w) [] s κ' r v) : Tou Old w κ'.w := by
 have hsame : ∀ b, b < w.heap.size → κ'.w.heap[b]? = w.heap[b]? := fun b hb => O.same b hb passOf_nil
 exact ⟨O.le.size, O.os, O.tape, O.output, fun b hb _ => hsame b hb, fun b hb => hb.of (hsame b hb.lt)⟩
theorem call_at {f N : Nat} {args : List V} {s : Sup} {r : Res} (h : CallOK P fid G f args [] s r) (hs : ∀ k, s k ≠ 0) (hi : Inj s) {w : World} {vs : List Value} (hN : N ≤ w.heap.size) (hG : Glob G (ctxN N w)) (hl : vs.length = args.length)
 (hr : ∀ (i : Nat) (x : V), args[i]? = some x → ∃ v : Value, vs[i]? = some v ∧ VRel fid (ctxN N w) v x) : MC P fid f vs w fun v w' => ∃ κ', κ'.w = w' ∧ Out fid (ctxN N w) [] s κ' r v := by
 refine ⟨h.1, (h.2 (ctxN N w) vs (inN hN hs hi hG) hl hr).mono ?_⟩
 rintro e w' ⟨v, κ', rfl, rfl, O⟩; exact ⟨v, rfl, κ', rfl, O⟩
theorem Glob.up {N M : Nat} {S : Nat → Prop} {w w' : World} (h : Glob G (ctxN N w)) (hN : N ≤ w.heap.size) (hw : Tou S w w') (hs : ∀ b, S b → N ≤ b) (hM : N ≤ M) : Glob G (ctxN M w') := by
 refine Glob.mono (κ := ctxN N w) (κ' := ctxN M w') ⟨hw.size, fun b _ hb => Nat.lt_of_lt_of_le hb hM, fun b o hb => ?_, fun _ _ h => h, fun _ _ h => h⟩ h
 exact cell_heap (hw.heap b (Nat.lt_of_lt_of_le hb hN) (fun e => by have := hs b e; have : b < N := hb; omega)) o
theorem enters_of {f : Nat} {fn : Func} {F : Fn} (hfn : P.funcs[fid f]? = some fn) (hF : stripF P cid fn = some F) : Enters P (fid f) := by
 unfold stripF at hF; split at hF
 · cases hF
 · rename_i body hbody
   split at hF
   · split at hF
     · cases hF
     · rename_i hname
       have hname' : ¬ fn.name = "runtime.NumGoroutine" := by simpa using hname
       exact fun as w => by simp [callFunc, hfn, hname', hbody]
   · cases hF
theorem law_ok {f : Nat} {args : List V} {s : Sup} (h : ∀ (κ : Ctx) (vs : List Value), In fid G κ [] s → vs.length = args.length → (∀ (i : Nat) (x : V), args[i]? = some x → ∃ v : Value, vs[i]? = some v ∧ VRel fid κ v x) →
      MC P fid f vs κ.w fun r w' => r = .bool true ∧ Tou (fun b => κ.w.heap.size ≤ b) κ.w w') (hent : Enters P (fid f)) : CallOK P fid G f args [] s ⟨sV (.bool true), [], []⟩ := by
 refine ⟨hent, fun κ vs hI hl hr => (h κ vs hI hl hr).2.mono ?_⟩
 rintro e w' ⟨v, rfl, rfl, ht⟩; have hsame : ∀ b, b < κ.w.heap.size → w'.heap[b]? = κ.w.heap[b]? := fun b hb => ht.heap b hb (by omega)
 refine ⟨.bool true, { κ with w := w' }, rfl, rfl, ⟨ht.size, fun _ _ h => h, fun b o hb => cell_heap (hsame b (hI.imlt b o hb)) o, fun _ _ h => h, fun _ _ h => h⟩, ht.os, ht.tape, ht.output, fun b hb _ => hsame b hb, fun _ _ h => .inl h,
  fun b o hb => Nat.lt_of_lt_of_le (hI.imlt b o hb) ht.size, fun t b hb => ht.clean b (hI.zlt t b hb), hI.zinj, fun _ _ h => .inl h, rfl, fun b hb => rfl, fun b hb => hI.dom b (by simp), fun b i hb => by simp at hb, fun b => by simp [BoxRel], fun _ _ _ _ _ hb => by simp at hb, ?_⟩
 exact Rel.s _ rfl
end
end Go.VM
