/- Nets as arguments and results of the laws of exactness: marked and held. Conditions: none. -/
import Derived.Test.YtfpkfcfiihfopaaDoorPVK4

namespace Go.VM
set_option linter.unusedVariables false
set_option linter.unusedSimpArgs false
set_option linter.unusedSectionVars false
set_option maxHeartbeats 4000000
theorem alloc_tou (w : World) (arr : Array Value) (t : TypeId) : Tou Old w (w.alloc (.cells arr t)) := by
 have h : (w.alloc (.cells arr t)).heap = w.heap.push (.cells arr t) := rfl; have hk : ∀ b, b < w.heap.size → (w.alloc (.cells arr t)).heap[b]? = w.heap[b]? := fun b hb => by rw [h, Array.getElem?_push, if_neg (by omega)]
 exact ⟨by rw [h]; simp, rfl, rfl, rfl, fun b hb _ => hk b hb, fun b hb => hb.of (hk b hb.lt)⟩
theorem alloc_cell (w : World) (arr : Array Value) (t : TypeId) (j : Nat) : (w.alloc (.cells arr t)).cell? ⟨w.heap.size, j, none⟩ = arr[j]? := by
 have h : (w.alloc (.cells arr t)).heap[w.heap.size]? = some (.cells arr t (0, 0)) := by
  have h : (w.alloc (.cells arr t)).heap = w.heap.push (.cells arr t) := rfl; rw [h, Array.getElem?_push, if_pos rfl]
 exact cell_of h j
def markElF : Fn := ⟨10, [.tmp 4], sR [oo 2 (.box 2 (.t 0)), oV 4 0] (sR [oF 5 1 2, oL 6 5, om 7 1, oC 8 239 [(.t 6), (.t 7)], om 1 8] (sR [om 9 1, om 4 9] .ret))⟩
def heldElF : Fn := ⟨12, [.tmp 4], sR [oo 2 (.box 2 (.t 0)), oV 4 0] (sR [oF 5 1 2, oL 6 5, om 7 1, oC 8 240 [(.t 6), (.t 7)], om 1 8] (.seq (sR [om 9 1, oI 10 .lss 9 0] (.cond (.t 10) (sR [oo 4 (.mv (xi (-1)))] .ret) .skip)) (sR [om 11 1, om 4 11] .ret)))⟩
section
variable {P : Program} {fid : Nat → FuncId} {cid : FuncId → Nat}
theorem mwp_skip4 {N n t : Nat} {ops : List RO} {rest : C} {τ : Nat → Value} {w : World} {K : Ex → (Nat → Value) → World → Prop} (h : mregs P fid N ops τ w fun τ' w' => τ' t = .bool false ∧ mwp P fid N n rest τ' w' K) :
 mwp P fid N n (.seq (sR ops (.cond (.t t) (sR [oo 4 (.mv (xi (-1)))] .ret) .skip)) rest) τ w K := by
 unfold mwp; refine mwp_sR (mregs_mono ops (fun τ' w' ⟨h1, h2⟩ => ?_) h)
 unfold mwp; exact ⟨false, by simp [mval, h1], fun h => (by cases h), fun _ => ⟨fun _ => h2, fun h => absurd rfl h⟩⟩
theorem mark_el (E : Env P fid cid) (hF : FT 232 = some markElF) {as : List Arg} (hl : as.length < 2 ^ 40) {w : World} {ζ : Nat → Option Nat} {x y : Value} {st k : Nat} {R : List (List D)} (hz : ZInj ζ) (hO : Own w ζ y (.l st R)) (hR : erR R = argRows as) (hk : k + ctR R < 2 ^ 62) :
 MC P fid 232 [.agg #[x, y], .int .i64 k] w fun r w' => r = .int .i64 ((k + ctR R : Nat) : Int) ∧ Tou (Sb ζ (D.l st R).sts) w w' ∧ Own w' ζ y (.l st (mkR R k)) := by
 obtain ⟨fn, h1, h2⟩ := E.ft 232 _ hF; refine MC_of E.cidOk h1 h2 (by simp) 1 ?_
 refine mwp_sR ?_
 simp [om, oC, oo, oV, oI, xi, mregs, mstep, mval, mmv, mput, mbox, upd, Value.cells]; intro t; have t1 := alloc_tou w #[x, y] t; have c1 := alloc_cell w #[x, y] t 1; have hO1 := hO.same t1; generalize w.alloc (.cells #[x, y] t) = w1 at t1 c1 hO1; refine mwp_sR ?_
 simp [om, oC, oo, oV, oI, oL, oF, xi, xf, mregs, mstep, mval, mvals, mmv, mput, mfa, mld, mcall, upd]; refine ⟨y, by simpa using c1, ?_⟩
 refine (mark_args E hR (by omega) w1 ζ y st k hz hO1 hk).mono ?_
 rintro r w2 ⟨rfl, g1, g2⟩; refine mwp_sR ?_
 simp [om, oo, mregs, mstep, mval, mmv, mput, upd]; unfold mwp; exact ⟨.inl rfl, by simp, t1.old.trans g1, g2⟩
theorem held_el (E : Env P fid cid) (hF : FT 234 = some heldElF) {as : List Arg} (hl : as.length < 2 ^ 40) {w : World} {ζ : Nat → Option Nat} {x y : Value} {st k : Nat} {R : List (List D)} (hO : Own w ζ y (.l st (mkR R k))) (hR : erR R = argRows as) (hk : k + ctR R < 2 ^ 62) :
 MC P fid 234 [.agg #[x, y], .int .i64 k] w fun r w' => r = .int .i64 ((k + ctR R : Nat) : Int) ∧ Tou Old w w' := by
 obtain ⟨fn, h1, h2⟩ := E.ft 234 _ hF; refine MC_of E.cidOk h1 h2 (by simp) 1 ?_
 refine mwp_sR ?_
 simp [om, oC, oo, oV, oI, xi, mregs, mstep, mval, mmv, mput, mbox, upd, Value.cells]; intro t; have t1 := alloc_tou w #[x, y] t; have c1 := alloc_cell w #[x, y] t 1; have hO1 := hO.same t1; generalize w.alloc (.cells #[x, y] t) = w1 at t1 c1 hO1; refine mwp_sR ?_
 simp [om, oC, oo, oV, oI, oL, oF, xi, xf, mregs, mstep, mval, mvals, mmv, mput, mfa, mld, mcall, upd]; refine ⟨y, by simpa using c1, ?_⟩
 refine (held_args E hR (by omega) w1 ζ y st k hO1 hk).mono ?_
 rintro r w2 ⟨rfl, rfl⟩; refine mwp_skip4 ?_
 have hn : ¬ ((k + ctR R : Nat) : Int) < 0 := by omega
 have hn' : ¬ ((k : Int) + (ctR R : Int)) < 0 := by omega
 simp [om, oo, oI, xi, mregs, mstep, mval, mmv, mput, mbin, binS, upd, hn, hn']; refine mwp_sR ?_
 simp [om, oo, mregs, mstep, mval, mmv, mput, upd]; unfold mwp; exact ⟨.inl rfl, by simp, t1⟩
theorem rel_s {w w' : World} {ζ : Nat → Option Nat} {v a : Value} (h : Rel w Top ζ v (.s a)) : Rel w' Top ζ v (.s a) := by
 cases h with
 | s v h => exact .s v h
end
end Go.VM
