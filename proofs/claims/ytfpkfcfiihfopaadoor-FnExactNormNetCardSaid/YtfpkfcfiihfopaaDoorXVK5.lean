/- Nets as arguments and results of the laws of exactness: marked and held. Conditions: none. -/
import Derived.Test.YtfpkfcfiihfopaaDoorXVK4

namespace Go.VM
set_option linter.unusedVariables false
set_option linter.unusedSimpArgs false
set_option linter.unusedSectionVars false
set_option maxHeartbeats 4000000
theorem alloc_tou (w : World) (arr : Array Value) (t : TypeId) : Tou Old w (w.alloc (.cells arr t)) := by
 have h : (w.alloc (.cells arr t)).heap = w.heap.push (.cells arr t) := rfl; have hk : ∀ b, b < w.heap.size → (w.alloc (.cells arr t)).heap[b]? = w.heap[b]? := fun b hb => by rw [h, Array.getElem?_push, if_neg (by omega)]
 exact ⟨by rw [h]; simp, rfl, rfl, rfl, fun b hb _ => hk b hb, fun b hb => hb.of (hk b hb.lt)⟩
theorem alloc_cell (w : World) (arr : Array Value) (t : TypeId) (j : Nat) : (w.alloc (.cells arr t)).cell? ⟨w.heap.size, j, none⟩ = arr[j]? := by
 have h : (w.alloc (.cells arr t)).heap[w.heap.size]? = some (.cells arr t (0, 0)) := by
  have h : (w.alloc (.cells arr t)).heap = w.heap.push (.cells arr t) := rfl; rw [h, Array.getElem?_push, if_pos rfl]
 exact cell_of h j
def markElF : Fn := ⟨10, [.tmp 4], sR [oo 2 (.box 2 (.t 0)), oV 4 0] (sR [oF 5 1 2, oL 6 5, om 7 1, oC 8 239 [(.t 6), (.t 7)], om 1 8] (sR [om 9 1, om 4 9] .ret))⟩
def markNetF : Fn := ⟨14, [.tmp 4], sR [oo 2 (.box 4 (.t 0)), oV 4 0] (sR [oF 5 1 2, oA 6 2 5, om 7 1, oC 8 232 [(.t 6), (.t 7)], om 1 8] (sR [oF 9 3 2, oL 10 9, om 11 1, oC 12 233 [(.t 10), (.t 11)], om 1 12] (sR [om 13 1, om 4 13] .ret)))⟩
def heldElF : Fn := ⟨12, [.tmp 4], sR [oo 2 (.box 2 (.t 0)), oV 4 0] (sR [oF 5 1 2, oL 6 5, om 7 1, oC 8 240 [(.t 6), (.t 7)], om 1 8] (.seq (sR [om 9 1, oI 10 .lss 9 0] (.cond (.t 10) (sR [oo 4 (.mv (xi (-1)))] .ret) .skip)) (sR [om 11 1, om 4 11] .ret)))⟩
def heldNetF : Fn := ⟨18, [.tmp 4], sR [oo 2 (.box 4 (.t 0)), oV 4 0] (sR [oF 5 1 2, oA 6 2 5, om 7 1, oC 8 234 [(.t 6), (.t 7)], om 1 8] (.seq (sR [om 9 1, oI 10 .lss 9 0] (.cond (.t 10) (sR [oo 4 (.mv (xi (-1)))] .ret) .skip)) (sR [oF 11 3 2, oL 12 11, om 13 1, oC 14 235 [(.t 12), (.t 13)], om 1 14] (.seq (sR [om 15 1, oI 16 .lss 15 0] (.cond (.t 16) (sR [oo 4 (.mv (xi (-1)))] .ret) .skip)) (sR [om 17 1, om 4 17] .ret)))))⟩
section
variable {P : Program} {fid : Nat → FuncId} {cid : FuncId → Nat}
theorem mwp_skip4 {N n t : Nat} {ops : List RO} {rest : C} {τ : Nat → Value} {w : World} {K : Ex → (Nat → Value) → World → Prop} (h : mregs P fid N ops τ w fun τ' w' => τ' t = .bool false ∧ mwp P fid N n rest τ' w' K) :
 mwp P fid N n (.seq (sR ops (.cond (.t t) (sR [oo 4 (.mv (xi (-1)))] .ret) .skip)) rest) τ w K := by
 unfold mwp; refine mwp_sR (mregs_mono ops (fun τ' w' ⟨h1, h2⟩ => ?_) h)
 unfold mwp; exact ⟨false, by simp [mval, h1], fun h => (by cases h), fun _ => ⟨fun _ => h2, fun h => absurd rfl h⟩⟩
theorem mark_el (E : Env P fid cid) (hF : FT 232 = some markElF) {as : List Arg} (hl : as.length < 2 ^ 40) {w : World} {ζ : Nat → Option Nat} {x y : Value} {st k : Nat} {R : List (List D)} (hz : ZInj ζ) (hO : Own w ζ y (.l st R)) (hR : erR R = argRows as) (hk : k + ctR R < 2 ^ 62) :
 MC P fid 232 [.agg #[x, y], .int .i64 k] w fun r w' => r = .int .i64 ((k + ctR R : Nat) : Int) ∧ Tou (Sb ζ (D.l st R).sts) w w' ∧ Own w' ζ y (.l st (mkR R k)) := by
 obtain ⟨fn, h1, h2⟩ := E.ft 232 _ hF; refine MC_of E.cidOk h1 h2 (by simp) 1 ?_
 refine mwp_sR ?_
 simp [om, oC, oo, oV, oI, xi, mregs, mstep, mval, mmv, mput, mbox, upd, Value.cells]; intro t; have t1 := alloc_tou w #[x, y] t; have c1 := alloc_cell w #[x, y] t 1; have hO1 := hO.same t1; generalize w.alloc (.cells #[x, y] t) = w1 at t1 c1 hO1; refine mwp_sR ?_
 simp [om, oC, oo, oV, oI, oL, oF, xi, xf, mregs, mstep, mval, mvals, mmv, mput, mfa, mld, mcall, upd]; refine ⟨y, by simpa using c1, ?_⟩
 refine (mark_args E hR (by omega) w1 ζ y st k hz hO1 hk).mono ?_
 rintro r w2 ⟨rfl, g1, g2⟩; refine mwp_sR ?_
 simp [om, oo, mregs, mstep, mval, mmv, mput, upd]; unfold mwp; exact ⟨.inl rfl, by simp, t1.old.trans g1, g2⟩
theorem held_el (E : Env P fid cid) (hF : FT 234 = some heldElF) {as : List Arg} (hl : as.length < 2 ^ 40) {w : World} {ζ : Nat → Option Nat} {x y : Value} {st k : Nat} {R : List (List D)} (hO : Own w ζ y (.l st (mkR R k))) (hR : erR R = argRows as) (hk : k + ctR R < 2 ^ 62) :
 MC P fid 234 [.agg #[x, y], .int .i64 k] w fun r w' => r = .int .i64 ((k + ctR R : Nat) : Int) ∧ Tou Old w w' := by
 obtain ⟨fn, h1, h2⟩ := E.ft 234 _ hF; refine MC_of E.cidOk h1 h2 (by simp) 1 ?_
 refine mwp_sR ?_
 simp [om, oC, oo, oV, oI, xi, mregs, mstep, mval, mmv, mput, mbox, upd, Value.cells]; intro t; have t1 := alloc_tou w #[x, y] t; have c1 := alloc_cell w #[x, y] t 1; have hO1 := hO.same t1; generalize w.alloc (.cells #[x, y] t) = w1 at t1 c1 hO1; refine mwp_sR ?_
 simp [om, oC, oo, oV, oI, oL, oF, xi, xf, mregs, mstep, mval, mvals, mmv, mput, mfa, mld, mcall, upd]; refine ⟨y, by simpa using c1, ?_⟩
 refine (held_args E hR (by omega) w1 ζ y st k hO1 hk).mono ?_
 rintro r w2 ⟨rfl, rfl⟩; refine mwp_skip4 ?_
 have hn : ¬ ((k + ctR R : Nat) : Int) < 0 := by omega
 have hn' : ¬ ((k : Int) + (ctR R : Int)) < 0 := by omega
 simp [om, oo, oI, xi, mregs, mstep, mval, mmv, mput, mbin, binS, upd, hn, hn']; refine mwp_sR ?_
 simp [om, oo, mregs, mstep, mval, mmv, mput, upd]; unfold mwp; exact ⟨.inl rfl, by simp, t1⟩
theorem netOwn {w : World} {ζ : Nat → Option Nat} {arr : Array Value} {a b : Value} {st st2 : Nat} {R R2 : List (List D)} (h : OwnRow w ζ arr [.s a, .s b, .l st R, .l st2 R2]) :
 ∃ v0 v1 v2 v3 : Value, arr = #[v0, v1, v2, v3] ∧ Rel w Top ζ v0 (.s a) ∧ Rel w Top ζ v1 (.s b) ∧ Own w ζ v2 (.l st R) ∧ Own w ζ v3 (.l st2 R2) ∧ (∀ t ∈ (D.l st R).sts, t ∉ (D.l st2 R2).sts) := by
 obtain ⟨v0, h0, q0⟩ := h.rel 0 _ rfl; obtain ⟨v1, h1, q1⟩ := h.rel 1 _ rfl; obtain ⟨v2, h2, q2⟩ := h.rel 2 _ rfl; obtain ⟨v3, h3, q3⟩ := h.rel 3 _ rfl; have hs : stsL [.s a, .s b, .l st R, .l st2 R2] = (D.l st R).sts ++ (D.l st2 R2).sts := by simp [stsL_c, stsL_n, sts_s]
 have nz := h.nz; have nd := h.nd; have cl := h.cl; rw [hs] at nz nd cl; obtain ⟨n1, n2, n3⟩ := List.nodup_append.1 nd; refine ⟨v0, v1, v2, v3, ?_, q0, q1, ⟨q2, fun t ht => nz t (List.mem_append_left _ ht), n1, fun t ht => cl t (List.mem_append_left _ ht)⟩, ⟨q3, fun t ht => nz t (List.mem_append_right _ ht), n2, fun t ht => cl t (List.mem_append_right _ ht)⟩, fun t ht ht2 => n3 t ht t ht2 rfl⟩
 apply Array.ext
 · simpa using h.size
 · intro i g1 g2
   have : i < 4 := by simpa using g2
   match i with
   | 0 => rw [Array.getElem?_eq_getElem g1] at h0; simpa using h0
   | 1 => rw [Array.getElem?_eq_getElem g1] at h1; simpa using h1
   | 2 => rw [Array.getElem?_eq_getElem g1] at h2; simpa using h2
   | 3 => rw [Array.getElem?_eq_getElem g1] at h3; simpa using h3
theorem ownNet {w : World} {ζ : Nat → Option Nat} {a b : Value} {st st2 : Nat} {R R2 : List (List D)} {v0 v1 v2 v3 : Value} (q0 : Rel w Top ζ v0 (.s a)) (q1 : Rel w Top ζ v1 (.s b)) (q2 : Own w ζ v2 (.l st R)) (q3 : Own w ζ v3 (.l st2 R2)) (hd : ∀ t ∈ (D.l st R).sts, t ∉ (D.l st2 R2).sts) :
 OwnRow w ζ #[v0, v1, v2, v3] [.s a, .s b, .l st R, .l st2 R2] := by
 have hs : stsL [.s a, .s b, .l st R, .l st2 R2] = (D.l st R).sts ++ (D.l st2 R2).sts := by simp [stsL_c, stsL_n, sts_s]
 refine ⟨rfl, fun i d hi => ?_, ?_, ?_, ?_⟩
 · match i with
   | 0 => simp at hi; subst hi; exact ⟨v0, rfl, q0⟩
   | 1 => simp at hi; subst hi; exact ⟨v1, rfl, q1⟩
   | 2 => simp at hi; subst hi; exact ⟨v2, rfl, q2.rel⟩
   | 3 => simp at hi; subst hi; exact ⟨v3, rfl, q3.rel⟩
   | i + 4 => simp at hi
 · rw [hs]; intro t ht; rcases List.mem_append.1 ht with h | h; exact q2.nz t h; exact q3.nz t h
 · rw [hs]; exact List.nodup_append.2 ⟨q2.nd, q3.nd, fun x hx y hy e => hd x hx (e ▸ hy)⟩
 · rw [hs]; intro t ht; rcases List.mem_append.1 ht with h | h; exact q2.cl t h; exact q3.cl t h
theorem rel_s {w w' : World} {ζ : Nat → Option Nat} {v a : Value} (h : Rel w Top ζ v (.s a)) : Rel w' Top ζ v (.s a) := by
 cases h with
 | s v h => exact .s v h
theorem mark_netK (E : Env P fid cid) (h232 : FT 232 = some markElF) (h224 : FT 224 = some markNetF) {k op : Int} {as : List Arg} {ks : List Net} (hw : (Net.mk k op as ks).wt < 2 ^ 40) : KMark P fid (Kind.agg (Net.mk k op as ks).row) 224 := by
 rintro w ζ v l hz ⟨arr, ds, rfl, hO, he, rfl⟩; obtain ⟨a, b, st, R, st2, R2, rfl, e1, e2⟩ := net_row he; obtain ⟨v0, v1, v2, v3, rfl, q0, q1, q2, q3, hd⟩ := netOwn hO; have hs : stsL [.s a, .s b, .l st R, .l st2 R2] = (D.l st R).sts ++ (D.l st2 R2).sts := by simp [stsL_c, stsL_n, sts_s]
 simp only [Net.wt] at hw; have c1 : ctR R = 3 * as.length := by rw [← ctR_er, e1, ct_args]
 have c2 : ctR R2 ≤ 3 * netsWt ks := by rw [← ctR_er, e2]; exact ct_nets ks
 have hn : (Kind.agg (Net.mk k op as ks).row).n = ctR R + ctR R2 := by
  show ctTop (Net.mk k op as ks).row = _
  simp only [Net.row, ctTop]; rw [← e1, ← e2, ctR_er, ctR_er]; rfl
 obtain ⟨fn, h1, h2⟩ := E.ft 224 _ h224; refine MC_of E.cidOk h1 h2 (by simp) 1 ?_
 refine mwp_sR ?_
 simp [om, oC, oo, oV, oI, xi, mregs, mstep, mval, mmv, mput, mbox, upd, Value.cells]; intro t; have t1 := alloc_tou w #[v0, v1, v2, v3] t; have g1 := alloc_cell w #[v0, v1, v2, v3] t 1; have g2 := alloc_cell w #[v0, v1, v2, v3] t 2; have g3 := alloc_cell w #[v0, v1, v2, v3] t 3; have hlt : w.heap.size < (w.alloc (.cells #[v0, v1, v2, v3] t)).heap.size := by show _ < (w.heap.push _).size; simp
 have u2 := q2.lt; have u3 := q3.lt; have q2 := q2.same t1; have q3 := q3.same t1; generalize w.alloc (.cells #[v0, v1, v2, v3] t) = w1 at t1 g1 g2 g3 hlt q2 q3; refine mwp_sR ?_
 simp [om, oC, oo, oV, oI, oL, oF, oA, xi, xf, mregs, mstep, mval, mvals, mmv, mput, mfa, mld, mldA, mcall, upd]; refine ⟨[v1, v2], rfl, fun j u hj => ?_, ?_⟩
 · match j with
   | 0 => simp at hj; subst hj; simpa using g1
   | 1 => simp at hj; subst hj; simpa using g2
   | j + 2 => simp at hj
 refine (mark_el E h232 (by omega) (k := 1) hz q2 e1 (by omega)).mono ?_
 rintro r w2 ⟨rfl, t2, q2'⟩; have q3 := q3.tou t2 (fun b ⟨t, ht, e⟩ ⟨t', ht', e'⟩ => hd t' ht' (hz _ _ _ e e' ▸ ht)); have g3 : w2.cell? ⟨w.heap.size, 3, none⟩ = some v3 := by rw [cell_heap (t2.heap w.heap.size hlt fun h => absurd (u2 _ h) (Nat.lt_irrefl _))]; simpa using g3
 refine mwp_sR ?_
 simp [om, oC, oo, oV, oI, oL, oF, oA, xi, xf, mregs, mstep, mval, mvals, mmv, mput, mfa, mld, mldA, mcall, upd]; refine ⟨v3, by simpa using g3, ?_⟩
 refine (mark_nets E (netsWt ks) (Nat.le_refl _) (by omega) e2 w2 ζ v3 st2 (1 + ctR R) hz q3 (by omega)).mono ?_
 rintro r w3 ⟨rfl, t3, q3'⟩; refine mwp_sR ?_
 simp [om, oo, mregs, mstep, mval, mmv, mput, upd]; unfold mwp; refine ⟨.inl rfl, by rw [hn]; simp; omega, (t1.old.trans (t2.mono fun b ⟨t, ht, e⟩ => ⟨t, by rw [hs]; exact List.mem_append_left _ ht, e⟩)).trans (t3.mono fun b ⟨t, ht, e⟩ => ⟨t, by rw [hs]; exact List.mem_append_right _ ht, e⟩), #[v0, v1, v2, v3], _, rfl, ?_, he, rfl⟩
 simp only [mkTop]; have q2'' := q2'.tou t3 (fun b ⟨t, ht, e⟩ ⟨t', ht', e'⟩ => hd t (by rw [show (D.l st (mkR R 1)).sts = (D.l st R).sts from D.sts_mk (.l st R) 1] at ht; exact ht) (hz _ _ _ e e' ▸ ht')); refine ownNet (rel_s q0) (rel_s q1) q2'' q3' (fun t ht ht2 => ?_)
 rw [show (D.l st (mkR R 1)).sts = (D.l st R).sts from D.sts_mk (.l st R) 1] at ht; rw [show (D.l st2 (mkR R2 (1 + ctR R))).sts = (D.l st2 R2).sts from D.sts_mk (.l st2 R2) _] at ht2; exact hd t ht ht2
theorem held_netK (E : Env P fid cid) (h234 : FT 234 = some heldElF) (h225 : FT 225 = some heldNetF) {k op : Int} {as : List Arg} {ks : List Net} (hw : (Net.mk k op as ks).wt < 2 ^ 40) : KHeld P fid (Kind.agg (Net.mk k op as ks).row) 225 := by
 rintro w ζ v l ⟨arr, ds, rfl, hO, he, rfl⟩; obtain ⟨a, b, st, R, st2, R2, rfl, e1, e2⟩ := net_row he; simp only [mkTop] at hO; obtain ⟨v0, v1, v2, v3, rfl, q0, q1, q2, q3, hd⟩ := netOwn hO; simp only [Net.wt] at hw; have c1 : ctR R = 3 * as.length := by rw [← ctR_er, e1, ct_args]
 have c2 : ctR R2 ≤ 3 * netsWt ks := by rw [← ctR_er, e2]; exact ct_nets ks
 have hn : (Kind.agg (Net.mk k op as ks).row).n = ctR R + ctR R2 := by
  show ctTop (Net.mk k op as ks).row = _
  simp only [Net.row, ctTop]; rw [← e1, ← e2, ctR_er, ctR_er]; rfl
 obtain ⟨fn, h1, h2⟩ := E.ft 225 _ h225; refine MC_of E.cidOk h1 h2 (by simp) 1 ?_
 refine mwp_sR ?_
 simp [om, oC, oo, oV, oI, xi, mregs, mstep, mval, mmv, mput, mbox, upd, Value.cells]; intro t; have t1 := alloc_tou w #[v0, v1, v2, v3] t; have g1 := alloc_cell w #[v0, v1, v2, v3] t 1; have g2 := alloc_cell w #[v0, v1, v2, v3] t 2; have g3 := alloc_cell w #[v0, v1, v2, v3] t 3; have hlt : w.heap.size < (w.alloc (.cells #[v0, v1, v2, v3] t)).heap.size := by show _ < (w.heap.push _).size; simp
 have q2 := q2.same t1; have q3 := q3.same t1; generalize w.alloc (.cells #[v0, v1, v2, v3] t) = w1 at t1 g1 g2 g3 hlt q2 q3; refine mwp_sR ?_
 simp [om, oC, oo, oV, oI, oL, oF, oA, xi, xf, mregs, mstep, mval, mvals, mmv, mput, mfa, mld, mldA, mcall, upd]; refine ⟨[v1, v2], rfl, fun j u hj => ?_, ?_⟩
 · match j with
   | 0 => simp at hj; subst hj; simpa using g1
   | 1 => simp at hj; subst hj; simpa using g2
   | j + 2 => simp at hj
 refine (held_el E h234 (by omega) (k := 1) q2 e1 (by omega)).mono ?_
 rintro r w2 ⟨rfl, t2⟩; have q3 := q3.same t2; have g3 : w2.cell? ⟨w.heap.size, 3, none⟩ = some v3 := by rw [cell_heap (t2.heap w.heap.size hlt fun h => h.elim)]; simpa using g3
 have k1 : ¬ ((1 + ctR R : Nat) : Int) < 0 := by omega
 have k1' : ¬ (1 : Int) + (ctR R : Int) < 0 := by omega
 refine mwp_skip4 ?_
 simp [om, oo, oI, xi, mregs, mstep, mval, mmv, mput, mbin, binS, upd, k1, k1']; refine mwp_sR ?_
 simp [om, oC, oo, oV, oI, oL, oF, oA, xi, xf, mregs, mstep, mval, mvals, mmv, mput, mfa, mld, mldA, mcall, upd]; refine ⟨v3, by simpa using g3, ?_⟩
 refine (held_nets E (netsWt ks) (Nat.le_refl _) (by omega) e2 w2 ζ v3 st2 (1 + ctR R) q3 (by omega)).mono ?_
 rintro r w3 ⟨rfl, rfl⟩; have k2 : ¬ ((1 + ctR R + ctR R2 : Nat) : Int) < 0 := by omega
 have k2' : ¬ (1 : Int) + (ctR R : Int) + (ctR R2 : Int) < 0 := by omega
 refine mwp_skip4 ?_
 simp [om, oo, oI, xi, mregs, mstep, mval, mmv, mput, mbin, binS, upd, k2, k2']; refine mwp_sR ?_
 simp [om, oo, mregs, mstep, mval, mmv, mput, upd]; unfold mwp; exact ⟨.inl rfl, by rw [hn]; simp; omega, t1.trans t2⟩
end
end Go.VM
