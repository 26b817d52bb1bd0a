/- The law of exactness for PeepTurn: argument and result lie in cells. Conditions: none. -/
import Derived.Test.YtfpkfcfiihfopaaDoorPVP23
import Derived.Test.YtfpkfcfiihfopaaDoorPVK7
import Derived.Test.YtfpkfcfiihfopaaDoorPVK10
import Derived.Test.YtfpkfcfiihfopaaDoorPVP25

namespace Go.VM
set_option linter.unusedVariables false
set_option linter.unusedSimpArgs false
set_option maxHeartbeats 4000000
theorem el_rowE {ds : List D} {e : El} (h : erL ds = e.row) : ∃ st R, ds = [iD e.op, .l st R] ∧ erR R = argRows e.as := by
 obtain ⟨d1, q1, rfl, e1, h1⟩ := erL_c (show erL ds = iD e.op :: [.l 0 (argRows e.as)] from h); obtain ⟨d2, q2, rfl, e2, h2⟩ := erL_c h1; obtain ⟨st, R, rfl, hR⟩ := er_l e2; rw [er_s e1, erL_n h2]; exact ⟨_, _, rfl, hR⟩
theorem elOwn {w : World} {ζ : Nat → Option Nat} {arr : Array Value} {a : Value} {st : Nat} {R : List (List D)} (h : OwnRow w ζ arr [.s a, .l st R]) : ∃ v0 v1 : Value, arr = #[v0, v1] ∧ Rel w Top ζ v0 (.s a) ∧ Own w ζ v1 (.l st R) := by
 obtain ⟨v0, h0, q0⟩ := h.rel 0 _ rfl; obtain ⟨v1, h1, q1⟩ := h.rel 1 _ rfl; have hs : stsL [.s a, .l st R] = (D.l st R).sts := by simp [stsL_c, stsL_n, sts_s]
 have nz := h.nz; have nd := h.nd; have cl := h.cl; rw [hs] at nz nd cl; refine ⟨v0, v1, ?_, q0, ⟨q1, nz, nd, cl⟩⟩
 apply Array.ext
 · simpa using h.size
 · intro i g1 g2
   have : i < 2 := by simpa using g2
   match i with
   | 0 => rw [Array.getElem?_eq_getElem g1] at h0; simpa using h0
   | 1 => rw [Array.getElem?_eq_getElem g1] at h1; simpa using h1
theorem ownEl {w : World} {ζ : Nat → Option Nat} {a : Value} {st : Nat} {R : List (List D)} {v0 v1 : Value} (q0 : Rel w Top ζ v0 (.s a)) (q1 : Own w ζ v1 (.l st R)) : OwnRow w ζ #[v0, v1] [.s a, .l st R] := by
 have hs : stsL [.s a, .l st R] = (D.l st R).sts := by simp [stsL_c, stsL_n, sts_s]
 refine ⟨rfl, fun i d hi => ?_, ?_, ?_, ?_⟩
 · match i with
   | 0 => simp at hi; subst hi; exact ⟨v0, rfl, q0⟩
   | 1 => simp at hi; subst hi; exact ⟨v1, rfl, q1.rel⟩
   | i + 2 => simp at hi
 · rw [hs]; exact q1.nz
 · rw [hs]; exact q1.nd
 · rw [hs]; exact q1.cl
section
variable {P : Program} {fid : Nat → FuncId} {cid : FuncId → Nat} {w0 w : World}
theorem mark_elK (E : Env P fid cid) (h232 : FT 232 = some markElF) {e : El} (hw : e.as.length < 2 ^ 40) : KMark P fid (Kind.agg e.row) 232 := by
 rintro w ζ v l hz ⟨arr, ds, rfl, hO, he, rfl⟩; obtain ⟨st, R, rfl, e1⟩ := el_rowE he; obtain ⟨v0, v1, rfl, q0, q1⟩ := elOwn hO; have hs : stsL [iD e.op, .l st R] = (D.l st R).sts := by simp [stsL_c, stsL_n, sts_s]
 have c1 : ctR R = 3 * e.as.length := by rw [← ctR_er, e1, ct_args]
 have hn : (Kind.agg e.row).n = ctR R := by
  show ctTop e.row = _
  simp only [El.row, ctTop]; rw [← e1, ctR_er]; rfl
 refine (mark_el E h232 hw (k := 1) hz q1 e1 (by omega)).mono ?_
 rintro r w2 ⟨rfl, t2, q2⟩; rw [hs]; refine ⟨by rw [hn], t2, #[v0, v1], [iD e.op, .l st R], rfl, ?_, he, hs.symm⟩
 simp only [mkTop]; exact ownEl (rel_s q0) q2
theorem held_elK (E : Env P fid cid) (h234 : FT 234 = some heldElF) {e : El} (hw : e.as.length < 2 ^ 40) : KHeld P fid (Kind.agg e.row) 234 := by
 rintro w ζ v l ⟨arr, ds, rfl, hO, he, rfl⟩; obtain ⟨st, R, rfl, e1⟩ := el_rowE he; simp only [mkTop] at hO; obtain ⟨v0, v1, rfl, q0, q1⟩ := elOwn hO; have c1 : ctR R = 3 * e.as.length := by rw [← ctR_er, e1, ct_args]
 have hn : (Kind.agg e.row).n = ctR R := by
  show ctTop e.row = _
  simp only [El.row, ctTop]; rw [← e1, ctR_er]; rfl
 refine (held_el E h234 hw (k := 1) q1 e1 (by omega)).mono ?_
 rintro r w2 ⟨rfl, t2⟩; exact ⟨by rw [hn], t2⟩
theorem eq_elK (E : Env P fid cid) (hg : Glob GT (ctxN w0.heap.size w0)) {e : El} (ht : e.as.length < 2 ^ 30) : KEq P fid w0 (Kind.agg e.row) 230 := fun N M u v w hw hu hv => by
 have h := same_el (n := e.as.length + 4) e (Nat.le_refl _) ht sup0; refine (E.callR2 hg hw (d := e.row) (e := e.row) h hu hv).mono ?_
 rintro r w' ⟨κ', rfl, O⟩; exact ⟨out_s O, out_tou O⟩
theorem sound_el (E : Env P fid cid) (hg : Glob GT (ctxN w0.heap.size w0)) (h232 : FT 232 = some markElF) {e : El} (ht : e.as.length ≤ 2 ^ 20) {N : Nat} {a : Value} (ha : RdRow N w0 a e.row) : KSound P fid w0 a (Kind.agg e.row) 228 230 232 where
 to := fun w hw => by
  obtain ⟨o, h⟩ := (mk_el (n := e.as.length + 4) e (Nat.le_refl _) (by omega)).makes; obtain ⟨h1, h2, h3, h4⟩ := h sup0; refine (E.callsR1 hg hw (d := e.row) h1 ((Kind.agg e.row).rd_tou ha hw fun b h => Nat.le_trans ha.1 h)).mono ?_
  rintro v w' ⟨κ', rfl, O⟩; obtain ⟨arr, rfl, hL⟩ := out_row O; exact ⟨κ'.ζ, _, row_new sup0_ne O hL (h4 sup0_inj) h3⟩
 eq := eq_elK E hg (by omega)
 mark := mark_elK E h232 (by omega)
theorem sz_callE (E : Env P fid cid) (hg : Glob GT (ctxN w0.heap.size w0)) (hw : OnW w0 w) {e : El} (hf : e.as.length < 2 ^ 63) {N : Nat} {a : Value} (ha : RdRow N w a e.row) :
 MC P fid 226 [a, .int .i64 1048576] w fun v w' => Tou Old w w' ∧ ∃ k : Int, v = .int .i64 k ∧ (0 ≤ k → e.as.length ≤ 2 ^ 20) := by
 have h := sz_el (n := 0) e hf 1048576 (by omega) sup0; refine (E.call hg hw (args := [rowX e.row, iV (1048576 : Nat)]) h rfl (vs := [a, .int .i64 1048576]) fun i x hx => ?_).mono ?_
 · match i with
   | 0 => simp at hx; subst hx; exact ⟨a, rfl, ha.rel⟩
   | 1 => simp at hx; subst hx; exact ⟨_, rfl, Rel.s _ rfl⟩
   | i + 2 => simp at hx
 · rintro v w' ⟨κ', rfl, O⟩
   refine ⟨out_tou O, _, out_s O, fun hk => ?_⟩
   have hW := el_W e
   by_cases hle : rowW e.row ≤ 1048576
   · omega
   · rw [if_neg hle] at hk; omega
theorem er_elRow (e : El) : erL e.row = e.row := by simp [erL, D.er, El.row, er_argRows]
theorem el_cells {e : El} {N : Nat} {w : World} {v : Value} (h : (Kind.agg e.row).Rd N w v) : ∃ arr, v = .agg arr ∧ arr.size = 2 ∧ ∀ x ∈ arr.toList, x.oneCell' = true := by
 obtain ⟨arr, h1, h2, h3⟩ := agg_cells h; exact ⟨arr, h1, by rw [h2]; simp [El.row], h3⟩
theorem turn_len (e : El) : ((e.turn).getD El.nil).as.length ≤ e.as.length := by
 unfold El.turn; split <;> simp [El.nil]
theorem law_PeepTurn (E : Env P fid cid) (hmix : P.follows .mixedOrders = true) (hG : ∀ g row, GT g = some row → erL row = row) {c0 g : Nat} (hlaw : FT c0 = some ⟨96, [.tmp 2], lawBx [wi 0, .nil] 2 226 228 369 375 230 232 234⟩)
 (h369 : FT 369 = some F369T) (h377 : FT 377 = some F377T) (h375 : FT 375 = some F375T) (h378 : FT 378 = some F378T) (h380 : FT 380 = some (F380T g)) (h382 : FT 382 = some F382T) (hT : GT g = some (gRow flipsD)) (h232 : FT 232 = some markElF) (h234 : FT 234 = some heldElF)
 {e : El} (hf : e.as.length < 2 ^ 63) : CallOK P fid GT c0 [rowX e.row] [] sup0 ⟨sV (.bool true), [], []⟩ := by
 obtain ⟨fn, hfn, hF⟩ := E.ft c0 _ hlaw; refine law_ok (fun κ vs hI hl hr => ?_) (enters_of hfn hF)
 obtain ⟨v, hv, hrel⟩ := hr 0 _ rfl; obtain rfl : vs = [v] := by
  match vs, hl, hv with
  | [x], _, hv => simp at hv; rw [hv]
 have hg := glob_in hI hG; have ha := row_in hrel (er_elRow e); refine MC_of E.cidOk hfn hF (by simp) 1 ?_
 obtain ⟨arr0, rfl, hs0, -⟩ := el_cells (e := e) ha; refine lawBx_k (KA := Kind.agg e.row) (KR := Kind.agg ((e.turn).getD El.nil).row) (c := (e.turn).isSome) hmix rfl (by simp) (fun N w v h => el_cells h) (fun N w v h => el_cells h) hs0 rfl (fun w hw => (sz_callE E hg hw.old hf ((Kind.agg e.row).rd_tou ha hw fun _ h => h.elim)).mono ?_) (fun τ w h2 hw => ⟨.inl rfl, h2, hw⟩)
 rintro r w' ⟨h1, k, rfl, hk⟩; refine ⟨h1, k, rfl, fun h0 => ?_⟩
 have hb := hk h0; have hwt := turn_len e; refine ⟨sound_el E hg h232 hb ha, ?_, ?_, eq_elK E hg (by omega), mark_elK E h232 (by omega), held_elK E h234 (by omega)⟩
 · intro N v w hw hv
   have h := run_PeepTurnS (n := 20) h369 h377 (Nat.le_refl _) e sup0; refine (E.callR1 hg hw (d := e.row) h hv).mono ?_
   rintro r w' ⟨κ', rfl, O⟩; obtain ⟨arr, rfl, h⟩ := out_row2 O; exact ⟨_, rfl, out_tou O, row_rd O h (er_elRow _)⟩
 · intro N v w hw hv
   obtain ⟨ds, h1, h2, h3⟩ := ps_PeepTurn (n := e.as.length + 80) h375 h378 h380 h382 hT e (Nat.le_refl _) (by omega) sup0; refine (E.callsR1 hg hw (d := e.row) h1 hv).mono ?_
   rintro r w' ⟨κ', rfl, O⟩; obtain ⟨arr, rfl, h⟩ := out_row2 O; exact ⟨_, rfl, κ'.ζ, _, row_new sup0_ne O h (h3 sup0_inj) h2⟩
end
end Go.VM
