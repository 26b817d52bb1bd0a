/- The law of exactness for BackNet: its struct lies in cells. Conditions: none. -/
import Derived.Test.YtfpkfcfiihfopaaDoorXVK8
import Derived.Test.YtfpkfcfiihfopaaDoorXVP21
import Derived.Test.YtfpkfcfiihfopaaDoorXVK9
import Derived.Test.YtfpkfcfiihfopaaDoorXVM29

namespace Go.VM
set_option linter.unusedVariables false
set_option linter.unusedSimpArgs false
set_option maxHeartbeats 4000000
theorem agg_cells {row : List D} {N : Nat} {w : World} {v : Value} (h : (Kind.agg row).Rd N w v) : ∃ arr, v = .agg arr ∧ arr.size = row.length ∧ ∀ x ∈ arr.toList, x.oneCell' = true := by
 obtain ⟨_, arr, rfl, hs, hr⟩ := h; refine ⟨arr, rfl, hs, fun x hx => ?_⟩
 obtain ⟨i, hi, e⟩ := List.getElem_of_mem hx; have hi' : i < arr.size := by simpa using hi
 have hlt : i < row.length := by omega
 obtain ⟨y, hy, q⟩ := hr i row[i] (List.getElem?_eq_getElem hlt); have : y = x := by
  rw [Array.getElem?_eq_getElem hi'] at hy; rw [← e]; simpa using hy.symm
 subst this; exact q.oneCell
theorem net_cells {t : Net} {N : Nat} {w : World} {v : Value} (h : (Kind.agg t.row).Rd N w v) : ∃ arr, v = .agg arr ∧ arr.size = 4 ∧ ∀ x ∈ arr.toList, x.oneCell' = true := by
 obtain ⟨arr, h1, h2, h3⟩ := agg_cells h; exact ⟨arr, h1, by rw [h2]; cases t; simp [Net.row], h3⟩
section
variable {P : Program} {fid : Nat → FuncId} {cid : FuncId → Nat} {w0 w : World}
end
end Go.VM

/- The law of exactness for NormNet: argument and result lie in cells. Conditions: none. -/
namespace Go.VM
set_option linter.unusedVariables false
set_option linter.unusedSimpArgs false
set_option maxHeartbeats 4000000
section
variable {P : Program} {fid : Nat → FuncId} {cid : FuncId → Nat} {w0 w : World}
theorem sound_net (E : Env P fid cid) (hg : Glob GT (ctxN w0.heap.size w0)) (h232 : FT 232 = some markElF) (h224 : FT 224 = some markNetF) {t : Net} (ht : t.wt ≤ 2 ^ 21) {a : Value} (ha : RdRow w0.heap.size w0 a t.row) : KSound P fid w0 a (Kind.agg t.row) 221 223 224 where
 to := fun w hw => by
  obtain ⟨k, op, as, ks⟩ := t; have hm := (mk_net (Net.mk k op as ks).wt k op as ks (Nat.le_refl _) (by omega) _ (Nat.le_refl _)).makes; rw [← rowX_net] at hm; obtain ⟨o, h⟩ := hm; obtain ⟨h1, h2, h3, h4⟩ := h sup0; refine (E.callsR1 hg hw h1 ((Kind.agg (Net.mk k op as ks).row).rd_tou ha hw fun _ h => h)).mono ?_
  rintro v w' ⟨κ', rfl, O⟩; obtain ⟨arr, rfl, hL⟩ := out_row O; exact ⟨κ'.ζ, _, row_new sup0_ne O hL (h4 sup0_inj) h3⟩
 eq := eq_netK E hg (by omega)
 mark := by
  obtain ⟨k, op, as, ks⟩ := t; exact mark_netK E h232 h224 (by omega)
theorem sz_callN (E : Env P fid cid) (hg : Glob GT (ctxN w0.heap.size w0)) (hw : OnW w0 w) {t : Net} (hf : rowFits t.row) {N : Nat} {a : Value} (ha : RdRow N w a t.row) :
 MC P fid 220 [a, .int .i64 1048576] w fun v w' => Tou Old w w' ∧ ∃ k : Int, v = .int .i64 k ∧ (0 ≤ k → t.wt ≤ 2 ^ 21) := by
 have h := sz_net t.wt t (Nat.le_refl _) hf _ (Nat.le_refl _) 1048576 (by omega) sup0; rw [← rowX_net] at h; refine (E.call hg hw h rfl (vs := [a, .int .i64 1048576]) fun i x hx => ?_).mono ?_
 · match i with
   | 0 => simp at hx; subst hx; exact ⟨a, rfl, ha.rel⟩
   | 1 => simp at hx; subst hx; exact ⟨_, rfl, Rel.s _ rfl⟩
   | i + 2 => simp at hx
 · rintro v w' ⟨κ', rfl, O⟩
   refine ⟨out_tou O, _, out_s O, fun hk => ?_⟩
   by_cases hle : rowW t.row ≤ 1048576
   · have := net_W t; omega
   · rw [if_neg hle] at hk; omega
theorem law_NormNet (E : Env P fid cid) (hmix : P.follows .mixedOrders = true) (hG : ∀ g row, GT g = some row → erL row = row) {c0 : Nat} (hlaw : FT c0 = some ⟨69, [.tmp 2], lawAx [wi 0, wi 0, .nil, .nil] 4 220 221 222 105 223 224 225⟩) (h222 : FT 222 = some F222T) (h105 : FT 105 = some F105T) (h232 : FT 232 = some markElF) (h224 : FT 224 = some markNetF) (h234 : FT 234 = some heldElF) (h225 : FT 225 = some heldNetF)
 {t : Net} (hf : rowFits t.row) : CallOK P fid GT c0 [rowX t.row] [] sup0 ⟨sV (.bool true), [], []⟩ := by
 obtain ⟨fn, hfn, hF⟩ := E.ft c0 _ hlaw; refine law_ok (fun κ vs hI hl hr => ?_) (enters_of hfn hF)
 obtain ⟨v, hv, hrel⟩ := hr 0 _ rfl; obtain rfl : vs = [v] := by
  match vs, hl, hv with
  | [x], _, hv => simp at hv; rw [hv]
 have hg := glob_in hI hG; have ha := row_in hrel (er_netRow t); refine MC_of E.cidOk hfn hF (by simp) 1 ?_
 obtain ⟨arr0, rfl, hs0, -⟩ := net_cells (t := t) ha; refine lawAx_k (KA := Kind.agg t.row) (KR := Kind.agg (netAns t).row) hmix rfl (by simp) (fun N w v h => net_cells h) (fun N w v h => net_cells h) hs0 rfl (fun w hw => (sz_callN E hg hw.old hf ((Kind.agg t.row).rd_tou ha hw fun _ h => h.elim)).mono ?_) (fun τ w h2 hw => ⟨.inl rfl, h2, hw⟩)
 rintro r w' ⟨h1, k, rfl, hk⟩; refine ⟨h1, k, rfl, fun h0 => ?_⟩
 have hb := hk h0; have hwt := netAns_wt t; refine ⟨sound_net E hg h232 h224 hb ha, ?_, ?_, eq_netK E hg (by omega), ?_, ?_⟩
 · intro N v w hw hv
   have h := run_NormNetS h222 t (by omega) _ (Nat.le_refl _) sup0; rw [← rowX_net, ← rowX_net] at h; refine (E.callR1 hg hw h hv).mono ?_
   rintro r w' ⟨κ', rfl, O⟩; obtain ⟨arr, rfl, hL⟩ := out_row O; exact ⟨out_tou O, row_rd O hL (er_netRow _)⟩
 · intro N v w hw hv
   obtain ⟨ds, h1, h2, h3⟩ := ps_NormNet h105 t (by omega) _ (Nat.le_refl _) sup0; rw [← rowX_net] at h1; refine (E.callsR1 hg hw h1 hv).mono ?_
   rintro r w' ⟨κ', rfl, O⟩; obtain ⟨arr, rfl, hL⟩ := out_row O; exact ⟨κ'.ζ, _, row_new sup0_ne O hL (h3 sup0_inj) h2⟩
 · generalize netAns t = y at hwt
   obtain ⟨k, op, as, ks⟩ := y; exact mark_netK E h232 h224 (by omega)
 · generalize netAns t = y at hwt
   obtain ⟨k, op, as, ks⟩ := y; exact held_netK E h234 h225 (by omega)
end
end Go.VM

/- The value machine: a package-level variable that holds a net without kids. Conditions: none. -/
namespace Go.VM
open Go.ChangeShapes Go.WideShapes Go.ChangeAt Go.RowKit
set_option linter.unusedVariables false
def netT (P : Program) (t : TypeId) : Bool :=
 P.cellsOf t == 4 && match P.underlying t with
 | some (.struct fs) => match fs.toList with
  | [f0, f1, f2] => f0.offset == 0 && f1.offset == 1 && f2.offset == 3 && P.cellsOf f0.type == 1 && P.cellsOf f1.type == 2 && P.cellsOf f2.type == 1 &&
   (match P.underlying f0.type with | some (.int .i64) => true | _ => false) && (match P.underlying f2.type with | some (.slice _) => true | _ => false) &&
   (match P.underlying f1.type with
    | some (.struct es) => match es.toList with
     | [e0, e1] => e0.offset == 0 && e1.offset == 1 && P.cellsOf e0.type == 1 && P.cellsOf e1.type == 1 && (match P.underlying e0.type with | some (.int .i64) => true | _ => false) && (match P.underlying e1.type with | some (.slice _) => true | _ => false)
     | _ => false
    | _ => false)
  | _ => false
 | _ => false
theorem intK {P : Program} {t : TypeId} (h : (match P.underlying t with | some (.int .i64) => true | _ => false) = true) : P.underlying t = some (.int .i64) := by
 split at h
 · assumption
 · cases h
theorem sliceK {P : Program} {t : TypeId} (h : (match P.underlying t with | some (.slice _) => true | _ => false) = true) : ∃ e, P.underlying t = some (.slice e) := by
 split at h
 · rename_i e he; exact ⟨e, he⟩
 · cases h
theorem list4' {α : Type} {l : List α} (h : l.length = 4) : ∃ a b c d, l = [a, b, c, d] := by
 match l, h with
 | [a, b, c, d], _ => exact ⟨a, b, c, d, rfl⟩
theorem net_trod {P : Program} {W : World} {t : TypeId} {fuel : Nat} {cs : List Value} {k op : Int} {p : List MemPlace} (ht : netT P t = true)
 (h : DataW.trod (fun _ => ()) P W 0 (fun _ => true) false fuel t cs = some (.agg [.lit (.int .i64 k), .agg [.lit (.int .i64 op), .nil], .nil], p)) :
 cs = [.int .i64 k, .int .i64 op, .slice none 0 0, .slice none 0 0] := by
 simp only [netT, Bool.and_eq_true, beq_iff_eq] at ht; obtain ⟨hc, ht⟩ := ht; split at ht
 · rename_i fs hfs
   split at ht
   · rename_i f0 f1 f2 hl
     have hfa : fs = #[f0, f1, f2] := by cases fs; simp only at hl; rw [hl]
     subst hfa; simp only [Bool.and_eq_true, beq_iff_eq] at ht; obtain ⟨⟨⟨⟨⟨⟨⟨⟨o0, o1⟩, o2⟩, c0⟩, c1⟩, c2⟩, k0⟩, k2⟩, k1⟩ := ht; obtain ⟨xs, n, _, hx, hlen, hxl, hf⟩ := DataW.trod_struct hfs h; rw [hc] at hlen; obtain ⟨v0, v1, v2, v3, rfl⟩ := list4' hlen
     match xs, hxl with
     | [x0, x1, x2], _ =>
     simp only [Prod.mk.injEq, DataW.agg.injEq, List.map_cons, List.map_nil, List.cons.injEq, and_true] at hx; obtain ⟨⟨y0, y1, y2⟩, _⟩ := hx; have g0 := hf 0 f0 rfl; have g1 := hf 1 f1 rfl; have g2 := hf 2 f2 rfl; rw [o0, c0] at g0; rw [o1, c1] at g1; rw [o2, c2] at g2; simp only [List.drop_zero, List.drop_succ_cons, List.take_succ_cons, List.take_zero, List.getElem?_cons_zero, List.getElem?_cons_succ] at g0 g1 g2; obtain ⟨m0, e0, q0, _⟩ := DataW.trod_int (intK k0) g0; obtain ⟨s2, hs2⟩ := sliceK k2; have r2 : v3 = .slice none 0 0 := by
      rcases DataW.trod_slice hs2 g2 with ⟨e2, _⟩ | ⟨a, len, cap, elems, rest, n', _, _, q, _⟩
      · simpa using e2
      · rw [q] at y2; cases y2
     split at k1
     · rename_i es hes
       split at k1
       · rename_i f3 f4 hl2
         have hea : es = #[f3, f4] := by cases es; simp only at hl2; rw [hl2]
         subst hea; simp only [Bool.and_eq_true, beq_iff_eq] at k1; obtain ⟨⟨⟨⟨⟨o3, o4⟩, c3⟩, c4⟩, k3⟩, k4⟩ := k1; obtain ⟨ys, n2, _, hy, _, hyl, hg⟩ := DataW.trod_struct hes g1
         match ys, hyl with
         | [z0, z1], _ =>
         rw [hy] at y1; simp only [DataW.agg.injEq, List.map_cons, List.map_nil, List.cons.injEq, and_true] at y1; obtain ⟨w0, w1⟩ := y1; have g3 := hg 0 f3 rfl; have g4 := hg 1 f4 rfl; rw [o3, c3] at g3; rw [o4, c4] at g4; simp only [List.drop_zero, List.drop_succ_cons, List.take_succ_cons, List.take_zero, List.getElem?_cons_zero, List.getElem?_cons_succ] at g3 g4; obtain ⟨m3, e3, q3, _⟩ := DataW.trod_int (intK k3) g3; obtain ⟨s4, hs4⟩ := sliceK k4; have r4 : v2 = .slice none 0 0 := by
          rcases DataW.trod_slice hs4 g4 with ⟨e4, _⟩ | ⟨a, len, cap, elems, rest, n', _, _, q, _⟩
          · simpa using e4
          · rw [q] at w1; cases w1
         rw [q0] at y0; rw [q3] at w0; simp only [DataW.lit.injEq, Lit.int.injEq, true_and] at y0 w0; simp only [List.cons.injEq, and_true] at e0 e3; rw [e0, e3, r2, r4, y0, w0]
       · cases k1
     · cases k1
   · cases ht
 · cases ht
theorem laid_net {P : Program} {W : World} : ∀ {l : List (String × DataW Unit)} {ps : List MemPlace}, DataW.LaidVars P W l ps → ∀ {n : String} {k op : Int} {g : Nat} {t : TypeId},
 (n, DataW.agg [.lit (.int .i64 k), .agg [.lit (.int .i64 op), .nil], .nil]) ∈ l → P.globalNamed n = some g → (P.globals[g]?).map (·.type) = some t → netT P t = true →
 g < (ctx0 W).w.heap.size ∧ ∀ (j : Nat) (x : D), ([.s (.int .i64 k), .s (.int .i64 op), .l 0 [], .l 0 []] : List D)[j]? = some x → (ctx0 W).Im g j ∧ ∃ y, (ctx0 W).w.cell? ⟨g, j, none⟩ = some y ∧ (ctx0 W).rel y x
 | [], ps, h, n, k, op, g, t, hm, _, _, _ => by cases hm
 | (n', d') :: r, ps, h, n, k, op, g, t, hm, hg, ht, he => by
  obtain ⟨g', t', cs, fuel, p, q, k1, k2, k3, k4, k5, _⟩ := h; rcases List.mem_cons.1 hm with e0 | hm
  · cases e0
    obtain rfl := Option.some.inj (k1.symm.trans hg); obtain rfl := Option.some.inj (k2.symm.trans ht); have hcs := net_trod he k4; have hc := World.var?_cell k1 k3; have hca : cs = #[.int .i64 k, .int .i64 op, .slice none 0 0, .slice none 0 0] := by cases cs; simpa using hcs
    subst hca; have hsz : g' < W.heap.size := by
     have hc0 := hc 0; rcases Nat.lt_or_ge g' W.heap.size with h' | h'
     · exact h'
     · simp [World.cell?, Array.getElem?_eq_none h'] at hc0
    refine ⟨hsz, fun j x hx => ?_⟩
    match j with
    | 0 => simp at hx; subst hx; exact ⟨hsz, _, (hc 0).trans rfl, .s _ rfl⟩
    | 1 => simp at hx; subst hx; exact ⟨hsz, _, (hc 1).trans rfl, .s _ rfl⟩
    | 2 => simp at hx; subst hx; exact ⟨hsz, _, (hc 2).trans rfl, .nil 0⟩
    | 3 => simp at hx; subst hx; exact ⟨hsz, _, (hc 3).trans rfl, .nil 0⟩
    | j + 4 => simp at hx
  · exact laid_net k5 hm hg ht he
end Go.VM
