/- The laws of exactness for WayPlain and WayDown. Conditions: none. -/
import Derived.Test.YtcjdokngpmnkjaaGreatDoorVP9
import Derived.Test.YtcjdokngpmnkjaaGreatDoorVY20
import Derived.Test.YtcjdokngpmnkjaaGreatDoorVM29

namespace Go.VM
set_option linter.unusedVariables false
set_option linter.unusedSimpArgs false
set_option maxHeartbeats 4000000
theorem same_ins {n : Nat} (x : Ins) (hn : x.e.as.length + 5 ≤ n) (hl : x.e.as.length < 2 ^ 30) (s : Sup) : go n 303 [rowX x.row, rowX x.row] [] s = some ⟨bV true, [], []⟩ := by
 obtain ⟨n, rfl⟩ : ∃ k, n = k + 1 := ⟨n - 1, by omega⟩; have w := same_el (n := n) x.e (by omega) hl; simp [go_of FT_303 rfl, F303, Ins.row, w]
theorem same_list {n : Nat} (l : List Ins) (m : Nat) (ha : ∀ x ∈ l, x.e.as.length ≤ m) (hm : m < 2 ^ 30) (hn : l.length + m + 8 ≤ n) (hl : l.length < 2 ^ 40) (s : Sup) : go n 275 [.w (isW l), .w (isW l)] [] s = some ⟨bV true, [], []⟩ := by
 obtain ⟨n, rfl⟩ : ∃ k, n = k + 1 := ⟨n - 1, by omega⟩; exact run_eqT (f := 275) (sz := 3) (c := 303) (n := n) rfl rfl rfl rfl rfl 0 0 (insRows l) (insRows l) rfl (insRows_all fun a _ => rfl) (insRows_all fun a _ => rfl)
  (fun i r r' h1 h2 s => by rw [h1] at h2; cases h2; exact insRows_all (p := fun r => go n 303 [rowX r, rowX r] [] s = some ⟨bV true, [], []⟩) (fun a h => same_ins a (by have := ha a h; omega) (by have := ha a h; omega) s) r (List.mem_of_getElem? h1)) (by simp [insRows]; omega) (by simp [insRows]; omega) s
theorem er_rows {α : Type} {row : α → List D} (h : ∀ a, erL (row a) = row a) : ∀ l : List α, erR (l.map row) = l.map row
 | [] => rfl
 | a :: r => by simp only [List.map_cons, erR]; rw [h a, er_rows h r]
theorem er_insRows (l : List Ins) : erR (insRows l) = insRows l := er_rows (fun a => by simp [erL, D.er, Ins.row, er_argRows]) l
theorem er_elRows (l : List El) : erR (elRows l) = elRows l := er_rows (fun a => by simp [erL, D.er, El.row, er_argRows]) l
mutual
theorem er_netRow : ∀ t : Net, erL t.row = t.row
 | .mk k op as ks => by simp only [Net.row, erL, D.er, er_argRows, er_netRows ks]
theorem er_netRows : ∀ l : List Net, erR (netRows l) = netRows l
 | [] => rfl
 | a :: r => by simp only [netRows, erR, er_netRow a, er_netRows r]
end
mutual
theorem er_armRow : ∀ t : Arm, erL t.row = t.row
 | .mk (.mk k op as nks) cs ks => by simp only [Arm.row, erL, D.er, er_argRows, er_netRows nks, er_elRows, er_armRows ks]
theorem er_armRows : ∀ l : List Arm, erR (armRows l) = armRows l
 | [] => rfl
 | a :: r => by simp only [armRows, erR, er_armRow a, er_armRows r]
end
def sup0 : Sup := fun k => k + 1
theorem sup0_ne (k : Nat) : sup0 k ≠ 0 := Nat.succ_ne_zero k
theorem sup0_inj : Inj sup0 := fun a b e => Nat.succ.inj e
abbrev OnW (w0 w : World) : Prop := Tou (fun b => w0.heap.size ≤ b) w0 w
section
variable {P : Program} {fid : Nat → FuncId} {cid : FuncId → Nat} {w0 w : World}
theorem glob_at (hg : Glob GT (ctxN w0.heap.size w0)) (hw : OnW w0 w) : Glob GT (ctxN w.heap.size w) := hg.up (Nat.le_refl _) hw (fun _ h => h) hw.size
theorem Rd.here {N : Nat} {v : Value} {d : D} (h : Rd N w v d) : Rel w (fun b _ => b < w.heap.size) (fun _ => none) v d := (h.up h.1 (Nat.le_refl _)).2
theorem Env.call (E : Env P fid cid) (hg : Glob GT (ctxN w0.heap.size w0)) (hw : OnW w0 w) {f n : Nat} {args : List V} {r : Res} (h : go n f args [] sup0 = some r) {vs : List Value} (hl : vs.length = args.length) (hr : ∀ (i : Nat) (x : V), args[i]? = some x → ∃ v : Value, vs[i]? = some v ∧ VRel fid (ctxN w.heap.size w) v x) :
 MC P fid f vs w fun u w' => ∃ κ', κ'.w = w' ∧ Out fid (ctxN w.heap.size w) [] sup0 κ' r u :=
 call_at (E.goOk _ _ _ _ _ _ h) sup0_ne sup0_inj (Nat.le_refl _) (glob_at hg hw) hl hr
theorem Env.call1 (E : Env P fid cid) (hg : Glob GT (ctxN w0.heap.size w0)) (hw : OnW w0 w) {f n : Nat} {d : D} {r : Res} (h : go n f [.w (.d d)] [] sup0 = some r) {N : Nat} {v : Value} (hv : Rd N w v d) :
 MC P fid f [v] w fun u w' => ∃ κ', κ'.w = w' ∧ Out fid (ctxN w.heap.size w) [] sup0 κ' r u :=
 E.call hg hw h rfl fun i x hx => by
  match i with
  | 0 => simp at hx; subst hx; exact ⟨v, rfl, hv.here⟩
  | i + 1 => simp at hx
theorem Env.call2 (E : Env P fid cid) (hg : Glob GT (ctxN w0.heap.size w0)) (hw : OnW w0 w) {f n : Nat} {d e : D} {r : Res} (h : go n f [.w (.d d), .w (.d e)] [] sup0 = some r) {N M : Nat} {u v : Value} (hu : Rd N w u d) (hv : Rd M w v e) :
 MC P fid f [u, v] w fun u w' => ∃ κ', κ'.w = w' ∧ Out fid (ctxN w.heap.size w) [] sup0 κ' r u :=
 E.call hg hw h rfl fun i x hx => by
  match i with
  | 0 => simp at hx; subst hx; exact ⟨u, rfl, hu.here⟩
  | 1 => simp at hx; subst hx; exact ⟨v, rfl, hv.here⟩
  | i + 2 => simp at hx
theorem Env.calls (E : Env P fid cid) (hg : Glob GT (ctxN w0.heap.size w0)) (hw : OnW w0 w) {f n : Nat} {d : D} {r : Res} (h : goS n f [.w (.d d)] [] sup0 = some r) {N : Nat} {v : Value} (hv : Rd N w v d) :
 MC P fid f [v] w fun u w' => ∃ κ', κ'.w = w' ∧ Out fid (ctxN w.heap.size w) [] sup0 κ' r u :=
 call_at (E.gosOk _ _ _ _ _ _ h) sup0_ne sup0_inj (Nat.le_refl _) (glob_at hg hw) rfl fun i x hx => by
  match i with
  | 0 => simp at hx; subst hx; exact ⟨v, rfl, hv.here⟩
  | i + 1 => simp at hx
theorem out_s {N : Nat} {s : Sup} {κ' : Ctx} {v x : Value} (O : Out fid (ctxN N w) [] s κ' ⟨.w (.d (.s x)), [], []⟩ v) : v = x := by
 have h : Rel κ'.w κ'.Im κ'.ζ v (.s x) := O.v; cases h; rfl
theorem out_2 {N : Nat} {s : Sup} {κ' : Ctx} {v x : Value} {d : D} (O : Out fid (ctxN N w) [] s κ' ⟨.tup [(false, [.d d]), (false, [.d (.s x)])], [], []⟩ v) : ∃ r0, v = .tuple #[r0, x] ∧ Rel κ'.w κ'.Im κ'.ζ r0 d := by
 obtain ⟨arr, rfl, hs, hr⟩ := O.v; obtain ⟨a, ha, h1⟩ := hr 0 _ rfl; obtain ⟨b, hb, h2⟩ := hr 1 _ rfl; have e2 : b = x := by
  have h : Rel κ'.w κ'.Im κ'.ζ b (.s x) := h2; cases h; rfl
 subst e2; refine ⟨a, ?_, h1⟩
 have : arr = #[a, b] := by
  apply Array.ext
  · simpa using hs
  · intro i h1 h2
    have : i < 2 := by simpa using h2
    match i with
    | 0 => rw [Array.getElem?_eq_getElem h1] at ha; simpa using ha
    | 1 => rw [Array.getElem?_eq_getElem h1] at hb; simpa using hb
 rw [this]
theorem rd_of {N : Nat} {s : Sup} {κ' : Ctx} {r : Res} {u v : Value} {d : D} (O : Out fid (ctxN N w) [] s κ' r u) (h : Rel κ'.w κ'.Im κ'.ζ v d) (e : d.er = d) : Rd κ'.w.heap.size κ'.w v d := by
 have := (Rel.top h).size.er (ζ' := fun _ => none); rw [e] at this; exact ⟨Nat.le_refl _, this⟩
theorem sound_arms (E : Env P fid cid) (hg : Glob GT (ctxN w0.heap.size w0)) {l : List Arm} (hl : armsWt l ≤ 2 ^ 21) {a : Value} (ha : Rd w0.heap.size w0 a (.l 0 (armRows l))) : Sound P fid w0 a (armRows l) 244 245 247 255 where
 to := fun w hw => by
  obtain ⟨t, R, h⟩ := mk_arms (armsWt l) l (Nat.le_refl _) (by omega) _ (Nat.le_refl _); obtain ⟨h1, h2, h3⟩ := h sup0; refine (E.calls hg hw h1 (ha.tou hw fun _ h => h)).mono ?_
  rintro v w' ⟨κ', rfl, O⟩; exact ⟨κ'.ζ, _, _, out_own sup0_ne O (h3 sup0_inj), h2⟩
 eq := fun N M u v w hw hu hv => by
  have h := same_arms (armsWt l) l (Nat.le_refl _) (by omega) _ (Nat.le_refl _) sup0; refine (E.call2 hg hw h hu hv).mono ?_
  rintro r w' ⟨κ', rfl, O⟩; exact ⟨out_s O, out_tou O⟩
 mark := fun R hR => mark_arms E (armsWt l) (Nat.le_refl _) (by omega) hR
theorem glob_in {κ : Ctx} {bs : List Box} {s : Sup} (hI : In fid GT κ bs s) (hG : ∀ g row, GT g = some row → erL row = row) : Glob GT (ctxN κ.w.heap.size κ.w) := by
 intro g row hg; obtain ⟨h1, h2⟩ := hI.glob g row hg; refine ⟨h1, fun j x hj => ?_⟩
 obtain ⟨a, y, hy, q⟩ := h2 j x hj; refine ⟨h1, y, hy, ?_⟩
 have e : x.er = x := by
  have h := hG g row hg; have h3 : (erL row)[j]? = some x.er := by rw [erL_get, hj]; rfl
  rw [h, hj] at h3; exact (Option.some.inj h3).symm
 have := Rel.er (ζ' := fun _ => none) (Rel.size (Rel.top q)); rw [e] at this; exact this
theorem rd_in {κ : Ctx} {v : Value} {d : D} (h : VRel fid κ v (.w (.d d))) (e : d.er = d) : Rd κ.w.heap.size κ.w v d := by
 have h' : Rel κ.w κ.Im κ.ζ v d := h; have := Rel.er (ζ' := fun _ => none) (Rel.size (Rel.top h')); rw [e] at this; exact ⟨Nat.le_refl _, this⟩
theorem gives_ins (E : Env P fid cid) (hg : Glob GT (ctxN w0.heap.size w0)) {L : List Ins} {m : Nat} (ha : ∀ x ∈ L, x.e.as.length ≤ m) (hm : m < 2 ^ 30) (hL : L.length < 2 ^ 30) :
 (∀ N M u v w, OnW w0 w → Rd N w u (.l 0 (insRows L)) → Rd M w v (.l 0 (insRows L)) → MC P fid 275 [u, v] w fun r w' => r = .bool true ∧ Tou Old w w') ∧
 (∀ R, erR R = insRows L → MarkOK P fid 276 R) ∧ ∀ R, erR R = insRows L → HeldOK P fid 277 R := by
 refine ⟨fun N M u v w hw hu hv => ?_, fun R hR => mark_ins E hR (fun x hx => by have := ha x hx; omega) (by omega), fun R hR => held_ins E hR (fun x hx => by have := ha x hx; omega) (by omega)⟩
 refine (E.call2 hg hw (same_list (n := L.length + m + 8) L m ha hm (Nat.le_refl _) (by omega) sup0) hu hv).mono ?_
 rintro r w' ⟨κ', rfl, O⟩; exact ⟨out_s O, out_tou O⟩
theorem sz_call (E : Env P fid cid) (hg : Glob GT (ctxN w0.heap.size w0)) {l : List Arm} (hf : dFits (.l 0 (armRows l))) {a : Value} (ha : Rd w0.heap.size w0 a (.l 0 (armRows l))) :
 MC P fid 244 [a, .int .i64 1048576] w0 fun v w' => Tou Old w0 w' ∧ ∃ k : Int, v = .int .i64 k ∧ (0 ≤ k → armsWt l ≤ 2 ^ 21) := by
 have h := sz_arms (armsWt l) l (Nat.le_refl _) hf _ (Nat.le_refl _) 1048576 (by omega) sup0; refine (E.call hg (Tou.refl _ _) h rfl (vs := [a, .int .i64 1048576]) fun i x hx => ?_).mono ?_
 · match i with
   | 0 => simp at hx; subst hx; exact ⟨a, rfl, ha.here⟩
   | 1 => simp at hx; subst hx; exact ⟨_, rfl, Rel.s _ rfl⟩
   | i + 2 => simp at hx
 · rintro v w' ⟨κ', rfl, O⟩
   refine ⟨out_tou O, _, out_s O, fun hk => ?_⟩
   by_cases hle : armsD l ≤ 1048576
   · have hW := arms_W l
     simp only [armsD] at hle; omega
   · rw [if_neg hle] at hk; omega
theorem law_WayDown (E : Env P fid cid) (hG : ∀ g row, GT g = some row → erL row = row) {l : List Arm} (hf : dFits (.l 0 (armRows l))) : CallOK P fid GT 262 [.w (ksW l)] [] sup0 ⟨sV (.bool true), [], []⟩ := by
 obtain ⟨fn, hfn, hF⟩ := E.ft 262 ⟨96, [.tmp 2], lawB 244 245 278 271 275 247 255 276 277⟩ rfl; refine law_ok (fun κ vs hI hl hr => ?_) (enters_of hfn hF)
 obtain ⟨v, hv, hrel⟩ := hr 0 _ rfl; obtain rfl : vs = [v] := by
  match vs, hl, hv with
  | [x], _, hv => simp at hv; rw [hv]
 have hg := glob_in hI hG; have ha := rd_in hrel (by simp only [D.er, er_armRows]); refine MC_of E.cidOk hfn hF (by simp) 1 ?_
 by_cases hbig : armsWt l ≤ 2 ^ 21
 · have hlp := len_plainOf (normOf l) (normOf_right l)
   have hsz := armsSize_le (normOf l); have hwt := normOf_wt l; have hargs : ∀ x ∈ downList l, x.e.as.length ≤ 2 ^ 21 := fun x hx => by
    unfold downList at hx; split at hx
    · have := plain_args (normOf l) x hx; omega
    · cases hx
   have hlen : (downList l).length ≤ 2 ^ 22 := by
    unfold downList; split
    · omega
    · simp
   have hcA := ct_arms l; have hcR := ct_ins (2 ^ 21) (downList l) hargs; have hmul : (downList l).length * (2 + 3 * 2 ^ 21) ≤ 2 ^ 22 * (2 + 3 * 2 ^ 21) := Nat.mul_le_mul_right _ hlen; obtain ⟨g1, g2, g3⟩ := gives_ins E hg hargs (by omega) (by omega); refine lawB_ok (rowsA := armRows l) (rowsR := insRows (downList l)) (c := downCode l) rfl (by omega) (by omega) ((sz_call E hg hf ha).mono ?_) (fun τ w h2 hw => ⟨.inl rfl, h2, hw⟩)
   rintro r w' ⟨h1, k, rfl, hk⟩; refine ⟨h1, k, rfl, fun h0 => ⟨sound_arms E hg (hk h0) ha, ?_, ?_, g1, g2, g3⟩⟩
   · intro N v w hw hv
     refine (E.call1 hg hw (run_WayDownS l (by omega) _ (Nat.le_refl _) sup0) hv).mono ?_
     rintro r w' ⟨κ', rfl, O⟩; obtain ⟨r0, rfl, h⟩ := out_2 O; exact ⟨r0, rfl, out_tou O, rd_of O h (by simp only [D.er, er_insRows])⟩
   · intro N v w hw hv
     obtain ⟨t, R, h1, h2, h3⟩ := ps_WayDown l (by omega) _ (Nat.le_refl _) sup0; refine (E.calls hg hw h1 hv).mono ?_
     rintro r w' ⟨κ', rfl, O⟩; obtain ⟨r0, rfl, h⟩ := out_2 O; exact ⟨r0, rfl, κ'.ζ, _, _, rel_own sup0_ne O h (h3 sup0_inj), h2⟩
 · refine lawB_ok (rowsA := []) (rowsR := []) (c := 0) rfl (by simp [ctR]) (by simp [ctR]) ((sz_call E hg hf ha).mono ?_) (fun τ w h2 hw => ⟨.inl rfl, h2, hw⟩)
   rintro r w' ⟨h1, k, rfl, hk⟩; exact ⟨h1, k, rfl, fun h0 => absurd (hk h0) hbig⟩
end
end Go.VM

/- The value machine: a package-level variable that holds a net without kids. Conditions: none. -/
namespace Go.VM
open Go.ChangeShapes Go.WideShapes Go.ChangeAt Go.RowKit
set_option linter.unusedVariables false
def netT (P : Program) (t : TypeId) : Bool :=
 P.cellsOf t == 4 && match P.underlying t with
 | some (.struct fs) => match fs.toList with
  | [f0, f1, f2] => f0.offset == 0 && f1.offset == 1 && f2.offset == 3 && P.cellsOf f0.type == 1 && P.cellsOf f1.type == 2 && P.cellsOf f2.type == 1 &&
   (match P.underlying f0.type with | some (.int .i64) => true | _ => false) && (match P.underlying f2.type with | some (.slice _) => true | _ => false) &&
   (match P.underlying f1.type with
    | some (.struct es) => match es.toList with
     | [e0, e1] => e0.offset == 0 && e1.offset == 1 && P.cellsOf e0.type == 1 && P.cellsOf e1.type == 1 && (match P.underlying e0.type with | some (.int .i64) => true | _ => false) && (match P.underlying e1.type with | some (.slice _) => true | _ => false)
     | _ => false
    | _ => false)
  | _ => false
 | _ => false
theorem intK {P : Program} {t : TypeId} (h : (match P.underlying t with | some (.int .i64) => true | _ => false) = true) : P.underlying t = some (.int .i64) := by
 split at h
 · assumption
 · cases h
theorem sliceK {P : Program} {t : TypeId} (h : (match P.underlying t with | some (.slice _) => true | _ => false) = true) : ∃ e, P.underlying t = some (.slice e) := by
 split at h
 · rename_i e he; exact ⟨e, he⟩
 · cases h
theorem list4' {α : Type} {l : List α} (h : l.length = 4) : ∃ a b c d, l = [a, b, c, d] := by
 match l, h with
 | [a, b, c, d], _ => exact ⟨a, b, c, d, rfl⟩
theorem net_trod {P : Program} {W : World} {t : TypeId} {fuel : Nat} {cs : List Value} {k op : Int} {p : List MemPlace} (ht : netT P t = true)
 (h : DataW.trod (fun _ => ()) P W 0 (fun _ => true) false fuel t cs = some (.agg [.lit (.int .i64 k), .agg [.lit (.int .i64 op), .nil], .nil], p)) :
 cs = [.int .i64 k, .int .i64 op, .slice none 0 0, .slice none 0 0] := by
 simp only [netT, Bool.and_eq_true, beq_iff_eq] at ht; obtain ⟨hc, ht⟩ := ht; split at ht
 · rename_i fs hfs
   split at ht
   · rename_i f0 f1 f2 hl
     have hfa : fs = #[f0, f1, f2] := by cases fs; simp only at hl; rw [hl]
     subst hfa; simp only [Bool.and_eq_true, beq_iff_eq] at ht; obtain ⟨⟨⟨⟨⟨⟨⟨⟨o0, o1⟩, o2⟩, c0⟩, c1⟩, c2⟩, k0⟩, k2⟩, k1⟩ := ht; obtain ⟨xs, n, _, hx, hlen, hxl, hf⟩ := DataW.trod_struct hfs h; rw [hc] at hlen; obtain ⟨v0, v1, v2, v3, rfl⟩ := list4' hlen
     match xs, hxl with
     | [x0, x1, x2], _ =>
     simp only [Prod.mk.injEq, DataW.agg.injEq, List.map_cons, List.map_nil, List.cons.injEq, and_true] at hx; obtain ⟨⟨y0, y1, y2⟩, _⟩ := hx; have g0 := hf 0 f0 rfl; have g1 := hf 1 f1 rfl; have g2 := hf 2 f2 rfl; rw [o0, c0] at g0; rw [o1, c1] at g1; rw [o2, c2] at g2; simp only [List.drop_zero, List.drop_succ_cons, List.take_succ_cons, List.take_zero, List.getElem?_cons_zero, List.getElem?_cons_succ] at g0 g1 g2; obtain ⟨m0, e0, q0, _⟩ := DataW.trod_int (intK k0) g0; obtain ⟨s2, hs2⟩ := sliceK k2; have r2 : v3 = .slice none 0 0 := by
      rcases DataW.trod_slice hs2 g2 with ⟨e2, _⟩ | ⟨a, len, cap, elems, rest, n', _, _, q, _⟩
      · simpa using e2
      · rw [q] at y2; cases y2
     split at k1
     · rename_i es hes
       split at k1
       · rename_i f3 f4 hl2
         have hea : es = #[f3, f4] := by cases es; simp only at hl2; rw [hl2]
         subst hea; simp only [Bool.and_eq_true, beq_iff_eq] at k1; obtain ⟨⟨⟨⟨⟨o3, o4⟩, c3⟩, c4⟩, k3⟩, k4⟩ := k1; obtain ⟨ys, n2, _, hy, _, hyl, hg⟩ := DataW.trod_struct hes g1
         match ys, hyl with
         | [z0, z1], _ =>
         rw [hy] at y1; simp only [DataW.agg.injEq, List.map_cons, List.map_nil, List.cons.injEq, and_true] at y1; obtain ⟨w0, w1⟩ := y1; have g3 := hg 0 f3 rfl; have g4 := hg 1 f4 rfl; rw [o3, c3] at g3; rw [o4, c4] at g4; simp only [List.drop_zero, List.drop_succ_cons, List.take_succ_cons, List.take_zero, List.getElem?_cons_zero, List.getElem?_cons_succ] at g3 g4; obtain ⟨m3, e3, q3, _⟩ := DataW.trod_int (intK k3) g3; obtain ⟨s4, hs4⟩ := sliceK k4; have r4 : v2 = .slice none 0 0 := by
          rcases DataW.trod_slice hs4 g4 with ⟨e4, _⟩ | ⟨a, len, cap, elems, rest, n', _, _, q, _⟩
          · simpa using e4
          · rw [q] at w1; cases w1
         rw [q0] at y0; rw [q3] at w0; simp only [DataW.lit.injEq, Lit.int.injEq, true_and] at y0 w0; simp only [List.cons.injEq, and_true] at e0 e3; rw [e0, e3, r2, r4, y0, w0]
       · cases k1
     · cases k1
   · cases ht
 · cases ht
theorem laid_net {P : Program} {W : World} : ∀ {l : List (String × DataW Unit)} {ps : List MemPlace}, DataW.LaidVars P W l ps → ∀ {n : String} {k op : Int} {g : Nat} {t : TypeId},
 (n, DataW.agg [.lit (.int .i64 k), .agg [.lit (.int .i64 op), .nil], .nil]) ∈ l → P.globalNamed n = some g → (P.globals[g]?).map (·.type) = some t → netT P t = true →
 g < (ctx0 W).w.heap.size ∧ ∀ (j : Nat) (x : D), ([.s (.int .i64 k), .s (.int .i64 op), .l 0 [], .l 0 []] : List D)[j]? = some x → (ctx0 W).Im g j ∧ ∃ y, (ctx0 W).w.cell? ⟨g, j, none⟩ = some y ∧ (ctx0 W).rel y x
 | [], ps, h, n, k, op, g, t, hm, _, _, _ => by cases hm
 | (n', d') :: r, ps, h, n, k, op, g, t, hm, hg, ht, he => by
  obtain ⟨g', t', cs, fuel, p, q, k1, k2, k3, k4, k5, _⟩ := h; rcases List.mem_cons.1 hm with e0 | hm
  · cases e0
    obtain rfl := Option.some.inj (k1.symm.trans hg); obtain rfl := Option.some.inj (k2.symm.trans ht); have hcs := net_trod he k4; have hc := World.var?_cell k1 k3; have hca : cs = #[.int .i64 k, .int .i64 op, .slice none 0 0, .slice none 0 0] := by cases cs; simpa using hcs
    subst hca; have hsz : g' < W.heap.size := by
     have hc0 := hc 0; rcases Nat.lt_or_ge g' W.heap.size with h' | h'
     · exact h'
     · simp [World.cell?, Array.getElem?_eq_none h'] at hc0
    refine ⟨hsz, fun j x hx => ?_⟩
    match j with
    | 0 => simp at hx; subst hx; exact ⟨hsz, _, (hc 0).trans rfl, .s _ rfl⟩
    | 1 => simp at hx; subst hx; exact ⟨hsz, _, (hc 1).trans rfl, .s _ rfl⟩
    | 2 => simp at hx; subst hx; exact ⟨hsz, _, (hc 2).trans rfl, .nil 0⟩
    | 3 => simp at hx; subst hx; exact ⟨hsz, _, (hc 3).trans rfl, .nil 0⟩
    | j + 4 => simp at hx
  · exact laid_net k5 hm hg ht he
end Go.VM
