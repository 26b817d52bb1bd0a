/- How high a list's stacks are. Conditions: none. -/
import Derived.Test.YtfpkfcfiihfopaaGreatDoorVP5
import Derived.Test.YtfpkfcfiihfopaaGreatDoorVQ10
import Derived.Test.YtfpkfcfiihfopaaGreatDoorVP10
import Derived.Test.YtfpkfcfiihfopaaGreatDoorVM29

namespace Go.VM
set_option linter.unusedSimpArgs false
set_option linter.unusedVariables false
set_option maxHeartbeats 16000000
abbrev hX (s : Int × Int) : V := .agg [iW s.1, iW s.2]
def Net.nil : Net := .mk 0 0 [] []
def KidsAt (H : Nat → Box) (g p q : Nat) (k : Int) (L : List Net) : Prop := ∃ w, H p = .cells [iW k, iW 0, .nil, w] ∧ ((L = [] ∧ w = .nil) ∨ ∃ b, b ≠ p ∧ b ≠ q ∧ b ≠ 128 ∧ b < g ∧ w = .own b 0 L.length none ∧ H b = .row none 4 (netRows L) 0)
theorem KidsAt.mk {H : Nat → Box} {g p q : Nat} {k : Int} {L : List Net} (b n : Nat) (h1 : H p = .cells [iW k, iW 0, .nil, .own b 0 n none]) (h2 : b ≠ p) (h3 : b ≠ q) (h3' : b ≠ 128) (h4 : b < g) (hn : n = L.length) (h5 : H b = .row none 4 (netRows L) 0) : KidsAt H g p q k L :=
 ⟨_, h1, .inr ⟨b, h2, h3, h3', h4, by rw [hn], h5⟩⟩
def StkAt (st : St) (t p q : Nat) (s : List Net) : Prop := (s = [] ∧ st.τ t = .w .nil) ∨ ∃ b c R, b ≠ 0 ∧ b ≠ p ∧ b ≠ q ∧ b < st.g ∧ st.τ t = .w (.own b 0 s.length c) ∧ st.H b = .row none 4 R 0 ∧ R.take s.length = netRows s.reverse
theorem StkAt.keep {st st' : St} {t p q : Nat} {s : List Net} (h : StkAt st t p q s) (e : st'.τ t = st.τ t) (eH : ∀ b, b < st.g → b ≠ 0 → b ≠ p → b ≠ q → st'.H b = st.H b) (hg : st.g ≤ st'.g) : StkAt st' t p q s := by
 rcases h with ⟨h1, h2⟩ | ⟨b, c, R, h1, h2, h3, h4, h5, h6, h7⟩
 · exact .inl ⟨h1, e.trans h2⟩
 · exact .inr ⟨b, c, R, h1, h2, h3, by omega, e.trans h5, (eH b h4 h1 h2 h3).trans h6, h7⟩
end Go.VM

/- Lists of instructions as arguments of the laws of exactness. Conditions: none. -/
namespace Go.VM
set_option linter.unusedVariables false
set_option linter.unusedSimpArgs false
set_option maxHeartbeats 4000000
section
variable {P : Program} {fid : Nat → FuncId} {cid : FuncId → Nat} {w0 w : World}
theorem gives_arms (E : Env P fid cid) (hg : Glob GT (ctxN w0.heap.size w0)) {L : List Arm} (hL : armsWt L < 2 ^ 28) :
 (∀ N M u v w, OnW w0 w → Rd N w u (.l 0 (armRows L)) → Rd M w v (.l 0 (armRows L)) → MC P fid 247 [u, v] w fun r w' => r = .bool true ∧ Tou Old w w') ∧
 (∀ R, erR R = armRows L → MarkOK P fid 255 R) ∧ ∀ R, erR R = armRows L → HeldOK P fid 256 R := by
 refine ⟨fun N M u v w hw hu hv => ?_, fun R hR => mark_arms E (armsWt L) (Nat.le_refl _) (by omega) hR, fun R hR => held_arms E (armsWt L) (Nat.le_refl _) (by omega) hR⟩
 refine (E.call2 hg hw (same_arms (armsWt L) L (Nat.le_refl _) (by omega) _ (Nat.le_refl _) sup0) hu hv).mono ?_
 rintro r w' ⟨κ', rfl, O⟩; exact ⟨out_s O, out_tou O⟩
end
end Go.VM

/- NormMake, with stamps, and as the document has it. Conditions: none. -/
namespace Go.VM
set_option linter.unusedSimpArgs false
set_option linter.unusedVariables false
set_option maxHeartbeats 8000000
theorem run_NormMakeS2 (l : List Arm) (hm : armsWt l < 2 ^ 25) (n : Nat) (hn : 4 * armsWt l + 300 ≤ n) (s : Sup) :
 go n 208 [.w (ksW l)] [] s = some ⟨.w (ksW (if treeCode l = 0 then armsNorm l else [])), [], []⟩ := by
 obtain ⟨n, rfl⟩ : ∃ k, n = k + 1 := ⟨n - 1, by omega⟩; exact run_NormMakeS_of l (by omega) (by omega) (fun hc x hx s => run_l9Arm (armsWt l) x (armsWt_mem hx) (by omega) true (treeCode_right hc x hx) n (by omega) s) s
theorem ps_NormMake (l : List Arm) (hm : armsWt l < 2 ^ 25) (n : Nat) (hn : 5 * armsWt l + 200 ≤ n) : MakesL n 108 [.w (ksW l)] (armRows (if treeCode l = 0 then armsNorm l else [])) := by
 obtain ⟨n, rfl⟩ : ∃ k, n = k + 1 := ⟨n - 1, by omega⟩; have w1 := run_accepted l (by omega) n (by omega); have g1 : goS n 123 = go n 123 := gos_go rfl; refine .of fun s => ?_
 by_cases h : treeCode l = 0
 · have w0 := run_normed l (by omega) (treeCode_right h) n (by omega)
   have g2 : goS n 124 = go n 124 := gos_go rfl; have hwt := (rungs_ok l (treeCode_right h)).2.2; obtain ⟨t, R, w2⟩ := cp_arms (armsWt (armsNorm l)) (armsNorm l) (Nat.le_refl _) (by omega) n (by omega); have v2 := fun s => (w2 s).1
   rw [if_pos h]; generalize armsNorm l = y at w0 w2 v2; refine ⟨t fun k => subS (restS (restS s)) 2 (2 * k + 1), R fun k => subS (restS (restS s)) 2 (2 * k + 1), ?_, (w2 _).2.1, fun hi => by simpa using (((past_0 hi).weak.weak).call 2 (w2 _).2.2).fr⟩
   simp [gos_of FT_108 rfl, F108, g1, g2, w1, h, w0, v2]
 · rw [if_neg h]
   refine ⟨0, [], ?_, by simp [armRows, erR], fun _ => by simp [D.sts, Fr]⟩
   simp [gos_of FT_108 rfl, F108, g1, w1, h]
end Go.VM

/- The law of exactness for NormMake. Conditions: none. -/
namespace Go.VM
set_option linter.unusedVariables false
set_option linter.unusedSimpArgs false
set_option maxHeartbeats 4000000
section
variable {P : Program} {fid : Nat → FuncId} {cid : FuncId → Nat}
theorem law_NormMake (E : Env P fid cid) (hG : ∀ g row, GT g = some row → erL row = row) {c0 : Nat} (hlaw : FT c0 = some ⟨69, [.tmp 2], lawA 244 245 208 108 247 247 255 255 256⟩) {l : List Arm} (hf : dFits (.l 0 (armRows l))) : CallOK P fid GT c0 [.w (ksW l)] [] sup0 ⟨sV (.bool true), [], []⟩ := by
 obtain ⟨fn, hfn, hF⟩ := E.ft c0 _ hlaw; refine law_ok (fun κ vs hI hl hr => ?_) (enters_of hfn hF)
 obtain ⟨v, hv, hrel⟩ := hr 0 _ rfl; obtain rfl : vs = [v] := by
  match vs, hl, hv with
  | [x], _, hv => simp at hv; rw [hv]
 have hg := glob_in hI hG; have ha := rd_in hrel (by simp only [D.er, er_armRows]); refine MC_of E.cidOk hfn hF (by simp) 1 ?_
 by_cases hbig : armsWt l ≤ 2 ^ 21
 · have hM : armsWt (if treeCode l = 0 then armsNorm l else []) ≤ armsWt l := by
    split
    · rename_i h; exact (rungs_ok l (treeCode_right h)).2.2
    · simp [armsWt]
   have hcA := ct_arms l; have hcR := ct_arms (if treeCode l = 0 then armsNorm l else []); obtain ⟨g1, g2, g3⟩ := gives_arms E hg (L := if treeCode l = 0 then armsNorm l else []) (by omega); refine lawA_ok (rowsA := armRows l) (rowsR := armRows (if treeCode l = 0 then armsNorm l else [])) rfl (by omega) (by omega) ((sz_call E hg hf ha).mono ?_) (fun τ w h2 hw => ⟨.inl rfl, h2, hw⟩)
   rintro r w' ⟨h1, k, rfl, hk⟩; refine ⟨h1, k, rfl, fun h0 => ⟨sound_arms E hg (hk h0) ha, ?_, ?_, g1, g2, g3⟩⟩
   · intro N v w hw hv
     refine (E.call1 hg hw (run_NormMakeS2 l (by omega) _ (Nat.le_refl _) sup0) hv).mono ?_
     rintro r w' ⟨κ', rfl, O⟩; exact ⟨out_tou O, rd_of O O.v (by simp only [D.er, er_armRows])⟩
   · intro N v w hw hv
     obtain ⟨t, R, h⟩ := ps_NormMake l (by omega) _ (Nat.le_refl _); obtain ⟨h1, h2, h3⟩ := h sup0; refine (E.calls hg hw h1 hv).mono ?_
     rintro r w' ⟨κ', rfl, O⟩; exact ⟨κ'.ζ, _, _, out_own sup0_ne O (h3 sup0_inj), h2⟩
 · refine lawA_ok (rowsA := []) (rowsR := []) rfl (by simp [ctR]) (by simp [ctR]) ((sz_call E hg hf ha).mono ?_) (fun τ w h2 hw => ⟨.inl rfl, h2, hw⟩)
   rintro r w' ⟨h1, k, rfl, hk⟩; exact ⟨h1, k, rfl, fun h0 => absurd (hk h0) hbig⟩
end
end Go.VM

/- The value machine: a package-level variable that holds a net without kids. Conditions: none. -/
namespace Go.VM
open Go.ChangeShapes Go.WideShapes Go.ChangeAt Go.RowKit
set_option linter.unusedVariables false
def netT (P : Program) (t : TypeId) : Bool :=
 P.cellsOf t == 4 && match P.underlying t with
 | some (.struct fs) => match fs.toList with
  | [f0, f1, f2] => f0.offset == 0 && f1.offset == 1 && f2.offset == 3 && P.cellsOf f0.type == 1 && P.cellsOf f1.type == 2 && P.cellsOf f2.type == 1 &&
   (match P.underlying f0.type with | some (.int .i64) => true | _ => false) && (match P.underlying f2.type with | some (.slice _) => true | _ => false) &&
   (match P.underlying f1.type with
    | some (.struct es) => match es.toList with
     | [e0, e1] => e0.offset == 0 && e1.offset == 1 && P.cellsOf e0.type == 1 && P.cellsOf e1.type == 1 && (match P.underlying e0.type with | some (.int .i64) => true | _ => false) && (match P.underlying e1.type with | some (.slice _) => true | _ => false)
     | _ => false
    | _ => false)
  | _ => false
 | _ => false
theorem intK {P : Program} {t : TypeId} (h : (match P.underlying t with | some (.int .i64) => true | _ => false) = true) : P.underlying t = some (.int .i64) := by
 split at h
 · assumption
 · cases h
theorem sliceK {P : Program} {t : TypeId} (h : (match P.underlying t with | some (.slice _) => true | _ => false) = true) : ∃ e, P.underlying t = some (.slice e) := by
 split at h
 · rename_i e he; exact ⟨e, he⟩
 · cases h
theorem list4' {α : Type} {l : List α} (h : l.length = 4) : ∃ a b c d, l = [a, b, c, d] := by
 match l, h with
 | [a, b, c, d], _ => exact ⟨a, b, c, d, rfl⟩
theorem net_trod {P : Program} {W : World} {t : TypeId} {fuel : Nat} {cs : List Value} {k op : Int} {p : List MemPlace} (ht : netT P t = true)
 (h : DataW.trod (fun _ => ()) P W 0 (fun _ => true) false fuel t cs = some (.agg [.lit (.int .i64 k), .agg [.lit (.int .i64 op), .nil], .nil], p)) :
 cs = [.int .i64 k, .int .i64 op, .slice none 0 0, .slice none 0 0] := by
 simp only [netT, Bool.and_eq_true, beq_iff_eq] at ht; obtain ⟨hc, ht⟩ := ht; split at ht
 · rename_i fs hfs
   split at ht
   · rename_i f0 f1 f2 hl
     have hfa : fs = #[f0, f1, f2] := by cases fs; simp only at hl; rw [hl]
     subst hfa; simp only [Bool.and_eq_true, beq_iff_eq] at ht; obtain ⟨⟨⟨⟨⟨⟨⟨⟨o0, o1⟩, o2⟩, c0⟩, c1⟩, c2⟩, k0⟩, k2⟩, k1⟩ := ht; obtain ⟨xs, n, _, hx, hlen, hxl, hf⟩ := DataW.trod_struct hfs h; rw [hc] at hlen; obtain ⟨v0, v1, v2, v3, rfl⟩ := list4' hlen
     match xs, hxl with
     | [x0, x1, x2], _ =>
     simp only [Prod.mk.injEq, DataW.agg.injEq, List.map_cons, List.map_nil, List.cons.injEq, and_true] at hx; obtain ⟨⟨y0, y1, y2⟩, _⟩ := hx; have g0 := hf 0 f0 rfl; have g1 := hf 1 f1 rfl; have g2 := hf 2 f2 rfl; rw [o0, c0] at g0; rw [o1, c1] at g1; rw [o2, c2] at g2; simp only [List.drop_zero, List.drop_succ_cons, List.take_succ_cons, List.take_zero, List.getElem?_cons_zero, List.getElem?_cons_succ] at g0 g1 g2; obtain ⟨m0, e0, q0, _⟩ := DataW.trod_int (intK k0) g0; obtain ⟨s2, hs2⟩ := sliceK k2; have r2 : v3 = .slice none 0 0 := by
      rcases DataW.trod_slice hs2 g2 with ⟨e2, _⟩ | ⟨a, len, cap, elems, rest, n', _, _, q, _⟩
      · simpa using e2
      · rw [q] at y2; cases y2
     split at k1
     · rename_i es hes
       split at k1
       · rename_i f3 f4 hl2
         have hea : es = #[f3, f4] := by cases es; simp only at hl2; rw [hl2]
         subst hea; simp only [Bool.and_eq_true, beq_iff_eq] at k1; obtain ⟨⟨⟨⟨⟨o3, o4⟩, c3⟩, c4⟩, k3⟩, k4⟩ := k1; obtain ⟨ys, n2, _, hy, _, hyl, hg⟩ := DataW.trod_struct hes g1
         match ys, hyl with
         | [z0, z1], _ =>
         rw [hy] at y1; simp only [DataW.agg.injEq, List.map_cons, List.map_nil, List.cons.injEq, and_true] at y1; obtain ⟨w0, w1⟩ := y1; have g3 := hg 0 f3 rfl; have g4 := hg 1 f4 rfl; rw [o3, c3] at g3; rw [o4, c4] at g4; simp only [List.drop_zero, List.drop_succ_cons, List.take_succ_cons, List.take_zero, List.getElem?_cons_zero, List.getElem?_cons_succ] at g3 g4; obtain ⟨m3, e3, q3, _⟩ := DataW.trod_int (intK k3) g3; obtain ⟨s4, hs4⟩ := sliceK k4; have r4 : v2 = .slice none 0 0 := by
          rcases DataW.trod_slice hs4 g4 with ⟨e4, _⟩ | ⟨a, len, cap, elems, rest, n', _, _, q, _⟩
          · simpa using e4
          · rw [q] at w1; cases w1
         rw [q0] at y0; rw [q3] at w0; simp only [DataW.lit.injEq, Lit.int.injEq, true_and] at y0 w0; simp only [List.cons.injEq, and_true] at e0 e3; rw [e0, e3, r2, r4, y0, w0]
       · cases k1
     · cases k1
   · cases ht
 · cases ht
theorem laid_net {P : Program} {W : World} : ∀ {l : List (String × DataW Unit)} {ps : List MemPlace}, DataW.LaidVars P W l ps → ∀ {n : String} {k op : Int} {g : Nat} {t : TypeId},
 (n, DataW.agg [.lit (.int .i64 k), .agg [.lit (.int .i64 op), .nil], .nil]) ∈ l → P.globalNamed n = some g → (P.globals[g]?).map (·.type) = some t → netT P t = true →
 g < (ctx0 W).w.heap.size ∧ ∀ (j : Nat) (x : D), ([.s (.int .i64 k), .s (.int .i64 op), .l 0 [], .l 0 []] : List D)[j]? = some x → (ctx0 W).Im g j ∧ ∃ y, (ctx0 W).w.cell? ⟨g, j, none⟩ = some y ∧ (ctx0 W).rel y x
 | [], ps, h, n, k, op, g, t, hm, _, _, _ => by cases hm
 | (n', d') :: r, ps, h, n, k, op, g, t, hm, hg, ht, he => by
  obtain ⟨g', t', cs, fuel, p, q, k1, k2, k3, k4, k5, _⟩ := h; rcases List.mem_cons.1 hm with e0 | hm
  · cases e0
    obtain rfl := Option.some.inj (k1.symm.trans hg); obtain rfl := Option.some.inj (k2.symm.trans ht); have hcs := net_trod he k4; have hc := World.var?_cell k1 k3; have hca : cs = #[.int .i64 k, .int .i64 op, .slice none 0 0, .slice none 0 0] := by cases cs; simpa using hcs
    subst hca; have hsz : g' < W.heap.size := by
     have hc0 := hc 0; rcases Nat.lt_or_ge g' W.heap.size with h' | h'
     · exact h'
     · simp [World.cell?, Array.getElem?_eq_none h'] at hc0
    refine ⟨hsz, fun j x hx => ?_⟩
    match j with
    | 0 => simp at hx; subst hx; exact ⟨hsz, _, (hc 0).trans rfl, .s _ rfl⟩
    | 1 => simp at hx; subst hx; exact ⟨hsz, _, (hc 1).trans rfl, .s _ rfl⟩
    | 2 => simp at hx; subst hx; exact ⟨hsz, _, (hc 2).trans rfl, .nil 0⟩
    | 3 => simp at hx; subst hx; exact ⟨hsz, _, (hc 3).trans rfl, .nil 0⟩
    | j + 4 => simp at hx
  · exact laid_net k5 hm hg ht he
end Go.VM
