/- Draws: ladders. Conditions: none. -/
import Derived.Test.YtcjdokngpmnkjaaGreatDoorVS9
import Derived.Test.YtcjdokngpmnkjaaGreatDoorVS7
import Derived.Test.YtcjdokngpmnkjaaGreatDoorVY16
import Derived.Test.YtcjdokngpmnkjaaGreatDoorVM29

namespace Go.VM
set_option linter.unusedSimpArgs false
set_option linter.unusedVariables false
set_option maxHeartbeats 16000000

theorem draw_Spoil2 {b : List Int} (hb : RD b) (l : List Arm) (hl : armsWt l ≤ 20000) (n : Nat) (hn : 60001 ≤ n) (p : Nat) (hp : p < 2 ^ 30) :
    ∃ (l' : List Arm) (q : Nat), armsWt l' ≤ armsWt l + 2000 ∧ q ≤ p + 2 ^ 23 ∧ ∀ s, go n 152 [pV, .w (ksW l)] [rB b p] s = some ⟨.w (ksW l'), [rB b q], []⟩ := by
  obtain ⟨n, rfl⟩ : ∃ k, n = k + 1 := ⟨n - 1, by omega⟩
  obtain ⟨l', q, h1, h2, w⟩ := draw_SpoilL hb l hl n (by omega) p hp
  exact ⟨l', q, h1, h2, fun s => (go_sp FT_152 rfl rfl).trans (w s)⟩
theorem draw_LAny {b : List Int} (hb : RD b) (n : Nat) (hn : 70000 ≤ n) (p : Nat) (hp : p < 2 ^ 29) :
    ∃ (l : List Arm) (q : Nat), armsWt l ≤ 15000 ∧ q ≤ p + 2 ^ 24 ∧ ∀ s, go n 128 [pV] [rB b p] s = some ⟨.w (ksW l), [rB b q], []⟩ := by
  obtain ⟨n, rfl⟩ : ∃ k, n = k + 1 := ⟨n - 1, by omega⟩
  obtain ⟨l, q1, h1, h2, w1⟩ := draw_Ladder hb n (by omega) p (by omega)
  obtain ⟨v, q2, v1, v2, v3, w2⟩ := draw_pick hb 16 q1 (by omega) n (by omega)
  by_cases c : v = 0
  · obtain ⟨l', q3, k1, k2, w3⟩ := draw_Spoil2 hb l (by omega) n (by omega) q2 (by omega)
    refine ⟨l', q3, by omega, by omega, fun s => ?_⟩
    subst c
    simp [go_of FT_128 rfl, F128, w1, w2, w3]
  · refine ⟨l, q2, by omega, by omega, fun s => ?_⟩
    simp [go_of FT_128 rfl, F128, w1, w2, c]
end Go.VM

/- The law 'a ladder and its normal form compile to the same list', run: it answers true. Conditions: none. -/
namespace Go.VM
set_option linter.unusedSimpArgs false
set_option linter.unusedVariables false
set_option maxHeartbeats 16000000

theorem draw_DrawWayDown {b : List Int} (hl : b.length < 2 ^ 40) (hb : ∀ x ∈ b, 0 ≤ x ∧ x < 256) (n : Nat) (hn : 80000 ≤ n) : ∃ l : List Arm, armsWt l ≤ 15000 ∧ ∀ s, go n 270 [.w (bW 0 b)] [] s = some ⟨.w (ksW l), [], []⟩ := by
  obtain ⟨n, rfl⟩ : ∃ k, n = k + 1 := ⟨n - 1, by omega⟩
  obtain ⟨b2, hR, w0⟩ := draw_open hl hb n (by omega)
  obtain ⟨l, q, g1, g2, w1⟩ := draw_LAny hR n (by omega) 0 (by omega)
  have w1 : ∀ s, go n 128 [pV] [.cells [.d (.l 0 (byt b2)), .d (.s (.int .i64 0))]] s = some ⟨.w (ksW l), [rB b2 q], []⟩ := w1
  exact ⟨l, g1, fun s => by simp [go_of FT_270 rfl, F270, w0, w1]⟩
theorem normOf_self {l : List Arm} (h : treeCode l = 0) : normOf (normOf l) = normOf l := by
  have e : normOf l = armsNorm l := by unfold normOf; rw [if_pos h]
  obtain ⟨b1, b2, b3⟩ := rungs_ok l (treeCode_right h)
  have hs := rungs_self (armsNorm l) (fun a ha => (b1 a ha).1) (fun a ha => (b1 a ha).2)
  have hc := treeCode_norm h
  rw [e]
  unfold normOf
  rw [if_pos hc, hs]
theorem normOf_code {l : List Arm} (h : treeCode l = 0) : treeCode (normOf l) = 0 := by
  unfold normOf; rw [if_pos h]; exact treeCode_norm h
theorem downCode_norm {l : List Arm} (h : treeCode l = 0) : downCode (normOf l) = downCode l := by
  unfold downCode
  rw [normOf_code h, normOf_self h, h]
theorem downList_norm {l : List Arm} (h : treeCode l = 0) : downList (normOf l) = downList l := by
  unfold downList
  rw [downCode_norm h, normOf_self h]
theorem plain_ne {l : List Arm} (h : l ≠ []) : plainOf l ≠ [] := by
  cases l with
  | nil => exact absurd rfl h
  | cons a r => simp [plainOf, Arm.plain]
theorem downList_args (l : List Arm) : ∀ x ∈ downList l, x.e.as.length ≤ armsWt l := fun x hx => by
  unfold downList at hx
  split at hx
  · exact Nat.le_trans (plain_args _ x hx) (normOf_wt l)
  · cases hx
theorem downList_len (l : List Arm) : (downList l).length ≤ 2 * armsWt l := by
  unfold downList
  split
  · have := len_plainOf (normOf l) (normOf_right l)
    have := armsSize_le (normOf l)
    have := normOf_wt l
    omega
  · simp
theorem downCode_empty {l : List Arm} (h : treeCode l = 0) (hn : normOf l = []) : downCode l = 0 := by
  unfold downCode
  rw [h, hn]
  simp [bitsOf, forksOf]
theorem run_lawWayNorm (st : Nat) (l : List Int) (n : Nat) (hn : 150000 ≤ n) (L : List Arm) (hL : armsWt L ≤ 15000)
    (hd : ¬ 1048576 < l.length → ∀ s, go n 270 [.w (bW st l)] [] s = some ⟨.w (ksW L), [], []⟩) (s : Sup) :
    go (n + 1) 260 [.w (bW st l)] [] s = some ⟨bV true, [], []⟩ := by
  by_cases hl : 1048576 < l.length
  · have hli : ((1048576 : Int) < (l.length : Int)) = True := eq_true (by omega)
    simp [go_of FT_260 rfl, F260, hl, hli]
  have hli : ((1048576 : Int) < (l.length : Int)) = False := eq_false (by omega)
  have hd := hd hl
  obtain ⟨r, hr⟩ := Classical.skolem.1 fun s => run_TreeCheckS L (by omega) n (by omega) s
  have w1 := fun s => (hr s).2
  have w2 := run_normMakeS L (by omega) n (by omega)
  have w3 := run_WayDown L (by omega) n (by omega)
  by_cases hc : treeCode L = 0
  · have hw := normOf_wt L
    have w4 := run_WayDown (normOf L) (by omega) n (by omega)
    rw [downCode_norm hc, downList_norm hc] at w4
    have hlen := downList_len L
    have w5 := run_ListSame (downList L) (downList L) 15000 (fun x hx => by have := downList_args L x hx; omega) n (by omega) (by omega) (by omega)
    rw [eqB_true rfl] at w5
    have w6 := run_WayPlain L (by omega) n (by omega)
    have w7 := run_ListSame (downList L) (plainOf (normOf L)) 15000 (fun x hx => by have := downList_args L x hx; omega) n (by omega) (by omega) (by omega)
    rw [hc] at w1
    have hne : downCode L = 0 ∨ (downCode L ≠ 0 ∧ normOf L ≠ []) := by
      by_cases h : downCode L = 0
      · exact .inl h
      · exact .inr ⟨h, fun e => h (downCode_empty hc e)⟩
    rcases hne with h0 | ⟨h0, h1⟩
    · have e : downList L = plainOf (normOf L) := by unfold downList; rw [if_pos h0]
      rw [eqB_true e] at w7
      rw [h0] at w3 w4
      generalize downList L = A at w3 w4 w5 w7
      generalize normOf L = Y at w2 w4 w6 w7
      generalize plainOf Y = B at w6 w7
      simp [go_of FT_260 rfl, F260, hl, hli, hd, w1, w2, w3, w4, w5, w6, w7]
    · have e : downList L ≠ plainOf (normOf L) := by
        unfold downList; rw [if_neg h0]; exact fun h => plain_ne h1 h.symm
      rw [eqB_false e] at w7
      have hy : (normOf L).length ≠ 0 := fun h => h1 (List.length_eq_zero_iff.1 h)
      generalize downCode L = c at w3 w4 h0
      generalize downList L = A at w3 w4 w5 w7
      generalize hY : normOf L = Y at w2 w4 w6 w7 hy h1
      have hyl : (((Y.length : Nat) : Int) = 0) = False := eq_false (by omega)
      generalize plainOf Y = B at w6 w7
      simp [go_of FT_260 rfl, F260, hl, hli, hd, w1, w2, w3, w4, w5, w6, w7, h0, hyl, h1, hy]
  · have hcp : (0 : Int) < treeCode L := by have := treeCode_nn L; omega
    have hcpi := eq_true hcp
    have e1 : downCode L = 1 := by unfold downCode; rw [if_neg hc]
    rw [e1] at w3
    generalize treeCode L = c at w1 hcpi
    generalize downList L = A at w3
    simp [go_of FT_260 rfl, F260, hl, hli, hd, w1, w2, w3, hcpi]
end Go.VM

/- The value machine: a package-level variable that holds a net without kids. Conditions: none. -/
namespace Go.VM
open Go.ChangeShapes Go.WideShapes Go.ChangeAt Go.RowKit
set_option linter.unusedVariables false

/-- The shape of the type of nets. -/
def netT (P : Program) (t : TypeId) : Bool :=
  P.cellsOf t == 4 && match P.underlying t with
  | some (.struct fs) => match fs.toList with
    | [f0, f1, f2] => f0.offset == 0 && f1.offset == 1 && f2.offset == 3 && P.cellsOf f0.type == 1 && P.cellsOf f1.type == 2 && P.cellsOf f2.type == 1 &&
      (match P.underlying f0.type with | some (.int .i64) => true | _ => false) && (match P.underlying f2.type with | some (.slice _) => true | _ => false) &&
      (match P.underlying f1.type with
        | some (.struct es) => match es.toList with
          | [e0, e1] => e0.offset == 0 && e1.offset == 1 && P.cellsOf e0.type == 1 && P.cellsOf e1.type == 1 && (match P.underlying e0.type with | some (.int .i64) => true | _ => false) && (match P.underlying e1.type with | some (.slice _) => true | _ => false)
          | _ => false
        | _ => false)
    | _ => false
  | _ => false

theorem intK {P : Program} {t : TypeId} (h : (match P.underlying t with | some (.int .i64) => true | _ => false) = true) : P.underlying t = some (.int .i64) := by
  split at h
  · assumption
  · cases h
theorem sliceK {P : Program} {t : TypeId} (h : (match P.underlying t with | some (.slice _) => true | _ => false) = true) : ∃ e, P.underlying t = some (.slice e) := by
  split at h
  · rename_i e he; exact ⟨e, he⟩
  · cases h
theorem list4' {α : Type} {l : List α} (h : l.length = 4) : ∃ a b c d, l = [a, b, c, d] := by
  match l, h with
  | [a, b, c, d], _ => exact ⟨a, b, c, d, rfl⟩

theorem net_trod {P : Program} {W : World} {t : TypeId} {fuel : Nat} {cs : List Value} {k op : Int} {p : List MemPlace} (ht : netT P t = true)
    (h : DataW.trod (fun _ => ()) P W 0 (fun _ => true) false fuel t cs = some (.agg [.lit (.int .i64 k), .agg [.lit (.int .i64 op), .nil], .nil], p)) :
    cs = [.int .i64 k, .int .i64 op, .slice none 0 0, .slice none 0 0] := by
  simp only [netT, Bool.and_eq_true, beq_iff_eq] at ht
  obtain ⟨hc, ht⟩ := ht
  split at ht
  · rename_i fs hfs
    split at ht
    · rename_i f0 f1 f2 hl
      have hfa : fs = #[f0, f1, f2] := by cases fs; simp only at hl; rw [hl]
      subst hfa
      simp only [Bool.and_eq_true, beq_iff_eq] at ht
      obtain ⟨⟨⟨⟨⟨⟨⟨⟨o0, o1⟩, o2⟩, c0⟩, c1⟩, c2⟩, k0⟩, k2⟩, k1⟩ := ht
      obtain ⟨xs, n, _, hx, hlen, hxl, hf⟩ := DataW.trod_struct hfs h
      rw [hc] at hlen
      obtain ⟨v0, v1, v2, v3, rfl⟩ := list4' hlen
      match xs, hxl with
      | [x0, x1, x2], _ =>
      simp only [Prod.mk.injEq, DataW.agg.injEq, List.map_cons, List.map_nil, List.cons.injEq, and_true] at hx
      obtain ⟨⟨y0, y1, y2⟩, _⟩ := hx
      have g0 := hf 0 f0 rfl
      have g1 := hf 1 f1 rfl
      have g2 := hf 2 f2 rfl
      rw [o0, c0] at g0
      rw [o1, c1] at g1
      rw [o2, c2] at g2
      simp only [List.drop_zero, List.drop_succ_cons, List.take_succ_cons, List.take_zero, List.getElem?_cons_zero, List.getElem?_cons_succ] at g0 g1 g2
      obtain ⟨m0, e0, q0, _⟩ := DataW.trod_int (intK k0) g0
      obtain ⟨s2, hs2⟩ := sliceK k2
      have r2 : v3 = .slice none 0 0 := by
        rcases DataW.trod_slice hs2 g2 with ⟨e2, _⟩ | ⟨a, len, cap, elems, rest, n', _, _, q, _⟩
        · simpa using e2
        · rw [q] at y2; cases y2
      split at k1
      · rename_i es hes
        split at k1
        · rename_i f3 f4 hl2
          have hea : es = #[f3, f4] := by cases es; simp only at hl2; rw [hl2]
          subst hea
          simp only [Bool.and_eq_true, beq_iff_eq] at k1
          obtain ⟨⟨⟨⟨⟨o3, o4⟩, c3⟩, c4⟩, k3⟩, k4⟩ := k1
          obtain ⟨ys, n2, _, hy, _, hyl, hg⟩ := DataW.trod_struct hes g1
          match ys, hyl with
          | [z0, z1], _ =>
          rw [hy] at y1
          simp only [DataW.agg.injEq, List.map_cons, List.map_nil, List.cons.injEq, and_true] at y1
          obtain ⟨w0, w1⟩ := y1
          have g3 := hg 0 f3 rfl
          have g4 := hg 1 f4 rfl
          rw [o3, c3] at g3
          rw [o4, c4] at g4
          simp only [List.drop_zero, List.drop_succ_cons, List.take_succ_cons, List.take_zero, List.getElem?_cons_zero, List.getElem?_cons_succ] at g3 g4
          obtain ⟨m3, e3, q3, _⟩ := DataW.trod_int (intK k3) g3
          obtain ⟨s4, hs4⟩ := sliceK k4
          have r4 : v2 = .slice none 0 0 := by
            rcases DataW.trod_slice hs4 g4 with ⟨e4, _⟩ | ⟨a, len, cap, elems, rest, n', _, _, q, _⟩
            · simpa using e4
            · rw [q] at w1; cases w1
          rw [q0] at y0
          rw [q3] at w0
          simp only [DataW.lit.injEq, Lit.int.injEq, true_and] at y0 w0
          simp only [List.cons.injEq, and_true] at e0 e3
          rw [e0, e3, r2, r4, y0, w0]
        · cases k1
      · cases k1
    · cases ht
  · cases ht

/-- What a listed net gives to the machine. -/
theorem laid_net {P : Program} {W : World} : ∀ {l : List (String × DataW Unit)} {ps : List MemPlace}, DataW.LaidVars P W l ps → ∀ {n : String} {k op : Int} {g : Nat} {t : TypeId},
    (n, DataW.agg [.lit (.int .i64 k), .agg [.lit (.int .i64 op), .nil], .nil]) ∈ l → P.globalNamed n = some g → (P.globals[g]?).map (·.type) = some t → netT P t = true →
    g < (ctx0 W).w.heap.size ∧ ∀ (j : Nat) (x : D), ([.s (.int .i64 k), .s (.int .i64 op), .l 0 [], .l 0 []] : List D)[j]? = some x → (ctx0 W).Im g j ∧ ∃ y, (ctx0 W).w.cell? ⟨g, j, none⟩ = some y ∧ (ctx0 W).rel y x
  | [], ps, h, n, k, op, g, t, hm, _, _, _ => by cases hm
  | (n', d') :: r, ps, h, n, k, op, g, t, hm, hg, ht, he => by
    obtain ⟨g', t', cs, fuel, p, q, k1, k2, k3, k4, k5, _⟩ := h
    rcases List.mem_cons.1 hm with e0 | hm
    · cases e0
      obtain rfl := Option.some.inj (k1.symm.trans hg)
      obtain rfl := Option.some.inj (k2.symm.trans ht)
      have hcs := net_trod he k4
      have hc := World.var?_cell k1 k3
      have hca : cs = #[.int .i64 k, .int .i64 op, .slice none 0 0, .slice none 0 0] := by cases cs; simpa using hcs
      subst hca
      have hsz : g' < W.heap.size := by
        have hc0 := hc 0
        rcases Nat.lt_or_ge g' W.heap.size with h' | h'
        · exact h'
        · simp [World.cell?, Array.getElem?_eq_none h'] at hc0
      refine ⟨hsz, fun j x hx => ?_⟩
      match j with
      | 0 => simp at hx; subst hx; exact ⟨hsz, _, (hc 0).trans rfl, .s _ rfl⟩
      | 1 => simp at hx; subst hx; exact ⟨hsz, _, (hc 1).trans rfl, .s _ rfl⟩
      | 2 => simp at hx; subst hx; exact ⟨hsz, _, (hc 2).trans rfl, .nil 0⟩
      | 3 => simp at hx; subst hx; exact ⟨hsz, _, (hc 3).trans rfl, .nil 0⟩
      | j + 4 => simp at hx
    · exact laid_net k5 hm hg ht he
end Go.VM
