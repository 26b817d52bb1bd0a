/- Draws: ladders. Conditions: none. -/
import Derived.Test.YtcjdokngpmnkjaaGreatDoorVS9
import Derived.Test.YtcjdokngpmnkjaaGreatDoorVS7
import Derived.Test.YtcjdokngpmnkjaaGreatDoorVS3
import Derived.Test.YtcjdokngpmnkjaaGreatDoorVY18
import Derived.Test.YtcjdokngpmnkjaaGreatDoorVM29

namespace Go.VM
set_option linter.unusedSimpArgs false
set_option linter.unusedVariables false
set_option maxHeartbeats 16000000
theorem draw_Spoil2 {b : List Int} (hb : RD b) (l : List Arm) (hl : armsWt l ≤ 20000) (n : Nat) (hn : 60001 ≤ n) (p : Nat) (hp : p < 2 ^ 30) :
 ∃ (l' : List Arm) (q : Nat), armsWt l' ≤ armsWt l + 2000 ∧ q ≤ p + 2 ^ 23 ∧ ∀ s, go n 152 [pV, .w (ksW l)] [rB b p] s = some ⟨.w (ksW l'), [rB b q], []⟩ := by
 obtain ⟨n, rfl⟩ : ∃ k, n = k + 1 := ⟨n - 1, by omega⟩
 obtain ⟨l', q, h1, h2, w⟩ := draw_SpoilL hb l hl n (by omega) p hp
 exact ⟨l', q, h1, h2, fun s => (go_sp FT_152 rfl rfl).trans (w s)⟩
theorem draw_LAny {b : List Int} (hb : RD b) (n : Nat) (hn : 70000 ≤ n) (p : Nat) (hp : p < 2 ^ 29) :
 ∃ (l : List Arm) (q : Nat), armsWt l ≤ 15000 ∧ q ≤ p + 2 ^ 24 ∧ ∀ s, go n 128 [pV] [rB b p] s = some ⟨.w (ksW l), [rB b q], []⟩ := by
 obtain ⟨n, rfl⟩ : ∃ k, n = k + 1 := ⟨n - 1, by omega⟩
 obtain ⟨l, q1, h1, h2, w1⟩ := draw_Ladder hb n (by omega) p (by omega)
 obtain ⟨v, q2, v1, v2, v3, w2⟩ := draw_pick hb 16 q1 (by omega) n (by omega)
 by_cases c : v = 0
 · obtain ⟨l', q3, k1, k2, w3⟩ := draw_Spoil2 hb l (by omega) n (by omega) q2 (by omega)
   refine ⟨l', q3, by omega, by omega, fun s => ?_⟩
   subst c
   simp [go_of FT_128 rfl, F128, w1, w2, w3]
 · refine ⟨l, q2, by omega, by omega, fun s => ?_⟩
   simp [go_of FT_128 rfl, F128, w1, w2, c]
theorem draw_DrawWayDown {b : List Int} (hl : b.length < 2 ^ 40) (hb : ∀ x ∈ b, 0 ≤ x ∧ x < 256) (n : Nat) (hn : 80000 ≤ n) : ∃ l : List Arm, armsWt l ≤ 15000 ∧ ∀ s, go n 270 [.w (bW 0 b)] [] s = some ⟨.w (ksW l), [], []⟩ := by
 obtain ⟨n, rfl⟩ : ∃ k, n = k + 1 := ⟨n - 1, by omega⟩
 obtain ⟨b2, hR, w0⟩ := draw_open hl hb n (by omega)
 obtain ⟨l, q, g1, g2, w1⟩ := draw_LAny hR n (by omega) 0 (by omega)
 have w1 : ∀ s, go n 128 [pV] [.cells [.d (.l 0 (byt b2)), .d (.s (.int .i64 0))]] s = some ⟨.w (ksW l), [rB b2 q], []⟩ := w1
 exact ⟨l, g1, fun s => by simp [go_of FT_270 rfl, F270, w0, w1]⟩
theorem normOf_code {l : List Arm} (h : treeCode l = 0) : treeCode (normOf l) = 0 := by
 unfold normOf; rw [if_pos h]; exact treeCode_norm h
theorem downList_args (l : List Arm) : ∀ x ∈ downList l, x.e.as.length ≤ armsWt l := fun x hx => by
 unfold downList at hx
 split at hx
 · exact Nat.le_trans (plain_args _ x hx) (normOf_wt l)
 · cases hx
theorem armsSize_mem : ∀ {l : List Arm} {a : Arm}, a ∈ l → a.size ≤ armsSize l
 | x :: r, a, h => by
  simp only [armsSize]
  rcases List.mem_cons.1 h with rfl | h
  · omega
  · have := armsSize_mem h; omega
theorem treeCode_one {L : List Arm} {a : Arm} (h : treeCode L = 0) (ha : a ∈ L) : treeCode [a] = 0 := by
 have h1 := treeCode_right h a ha
 have h2 := armsSize_mem ha
 unfold treeCode at h ⊢
 split at h
 · cases h
 · rename_i hn
   rw [if_neg (by simp only [armsSize, List.length_singleton]; omega)]
   exact (rungsWrong_all _).2 (fun x hx => by rw [List.mem_singleton.1 hx]; exact h1)
theorem bitsOf_mem {l : List Arm} {a : Arm} (h : a ∈ l) : bitsOf [a] ≤ bitsOf l := by
 induction l with
 | nil => cases h
 | cons x r ih =>
  simp only [bitsOf, List.foldr_cons, List.foldr_nil] at ih ⊢
  rcases List.mem_cons.1 h with rfl | h
  · omega
  · have := ih h; omega
theorem forksOf_mem {l : List Arm} {a : Arm} (h : a ∈ l) : forksOf [a] ≤ forksOf l := by
 induction l with
 | nil => cases h
 | cons x r ih =>
  simp only [forksOf, List.foldr_cons, List.foldr_nil] at ih ⊢
  rcases List.mem_cons.1 h with rfl | h
  · omega
  · have := ih h; omega
theorem normOf_one {L : List Arm} {a : Arm} (h : treeCode L = 0) (ha : a ∈ L) : normOf [a] = [a.norm] := by
 unfold normOf; rw [if_pos (treeCode_one h ha), armsNorm_map]; rfl
theorem norm_mem {L : List Arm} {a : Arm} (h : treeCode L = 0) (ha : a ∈ L) : a.norm ∈ normOf L := by
 unfold normOf; rw [if_pos h, armsNorm_map]; exact List.mem_map_of_mem ha
theorem downCode_fits {L : List Arm} (h : downCode L = 0) : treeCode L = 0 ∧ bitsOf (normOf L) ≤ 16 ∧ forksOf (normOf L) ≤ 8 := by
 unfold downCode at h
 split at h
 · rename_i h0
   split at h
   · cases h
   · exact ⟨h0, by omega, by omega⟩
 · cases h
theorem downCode_of {L : List Arm} (h : treeCode L = 0) (h1 : bitsOf (normOf L) ≤ 16) (h2 : forksOf (normOf L) ≤ 8) : downCode L = 0 := by
 unfold downCode; rw [if_pos h, if_neg (by omega)]
theorem down_one {L : List Arm} {a : Arm} (h : downCode L = 0) (ha : a ∈ L) : downCode [a] = 0 ∧ downList [a] = a.norm.plain := by
 obtain ⟨h0, h1, h2⟩ := downCode_fits h
 have hm := norm_mem h0 ha
 have e := normOf_one h0 ha
 have hc : downCode [a] = 0 := downCode_of (treeCode_one h0 ha) (by rw [e]; have := bitsOf_mem hm; omega) (by rw [e]; have := forksOf_mem hm; omega)
 refine ⟨hc, ?_⟩
 unfold downList
 rw [if_pos hc, e]
 simp [plainOf]
theorem plain_short {l : List Arm} (h : treeCode l = 0) : (plainOf l).length ≤ 800 := by
 have h1 := len_plainOf l (treeCode_right h)
 unfold treeCode at h
 split at h
 · cases h
 · omega
theorem down_check {L : List Arm} (h : downCode L = 0) : checkL (downList L) = (0, 0) ∧ rungsL (downList L) = (normOf L).map Arm.plain ∧ (downList L).length ≤ 800 := by
 obtain ⟨h0, h1, h2⟩ := downCode_fits h
 have e : downList L = plainOf (normOf L) := by unfold downList; rw [if_pos h]
 have hs := plain_short (normOf_code h0)
 rw [e]
 exact ⟨(check_plain _ (normOf_right L) (by omega)).2 h1 h2, rungs_plainOf _ (normOf_right L), hs⟩
theorem rgRows_get {P : List (List Ins)} {i : Nat} {p : List Ins} (h : P[i]? = some p) : (rgRows P)[i]? = some [.l 0 (insRows p)] := by simp [rgRows, h]
theorem armRow_all (l : List Arm) : ∀ x ∈ armRows l, x.length = 6 := fun x hx => by
 rw [armRows_map] at hx
 simp only [List.mem_map] at hx
 obtain ⟨⟨⟨k, op, as, ks⟩, cs, kk⟩, -, rfl⟩ := hx
 rfl
theorem armRows_one {l : List Arm} {i : Nat} {x : Arm} (h : l[i]? = some x) : List.take 1 (List.drop i (armRows l)) = armRows [x] := by
 have : (armRows l)[i]? = some x.row := by rw [armRows_map, List.getElem?_map, h]; rfl
 rw [drop_at this]
 simp [armRows_map]
theorem loop263_0 {n : Nat} (L : List Arm) (hL : armsWt L ≤ 15000) (h : downCode L = 0) (hn : 110000 ≤ n) (st : St) (h3 : st.τ 3 = .w (ksW L)) (h8 : st.τ 8 = .w (rgW ((normOf L).map Arm.plain))) (h9 : st.τ 9 = iV 0) :
 ∃ e st', execC (go n) mode GT false 68 n F263_L0 st = some (e, st') ∧ e ≠ .normal ∧ (e = .exit 0) := by
 have hlen := armsWt_len L
 rw [F263_L0, execC_loop]
 refine iter_rule (fun k st => ∃ i, i + k = L.length ∧ st.τ 3 = .w (ksW L) ∧ st.τ 8 = .w (rgW ((normOf L).map Arm.plain)) ∧ st.τ 9 = iV i) ?_ n L.length st (by omega) ⟨0, by omega, h3, h8, by simpa using h9⟩
 clear h3 h8 h9
 rintro k ⟨τ, H, g, s⟩ ⟨i, hk, h3, h8, h9⟩
 simp only at h3 h8 h9
 cases k with
 | zero =>
  have : i = L.length := by omega
  subst this
  refine ⟨.exit 0, ?_⟩
  simp [F263_B0, h3, h9]
 | succ k =>
  have hlt : i < L.length := by omega
  have hlt' : ((i : Int) < (L.length : Int)) = True := eq_true (by omega)
  have hgt := List.getElem?_eq_getElem hlt
  have hmem := List.getElem_mem hlt
  have hw := wrap_succ (i := i) (by omega)
  have hone := armRows_one hgt
  obtain ⟨e1, e2⟩ := down_one h hmem
  have hwt := armsWt_mem hmem
  have hw1 : armsWt [L[i]] = L[i].wt := by simp [armsWt]
  have w1 := run_WayDown [L[i]] (by omega) n (by omega)
  have h0 := (downCode_fits h).1
  have hP : ((normOf L).map Arm.plain)[i]? = some (L[i].norm).plain := by
   unfold normOf; rw [if_pos h0, armsNorm_map, List.map_map, List.getElem?_map, hgt]; rfl
  have hrow := rgRows_get hP
  have hlp : (downList [L[i]]).length ≤ 800 := (down_check e1).2.2
  have w2 := run_ListSame (downList [L[i]]) (downList [L[i]]) 15000 (fun x hx => by have := downList_args _ x hx; omega) n (by omega) (by omega) (by omega)
  rw [eqB_true rfl] at w2
  rw [e1, e2] at w1
  rw [e2] at w2
  have al := eq_true (armRow_all L)
  have q1 : ((i : Int) ≤ (i : Int) + 1) = True := eq_true (by omega)
  have q2 : ((i : Int) + 1 ≤ (L.length : Int)) = True := eq_true (by omega)
  generalize L[i] = x at *
  generalize (Arm.norm x).plain = P at *
  refine ⟨.normal, ?_⟩
  simp [-getElem?_pos, F263_B0, h3, h8, h9, hlt, hlt', hw, hone, hrow, w1, w2, al, q1, q2]
  exact ⟨k, by omega, i + 1, by omega, rfl⟩
theorem run_lawWayRungs (st : Nat) (l : List Int) (n : Nat) (hn : 150000 ≤ n) (L : List Arm) (hL : armsWt L ≤ 15000)
 (hd : ¬ 1048576 < l.length → ∀ s, go n 270 [.w (bW st l)] [] s = some ⟨.w (ksW L), [], []⟩) (s : Sup) :
 go (n + 1) 263 [.w (bW st l)] [] s = some ⟨bV true, [], []⟩ := by
 by_cases hl : 1048576 < l.length
 · have hli : ((1048576 : Int) < (l.length : Int)) = True := eq_true (by omega)
   simp [go_of FT_263 rfl, F263, hl, hli]
 have hli : ((1048576 : Int) < (l.length : Int)) = False := eq_false (by omega)
 have hd := hd hl
 have w1 := run_WayDown L (by omega) n (by omega)
 have w2 := run_WayDownS L (by omega) n (by omega)
 by_cases hc : downCode L = 0
 · obtain ⟨k1, k2, k3⟩ := down_check hc
   have w3 : ∀ s, go n 279 [.w (isW (downList L))] [] s = some ⟨.w (rgW (if (checkL (downList L)).1 = 0 then rungsL (downList L) else [])), [], []⟩ := fun s => by
    have := run_SureRungs (n := n - 1) (downList L) (fun x hx => by have := downList_args L x hx; omega) (by omega) (by omega) (by omega) s
    rwa [show n - 1 + 1 = n by omega] at this
   rw [k1, if_pos rfl, k2] at w3
   have hPl : ((normOf L).map Arm.plain).length = L.length := by
    unfold normOf; rw [if_pos (downCode_fits hc).1, List.length_map, armsNorm_length]
   have hlp := loop263_0 (n := n) L hL hc (by omega)
   rw [hc] at w1 w2
   generalize downList L = A at w1 w2 w3
   generalize (normOf L).map Arm.plain = P at w3 hPl hlp
   simp [go_of FT_263 rfl, F263, hl, hli, hd, w1, w2, w3, rgRows_length, hPl]
   generalize hst : St.mk _ _ _ _ = st2
   obtain ⟨e, ⟨τ', H', g', s'⟩, hx, -, rfl⟩ := hlp st2 (by simp [← hst]) (by simp [← hst]) (by simp [← hst])
   clear hst
   simp [hx]
 · have e : downList L = [] := by unfold downList; rw [if_neg hc]
   have hp : 0 < downCode L := by
    have : downCode L = 0 ∨ downCode L = 1 ∨ downCode L = 2 := by
     unfold downCode; split <;> (try split) <;> simp
    omega
   have hpi := eq_true hp
   rw [e] at w1 w2
   generalize downCode L = c at w1 w2 hpi
   simp [go_of FT_263 rfl, F263, hl, hli, hd, w1, w2, hpi, insRows]
end Go.VM

/- The value machine: a package-level variable that holds a net without kids. Conditions: none. -/
namespace Go.VM
open Go.ChangeShapes Go.WideShapes Go.ChangeAt Go.RowKit
set_option linter.unusedVariables false
/-- The shape of the type of nets. -/
def netT (P : Program) (t : TypeId) : Bool :=
 P.cellsOf t == 4 && match P.underlying t with
 | some (.struct fs) => match fs.toList with
  | [f0, f1, f2] => f0.offset == 0 && f1.offset == 1 && f2.offset == 3 && P.cellsOf f0.type == 1 && P.cellsOf f1.type == 2 && P.cellsOf f2.type == 1 &&
   (match P.underlying f0.type with | some (.int .i64) => true | _ => false) && (match P.underlying f2.type with | some (.slice _) => true | _ => false) &&
   (match P.underlying f1.type with
    | some (.struct es) => match es.toList with
     | [e0, e1] => e0.offset == 0 && e1.offset == 1 && P.cellsOf e0.type == 1 && P.cellsOf e1.type == 1 && (match P.underlying e0.type with | some (.int .i64) => true | _ => false) && (match P.underlying e1.type with | some (.slice _) => true | _ => false)
     | _ => false
    | _ => false)
  | _ => false
 | _ => false
theorem intK {P : Program} {t : TypeId} (h : (match P.underlying t with | some (.int .i64) => true | _ => false) = true) : P.underlying t = some (.int .i64) := by
 split at h
 · assumption
 · cases h
theorem sliceK {P : Program} {t : TypeId} (h : (match P.underlying t with | some (.slice _) => true | _ => false) = true) : ∃ e, P.underlying t = some (.slice e) := by
 split at h
 · rename_i e he; exact ⟨e, he⟩
 · cases h
theorem list4' {α : Type} {l : List α} (h : l.length = 4) : ∃ a b c d, l = [a, b, c, d] := by
 match l, h with
 | [a, b, c, d], _ => exact ⟨a, b, c, d, rfl⟩
theorem net_trod {P : Program} {W : World} {t : TypeId} {fuel : Nat} {cs : List Value} {k op : Int} {p : List MemPlace} (ht : netT P t = true)
 (h : DataW.trod (fun _ => ()) P W 0 (fun _ => true) false fuel t cs = some (.agg [.lit (.int .i64 k), .agg [.lit (.int .i64 op), .nil], .nil], p)) :
 cs = [.int .i64 k, .int .i64 op, .slice none 0 0, .slice none 0 0] := by
 simp only [netT, Bool.and_eq_true, beq_iff_eq] at ht
 obtain ⟨hc, ht⟩ := ht
 split at ht
 · rename_i fs hfs
   split at ht
   · rename_i f0 f1 f2 hl
     have hfa : fs = #[f0, f1, f2] := by cases fs; simp only at hl; rw [hl]
     subst hfa
     simp only [Bool.and_eq_true, beq_iff_eq] at ht
     obtain ⟨⟨⟨⟨⟨⟨⟨⟨o0, o1⟩, o2⟩, c0⟩, c1⟩, c2⟩, k0⟩, k2⟩, k1⟩ := ht
     obtain ⟨xs, n, _, hx, hlen, hxl, hf⟩ := DataW.trod_struct hfs h
     rw [hc] at hlen
     obtain ⟨v0, v1, v2, v3, rfl⟩ := list4' hlen
     match xs, hxl with
     | [x0, x1, x2], _ =>
     simp only [Prod.mk.injEq, DataW.agg.injEq, List.map_cons, List.map_nil, List.cons.injEq, and_true] at hx
     obtain ⟨⟨y0, y1, y2⟩, _⟩ := hx
     have g0 := hf 0 f0 rfl
     have g1 := hf 1 f1 rfl
     have g2 := hf 2 f2 rfl
     rw [o0, c0] at g0
     rw [o1, c1] at g1
     rw [o2, c2] at g2
     simp only [List.drop_zero, List.drop_succ_cons, List.take_succ_cons, List.take_zero, List.getElem?_cons_zero, List.getElem?_cons_succ] at g0 g1 g2
     obtain ⟨m0, e0, q0, _⟩ := DataW.trod_int (intK k0) g0
     obtain ⟨s2, hs2⟩ := sliceK k2
     have r2 : v3 = .slice none 0 0 := by
      rcases DataW.trod_slice hs2 g2 with ⟨e2, _⟩ | ⟨a, len, cap, elems, rest, n', _, _, q, _⟩
      · simpa using e2
      · rw [q] at y2; cases y2
     split at k1
     · rename_i es hes
       split at k1
       · rename_i f3 f4 hl2
         have hea : es = #[f3, f4] := by cases es; simp only at hl2; rw [hl2]
         subst hea
         simp only [Bool.and_eq_true, beq_iff_eq] at k1
         obtain ⟨⟨⟨⟨⟨o3, o4⟩, c3⟩, c4⟩, k3⟩, k4⟩ := k1
         obtain ⟨ys, n2, _, hy, _, hyl, hg⟩ := DataW.trod_struct hes g1
         match ys, hyl with
         | [z0, z1], _ =>
         rw [hy] at y1
         simp only [DataW.agg.injEq, List.map_cons, List.map_nil, List.cons.injEq, and_true] at y1
         obtain ⟨w0, w1⟩ := y1
         have g3 := hg 0 f3 rfl
         have g4 := hg 1 f4 rfl
         rw [o3, c3] at g3
         rw [o4, c4] at g4
         simp only [List.drop_zero, List.drop_succ_cons, List.take_succ_cons, List.take_zero, List.getElem?_cons_zero, List.getElem?_cons_succ] at g3 g4
         obtain ⟨m3, e3, q3, _⟩ := DataW.trod_int (intK k3) g3
         obtain ⟨s4, hs4⟩ := sliceK k4
         have r4 : v2 = .slice none 0 0 := by
          rcases DataW.trod_slice hs4 g4 with ⟨e4, _⟩ | ⟨a, len, cap, elems, rest, n', _, _, q, _⟩
          · simpa using e4
          · rw [q] at w1; cases w1
         rw [q0] at y0
         rw [q3] at w0
         simp only [DataW.lit.injEq, Lit.int.injEq, true_and] at y0 w0
         simp only [List.cons.injEq, and_true] at e0 e3
         rw [e0, e3, r2, r4, y0, w0]
       · cases k1
     · cases k1
   · cases ht
 · cases ht
/-- What a listed net gives to the machine. -/
theorem laid_net {P : Program} {W : World} : ∀ {l : List (String × DataW Unit)} {ps : List MemPlace}, DataW.LaidVars P W l ps → ∀ {n : String} {k op : Int} {g : Nat} {t : TypeId},
 (n, DataW.agg [.lit (.int .i64 k), .agg [.lit (.int .i64 op), .nil], .nil]) ∈ l → P.globalNamed n = some g → (P.globals[g]?).map (·.type) = some t → netT P t = true →
 g < (ctx0 W).w.heap.size ∧ ∀ (j : Nat) (x : D), ([.s (.int .i64 k), .s (.int .i64 op), .l 0 [], .l 0 []] : List D)[j]? = some x → (ctx0 W).Im g j ∧ ∃ y, (ctx0 W).w.cell? ⟨g, j, none⟩ = some y ∧ (ctx0 W).rel y x
 | [], ps, h, n, k, op, g, t, hm, _, _, _ => by cases hm
 | (n', d') :: r, ps, h, n, k, op, g, t, hm, hg, ht, he => by
  obtain ⟨g', t', cs, fuel, p, q, k1, k2, k3, k4, k5, _⟩ := h
  rcases List.mem_cons.1 hm with e0 | hm
  · cases e0
    obtain rfl := Option.some.inj (k1.symm.trans hg)
    obtain rfl := Option.some.inj (k2.symm.trans ht)
    have hcs := net_trod he k4
    have hc := World.var?_cell k1 k3
    have hca : cs = #[.int .i64 k, .int .i64 op, .slice none 0 0, .slice none 0 0] := by cases cs; simpa using hcs
    subst hca
    have hsz : g' < W.heap.size := by
     have hc0 := hc 0
     rcases Nat.lt_or_ge g' W.heap.size with h' | h'
     · exact h'
     · simp [World.cell?, Array.getElem?_eq_none h'] at hc0
    refine ⟨hsz, fun j x hx => ?_⟩
    match j with
    | 0 => simp at hx; subst hx; exact ⟨hsz, _, (hc 0).trans rfl, .s _ rfl⟩
    | 1 => simp at hx; subst hx; exact ⟨hsz, _, (hc 1).trans rfl, .s _ rfl⟩
    | 2 => simp at hx; subst hx; exact ⟨hsz, _, (hc 2).trans rfl, .nil 0⟩
    | 3 => simp at hx; subst hx; exact ⟨hsz, _, (hc 3).trans rfl, .nil 0⟩
    | j + 4 => simp at hx
  · exact laid_net k5 hm hg ht he
end Go.VM
