/- Draws: coils, and what is spoilt; they come to an end and are of their shape. Conditions: none. -/
import Derived.Test.YtcjdokngpmnkjaaGreatDoorVS1
import Derived.Test.YtcjdokngpmnkjaaGreatDoorVZ1
import Derived.Test.YtcjdokngpmnkjaaGreatDoorVY2
import Derived.Test.YtcjdokngpmnkjaaGreatDoorVQ11
import Derived.Test.YtcjdokngpmnkjaaGreatDoorVY9
import Derived.Test.YtcjdokngpmnkjaaGreatDoorVW1

namespace Go.VM
set_option linter.unusedSimpArgs false
set_option linter.unusedVariables false
set_option maxHeartbeats 8000000
theorem draw_Spoilt {b : List Int} (hb : RD b) (a : Arg) (p : Nat) (hp : p < 2 ^ 38) (n : Nat) (hn : 4 ≤ n) :
 ∃ (a' : Arg) (q : Nat), q ≤ p + 2 ∧ ∀ s, go n 154 [pV, argX a] [rB b p] s = some ⟨argX a', [rB b q], []⟩ := by
 obtain ⟨n, rfl⟩ : ∃ k, n = k + 1 := ⟨n - 1, by omega⟩; obtain ⟨k, m, pp⟩ := a; obtain ⟨v, q, h1, h2, h3, w⟩ := draw_pick hb 6 p (by omega) n (by omega); have wd := run_DevSizeS (n := n) (by omega) k
 by_cases c0 : v = 0
 · obtain ⟨u, q2, g1, g2, g3, w2⟩ := draw_pick hb 16 q (by omega) n (by omega)
   refine ⟨⟨IntKind.wrap .i64 (u - 1), m, pp⟩, q2, by omega, fun s => ?_⟩
   simp [go_of FT_154 rfl, F154, w, w2, c0]
 by_cases c1 : v = 1
 · obtain ⟨u, q2, g1, g2, w2⟩ := draw_num hb [-1, 4, 5, 15, 16, 31, 32, 63, 64, 255, 32768, -32769, 1000000000, -1000000000, 20, 10] (by simp) q (by omega) n (by omega)
   simp only [lV, List.map_cons, List.map_nil] at w2; refine ⟨⟨k, u, pp⟩, q2, by omega, fun s => ?_⟩
   simp [go_of FT_154 rfl, F154, w, w2, c0, c1, List.replicate]
 by_cases c2 : v = 2
 · obtain ⟨u, q2, g1, g2, w2⟩ := draw_num hb [-1, 0, 1, 6, 7] (by simp) q (by omega) n (by omega)
   simp only [lV, List.map_cons, List.map_nil] at w2; refine ⟨⟨k, m, u⟩, q2, by omega, fun s => ?_⟩
   simp [go_of FT_154 rfl, F154, w, w2, c0, c1, c2, List.replicate]
 by_cases c3 : v = 3
 · refine ⟨⟨k, devSize k, pp⟩, q, by omega, fun s => ?_⟩
   simp [go_of FT_154 rfl, F154, w, wd, c0, c1, c2, c3]
 by_cases c4 : v = 4
 · refine ⟨⟨k, IntKind.wrap .i64 (devSize k - 1), pp⟩, q, by omega, fun s => ?_⟩
   simp [go_of FT_154 rfl, F154, w, wd, c0, c1, c2, c3, c4]
 · refine ⟨⟨k, IntKind.wrap .i64 (-m), pp⟩, q, by omega, fun s => ?_⟩
   have hneg : unV .neg (.w (iW m)) = some (.w (.d (.s (.int .i64 (IntKind.wrap .i64 (-m)))))) := by
    show some (sV (.int .i64 (IntKind.wrap .i64 (0 - m)))) = _
    rw [Int.zero_sub]; rfl
   simp [go_of FT_154 rfl, F154, w, wd, c0, c1, c2, c3, c4, hneg]
theorem draw_Any {b : List Int} (hb : RD b) (p : Nat) (hp : p < 2 ^ 37) (n : Nat) (hn : 5 ≤ n) :
 ∃ (a : Arg) (q : Nat), q ≤ p + 8 ∧ ∀ s, go n 129 [pV] [rB b p] s = some ⟨argX a, [rB b q], []⟩ := by
 obtain ⟨n, rfl⟩ : ∃ k, n = k + 1 := ⟨n - 1, by omega⟩; obtain ⟨v, q, h1, h2, h3, w⟩ := draw_pick hb 13 p (by omega) n (by omega); obtain ⟨a, q2, g1, w2⟩ := draw_Arg hb (IntKind.wrap .i64 (1 + v)) q (by omega) n (by omega); obtain ⟨u, q3, h4, h5, h6, w3⟩ := draw_pick hb 20 q2 (by omega) n (by omega)
 by_cases c : u = 0
 · obtain ⟨a2, q4, g2, w4⟩ := draw_Spoilt hb a q3 (by omega) n (by omega)
   refine ⟨a2, q4, by omega, fun s => ?_⟩
   simp [go_of FT_129 rfl, F129, w, w2, w3, w4, c]
 · refine ⟨a, q3, by omega, fun s => ?_⟩
   simp [go_of FT_129 rfl, F129, w, w2, w3, c]
theorem argRows_set (l : List Arg) (i : Nat) (a : Arg) : (argRows l).set i [iD a.k, iD a.n, iD a.p] = argRows (l.set i a) := by
 simp [argRows, List.map_set, Arg.row]
theorem argRows_append (l m : List Arg) : argRows (l ++ m) = argRows l ++ argRows m := by simp [argRows]
theorem len_of3 (l : List Arg) : ∀ x ∈ argRows l, x.length = 3 := fun x hx => by
 simp only [argRows, List.mem_map] at hx; obtain ⟨a, _, rfl⟩ := hx
 rfl
theorem draw_Spoil {b : List Int} (hb : RD b) (e : El) (hl : e.as.length < 2 ^ 20) (p : Nat) (hp : p < 2 ^ 36) (n : Nat) (hn : 6 ≤ n) :
 ∃ (e' : El) (q : Nat), e'.as.length ≤ e.as.length + 1 ∧ q ≤ p + 20 ∧ ∀ s, go n 136 [pV, elX e] [rB b p] s = some ⟨elX e', [rB b q], []⟩ := by
 obtain ⟨n, rfl⟩ : ∃ k, n = k + 1 := ⟨n - 1, by omega⟩; obtain ⟨op, as⟩ := e; simp only at hl; obtain ⟨v, q, h1, h2, h3, w⟩ := draw_pick hb 6 p (by omega) n (by omega); have al := eq_true (len_of3 as); have rm : room as.length 24 = true := room_of (by omega) (by omega)
 by_cases c0 : v = 0
 · obtain ⟨u, q2, g1, g2, w2⟩ := draw_num hb [-1, 0, 1, 5, 11, 20, 21, 26, 37, 38] (by simp) q (by omega) n (by omega)
   simp only [lV, List.map_cons, List.map_nil] at w2; refine ⟨⟨u, as⟩, q2, by simp, by omega, fun s => ?_⟩
   simp [go_of FT_136 rfl, F136, w, w2, c0, List.replicate, al, rm]
 by_cases c1 : v = 1
 · obtain ⟨a, q2, g2, w2⟩ := draw_Any hb q (by omega) n (by omega)
   have rm2 : room (as.length + 1) 24 = true := room_of (by omega) (by omega); have tk : List.take (as.length + 1) (argRows as ++ [[iD a.k, iD a.n, iD a.p]]) = argRows as ++ [[iD a.k, iD a.n, iD a.p]] := by rw [List.take_of_length_le (by simp)]
   refine ⟨⟨op, as ++ [a]⟩, q2, by simp, by omega, fun s => ?_⟩
   simp [go_of FT_136 rfl, F136, w, w2, c0, c1, List.replicate, al, rm, rm2, argRows_append, tk]; simp [argRows, Arg.row]
 by_cases c2 : v = 2
 · refine ⟨⟨op, []⟩, q, by simp, by omega, fun s => ?_⟩
   simp [go_of FT_136 rfl, F136, w, c0, c1, c2, List.replicate, al, rm, show argRows [] = [] from rfl]
 · by_cases c3 : 0 < as.length
   · have c3i : ((0 : Int) < (as.length : Int)) = True := eq_true (by omega)
     obtain ⟨u, q2, g1, g2, g3, w2⟩ := draw_pick hb as.length q (by omega) n (by omega); have g2 := g2 (by omega); obtain ⟨j, rfl⟩ : ∃ j : Nat, u = j := ⟨u.toNat, by omega⟩; have hj : j < as.length := by omega
     have hg := List.getElem?_eq_getElem hj; have hb1 := argRows_get hg; obtain ⟨a, q3, g4, w3⟩ := draw_Spoilt hb as[j] q2 (by omega) n (by omega); obtain ⟨u2, q4, g5, g6, g7, w4⟩ := draw_pick hb 2 q3 (by omega) n (by omega); have hs1 := argRows_set as j a
     by_cases c4 : u2 = 0
     · obtain ⟨a2, q5, g8, w5⟩ := draw_Any hb q4 (by omega) n (by omega)
       have hs2 := argRows_set (as.set j a) j a2; have hb2 := argRows_get (l := as.set j a) (i := j) (a := a) (by simp [hj]); refine ⟨⟨op, (as.set j a).set j a2⟩, q5, by simp, by omega, fun s => ?_⟩
       have tk := take_argRows ((as.set j a).set j a2); simp only [List.length_set] at tk; simp [-getElem?_pos, -List.getElem?_set_self, -List.set_set, go_of FT_136 rfl, F136, w, w2, w3, w4, w5, c0, c1, c2, c3, c3i, c4, List.replicate, al, rm, hj, hb1, hb2, hs1, hs2, tk]
     · refine ⟨⟨op, as.set j a⟩, q4, by simp, by omega, fun s => ?_⟩
       have tk := take_argRows (as.set j a); simp only [List.length_set] at tk; simp [-getElem?_pos, go_of FT_136 rfl, F136, w, w2, w3, w4, c0, c1, c2, c3, c3i, c4, List.replicate, al, rm, hj, hb1, hs1, tk]
   · have c3i : ((0 : Int) < (as.length : Int)) = False := eq_false (by omega)
     have c3e : as = [] := List.eq_nil_of_length_eq_zero (by omega); subst c3e; refine ⟨⟨op, []⟩, q, by simp, by omega, fun s => ?_⟩
     simp [go_of FT_136 rfl, F136, w, c0, c1, c2, List.replicate, argRows, show room 0 24 = true by decide]
set_option maxHeartbeats 16000000
theorem run_NormIs (l : List Arm) (hm : armsWt l < 2 ^ 27) (n : Nat) (hn : 3 * armsWt l + 200 ≤ n) (s : Sup) : go (n + 1) 206 [.w (ksW l)] [] s = some ⟨bV (decide (treeCode l = 0) && eqB l (armsNorm l)), [], []⟩ := by
 have w1 := run_accepted l (by omega) n (by omega)
 by_cases hc : treeCode l = 0
 · have hright : ∀ a ∈ l, a.wrong true = 0 := by
    unfold treeCode at hc; split at hc
    · simp at hc
    · exact (rungsWrong_all l).1 hc
   have w2 := run_normed l (by omega) hright n (by omega); have w3 := run_TreeSame (armsWt l) l (armsNorm l) (Nat.le_refl _) (by omega) n (by omega); rw [decide_eq_true hc] at w1; rw [decide_eq_true hc, Bool.true_and]; generalize armsNorm l = Y at w2 w3; simp [go_of FT_206 rfl, F206, w1, w2, w3]
 · rw [decide_eq_false hc] at w1
   rw [decide_eq_false hc, Bool.false_and]; simp [go_of FT_206 rfl, F206, w1]
theorem rungs_ok : ∀ l : List Arm, (∀ a ∈ l, a.wrong true = 0) → (∀ a ∈ armsNorm l, a.wrong true = 0 ∧ a.wn = true) ∧ armsSize (armsNorm l) ≤ armsSize l ∧ armsWt (armsNorm l) ≤ armsWt l
 | [], h => by simp [armsNorm]
 | m :: r, h => by
  obtain ⟨a1, a2, a3, a4⟩ := arm_norm_ok true m (h m (List.mem_cons_self ..)); obtain ⟨b1, b2, b3⟩ := rungs_ok r fun k hk => h k (List.mem_cons_of_mem _ hk)
  simp only [armsNorm, armsSize, armsWt]; refine ⟨fun x hx => ?_, by omega, by omega⟩
  rcases List.mem_cons.1 hx with rfl | hx
  · exact ⟨a1, a2⟩
  · exact b1 x hx
theorem rungs_self : ∀ l : List Arm, (∀ a ∈ l, a.wrong true = 0) → (∀ a ∈ l, a.wn = true) → armsNorm l = l
 | [], _, _ => by simp [armsNorm]
 | a :: r, h, hw => by
  rw [armsNorm, arm_norm_self true a (h a (List.mem_cons_self ..)) (hw a (List.mem_cons_self ..)), rungs_self r (fun m hm => h m (List.mem_cons_of_mem _ hm)) fun m hm => hw m (List.mem_cons_of_mem _ hm)]
theorem treeCode_right {l : List Arm} (h : treeCode l = 0) : ∀ a ∈ l, a.wrong true = 0 := by
 unfold treeCode at h; split at h
 · simp at h
 · exact (rungsWrong_all l).1 h
def normOf (l : List Arm) : List Arm := if treeCode l = 0 then armsNorm l else []
theorem normOf_right (l : List Arm) : ∀ a ∈ normOf l, a.wrong true = 0 := by
 unfold normOf; split
 · rename_i h
   exact fun a ha => ((rungs_ok l (treeCode_right h)).1 a ha).1
 · simp
theorem normOf_wt (l : List Arm) : armsWt (normOf l) ≤ armsWt l := by
 unfold normOf; split
 · rename_i h
   exact (rungs_ok l (treeCode_right h)).2.2
 · simp [armsWt]
theorem run_plain (l : List Arm) (hm : armsWt l < 2 ^ 25) (hr : ∀ a ∈ l, a.wrong true = 0) (h0 : treeCode l = 0) (n : Nat) (hn : 5 * armsWt l + 100 ≤ n) (s : Sup) : go n 297 [.w (ksW l)] [] s = some ⟨.w (isW (plainOf (armsNorm l))), [], []⟩ := by
 obtain ⟨n, rfl⟩ : ∃ k, n = k + 2 := ⟨n - 2, by omega⟩; have e : normOf l = armsNorm l := by unfold normOf; rw [if_pos h0]
 have w0 := run_normed l (by omega) hr (n + 1) (by omega); have hright := normOf_right l; have hwt := normOf_wt l; rw [e] at hright hwt; generalize armsNorm l = y at w0 hright hwt; have hlen := armsWt_len y; have hlp := len_plainOf y hright; have hsz := armsSize_le y; have hc : ∀ x ∈ y, ∀ s, go (n + 1) 329 [armX x] [] s = some ⟨.w (isW x.tail), [], []⟩ := fun x hx s => run_tail (armsWt y) x (armsWt_mem hx) (by omega) (arm_weak (hright x hx)) (n + 1) (by omega) s
 have hb : ∀ x ∈ y, ∀ s, ∃ c, go (n + 1) 328 [netX x.net] [] s = some (insOwn x.net.begins c) := fun x hx s => by
  have h1 := armsWt_mem hx; obtain ⟨xn, xc, xk⟩ := x; obtain ⟨k1, k2, -, -, -⟩ := arm_right (hright _ hx); have hnw : xn.wrong = 0 := by rcases k2 with k2 | k2; rw [k1 rfl] at k2; cases k2; exact k2
  simp only [Arm.wt] at h1; exact ⟨_, run_begins (armsWt y) xn (by omega) (by omega) hnw (n + 1) (by omega) s⟩
 have w2 := run_copyList (n := n) (plainOf y) (fun x hx => by have := plain_args y x hx; omega) (by omega) (by omega) (by omega); simp [go_of (n := n + 1) FT_297 rfl, F297, w0]; generalize hst : St.mk _ _ _ _ = st; obtain ⟨e, ⟨τ', H', g', s'⟩, hx, -, rfl, hg, hacc⟩ := loop297_0 (n := n + 1) y hc hb (by omega) (by omega) (by omega) st (by simp [← hst]) (by simp [← hst]) (by simp [← hst]) (by rw [← hst]; exact ⟨by simp, .inl ⟨rfl, by simp⟩⟩); simp only at hg hacc; clear hst; generalize plainOf y = L at hacc w2; have tkL := take_insRows L; rcases hacc with ⟨rfl, h3⟩ | ⟨b, hb0, hbq, hbg, h3, hB⟩
 · have w3 : ∀ s, go (n + 1) 330 [.w (.d (.l 0 []))] [] s = some ⟨.w (.d (.l 0 [])), [], []⟩ := fun s => w2 s
   simp [hx, h3, w3, insRows]
 · simp [hx, h3, hB, tkL, insRows_length, w2]
theorem run_WayPlain (l : List Arm) (hm : armsWt l < 2 ^ 25) (n : Nat) (hn : 5 * armsWt l + 200 ≤ n) (s : Sup) : go n 273 [.w (ksW l)] [] s = some ⟨.w (isW (plainOf (normOf l))), [], []⟩ := by
 obtain ⟨n, rfl⟩ : ∃ k, n = k + 1 := ⟨n - 1, by omega⟩; have w1 := run_accepted l (by omega) n (by omega)
 by_cases h : treeCode l = 0
 · have w2 := run_plain l hm (treeCode_right h) h n (by omega)
   have e : normOf l = armsNorm l := by unfold normOf; rw [if_pos h]
   simp [go_of FT_273 rfl, F273, w1, h, w2, e]
 · have e : normOf l = [] := by unfold normOf; rw [if_neg h]
   simp [go_of FT_273 rfl, F273, w1, h, e, plainOf, insRows]
abbrev hX (s : Int × Int) : V := .agg [iW s.1, iW s.2]
theorem run_ListOk {n : Nat} (hn : 60 ≤ n) (i : Ins) (hl : i.e.as.length < 2 ^ 62) (s : Sup) : go (n + 1) 315 [insX i] [] s = some ⟨bV i.ok, [], []⟩ := by
 obtain ⟨c, e⟩ := i; have w1 := run_within (n := n) (by omega) c 1 3; have w2 := run_ElemIsContact (n := n) (by omega) e hl; have w3 := run_ElemIsCoil (n := n) (by omega) e; have w4 : ∀ s, go n 60 [iV c, iV 4, iV 11] [] s = some ⟨sV (.bool (decide (4 ≤ c) && decide (c ≤ 11))), [], []⟩ := fun s => run_within (by omega) c 4 11 s
 obtain ⟨op, as⟩ := e; have w5 : ∀ s, go n 138 [elX ⟨op, as⟩] [] s = some ⟨sV (.bool (decide (op = 0 ∧ as = []))), [], []⟩ := fun s => run_bare (by omega) op as s
 unfold Ins.ok El.bareB; simp only; generalize El.contact ⟨op, as⟩ = r1 at w2 ⊢; generalize El.coil ⟨op, as⟩ = r2 at w3 ⊢
 by_cases h1 : 1 ≤ c ∧ c ≤ 3
 · have e1 : (decide (1 ≤ c) && decide (c ≤ 3)) = true := by simp [h1]
   rw [e1] at w1; rw [if_pos h1]; simp [go_of (n := n) FT_315 rfl, F315, w1, w2]
 · have e1 : (decide (1 ≤ c) && decide (c ≤ 3)) = false := by simpa using h1
   rw [e1] at w1; rw [if_neg h1]
   by_cases h2 : c = 10
   · subst h2
     simp [go_of (n := n) FT_315 rfl, F315, w1, w3]
   · rw [if_neg h2]
     by_cases h3 : 4 ≤ c ∧ c ≤ 11
     · have e2 : (decide (4 ≤ c) && decide (c ≤ 11)) = true := by simp [h3]
       rw [e2] at w4; rw [decide_eq_true h3]; simp [go_of (n := n) FT_315 rfl, F315, w1, w4, w5, h2]
     · have e2 : (decide (4 ≤ c) && decide (c ≤ 11)) = false := by simpa using h3
       rw [e2] at w4; rw [decide_eq_false h3]; simp [go_of (n := n) FT_315 rfl, F315, w1, w4, w5, h2]
theorem run_needs {n : Nat} (c : Int) (s : Sup) : go (n + 1) 336 [iV c] [] s = some ⟨iV (needsI c), [], []⟩ := by
 unfold needsI
 by_cases c1 : c = 1
 · simp [go_of (n := n) FT_336 rfl, F336, c1]
 by_cases c4 : c = 4
 · simp [go_of (n := n) FT_336 rfl, F336, c4]
 by_cases c5 : c = 5
 · simp [go_of (n := n) FT_336 rfl, F336, c5]
 simp [go_of (n := n) FT_336 rfl, F336, c1, c4, c5]
theorem ptf (p : Prop) : p = True ∨ p = False := by by_cases h : p; exact .inl (eq_true h); exact .inr (eq_false h)
theorem drop_at {α : Type} {l : List α} {i : Nat} {x : α} (h : l[i]? = some x) : l.drop i = x :: l.drop (i + 1) := by
 obtain ⟨h1, h2⟩ := List.getElem?_eq_some_iff.1 h; rw [List.drop_eq_getElem_cons h1, h2]
def Net.nil : Net := .mk 0 0 [] []
def together (k : Int) (a b : Net) : Net := if a.none then b else .mk k 0 [] (a.open k ++ b.open k)
def stepR (s : List Net) (i : Ins) : List Net :=
 if i.c = 1 then .mk 1 i.e.op i.e.as [] :: s
 else if i.c = 2 ∨ i.c = 3 then (match s with | a :: r => together i.c a (.mk 1 i.e.op i.e.as []) :: r | [] => [])
 else if i.c = 4 ∨ i.c = 5 then (match s with | b :: a :: r => together (i.c - 2) a b :: r | l => l)
 else if i.c = 6 then (match s with | a :: r => .mk 4 0 [] [a] :: r | [] => [])
 else s
theorem together_new {k : Int} {a b : Net} (ha : a.none = false) (h1 : a.kind ≠ k) (h2 : b.kind ≠ k) : together k a b = .mk k 0 [] [a, b] := by
 simp [together, ha, Net.open, h1, h2]
theorem together_more {k : Int} {l : List Net} {b : Net} (h0 : k ≠ 0) (h2 : b.kind ≠ k) : together k (.mk k 0 [] l) b = .mk k 0 [] (l ++ [b]) := by
 have e1 : Net.open k (.mk k 0 [] l) = l := by simp [Net.open, Net.kind, Net.kids]
 have e2 : Net.open k b = [b] := by unfold Net.open; rw [if_neg h2]
 unfold together; rw [if_neg (by simp [Net.none, Net.kind, h0]), e1, e2]
theorem fold_together {k : Int} (h0 : k ≠ 0) : ∀ (l : List Net) (m : List Net), (∀ y ∈ m, y.kind ≠ k) → m.foldl (together k) (.mk k 0 [] l) = .mk k 0 [] (l ++ m)
 | l, [], h => by simp
 | l, y :: m, h => by
  rw [List.foldl_cons, together_more h0 (h y (List.mem_cons_self ..)), fold_together h0 _ m fun z hz => h z (List.mem_cons_of_mem _ hz)]; simp
theorem wn_kids {k op : Int} {as : List Arg} {ks : List Net} (h : Net.wn (.mk k op as ks) = true) : (∀ n ∈ ks, ¬ (n.kind = k ∧ k ≠ 4) ∧ n.wn = true) ∧ (k = 1 ∨ k = 4 ∨ 1 < ks.length) := by
 simp only [Net.wn, Bool.and_eq_true, decide_eq_true_eq] at h; exact ⟨(netsWn_all k ks).1 h.1, h.2⟩
theorem leaf_eq {x : Net} (h : x.wrong = 0) (hk : x.kind = 1) : x = .mk 1 x.op x.as [] := by
 obtain ⟨k, op, as, ks⟩ := x; simp only [Net.kind] at hk; subst hk; cases ks with
 | nil => rfl
 | cons a r => simp [Net.wrong] at h
end Go.VM
