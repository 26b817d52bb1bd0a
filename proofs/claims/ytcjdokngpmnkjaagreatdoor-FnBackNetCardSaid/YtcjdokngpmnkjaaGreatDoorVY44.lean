/- The law 'a block that is decompiled compiles back to the same block', run: it answers true, whatever list is drawn. Conditions: none. -/
import Derived.Test.YtcjdokngpmnkjaaGreatDoorVY20
import Derived.Test.YtcjdokngpmnkjaaGreatDoorVW2
import Derived.Test.YtcjdokngpmnkjaaGreatDoorVQ8

namespace Go.VM
set_option linter.unusedSimpArgs false
set_option linter.unusedVariables false
set_option maxHeartbeats 16000000
abbrev coilE : El := ⟨21, [⟨2, 0, 0⟩]⟩
abbrev blk (N : Net) : List Arm := [.mk N [coilE] []]
theorem coil_ok : El.coil coilE = true := by decide
theorem blk_right {N : Net} (h : N.wrong = 0) (hw : N.wn = true) : (Arm.mk N [coilE] []).wrong true = 0 ∧ (Arm.mk N [coilE] []).wn = true := by
 constructor
 · exact arm_mk (fun _ => right_some h) (.inr h) (by simp [coil_ok]) (by simp) (by simp [armsWrong])
 · have hk : N.kind ≠ 0 := by rcases right_kind h with e | e | e | e <;> omega
   simp [Arm.wn, armsWn, hw, hk]
theorem blk_code {N : Net} (h : N.wrong = 0) (hw : N.wn = true) (hs : armsSize (blk N) ≤ 400) : treeCode (blk N) = 0 ∧ normOf (blk N) = blk N := by
 have hr := blk_right h hw; have hc : treeCode (blk N) = 0 := by
  unfold treeCode; rw [if_neg (by simp only [List.length_singleton]; omega)]; exact (rungsWrong_all _).2 fun a ha => by rw [List.mem_singleton.1 ha]; exact hr.1
 refine ⟨hc, ?_⟩
 unfold normOf; rw [if_pos hc]; exact rungs_self _ (fun a ha => by rw [List.mem_singleton.1 ha]; exact hr.1) (fun a ha => by rw [List.mem_singleton.1 ha]; exact hr.2)
theorem blk_plain (N : Net) : plainOf (blk N) = N.begins ++ [⟨10, coilE⟩, Ins.bare 11] := by
 simp [plainOf, Arm.plain, Arm.net, Arm.tail, coilsI, armsTail]
theorem blk_rows (N : Net) : armRows (blk N) = [[.s (.int .i64 N.kind), .s (.int .i64 N.op), .l 0 (argRows N.as), .l 0 (netRows N.kids), .l 0 [[.s (.int .i64 21), .l 0 [[.s (.int .i64 2), .s (.int .i64 0), .s (.int .i64 0)]]]], .l 0 []]] := by
 obtain ⟨k, o, as, ks⟩ := N; simp [armRows, Arm.row, elRows, El.row, argRows, Arg.row, Net.kind, Net.op, Net.as, Net.kids]
theorem lWt_le2 (k : Nat) : ∀ l : List Ins, (∀ x ∈ l, x.e.as.length ≤ k) → lWt l ≤ l.length * (2 + k)
 | [], h => by simp [lWt]
 | i :: r, h => by
  have h1 := h i (List.mem_cons_self ..); have h2 := lWt_le2 k r fun x hx => h x (List.mem_cons_of_mem _ hx)
  simp only [lWt, insWt, List.length_cons, Nat.succ_mul]; omega
theorem lWt_app : ∀ a b : List Ins, lWt (a ++ b) = lWt a + lWt b
 | [], b => by simp [lWt]
 | i :: r, b => by simp only [List.cons_append, lWt, lWt_app r b]; omega
mutual
theorem lWt_begins : ∀ n : Net, lWt n.begins ≤ 2 * n.begins.length + n.wt
 | .mk k op as [] => by simp only [Net.begins, lWt, insWt, Net.wt, List.length_singleton]; omega
 | .mk k op as (x :: r) => by
  have h1 := lWt_begins x; have h2 := lWt_taken k r; simp only [Net.begins, Net.wt, netsWt]; split
  · simp only [lWt_app, lWt, insWt, Ins.bare, List.length_append, List.length_singleton, List.length_nil]; omega
  · simp only [lWt_app, List.length_append]; omega
theorem lWt_taken : ∀ (k : Int) (l : List Net), lWt (netsTaken k l) ≤ 2 * (netsTaken k l).length + netsWt l
 | k, [] => by simp [netsTaken, lWt]
 | k, x :: r => by
  have h1 := lWt_begins x; have h2 := lWt_taken k r; have h3 : x.as.length ≤ x.wt := by cases x; simp only [Net.as, Net.wt]; omega
  simp only [netsTaken, netsWt]; split
  · simp only [lWt_app, lWt, insWt, List.length_append, List.length_singleton]; omega
  · simp only [lWt_app, lWt, insWt, Ins.bare, List.length_append, List.length_singleton, List.length_nil]; omega
end
theorem back_wt : ∀ (l : List Ins) (s t : List Net), backGo s l = some t → netsWt t ≤ netsWt s + lWt l
 | [], s, t, h => by simp only [backGo, Option.some.injEq] at h; subst h; simp [lWt]
 | i :: r, s, t, h => by
  simp only [backGo] at h; split at h
  · cases h
  · have h1 := back_wt r _ t h
    have h2 := step_wt s i; simp only [lWt]; omega
theorem backNet_wt {l : List Ins} {N : Net} (h : backNetL l = some N) : N.wt ≤ lWt l := by
 unfold backNetL at h; split at h
 · cases h
 · split at h
   · rename_i m hm
     split at h
     · cases h
       have := back_wt l [] _ hm; simp only [netsWt] at this; omega
     · cases h
   · cases h
theorem run_lawBackNet (st : Nat) (l : List Int) (n : Nat) (hn : 400000 ≤ n) (L : List Ins) (hL : L.length ≤ 3000) (hA : ∀ x ∈ L, x.e.as.length ≤ 10)
 (hd : ¬ 1048576 < l.length → ∀ s, go n 286 [.w (bW st l)] [] s = some ⟨.w (isW L), [], []⟩) (s : Sup) :
 go (n + 1) 266 [.w (bW st l)] [] s = some ⟨bV true, [], []⟩ := by
 by_cases hl : 1048576 < l.length
 · have hli : ((1048576 : Int) < (l.length : Int)) = True := eq_true (by omega)
   simp [go_of FT_266 rfl, F266, hl, hli]
 have hli : ((1048576 : Int) < (l.length : Int)) = False := eq_false (by omega); have hd := hd hl; have hlw := lWt_le2 10 L hA; have w1 : ∀ s, go n 287 [.w (isW L)] [] s = some ⟨.tup [netP ((backNetL L).getD Net.nil), (false, [.d (.s (.bool (backNetL L).isSome))])], [], []⟩ := fun s => by
  have := run_BackNet (n := n - 1) L (fun x hx => by have := hA x hx; omega) (by omega) (by omega) (by omega) s
  rwa [show n - 1 + 1 = n by omega] at this
 have w2 : ∀ s, go n 288 [.w (isW L)] [] s = some ⟨.tup [netP ((backNetL L).getD Net.nil), (false, [.d (.s (.bool (backNetL L).isSome))])], [], []⟩ := fun s => by
  have := run_BackNetS (n := n - 1) L (fun x hx => by have := hA x hx; omega) (by omega) (by omega) (by omega) s
  rwa [show n - 1 + 1 = n by omega] at this
 have rmA : room 1 24 = true := by decide
 have rmE : room 1 32 = true := by decide
 have rmK : room 1 112 = true := by decide
 cases hN : backNetL L with
 | none =>
  rw [hN] at w1 w2; simp only [Option.getD_none, Option.isSome_none, netP, Net.nil, Net.kind, Net.op, Net.as, Net.kids, argRows_nil, netRows_nil] at w1 w2; have w3 := run_TreeSameS 100 (blk Net.nil) (blk Net.nil) (by simp [armsWt, Arm.wt, Net.nil, Net.wt, netsWt, elsWt, El.wt]) (by omega) n (by omega); rw [eqB_true rfl] at w3; simp only [ksW, blk_rows, Net.nil, Net.kind, Net.op, Net.as, Net.kids, argRows_nil, netRows_nil] at w3; simp [go_of FT_266 rfl, F266, hl, hli, hd, w1, w2, w3, rmA, rmE, rmK]
 | some N =>
  obtain ⟨g1, g2, g3, g4, g5⟩ := backNet_good hN; have hwt := backNet_wt hN; rw [hN] at w1 w2; simp only [Option.getD_some, Option.isSome_some, netP] at w1 w2; have hbw : armsWt (blk N) ≤ 36100 := by simp only [armsWt, Arm.wt, elsWt, El.wt, List.length_singleton]; omega
  have w3 := run_TreeSameS (armsWt (blk N)) (blk N) (blk N) (Nat.le_refl _) (by omega) n (by omega); rw [eqB_true rfl] at w3; have w4 := run_TreeSize (armsWt (blk N)) (blk N) (Nat.le_refl _) (by omega) n (by omega); have w5 := run_TreeSame (armsWt (blk N)) (blk N) (blk N) (Nat.le_refl _) (by omega) n (by omega); rw [eqB_true rfl] at w5
  by_cases hsz : 400 < armsSize (blk N)
  · have hi : ((400 : Int) < (armsSize (blk N) : Int)) = True := eq_true (by omega)
    generalize armsSize (blk N) = sz at w4 hi; simp only [ksW, blk_rows] at w3 w4; obtain ⟨k, o, as, ks⟩ := N; simp only [Net.kind, Net.op, Net.as, Net.kids] at w1 w2 w3 w4; simp [go_of FT_266 rfl, F266, hl, hli, hd, w1, w2, w3, w4, hi, rmA, rmE, rmK]
  · have hi : ((400 : Int) < (armsSize (blk N) : Int)) = False := eq_false (by omega)
    obtain ⟨b1, b2⟩ := blk_code g1 g2 (by omega); have w6 := run_WayPlain (blk N) (by omega) n (by omega); rw [b2, blk_plain] at w6; have w7 : ∀ s, go n 206 [.w (ksW (blk N))] [] s = some ⟨bV true, [], []⟩ := fun s => by
     have := run_NormIs (blk N) (by omega) (n - 1) (by omega) s; have e : armsNorm (blk N) = blk N := by have := b2; unfold normOf at this; rwa [if_pos b1] at this
     rwa [show n - 1 + 1 = n by omega, e, decide_eq_true b1, eqB_true rfl, Bool.true_and] at this
    have hP1 : (N.begins ++ [⟨10, coilE⟩, Ins.bare 11]).length = N.begins.length + 2 := by simp
    have hargs : ∀ x ∈ N.begins, x.e.as.length ≤ 36100 := fun x hx => by have := begins_args N x hx; omega
    have w8 : ∀ s, go n 287 [.w (isW N.begins)] [] s = some ⟨.tup [netP N, (false, [.d (.s (.bool true))])], [], []⟩ := fun s => by
     have hlw2 := lWt_begins N; have := run_BackNet (n := n - 1) N.begins (fun x hx => by have := hargs x hx; omega) (by omega) (by omega) (by omega) s
     rwa [show n - 1 + 1 = n by omega, back_again g1 g2 g3 (by omega)] at this
    have e1 : IntKind.i64.wrap ((N.begins.length : Int) + 1 + 1 - 2) = N.begins.length := by rw [show (N.begins.length : Int) + 1 + 1 - 2 = N.begins.length by omega]; exact wrap_id (by omega) (by omega)
    have e2 : IntKind.i64.wrap ((L.length : Int) + 2) = (L.length : Int) + 2 := wrap_id (by omega) (by omega); have q1 : (N.begins.length ≤ L.length) = True := eq_true (by omega); have q2 : ((N.begins.length : Int) + 1 + 1 < 2) = False := eq_false (by omega); have q3 : (0 ≤ (N.begins.length : Int)) = True := eq_true (by omega); have q9 : ((N.begins.length : Int) + 2 ≤ (L.length : Int) + 2) = True := eq_true (by omega); have q10 : ((L.length : Int) + 2 < (N.begins.length : Int) + 2) = False := eq_false (by omega); have q6 : (L.length < N.begins.length) = False := eq_false (by omega); have q7 : ((N.begins.length : Int) + 2 < 2) = False := eq_false (by omega)
    have q8 : ((N.begins.length : Int) ≤ (N.begins.length : Int) + 2) = True := eq_true (by omega); have e3 : IntKind.i64.wrap (N.begins.length : Int) = N.begins.length := wrap_id (by omega) (by omega); have q4 : ((N.begins.length : Int) ≤ (N.begins.length : Int) + 1 + 1) = True := eq_true (by omega); have al := eq_true (insRow_all (N.begins ++ [⟨10, coilE⟩, Ins.bare 11])); have tk : List.take N.begins.length (insRows (N.begins ++ [⟨10, coilE⟩, Ins.bare 11])) = insRows N.begins := by
     rw [insRows_append, List.take_append_of_le_length (by rw [insRows_length]; omega), take_insRows]
    have hPl : (insRows (N.begins ++ [⟨10, coilE⟩, Ins.bare 11])).length = N.begins.length + 2 := by rw [insRows_length]; simp
    simp only [isW] at w6; generalize insRows (N.begins ++ [⟨10, coilE⟩, Ins.bare 11]) = Q at w6 al tk hPl; generalize N.begins = P at *; generalize armsSize (blk N) = sz at w4 hi; simp only [ksW, blk_rows] at w3 w4 w5 w6 w7; simp only [netP] at w8; obtain ⟨k, o, as, ks⟩ := N; simp only [Net.kind, Net.op, Net.as, Net.kids] at w1 w2 w3 w4 w5 w6 w7 w8; simp [go_of FT_266 rfl, F266, hl, hli, hd, w1, w2, w3, w4, w5, w6, w7, w8, hi, rmA, rmE, rmK, e1, e2, e3, q1, q2, q3, q4, q6, q7, q8, q9, q10, tk, al, hPl, insRows_length]
end Go.VM
