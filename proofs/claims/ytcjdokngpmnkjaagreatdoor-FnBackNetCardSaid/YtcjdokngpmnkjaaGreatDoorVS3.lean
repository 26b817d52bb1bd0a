/- Draws: coils; they come to an end and are of their shape. Conditions: none. -/
import Derived.Test.YtcjdokngpmnkjaaGreatDoorVS1

namespace Go.VM
set_option linter.unusedSimpArgs false
set_option linter.unusedVariables false
set_option maxHeartbeats 8000000
theorem draw_Coil {b : List Int} (hb : RD b) (p : Nat) (hp : p < 2 ^ 36) (n : Nat) (hn : 6 ≤ n) : ∃ (e : El) (q : Nat), e.as.length ≤ 3 ∧ q ≤ p + 40 ∧ ∀ s, go n 135 [pV] [rB b p] s = some ⟨elX e, [rB b q], []⟩ := by
 obtain ⟨n, rfl⟩ : ∃ k, n = k + 1 := ⟨n - 1, by omega⟩; obtain ⟨op, q0, hop, hq0, w0⟩ := draw_num hb [21, 21, 21, 22, 23, 24, 25, 26, 26, 27, 28, 29, 29, 30, 31, 31, 32, 33, 34, 35, 36, 37] (by simp) p (by omega) n (by omega); simp only [lV, List.map_cons, List.map_nil] at w0; obtain ⟨u0, q1, _, _, hq1, w1⟩ := draw_pick hb 2 q0 (by omega) n (by omega); obtain ⟨bit, q2, hq2, w2⟩ := draw_Arg hb (IntKind.wrap .i64 (2 + u0)) q1 (by omega) n (by omega); obtain ⟨⟨prk, prn, prp⟩, q3, hq3, w3⟩ := draw_Arg hb 11 q2 (by omega) n (by omega)
 have hops : op = 21 ∨ op = 22 ∨ op = 23 ∨ op = 24 ∨ op = 25 ∨ op = 26 ∨ op = 27 ∨ op = 28 ∨ op = 29 ∨ op = 30 ∨ (31 ≤ op ∧ op ≤ 34) ∨ op = 35 ∨ op = 36 ∨ op = 37 := by
  simp at hop; omega
 have war := run_ElemArityS (n := n) (by omega)
 by_cases cn : prn < 0
 · obtain ⟨u1, q4, _, _, hq4, w4⟩ := draw_pick hb 9 q3 (by omega) n (by omega)
   rcases hops with rfl | rfl | rfl | rfl | rfl | rfl | rfl | rfl | rfl | rfl | ⟨ho1, ho2⟩ | rfl | rfl | rfl
   · refine ⟨⟨21, [bit]⟩, q4, by simp, by omega, fun s => ?_⟩
     simp [go_of FT_135 rfl, F135, w0, w1, w2, w3, w4, cn, List.replicate, argRows, Arg.row, w0]
   · obtain ⟨x1, r1, _, _, hr1, y1⟩ := draw_pick hb 3 q4 (by omega) n (by omega)
     obtain ⟨a1, r2, hr2, y2⟩ := draw_Arg hb (IntKind.wrap .i64 (2 + x1)) r1 (by omega) n (by omega); refine ⟨⟨22, [a1]⟩, r2, by simp, by omega, fun s => ?_⟩
     simp [go_of FT_135 rfl, F135, w0, w1, w2, w3, w4, cn, List.replicate, argRows, Arg.row, y1, y2]
   · obtain ⟨x1, r1, _, hr1, y1⟩ := draw_num hb [2, 3, 4, 7, 8] (by simp) q4 (by omega) n (by omega)
     simp only [lV, List.map_cons, List.map_nil] at y1; obtain ⟨a1, r2, hr2, y2⟩ := draw_Arg hb x1 r1 (by omega) n (by omega); refine ⟨⟨23, [a1]⟩, r2, by simp, by omega, fun s => ?_⟩
     simp [go_of FT_135 rfl, F135, w0, w1, w2, w3, w4, cn, List.replicate, argRows, Arg.row, y1, y2]
   · obtain ⟨a1, r1, hr1, y1⟩ := draw_Arg hb 5 q4 (by omega) n (by omega)
     refine ⟨⟨24, [bit, a1]⟩, r1, by simp, by omega, fun s => ?_⟩
     simp [go_of FT_135 rfl, F135, w0, w1, w2, w3, w4, cn, List.replicate, argRows, Arg.row, y1]
   · obtain ⟨a1, r1, hr1, y1⟩ := draw_Arg hb 4 q4 (by omega) n (by omega)
     refine ⟨⟨25, [a1]⟩, r1, by simp, by omega, fun s => ?_⟩
     simp [go_of FT_135 rfl, F135, w0, w1, w2, w3, w4, cn, List.replicate, argRows, Arg.row, y1]
   · obtain ⟨a1, r1, hr1, y1⟩ := draw_Arg hb 7 q4 (by omega) n (by omega)
     refine ⟨⟨26, [a1, ⟨prk, u1, prp⟩]⟩, r1, by simp, by omega, fun s => ?_⟩
     simp [go_of FT_135 rfl, F135, w0, w1, w2, w3, w4, cn, List.replicate, argRows, Arg.row, y1]
   · obtain ⟨a1, r1, hr1, y1⟩ := draw_Arg hb 7 q4 (by omega) n (by omega)
     refine ⟨⟨27, [a1, ⟨prk, u1, prp⟩]⟩, r1, by simp, by omega, fun s => ?_⟩
     simp [go_of FT_135 rfl, F135, w0, w1, w2, w3, w4, cn, List.replicate, argRows, Arg.row, y1]
   · obtain ⟨a1, r1, hr1, y1⟩ := draw_Arg hb 7 q4 (by omega) n (by omega)
     refine ⟨⟨28, [a1, ⟨prk, u1, prp⟩]⟩, r1, by simp, by omega, fun s => ?_⟩
     simp [go_of FT_135 rfl, F135, w0, w1, w2, w3, w4, cn, List.replicate, argRows, Arg.row, y1]
   · obtain ⟨a1, r1, hr1, y1⟩ := draw_Arg hb 8 q4 (by omega) n (by omega)
     refine ⟨⟨29, [a1, ⟨prk, u1, prp⟩]⟩, r1, by simp, by omega, fun s => ?_⟩
     simp [go_of FT_135 rfl, F135, w0, w1, w2, w3, w4, cn, List.replicate, argRows, Arg.row, y1]
   · obtain ⟨x1, r1, _, _, hr1, y1⟩ := draw_pick hb 2 q4 (by omega) n (by omega)
     by_cases c : x1 = 0
     · obtain ⟨a1, r2, hr2, y2⟩ := draw_Arg hb 9 r1 (by omega) n (by omega)
       obtain ⟨a2, r3, hr3, y3⟩ := draw_Whole hb r2 (by omega) n (by omega); obtain ⟨a3, r4, hr4, y4⟩ := draw_Whole hb r3 (by omega) n (by omega); refine ⟨⟨30, [a1, a2]⟩, r4, by simp, by omega, fun s => ?_⟩
       simp [go_of FT_135 rfl, F135, w0, w1, w2, w3, w4, cn, List.replicate, argRows, Arg.row, y1, y2, y3, y4, c, war, arity]
     · obtain ⟨a1, r2, hr2, y2⟩ := draw_Arg hb 10 r1 (by omega) n (by omega)
       obtain ⟨a2, r3, hr3, y3⟩ := draw_Real hb r2 (by omega) n (by omega); obtain ⟨a3, r4, hr4, y4⟩ := draw_Real hb r3 (by omega) n (by omega); refine ⟨⟨30, [a1, a2]⟩, r4, by simp, by omega, fun s => ?_⟩
       simp [go_of FT_135 rfl, F135, w0, w1, w2, w3, w4, cn, List.replicate, argRows, Arg.row, y1, y2, y3, y4, c, war, arity]
   · obtain ⟨x1, r1, _, _, hr1, y1⟩ := draw_pick hb 2 q4 (by omega) n (by omega)
     have har : arity op = 3 := by unfold arity; rw [if_neg (by omega), if_pos (by omega)]
     have hk : ∀ m : Int, m ≤ 30 ∨ 35 ≤ m → (op = m) = False := fun m hm => eq_false fun e => by omega
     by_cases c : x1 = 0
     · obtain ⟨a1, r2, hr2, y2⟩ := draw_Arg hb 9 r1 (by omega) n (by omega)
       obtain ⟨a2, r3, hr3, y3⟩ := draw_Whole hb r2 (by omega) n (by omega); obtain ⟨a3, r4, hr4, y4⟩ := draw_Whole hb r3 (by omega) n (by omega); refine ⟨⟨op, [a1, a2, a3]⟩, r4, by simp, by omega, fun s => ?_⟩
       simp [go_of FT_135 rfl, F135, w0, w1, w2, w3, w4, cn, List.replicate, argRows, Arg.row, y1, y2, y3, y4, c, war, har, hk]
     · obtain ⟨a1, r2, hr2, y2⟩ := draw_Arg hb 10 r1 (by omega) n (by omega)
       obtain ⟨a2, r3, hr3, y3⟩ := draw_Real hb r2 (by omega) n (by omega); obtain ⟨a3, r4, hr4, y4⟩ := draw_Real hb r3 (by omega) n (by omega); refine ⟨⟨op, [a1, a2, a3]⟩, r4, by simp, by omega, fun s => ?_⟩
       simp [go_of FT_135 rfl, F135, w0, w1, w2, w3, w4, cn, List.replicate, argRows, Arg.row, y1, y2, y3, y4, c, war, har, hk]
   · obtain ⟨a1, r2, hr2, y2⟩ := draw_Arg hb 9 q4 (by omega) n (by omega)
     obtain ⟨a2, r3, hr3, y3⟩ := draw_Whole hb r2 (by omega) n (by omega); obtain ⟨a3, r4, hr4, y4⟩ := draw_Whole hb r3 (by omega) n (by omega); refine ⟨⟨35, [a1, a2, a3]⟩, r4, by simp, by omega, fun s => ?_⟩
     simp [go_of FT_135 rfl, F135, w0, w1, w2, w3, w4, cn, List.replicate, argRows, Arg.row, y2, y3, y4, war, arity]
   · obtain ⟨a1, r2, hr2, y2⟩ := draw_Arg hb 10 q4 (by omega) n (by omega)
     obtain ⟨a2, r3, hr3, y3⟩ := draw_Whole hb r2 (by omega) n (by omega); refine ⟨⟨36, [a1, a2]⟩, r3, by simp, by omega, fun s => ?_⟩
     simp [go_of FT_135 rfl, F135, w0, w1, w2, w3, w4, cn, List.replicate, argRows, Arg.row, y2, y3]
   · obtain ⟨a1, r2, hr2, y2⟩ := draw_Arg hb 9 q4 (by omega) n (by omega)
     obtain ⟨a2, r3, hr3, y3⟩ := draw_Real hb r2 (by omega) n (by omega); refine ⟨⟨37, [a1, a2]⟩, r3, by simp, by omega, fun s => ?_⟩
     simp [go_of FT_135 rfl, F135, w0, w1, w2, w3, w4, cn, List.replicate, argRows, Arg.row, y2, y3]
 · skip
   rcases hops with rfl | rfl | rfl | rfl | rfl | rfl | rfl | rfl | rfl | rfl | ⟨ho1, ho2⟩ | rfl | rfl | rfl
   · refine ⟨⟨21, [bit]⟩, q3, by simp, by omega, fun s => ?_⟩
     simp [go_of FT_135 rfl, F135, w0, w1, w2, w3, cn, List.replicate, argRows, Arg.row, w0]
   · obtain ⟨x1, r1, _, _, hr1, y1⟩ := draw_pick hb 3 q3 (by omega) n (by omega)
     obtain ⟨a1, r2, hr2, y2⟩ := draw_Arg hb (IntKind.wrap .i64 (2 + x1)) r1 (by omega) n (by omega); refine ⟨⟨22, [a1]⟩, r2, by simp, by omega, fun s => ?_⟩
     simp [go_of FT_135 rfl, F135, w0, w1, w2, w3, cn, List.replicate, argRows, Arg.row, y1, y2]
   · obtain ⟨x1, r1, _, hr1, y1⟩ := draw_num hb [2, 3, 4, 7, 8] (by simp) q3 (by omega) n (by omega)
     simp only [lV, List.map_cons, List.map_nil] at y1; obtain ⟨a1, r2, hr2, y2⟩ := draw_Arg hb x1 r1 (by omega) n (by omega); refine ⟨⟨23, [a1]⟩, r2, by simp, by omega, fun s => ?_⟩
     simp [go_of FT_135 rfl, F135, w0, w1, w2, w3, cn, List.replicate, argRows, Arg.row, y1, y2]
   · obtain ⟨a1, r1, hr1, y1⟩ := draw_Arg hb 5 q3 (by omega) n (by omega)
     refine ⟨⟨24, [bit, a1]⟩, r1, by simp, by omega, fun s => ?_⟩
     simp [go_of FT_135 rfl, F135, w0, w1, w2, w3, cn, List.replicate, argRows, Arg.row, y1]
   · obtain ⟨a1, r1, hr1, y1⟩ := draw_Arg hb 4 q3 (by omega) n (by omega)
     refine ⟨⟨25, [a1]⟩, r1, by simp, by omega, fun s => ?_⟩
     simp [go_of FT_135 rfl, F135, w0, w1, w2, w3, cn, List.replicate, argRows, Arg.row, y1]
   · obtain ⟨a1, r1, hr1, y1⟩ := draw_Arg hb 7 q3 (by omega) n (by omega)
     refine ⟨⟨26, [a1, ⟨prk, prn, prp⟩]⟩, r1, by simp, by omega, fun s => ?_⟩
     simp [go_of FT_135 rfl, F135, w0, w1, w2, w3, cn, List.replicate, argRows, Arg.row, y1]
   · obtain ⟨a1, r1, hr1, y1⟩ := draw_Arg hb 7 q3 (by omega) n (by omega)
     refine ⟨⟨27, [a1, ⟨prk, prn, prp⟩]⟩, r1, by simp, by omega, fun s => ?_⟩
     simp [go_of FT_135 rfl, F135, w0, w1, w2, w3, cn, List.replicate, argRows, Arg.row, y1]
   · obtain ⟨a1, r1, hr1, y1⟩ := draw_Arg hb 7 q3 (by omega) n (by omega)
     refine ⟨⟨28, [a1, ⟨prk, prn, prp⟩]⟩, r1, by simp, by omega, fun s => ?_⟩
     simp [go_of FT_135 rfl, F135, w0, w1, w2, w3, cn, List.replicate, argRows, Arg.row, y1]
   · obtain ⟨a1, r1, hr1, y1⟩ := draw_Arg hb 8 q3 (by omega) n (by omega)
     refine ⟨⟨29, [a1, ⟨prk, prn, prp⟩]⟩, r1, by simp, by omega, fun s => ?_⟩
     simp [go_of FT_135 rfl, F135, w0, w1, w2, w3, cn, List.replicate, argRows, Arg.row, y1]
   · obtain ⟨x1, r1, _, _, hr1, y1⟩ := draw_pick hb 2 q3 (by omega) n (by omega)
     by_cases c : x1 = 0
     · obtain ⟨a1, r2, hr2, y2⟩ := draw_Arg hb 9 r1 (by omega) n (by omega)
       obtain ⟨a2, r3, hr3, y3⟩ := draw_Whole hb r2 (by omega) n (by omega); obtain ⟨a3, r4, hr4, y4⟩ := draw_Whole hb r3 (by omega) n (by omega); refine ⟨⟨30, [a1, a2]⟩, r4, by simp, by omega, fun s => ?_⟩
       simp [go_of FT_135 rfl, F135, w0, w1, w2, w3, cn, List.replicate, argRows, Arg.row, y1, y2, y3, y4, c, war, arity]
     · obtain ⟨a1, r2, hr2, y2⟩ := draw_Arg hb 10 r1 (by omega) n (by omega)
       obtain ⟨a2, r3, hr3, y3⟩ := draw_Real hb r2 (by omega) n (by omega); obtain ⟨a3, r4, hr4, y4⟩ := draw_Real hb r3 (by omega) n (by omega); refine ⟨⟨30, [a1, a2]⟩, r4, by simp, by omega, fun s => ?_⟩
       simp [go_of FT_135 rfl, F135, w0, w1, w2, w3, cn, List.replicate, argRows, Arg.row, y1, y2, y3, y4, c, war, arity]
   · obtain ⟨x1, r1, _, _, hr1, y1⟩ := draw_pick hb 2 q3 (by omega) n (by omega)
     have har : arity op = 3 := by unfold arity; rw [if_neg (by omega), if_pos (by omega)]
     have hk : ∀ m : Int, m ≤ 30 ∨ 35 ≤ m → (op = m) = False := fun m hm => eq_false fun e => by omega
     by_cases c : x1 = 0
     · obtain ⟨a1, r2, hr2, y2⟩ := draw_Arg hb 9 r1 (by omega) n (by omega)
       obtain ⟨a2, r3, hr3, y3⟩ := draw_Whole hb r2 (by omega) n (by omega); obtain ⟨a3, r4, hr4, y4⟩ := draw_Whole hb r3 (by omega) n (by omega); refine ⟨⟨op, [a1, a2, a3]⟩, r4, by simp, by omega, fun s => ?_⟩
       simp [go_of FT_135 rfl, F135, w0, w1, w2, w3, cn, List.replicate, argRows, Arg.row, y1, y2, y3, y4, c, war, har, hk]
     · obtain ⟨a1, r2, hr2, y2⟩ := draw_Arg hb 10 r1 (by omega) n (by omega)
       obtain ⟨a2, r3, hr3, y3⟩ := draw_Real hb r2 (by omega) n (by omega); obtain ⟨a3, r4, hr4, y4⟩ := draw_Real hb r3 (by omega) n (by omega); refine ⟨⟨op, [a1, a2, a3]⟩, r4, by simp, by omega, fun s => ?_⟩
       simp [go_of FT_135 rfl, F135, w0, w1, w2, w3, cn, List.replicate, argRows, Arg.row, y1, y2, y3, y4, c, war, har, hk]
   · obtain ⟨a1, r2, hr2, y2⟩ := draw_Arg hb 9 q3 (by omega) n (by omega)
     obtain ⟨a2, r3, hr3, y3⟩ := draw_Whole hb r2 (by omega) n (by omega); obtain ⟨a3, r4, hr4, y4⟩ := draw_Whole hb r3 (by omega) n (by omega); refine ⟨⟨35, [a1, a2, a3]⟩, r4, by simp, by omega, fun s => ?_⟩
     simp [go_of FT_135 rfl, F135, w0, w1, w2, w3, cn, List.replicate, argRows, Arg.row, y2, y3, y4, war, arity]
   · obtain ⟨a1, r2, hr2, y2⟩ := draw_Arg hb 10 q3 (by omega) n (by omega)
     obtain ⟨a2, r3, hr3, y3⟩ := draw_Whole hb r2 (by omega) n (by omega); refine ⟨⟨36, [a1, a2]⟩, r3, by simp, by omega, fun s => ?_⟩
     simp [go_of FT_135 rfl, F135, w0, w1, w2, w3, cn, List.replicate, argRows, Arg.row, y2, y3]
   · obtain ⟨a1, r2, hr2, y2⟩ := draw_Arg hb 9 q3 (by omega) n (by omega)
     obtain ⟨a2, r3, hr3, y3⟩ := draw_Real hb r2 (by omega) n (by omega); refine ⟨⟨37, [a1, a2]⟩, r3, by simp, by omega, fun s => ?_⟩
     simp [go_of FT_135 rfl, F135, w0, w1, w2, w3, cn, List.replicate, argRows, Arg.row, y2, y3]
end Go.VM
