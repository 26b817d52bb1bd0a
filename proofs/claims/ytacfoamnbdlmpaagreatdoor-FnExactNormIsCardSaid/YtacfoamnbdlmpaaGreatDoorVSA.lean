/- Draws: numbers and operands out of a code; they come to an end and are of their shape. Conditions: none. -/
import Derived.Test.YtacfoamnbdlmpaaGreatDoorVR0
import Derived.Test.YtacfoamnbdlmpaaGreatDoorVQC

namespace Go.VM
set_option linter.unusedSimpArgs false
set_option linter.unusedVariables false
set_option maxHeartbeats 8000000

def RD (b : List Int) : Prop := (∀ x ∈ b, 0 ≤ x ∧ x < 256) ∧ b.length ≤ 2 ^ 40
abbrev rB (b : List Int) (p : Nat) : Box := rdB 0 b p
abbrev pV : V := .w (.ptr 0 0)
abbrev lV (l : List Int) : V := .w (.d (.l 0 (l.map fun x => [iD x])))

theorem draw_pick {b : List Int} (hb : RD b) (m : Int) (p : Nat) (hp : p < 2 ^ 39) (n : Nat) (hn : 1 ≤ n) :
    ∃ (v : Int) (q : Nat), 0 ≤ v ∧ (1 ≤ m → v < m) ∧ q ≤ p + 1 ∧ ∀ s, go n 67 [pV, iV m] [rB b p] s = some ⟨iV v, [rB b q], []⟩ := by
  have h := pickV_ok hb.1 (p := p) (by omega) m
  exact ⟨pickV b p m, p + 1, h.1, h.2, Nat.le_refl _, fun s => run_pick hn 0 b p (by omega) hb.2 m s⟩
theorem draw_num {b : List Int} (hb : RD b) (l : List Int) (hl : 1 ≤ l.length ∧ l.length < 2 ^ 40) (p : Nat) (hp : p < 2 ^ 39) (n : Nat) (hn : 2 ≤ n) :
    ∃ (v : Int) (q : Nat), v ∈ l ∧ q ≤ p + 1 ∧ ∀ s, go n 96 [pV, lV l] [rB b p] s = some ⟨iV v, [rB b q], []⟩ := by
  obtain ⟨n, rfl⟩ : ∃ k, n = k + 1 := ⟨n - 1, by omega⟩
  obtain ⟨v, q, h1, h2, h3, w⟩ := draw_pick hb (l.length : Int) p hp n (by omega)
  have h2 := h2 (by omega)
  obtain ⟨j, rfl⟩ : ∃ j : Nat, v = j := ⟨v.toNat, by omega⟩
  have hj : j < l.length := by omega
  have hg : (l.map fun x => [iD x])[j]? = some [iD l[j]] := by simp [hj]
  refine ⟨l[j], q, List.getElem_mem hj, h3, fun s => ?_⟩
  simp [-getElem?_pos, go_of FT_96 rfl, F96, w, hg]

theorem draw_Arg {b : List Int} (hb : RD b) (kind : Int) (p : Nat) (hp : p < 2 ^ 38) (n : Nat) (hn : 4 ≤ n) :
    ∃ (a : Arg) (q : Nat), q ≤ p + 4 ∧ ∀ s, go n 153 [pV, iV kind] [rB b p] s = some ⟨argX a, [rB b q], []⟩ := by
  obtain ⟨n, rfl⟩ : ∃ k, n = k + 1 := ⟨n - 1, by omega⟩
  by_cases c1 : kind = 11
  · obtain ⟨v, q, h1, h2, w⟩ := draw_num hb [0, 1, 2, 3, 5, -1, -7, 10, 100, 32767, -32768, 1000] (by simp) p (by omega) n (by omega)
    simp only [lV, List.map_cons, List.map_nil] at w
    refine ⟨⟨kind, v, 0⟩, q, by omega, fun s => ?_⟩
    simp [go_of FT_153 rfl, F153, c1, w, List.replicate]
  by_cases c2 : kind = 12
  · obtain ⟨v, q, h1, h2, w⟩ := draw_num hb [0, 1, 5, -5, 25, -15, 999999999, -999999999, 3, 1001, 7] (by simp) p (by omega) n (by omega)
    simp only [lV, List.map_cons, List.map_nil] at w
    obtain ⟨u, q2, h3, h4, h5, w2⟩ := draw_pick hb 6 q (by omega) n (by omega)
    by_cases c3 : v.tmod 10 = 0
    · refine ⟨⟨kind, v, 1⟩, q2, by omega, fun s => ?_⟩
      simp [go_of FT_153 rfl, F153, c1, c2, c3, w, w2, List.replicate]
    · refine ⟨⟨kind, v, IntKind.wrap .i64 (1 + u)⟩, q2, by omega, fun s => ?_⟩
      simp [go_of FT_153 rfl, F153, c1, c2, c3, w, w2, List.replicate]
  by_cases c3 : kind = 13
  · obtain ⟨u, q2, h3, h4, h5, w2⟩ := draw_pick hb 4 p (by omega) n (by omega)
    refine ⟨⟨kind, u, 0⟩, q2, by omega, fun s => ?_⟩
    simp [go_of FT_153 rfl, F153, c1, c2, c3, w2]
  · obtain ⟨u, q2, h3, h4, h5, w2⟩ := draw_pick hb 4 p (by omega) n (by omega)
    obtain ⟨u2, q3, h6, h7, h8, w3⟩ := draw_pick hb 6 q2 (by omega) n (by omega)
    have wd := run_DevSizeS (n := n) (by omega) kind
    by_cases c4 : u2 = 0
    · obtain ⟨u3, q4, h9, h10, h11, w4⟩ := draw_pick hb (devSize kind) q3 (by omega) n (by omega)
      by_cases c5 : devSize kind ≤ u3
      · refine ⟨⟨kind, 0, 0⟩, q4, by omega, fun s => ?_⟩
        simp [go_of FT_153 rfl, F153, c1, c2, c3, c4, c5, w2, w3, w4, wd]
      · refine ⟨⟨kind, u3, 0⟩, q4, by omega, fun s => ?_⟩
        simp [go_of FT_153 rfl, F153, c1, c2, c3, c4, c5, w2, w3, w4, wd]
    · by_cases c5 : devSize kind ≤ u
      · refine ⟨⟨kind, 0, 0⟩, q3, by omega, fun s => ?_⟩
        simp [go_of FT_153 rfl, F153, c1, c2, c3, c4, c5, w2, w3, wd]
      · refine ⟨⟨kind, u, 0⟩, q3, by omega, fun s => ?_⟩
        simp [go_of FT_153 rfl, F153, c1, c2, c3, c4, c5, w2, w3, wd]
theorem draw_Bit {b : List Int} (hb : RD b) (p : Nat) (hp : p < 2 ^ 37) (n : Nat) (hn : 5 ≤ n) : ∃ (a : Arg) (q : Nat), q ≤ p + 5 ∧ ∀ s, go n 155 [pV] [rB b p] s = some ⟨argX a, [rB b q], []⟩ := by
  obtain ⟨n, rfl⟩ : ∃ k, n = k + 1 := ⟨n - 1, by omega⟩
  obtain ⟨v, q, h1, h2, w⟩ := draw_num hb [1, 1, 2, 3, 3, 4, 6, 7, 8] (by simp) p (by omega) n (by omega)
  simp only [lV, List.map_cons, List.map_nil] at w
  obtain ⟨a, q2, h3, w2⟩ := draw_Arg hb v q (by omega) n (by omega)
  refine ⟨a, q2, by omega, fun s => ?_⟩
  simp [go_of FT_155 rfl, F155, w, w2, List.replicate]
theorem draw_Whole {b : List Int} (hb : RD b) (p : Nat) (hp : p < 2 ^ 37) (n : Nat) (hn : 5 ≤ n) : ∃ (a : Arg) (q : Nat), q ≤ p + 5 ∧ ∀ s, go n 156 [pV] [rB b p] s = some ⟨argX a, [rB b q], []⟩ := by
  obtain ⟨n, rfl⟩ : ∃ k, n = k + 1 := ⟨n - 1, by omega⟩
  obtain ⟨v, q, h1, h2, w⟩ := draw_num hb [9, 9, 9, 11, 11, 7, 8] (by simp) p (by omega) n (by omega)
  simp only [lV, List.map_cons, List.map_nil] at w
  obtain ⟨a, q2, h3, w2⟩ := draw_Arg hb v q (by omega) n (by omega)
  refine ⟨a, q2, by omega, fun s => ?_⟩
  simp [go_of FT_156 rfl, F156, w, w2, List.replicate]
theorem draw_Real {b : List Int} (hb : RD b) (p : Nat) (hp : p < 2 ^ 37) (n : Nat) (hn : 5 ≤ n) : ∃ (a : Arg) (q : Nat), q ≤ p + 5 ∧ ∀ s, go n 157 [pV] [rB b p] s = some ⟨argX a, [rB b q], []⟩ := by
  obtain ⟨n, rfl⟩ : ∃ k, n = k + 1 := ⟨n - 1, by omega⟩
  obtain ⟨v, q, h1, h2, w⟩ := draw_num hb [10, 10, 10, 12, 13] (by simp) p (by omega) n (by omega)
  simp only [lV, List.map_cons, List.map_nil] at w
  obtain ⟨a, q2, h3, w2⟩ := draw_Arg hb v q (by omega) n (by omega)
  refine ⟨a, q2, by omega, fun s => ?_⟩
  simp [go_of FT_157 rfl, F157, w, w2, List.replicate]

theorem draw_Contact {b : List Int} (hb : RD b) (p : Nat) (hp : p < 2 ^ 36) (n : Nat) (hn : 6 ≤ n) : ∃ (e : El) (q : Nat), e.as.length ≤ 2 ∧ q ≤ p + 24 ∧ ∀ s, go n 134 [pV] [rB b p] s = some ⟨elX e, [rB b q], []⟩ := by
  obtain ⟨n, rfl⟩ : ∃ k, n = k + 1 := ⟨n - 1, by omega⟩
  obtain ⟨v, q, h1, h2, h3, w⟩ := draw_pick hb 8 p (by omega) n (by omega)
  have h2 := h2 (by omega)
  obtain ⟨a1, q1, g1, w1⟩ := draw_Bit hb q (by omega) n (by omega)
  by_cases c1 : v = 0 ∨ v = 1 ∨ v = 2
  · refine ⟨⟨1, [a1]⟩, q1, by simp, by omega, fun s => ?_⟩
    rcases c1 with rfl | rfl | rfl <;> simp [go_of FT_134 rfl, F134, w, w1, List.replicate, argRows, Arg.row]
  by_cases c2 : v = 3 ∨ v = 4
  · refine ⟨⟨2, [a1]⟩, q1, by simp, by omega, fun s => ?_⟩
    rcases c2 with rfl | rfl <;> simp [go_of FT_134 rfl, F134, w, w1, List.replicate, argRows, Arg.row]
  by_cases c3 : v = 5
  · obtain ⟨u, q2, h4, h5, h6, w2⟩ := draw_pick hb 2 q (by omega) n (by omega)
    obtain ⟨a1, q1, g1, w1⟩ := draw_Bit hb q2 (by omega) n (by omega)
    obtain ⟨a2, q3, g2, w3⟩ := draw_Arg hb 5 q1 (by omega) n (by omega)
    refine ⟨⟨IntKind.wrap .i64 (3 + u), [a1, a2]⟩, q3, by simp, by omega, fun s => ?_⟩
    subst c3
    simp [go_of FT_134 rfl, F134, w, w1, w2, w3, List.replicate, argRows, Arg.row]
  · have hv : ∀ m : Int, m ≤ 5 → (v = m) = False := fun m hm => eq_false (by omega)
    clear w1 g1
    obtain ⟨a, q1, g1, w1⟩ := draw_Whole hb q (by omega) n (by omega)
    obtain ⟨a2, q2, g2, w2⟩ := draw_Whole hb q1 (by omega) n (by omega)
    obtain ⟨u, q3, h4, h5, h6, w3⟩ := draw_pick hb 2 q2 (by omega) n (by omega)
    by_cases c4 : u = 0
    · obtain ⟨a3, q4, g3, w4⟩ := draw_Real hb q3 (by omega) n (by omega)
      obtain ⟨a4, q5, g4, w5⟩ := draw_Real hb q4 (by omega) n (by omega)
      obtain ⟨u2, q6, h7, h8, h9, w6⟩ := draw_pick hb 4 q5 (by omega) n (by omega)
      obtain ⟨u3, q7, h10, h11, h12, w7⟩ := draw_pick hb 6 q6 (by omega) n (by omega)
      by_cases c5 : u2 = 0
      · refine ⟨⟨IntKind.wrap .i64 (5 + u3), [a3, a3]⟩, q7, by simp, by omega, fun s => ?_⟩
        simp [go_of FT_134 rfl, F134, w, w1, w2, w3, w4, w5, w6, w7, hv, c4, c5, List.replicate, argRows, Arg.row]
      · refine ⟨⟨IntKind.wrap .i64 (5 + u3), [a3, a4]⟩, q7, by simp, by omega, fun s => ?_⟩
        simp [go_of FT_134 rfl, F134, w, w1, w2, w3, w4, w5, w6, w7, hv, c4, c5, List.replicate, argRows, Arg.row]
    · obtain ⟨u2, q6, h7, h8, h9, w6⟩ := draw_pick hb 4 q3 (by omega) n (by omega)
      obtain ⟨u3, q7, h10, h11, h12, w7⟩ := draw_pick hb 6 q6 (by omega) n (by omega)
      by_cases c5 : u2 = 0
      · refine ⟨⟨IntKind.wrap .i64 (5 + u3), [a, a]⟩, q7, by simp, by omega, fun s => ?_⟩
        simp [go_of FT_134 rfl, F134, w, w1, w2, w3, w6, w7, hv, c4, c5, List.replicate, argRows, Arg.row]
      · refine ⟨⟨IntKind.wrap .i64 (5 + u3), [a, a2]⟩, q7, by simp, by omega, fun s => ?_⟩
        simp [go_of FT_134 rfl, F134, w, w1, w2, w3, w6, w7, hv, c4, c5, List.replicate, argRows, Arg.row]

end Go.VM

/- Draws: coils, and what is spoilt; they come to an end and are of their shape. Conditions: none. -/
namespace Go.VM
set_option linter.unusedSimpArgs false
set_option linter.unusedVariables false
set_option maxHeartbeats 8000000

theorem draw_Spoilt {b : List Int} (hb : RD b) (a : Arg) (p : Nat) (hp : p < 2 ^ 38) (n : Nat) (hn : 4 ≤ n) :
    ∃ (a' : Arg) (q : Nat), q ≤ p + 2 ∧ ∀ s, go n 154 [pV, argX a] [rB b p] s = some ⟨argX a', [rB b q], []⟩ := by
  obtain ⟨n, rfl⟩ : ∃ k, n = k + 1 := ⟨n - 1, by omega⟩
  obtain ⟨k, m, pp⟩ := a
  obtain ⟨v, q, h1, h2, h3, w⟩ := draw_pick hb 6 p (by omega) n (by omega)
  have wd := run_DevSizeS (n := n) (by omega) k
  by_cases c0 : v = 0
  · obtain ⟨u, q2, g1, g2, g3, w2⟩ := draw_pick hb 16 q (by omega) n (by omega)
    refine ⟨⟨IntKind.wrap .i64 (u - 1), m, pp⟩, q2, by omega, fun s => ?_⟩
    simp [go_of FT_154 rfl, F154, w, w2, c0]
  by_cases c1 : v = 1
  · obtain ⟨u, q2, g1, g2, w2⟩ := draw_num hb [-1, 4, 5, 15, 16, 31, 32, 63, 64, 255, 32768, -32769, 1000000000, -1000000000, 20, 10] (by simp) q (by omega) n (by omega)
    simp only [lV, List.map_cons, List.map_nil] at w2
    refine ⟨⟨k, u, pp⟩, q2, by omega, fun s => ?_⟩
    simp [go_of FT_154 rfl, F154, w, w2, c0, c1, List.replicate]
  by_cases c2 : v = 2
  · obtain ⟨u, q2, g1, g2, w2⟩ := draw_num hb [-1, 0, 1, 6, 7] (by simp) q (by omega) n (by omega)
    simp only [lV, List.map_cons, List.map_nil] at w2
    refine ⟨⟨k, m, u⟩, q2, by omega, fun s => ?_⟩
    simp [go_of FT_154 rfl, F154, w, w2, c0, c1, c2, List.replicate]
  by_cases c3 : v = 3
  · refine ⟨⟨k, devSize k, pp⟩, q, by omega, fun s => ?_⟩
    simp [go_of FT_154 rfl, F154, w, wd, c0, c1, c2, c3]
  by_cases c4 : v = 4
  · refine ⟨⟨k, IntKind.wrap .i64 (devSize k - 1), pp⟩, q, by omega, fun s => ?_⟩
    simp [go_of FT_154 rfl, F154, w, wd, c0, c1, c2, c3, c4]
  · refine ⟨⟨k, IntKind.wrap .i64 (-m), pp⟩, q, by omega, fun s => ?_⟩
    have hneg : unV .neg (.w (iW m)) = some (.w (.d (.s (.int .i64 (IntKind.wrap .i64 (-m)))))) := by
      show some (sV (.int .i64 (IntKind.wrap .i64 (0 - m)))) = _
      rw [Int.zero_sub]; rfl
    simp [go_of FT_154 rfl, F154, w, wd, c0, c1, c2, c3, c4, hneg]
theorem draw_Any {b : List Int} (hb : RD b) (p : Nat) (hp : p < 2 ^ 37) (n : Nat) (hn : 5 ≤ n) :
    ∃ (a : Arg) (q : Nat), q ≤ p + 8 ∧ ∀ s, go n 129 [pV] [rB b p] s = some ⟨argX a, [rB b q], []⟩ := by
  obtain ⟨n, rfl⟩ : ∃ k, n = k + 1 := ⟨n - 1, by omega⟩
  obtain ⟨v, q, h1, h2, h3, w⟩ := draw_pick hb 13 p (by omega) n (by omega)
  obtain ⟨a, q2, g1, w2⟩ := draw_Arg hb (IntKind.wrap .i64 (1 + v)) q (by omega) n (by omega)
  obtain ⟨u, q3, h4, h5, h6, w3⟩ := draw_pick hb 20 q2 (by omega) n (by omega)
  by_cases c : u = 0
  · obtain ⟨a2, q4, g2, w4⟩ := draw_Spoilt hb a q3 (by omega) n (by omega)
    refine ⟨a2, q4, by omega, fun s => ?_⟩
    simp [go_of FT_129 rfl, F129, w, w2, w3, w4, c]
  · refine ⟨a, q3, by omega, fun s => ?_⟩
    simp [go_of FT_129 rfl, F129, w, w2, w3, c]

theorem argRows_set (l : List Arg) (i : Nat) (a : Arg) : (argRows l).set i [iD a.k, iD a.n, iD a.p] = argRows (l.set i a) := by
  simp [argRows, List.map_set, Arg.row]
theorem argRows_append (l m : List Arg) : argRows (l ++ m) = argRows l ++ argRows m := by simp [argRows]
theorem len_of3 (l : List Arg) : ∀ x ∈ argRows l, x.length = 3 := fun x hx => by
  simp only [argRows, List.mem_map] at hx
  obtain ⟨a, _, rfl⟩ := hx
  rfl
theorem draw_Spoil {b : List Int} (hb : RD b) (e : El) (hl : e.as.length < 2 ^ 20) (p : Nat) (hp : p < 2 ^ 36) (n : Nat) (hn : 6 ≤ n) :
    ∃ (e' : El) (q : Nat), e'.as.length ≤ e.as.length + 1 ∧ q ≤ p + 20 ∧ ∀ s, go n 136 [pV, elX e] [rB b p] s = some ⟨elX e', [rB b q], []⟩ := by
  obtain ⟨n, rfl⟩ : ∃ k, n = k + 1 := ⟨n - 1, by omega⟩
  obtain ⟨op, as⟩ := e
  simp only at hl
  obtain ⟨v, q, h1, h2, h3, w⟩ := draw_pick hb 6 p (by omega) n (by omega)
  have al := eq_true (len_of3 as)
  have rm : room as.length 24 = true := room_of (by omega) (by omega)
  by_cases c0 : v = 0
  · obtain ⟨u, q2, g1, g2, w2⟩ := draw_num hb [-1, 0, 1, 5, 11, 20, 21, 26, 37, 38] (by simp) q (by omega) n (by omega)
    simp only [lV, List.map_cons, List.map_nil] at w2
    refine ⟨⟨u, as⟩, q2, by simp, by omega, fun s => ?_⟩
    simp [go_of FT_136 rfl, F136, w, w2, c0, List.replicate, al, rm]
  by_cases c1 : v = 1
  · obtain ⟨a, q2, g2, w2⟩ := draw_Any hb q (by omega) n (by omega)
    have rm2 : room (as.length + 1) 24 = true := room_of (by omega) (by omega)
    have tk : List.take (as.length + 1) (argRows as ++ [[iD a.k, iD a.n, iD a.p]]) = argRows as ++ [[iD a.k, iD a.n, iD a.p]] := by rw [List.take_of_length_le (by simp)]
    refine ⟨⟨op, as ++ [a]⟩, q2, by simp, by omega, fun s => ?_⟩
    simp [go_of FT_136 rfl, F136, w, w2, c0, c1, List.replicate, al, rm, rm2, argRows_append, tk]
    simp [argRows, Arg.row]
  by_cases c2 : v = 2
  · refine ⟨⟨op, []⟩, q, by simp, by omega, fun s => ?_⟩
    simp [go_of FT_136 rfl, F136, w, c0, c1, c2, List.replicate, al, rm, show argRows [] = [] from rfl]
  · by_cases c3 : 0 < as.length
    · have c3i : ((0 : Int) < (as.length : Int)) = True := eq_true (by omega)
      obtain ⟨u, q2, g1, g2, g3, w2⟩ := draw_pick hb as.length q (by omega) n (by omega)
      have g2 := g2 (by omega)
      obtain ⟨j, rfl⟩ : ∃ j : Nat, u = j := ⟨u.toNat, by omega⟩
      have hj : j < as.length := by omega
      have hg := List.getElem?_eq_getElem hj
      have hb1 := argRows_get hg
      obtain ⟨a, q3, g4, w3⟩ := draw_Spoilt hb as[j] q2 (by omega) n (by omega)
      obtain ⟨u2, q4, g5, g6, g7, w4⟩ := draw_pick hb 2 q3 (by omega) n (by omega)
      have hs1 := argRows_set as j a
      by_cases c4 : u2 = 0
      · obtain ⟨a2, q5, g8, w5⟩ := draw_Any hb q4 (by omega) n (by omega)
        have hs2 := argRows_set (as.set j a) j a2
        have hb2 := argRows_get (l := as.set j a) (i := j) (a := a) (by simp [hj])
        refine ⟨⟨op, (as.set j a).set j a2⟩, q5, by simp, by omega, fun s => ?_⟩
        have tk := take_argRows ((as.set j a).set j a2)
        simp only [List.length_set] at tk
        simp [-getElem?_pos, -List.getElem?_set_self, -List.set_set, go_of FT_136 rfl, F136, w, w2, w3, w4, w5, c0, c1, c2, c3, c3i, c4, List.replicate, al, rm, hj, hb1, hb2, hs1, hs2, tk]
      · refine ⟨⟨op, as.set j a⟩, q4, by simp, by omega, fun s => ?_⟩
        have tk := take_argRows (as.set j a)
        simp only [List.length_set] at tk
        simp [-getElem?_pos, go_of FT_136 rfl, F136, w, w2, w3, w4, c0, c1, c2, c3, c3i, c4, List.replicate, al, rm, hj, hb1, hs1, tk]
    · have c3i : ((0 : Int) < (as.length : Int)) = False := eq_false (by omega)
      have c3e : as = [] := List.eq_nil_of_length_eq_zero (by omega)
      subst c3e
      refine ⟨⟨op, []⟩, q, by simp, by omega, fun s => ?_⟩
      simp [go_of FT_136 rfl, F136, w, c0, c1, c2, List.replicate, argRows, show room 0 24 = true by decide]

end Go.VM
