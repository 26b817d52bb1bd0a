/- Draws: ladders. Conditions: none. -/
import Derived.Test.YtacfoamnbdlmpaaDoorVS9
import Derived.Test.YtacfoamnbdlmpaaDoorVS7

namespace Go.VM
set_option linter.unusedSimpArgs false
set_option linter.unusedVariables false
set_option maxHeartbeats 16000000

theorem draw_Spoil2 {b : List Int} (hb : RD b) (l : List Arm) (hl : armsWt l ≤ 20000) (n : Nat) (hn : 60001 ≤ n) (p : Nat) (hp : p < 2 ^ 30) :
    ∃ (l' : List Arm) (q : Nat), armsWt l' ≤ armsWt l + 2000 ∧ q ≤ p + 2 ^ 23 ∧ ∀ s, go n 152 [pV, .w (ksW l)] [rB b p] s = some ⟨.w (ksW l'), [rB b q], []⟩ := by
  obtain ⟨n, rfl⟩ : ∃ k, n = k + 1 := ⟨n - 1, by omega⟩
  obtain ⟨l', q, h1, h2, w⟩ := draw_SpoilL hb l hl n (by omega) p hp
  exact ⟨l', q, h1, h2, fun s => (go_sp FT_152 rfl rfl).trans (w s)⟩
theorem draw_LAny {b : List Int} (hb : RD b) (n : Nat) (hn : 70000 ≤ n) (p : Nat) (hp : p < 2 ^ 29) :
    ∃ (l : List Arm) (q : Nat), armsWt l ≤ 15000 ∧ q ≤ p + 2 ^ 24 ∧ ∀ s, go n 128 [pV] [rB b p] s = some ⟨.w (ksW l), [rB b q], []⟩ := by
  obtain ⟨n, rfl⟩ : ∃ k, n = k + 1 := ⟨n - 1, by omega⟩
  obtain ⟨l, q1, h1, h2, w1⟩ := draw_Ladder hb n (by omega) p (by omega)
  obtain ⟨v, q2, v1, v2, v3, w2⟩ := draw_pick hb 16 q1 (by omega) n (by omega)
  by_cases c : v = 0
  · obtain ⟨l', q3, k1, k2, w3⟩ := draw_Spoil2 hb l (by omega) n (by omega) q2 (by omega)
    refine ⟨l', q3, by omega, by omega, fun s => ?_⟩
    subst c
    simp [go_of FT_128 rfl, F128, w1, w2, w3]
  · refine ⟨l, q2, by omega, by omega, fun s => ?_⟩
    simp [go_of FT_128 rfl, F128, w1, w2, c]
theorem draw_DrawNormMake {b : List Int} (hl : b.length < 2 ^ 40) (hb : ∀ x ∈ b, 0 ≤ x ∧ x < 256) (n : Nat) (hn : 80000 ≤ n) : ∃ l : List Arm, armsWt l ≤ 15000 ∧ ∀ s, go n 111 [.w (bW 0 b)] [] s = some ⟨.w (ksW l), [], []⟩ := by
  obtain ⟨n, rfl⟩ : ∃ k, n = k + 1 := ⟨n - 1, by omega⟩
  obtain ⟨b2, hR, w0⟩ := draw_open hl hb n (by omega)
  obtain ⟨l, q, g1, g2, w1⟩ := draw_LAny hR n (by omega) 0 (by omega)
  have w1 : ∀ s, go n 128 [pV] [.cells [.d (.l 0 (byt b2)), .d (.s (.int .i64 0))]] s = some ⟨.w (ksW l), [rB b2 q], []⟩ := w1
  exact ⟨l, g1, fun s => by simp [go_of FT_111 rfl, F111, w0, w1]⟩
theorem draw_DrawTreeUses {b : List Int} (hl : b.length < 2 ^ 40) (hb : ∀ x ∈ b, 0 ≤ x ∧ x < 256) (n : Nat) (hn : 80000 ≤ n) : ∃ (l : List Arm) (a : Arg), armsWt l ≤ 15000 ∧ ∀ s, go n 112 [.w (bW 0 b)] [] s = some ⟨.tup [(false, [ksW l]), (true, [iW a.k, iW a.n, iW a.p])], [], []⟩ := by
  obtain ⟨n, rfl⟩ : ∃ k, n = k + 1 := ⟨n - 1, by omega⟩
  obtain ⟨b2, hR, w0⟩ := draw_open hl hb n (by omega)
  obtain ⟨a, q, g2, w1⟩ := draw_Any hR 0 (by omega) n (by omega)
  have w1 : ∀ s, go n 129 [pV] [.cells [.d (.l 0 (byt b2)), .d (.s (.int .i64 0))]] s = some ⟨argX a, [rB b2 q], []⟩ := w1
  obtain ⟨l, q2, g3, g4, w2⟩ := draw_LAny hR n (by omega) q (by omega)
  refine ⟨l, a, g3, fun s => ?_⟩
  simp [go_of FT_112 rfl, F112, w0, w1, w2]
end Go.VM
