/- Coils: small facts about their operands. Conditions: none. -/
import Derived.Test.YtacfoamnbdlmpaaGreatDoorVQA

namespace Go.VM
set_option linter.unusedSimpArgs false
set_option linter.unusedVariables false
set_option maxHeartbeats 8000000

theorem coil_arity {e : El} (h : e.coil = true) : (21 ≤ e.op ∧ e.op ≤ 37) ∧ (e.as.length : Int) = arity e.op := by
  obtain ⟨op, as⟩ := e
  unfold El.coil at h
  match as, h with
  | [a], h =>
    simp only at h
    have ho : op = 21 ∨ op = 22 ∨ op = 23 ∨ op = 25 := by
      by_cases c1 : op = 21
      · omega
      by_cases c2 : op = 22
      · omega
      by_cases c3 : op = 23
      · omega
      by_cases c4 : op = 25
      · omega
      simp [c1, c2, c3, c4] at h
    refine ⟨by simp only; omega, ?_⟩
    unfold arity
    rw [if_pos (by simp only; omega)]; rfl
  | [a, b], h =>
    simp only at h
    have ho : op = 24 ∨ (26 ≤ op ∧ op ≤ 30) ∨ op = 36 ∨ op = 37 := by
      by_cases c1 : op = 24
      · omega
      by_cases c2 : 26 ≤ op ∧ op ≤ 28
      · omega
      by_cases c3 : op = 29
      · omega
      by_cases c4 : op = 30
      · omega
      by_cases c5 : op = 36
      · omega
      by_cases c6 : op = 37
      · omega
      simp [c1, c2, c3, c4, c5, c6] at h
    refine ⟨by simp only; omega, ?_⟩
    unfold arity
    rw [if_neg (by simp only; omega), if_neg (by simp only; omega), if_pos (by simp only; omega)]; rfl
  | [a, b, c], h =>
    simp only at h
    have ho : 31 ≤ op ∧ op ≤ 35 := by
      by_cases c1 : 31 ≤ op ∧ op ≤ 34
      · omega
      by_cases c2 : op = 35
      · omega
      simp [c1, c2] at h
    refine ⟨by simp only; omega, ?_⟩
    unfold arity
    rw [if_neg (by simp only; omega), if_pos (by simp only; omega)]; rfl
  | [], h => simp at h
  | a :: b :: c :: d :: r, h => simp at h

theorem run_preset {n : Nat} (hn : 20 ≤ n) (b : Arg) (r : List Arg) (s : Sup) :
    go n 202 [.w (.ptr 0 0)] [.cells [.d (.l 0 (argRows (b :: r)))]] s = some ⟨sV (.bool b.preset), [.cells [.d (.l 0 (argRows (b :: r)))]], []⟩ := by
  obtain ⟨n, rfl⟩ : ∃ k, n = k + 1 := ⟨n - 1, by omega⟩
  have w4 := run_kindIs (n := n) [11] b (by simp; omega) (by simp)
  simp only [List.map_cons, List.map_nil] at w4
  unfold Arg.preset
  have hr : argRows (b :: r) = [iD b.k, iD b.n, iD b.p] :: argRows r := rfl
  rw [hr]
  cases h : b.isK [11] <;> simp [go_of FT_202 rfl, F202, w4, h, List.replicate]

theorem one_of {as : List Arg} (h : (as.length : Int) = 1) : ∃ a, as = [a] := by
  match as, h with
  | [a], _ => exact ⟨a, rfl⟩
  | [], h => simp at h
  | _ :: _ :: _, h => simp at h; omega
theorem two_of {as : List Arg} (h : (as.length : Int) = 2) : ∃ a b, as = [a, b] := by
  match as, h with
  | [a, b], _ => exact ⟨a, b, rfl⟩
  | [], h => simp at h
  | [_], h => simp at h
  | _ :: _ :: _ :: _, h => simp at h; omega
theorem three_of {as : List Arg} (h : (as.length : Int) = 3) : ∃ a b c, as = [a, b, c] := by
  match as, h with
  | [a, b, c], _ => exact ⟨a, b, c, rfl⟩
  | [], h => simp at h
  | [_], h => simp at h
  | [_, _], h => simp at h
  | _ :: _ :: _ :: _ :: _, h => simp at h; omega

theorem is9_10 {a : Arg} (h : a.isK [9] = true) : a.isK [10] = false := by
  unfold Arg.isK at h ⊢
  simp at h
  simp [h.2]

end Go.VM
