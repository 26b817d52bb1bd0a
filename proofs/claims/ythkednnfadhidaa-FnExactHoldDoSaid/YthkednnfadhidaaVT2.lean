/- Stores and writes as data. Conditions: none. -/
import Derived.Test.YthkednnfadhidaaVE0
import Derived.Test.YthkednnfadhidaaVHA

namespace Go.Proofs.Ythkednnfadhidaa
open Go.VM
set_option linter.unusedVariables false

theorem tyd_slot {n : Nat} {ds : List D} (h : TyD Try.prog n 54 ds) : ∃ (m t : Int) (l : List Int), ds = [.s (.int .u8 m), .s (.int .u8 t), .l 0 (byt l)] ∧ l.length < 2 ^ 63 := by
  obtain ⟨m, hl, hf⟩ := tyd_struct Try.underlying54 h
  rw [show Try.prog.cellsOf 54 = 3 from by kernel_rfl] at hl
  obtain ⟨a, b, c, rfl⟩ := list3 hl
  have k0 := hf _ (by simp; exact .inl rfl)
  have k1 := hf _ (by simp; exact .inr (.inl rfl))
  have k2 := hf _ (by simp; exact .inr (.inr rfl))
  simp only [show Try.prog.cellsOf 5 = 1 from by kernel_rfl, show Try.prog.cellsOf 22 = 1 from by kernel_rfl, List.drop_succ_cons, List.drop_zero, List.take_succ_cons, List.take_zero] at k0 k1 k2
  obtain ⟨m, e0, -⟩ := tyd_u8 Try.underlying5 k0
  obtain ⟨t, e1, -⟩ := tyd_u8 Try.underlying5 k1
  obtain ⟨l, e2, hl1, -⟩ := tyd_bytes Try.underlying22 Try.underlying5 k2
  cases e0; cases e1; cases e2
  exact ⟨m, t, l, rfl, hl1⟩

theorem tyd_rom {n : Nat} {ds : List D} (h : TyD Try.prog n 56 ds) : ∃ r : Rom, ds.map W.d = r.v 0 0 ∧ r.ra.length < 2 ^ 63 ∧ r.rb.length < 2 ^ 63 := by
  obtain ⟨m, hl, hf⟩ := tyd_struct Try.underlying56 h
  rw [show Try.prog.cellsOf 56 = 6 from by kernel_rfl] at hl
  obtain ⟨a, b, c, d, e, f, rfl⟩ := list6 hl
  have k0 := hf _ (by simp; exact .inl rfl)
  have k1 := hf _ (by simp; exact .inr rfl)
  simp only [show Try.prog.cellsOf 54 = 3 from by kernel_rfl, List.drop_succ_cons, List.drop_zero, List.take_succ_cons, List.take_zero] at k0 k1
  obtain ⟨m1, t1, l1, e0, h1⟩ := tyd_slot k0
  obtain ⟨m2, t2, l2, e1, h2⟩ := tyd_slot k1
  cases e0; cases e1
  exact ⟨⟨m1, t1, l1, m2, t2, l2⟩, rfl, h1, h2⟩

theorem tyd_write {n : Nat} {ds : List D} (h : TyD Try.prog n 57 ds) : ∃ w : Wr, ds = w.row := by
  obtain ⟨m, hl, hf⟩ := tyd_struct Try.underlying57 h
  rw [show Try.prog.cellsOf 57 = 3 from by kernel_rfl] at hl
  obtain ⟨a, b, c, rfl⟩ := list3 hl
  have k0 := hf _ (by simp; exact .inl rfl)
  have k1 := hf _ (by simp; exact .inr (.inl rfl))
  have k2 := hf _ (by simp; exact .inr (.inr rfl))
  simp only [show Try.prog.cellsOf 5 = 1 from by kernel_rfl, show Try.prog.cellsOf 3 = 1 from by kernel_rfl, List.drop_succ_cons, List.drop_zero, List.take_succ_cons, List.take_zero] at k0 k1 k2
  obtain ⟨k, e0, -⟩ := tyd_i64 Try.underlying3 k0
  obtain ⟨s, e1, -⟩ := tyd_i64 Try.underlying3 k1
  obtain ⟨v, e2, -⟩ := tyd_u8 Try.underlying5 k2
  cases e0; cases e1; cases e2
  exact ⟨⟨k, s, v⟩, rfl⟩

theorem wrs_of_rows : ∀ rows : List (List D), (∀ row ∈ rows, ∃ w : Wr, row = w.row) → ∃ l : List Wr, rows = wrs l
  | [], _ => ⟨[], rfl⟩
  | a :: r, h => by
    obtain ⟨w, rfl⟩ := h a (List.mem_cons_self ..)
    obtain ⟨l, rfl⟩ := wrs_of_rows r fun x hx => h x (List.mem_cons_of_mem _ hx)
    exact ⟨w :: l, rfl⟩
theorem tyd_writes {n : Nat} {ds : List D} (h : TyD Try.prog n 73 ds) : ∃ l : List Wr, ds = [.l 0 (wrs l)] ∧ l.length < 2 ^ 63 := by
  obtain ⟨rows, m, rfl, h1, h2⟩ := tyd_slice Try.underlying73 h
  obtain ⟨l, rfl⟩ := wrs_of_rows rows fun row hrow => tyd_write (h2 row hrow).2
  refine ⟨l, rfl, ?_⟩
  simp [maxLen] at h1
  omega

end Go.Proofs.Ythkednnfadhidaa
