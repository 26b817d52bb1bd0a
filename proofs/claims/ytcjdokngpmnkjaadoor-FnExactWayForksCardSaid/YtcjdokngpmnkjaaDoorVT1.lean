/- The value machine: data of a type, opened. Conditions: none. -/
import Derived.Test.YtcjdokngpmnkjaaDoorVMC
import Derived.Test.YtcjdokngpmnkjaaDoorVB0

namespace Go.VM
set_option linter.unusedSimpArgs false
set_option linter.unusedVariables false

section
variable {P : Program} {n : Nat} {t e : TypeId} {ds : List D}

theorem tyd_bool (hu : P.underlying t = some .bool) (h : TyD P n t ds) : ∃ b, ds = [.s (.bool b)] := by
  cases n with
  | zero => exact absurd h (by simp [TyD])
  | succ n => unfold TyD at h; rw [hu] at h; exact h
theorem tyd_int {k : IntKind} (hu : P.underlying t = some (.int k)) (h : TyD P n t ds) : ∃ m, ds = [.s (.int k m)] ∧ (Lit.int k m).wf = true := by
  cases n with
  | zero => exact absurd h (by simp [TyD])
  | succ n => unfold TyD at h; rw [hu] at h; exact h
theorem tyd_i64 (hu : P.underlying t = some (.int .i64)) (h : TyD P n t ds) : ∃ m : Int, ds = [.s (.int .i64 m)] ∧ -(2 ^ 63) ≤ m ∧ m < 2 ^ 63 := by
  obtain ⟨m, rfl, hw⟩ := tyd_int hu h
  refine ⟨m, rfl, ?_⟩
  simp [Lit.wf, IntKind.min, IntKind.max, IntKind.bits, IntKind.signed] at hw
  omega
theorem tyd_u8 (hu : P.underlying t = some (.int .u8)) (h : TyD P n t ds) : ∃ m : Int, ds = [.s (.int .u8 m)] ∧ 0 ≤ m ∧ m < 256 := by
  obtain ⟨m, rfl, hw⟩ := tyd_int hu h
  refine ⟨m, rfl, ?_⟩
  simp [Lit.wf, IntKind.min, IntKind.max, IntKind.bits, IntKind.signed] at hw
  omega
theorem tyd_slice (hu : P.underlying t = some (.slice e)) (h : TyD P n t ds) : ∃ rows m, ds = [.l 0 rows] ∧ rows.length ≤ maxLen ∧ ∀ row ∈ rows, row.length = P.cellsOf e ∧ TyD P m e row := by
  cases n with
  | zero => exact absurd h (by simp [TyD])
  | succ n => unfold TyD at h; rw [hu] at h; obtain ⟨rows, h1, h2, h3⟩ := h; exact ⟨rows, n, h1, h2, h3⟩
theorem tyd_struct {fs : Array Field} (hu : P.underlying t = some (.struct fs)) (h : TyD P n t ds) : ∃ m, ds.length = P.cellsOf t ∧ ∀ f ∈ fs.toList, TyD P m f.type ((ds.drop f.offset).take (P.cellsOf f.type)) := by
  cases n with
  | zero => exact absurd h (by simp [TyD])
  | succ n => unfold TyD at h; rw [hu] at h; exact ⟨n, h⟩

theorem bytes_of_rows {q : Int → Prop} : ∀ (rows : List (List D)), (∀ row ∈ rows, ∃ m : Int, row = [.s (.int .u8 m)] ∧ q m) → ∃ l : List Int, rows = byt l ∧ ∀ x ∈ l, q x
  | [], _ => ⟨[], rfl, by simp⟩
  | a :: r, h => by
    obtain ⟨m, rfl, hm⟩ := h a (List.mem_cons_self ..)
    obtain ⟨l, rfl, hl⟩ := bytes_of_rows r fun x hx => h x (List.mem_cons_of_mem _ hx)
    exact ⟨m :: l, rfl, by simpa using ⟨hm, hl⟩⟩
theorem tyd_bytes (hu : P.underlying t = some (.slice e)) (he : P.underlying e = some (.int .u8)) (h : TyD P n t ds) : ∃ l : List Int, ds = [.l 0 (byt l)] ∧ l.length < 2 ^ 63 ∧ ∀ x ∈ l, 0 ≤ x ∧ x < 256 := by
  obtain ⟨rows, m, rfl, h1, h2⟩ := tyd_slice hu h
  obtain ⟨l, rfl, hl⟩ := bytes_of_rows (q := fun x => 0 ≤ x ∧ x < 256) rows fun row hrow => tyd_u8 he (h2 row hrow).2
  refine ⟨l, rfl, ?_, hl⟩
  simp [maxLen] at h1
  omega

theorem list5 {α : Type} {l : List α} (h : l.length = 5) : ∃ a b c d e, l = [a, b, c, d, e] := by
  match l, h with
  | [a, b, c, d, e], _ => exact ⟨a, b, c, d, e, rfl⟩
theorem list6 {α : Type} {l : List α} (h : l.length = 6) : ∃ a b c d e f, l = [a, b, c, d, e, f] := by
  match l, h with
  | [a, b, c, d, e, f], _ => exact ⟨a, b, c, d, e, f, rfl⟩
theorem list4 {α : Type} {l : List α} (h : l.length = 4) : ∃ a b c d, l = [a, b, c, d] := by
  match l, h with
  | [a, b, c, d], _ => exact ⟨a, b, c, d, rfl⟩
theorem list2 {α : Type} {l : List α} (h : l.length = 2) : ∃ a b, l = [a, b] := by
  match l, h with
  | [a, b], _ => exact ⟨a, b, rfl⟩
theorem list3 {α : Type} {l : List α} (h : l.length = 3) : ∃ a b c, l = [a, b, c] := by
  match l, h with
  | [a, b, c], _ => exact ⟨a, b, c, rfl⟩

/-- One argument. -/
theorem argOk_1 {t : TypeId} {xs : List V} (h : ArgOk P [t] xs) : ∃ n ds a, TyD P n t ds ∧ agg? P t = some a ∧ xs = [argV a ds] := by
  match xs, h with
  | [x], ⟨⟨n, ds, a, h1, h2, h3⟩, _⟩ => exact ⟨n, ds, a, h1, h2, by rw [h3]⟩
  | _ :: _ :: _, ⟨_, h⟩ => exact absurd h (by simp [ArgOk])
theorem argOk_2 {t u : TypeId} {xs : List V} (h : ArgOk P [t, u] xs) : ∃ n ds a m es b, TyD P n t ds ∧ agg? P t = some a ∧ TyD P m u es ∧ agg? P u = some b ∧ xs = [argV a ds, argV b es] := by
  match xs, h with
  | x :: r, ⟨⟨n, ds, a, h1, h2, h3⟩, h⟩ =>
    obtain ⟨m, es, b, k1, k2, rfl⟩ := argOk_1 h
    exact ⟨n, ds, a, m, es, b, h1, h2, k1, k2, by rw [h3]⟩
theorem argOk_3 {t u v : TypeId} {xs : List V} (h : ArgOk P [t, u, v] xs) : ∃ n ds a m es b q fs c, TyD P n t ds ∧ agg? P t = some a ∧ TyD P m u es ∧ agg? P u = some b ∧ TyD P q v fs ∧ agg? P v = some c ∧ xs = [argV a ds, argV b es, argV c fs] := by
  match xs, h with
  | x :: r, ⟨⟨n, ds, a, h1, h2, h3⟩, h⟩ =>
    obtain ⟨m, es, b, q, fs, c, k1, k2, k3, k4, rfl⟩ := argOk_2 h
    exact ⟨n, ds, a, m, es, b, q, fs, c, h1, h2, k1, k2, k3, k4, by rw [h3]⟩
end
end Go.VM
