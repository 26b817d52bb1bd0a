/- Ladders as data: operands, contacts, nets, arms. Conditions: none. -/
import Derived.Test.YtfpkfcfiihfopaaDoorXVMA
import Derived.Test.YtfpkfcfiihfopaaDoorXVM31
import Derived.Test.YtfpkfcfiihfopaaDoorXVMC

namespace Go.VM
set_option linter.unusedVariables false
theorem ltT {a b : Nat} (h : a < b) : ((a : Int) < (b : Int)) = True := eq_true (by omega)
structure Arg where
 k : Int
 n : Int
 p : Int
 deriving DecidableEq
structure El where
 op : Int
 as : List Arg
 deriving DecidableEq
inductive Net where
 | mk (kind op : Int) (as : List Arg) (kids : List Net)
inductive Arm where
 | mk (net : Net) (coils : List El) (kids : List Arm)
abbrev iD (n : Int) : D := .s (.int .i64 n)
def Arg.row (a : Arg) : List D := [iD a.k, iD a.n, iD a.p]
def argRows (l : List Arg) : List (List D) := l.map Arg.row
def El.row (e : El) : List D := [iD e.op, .l 0 (argRows e.as)]
def elRows (l : List El) : List (List D) := l.map El.row
mutual
def Net.row : Net → List D
 | .mk k op as ks => [iD k, iD op, .l 0 (argRows as), .l 0 (netRows ks)]
def netRows : List Net → List (List D)
 | [] => []
 | n :: r => n.row :: netRows r
end
mutual
def Arm.row : Arm → List D
 | .mk (.mk k op as nks) cs ks => [iD k, iD op, .l 0 (argRows as), .l 0 (netRows nks), .l 0 (elRows cs), .l 0 (armRows ks)]
def armRows : List Arm → List (List D)
 | [] => []
 | n :: r => n.row :: armRows r
end
theorem netRows_map : ∀ l : List Net, netRows l = l.map Net.row
 | [] => by simp [netRows]
 | n :: r => by simp [netRows, netRows_map r]
theorem armRows_map : ∀ l : List Arm, armRows l = l.map Arm.row
 | [] => by simp [armRows]
 | n :: r => by simp [armRows, armRows_map r]
def El.wt (e : El) : Nat := 1 + e.as.length
def elsWt : List El → Nat
 | [] => 0
 | e :: r => e.wt + elsWt r
mutual
def Net.wt : Net → Nat
 | .mk _ _ as ks => 1 + as.length + netsWt ks
def netsWt : List Net → Nat
 | [] => 0
 | n :: r => n.wt + netsWt r
end
mutual
def Arm.wt : Arm → Nat
 | .mk n cs ks => 1 + n.wt + elsWt cs + armsWt ks
def armsWt : List Arm → Nat
 | [] => 0
 | n :: r => n.wt + armsWt r
end
theorem Net.wt_pos (n : Net) : 0 < n.wt := by cases n; simp [Net.wt]; omega
theorem Arm.wt_pos (a : Arm) : 0 < a.wt := by cases a with | mk n cs ks => simp [Arm.wt]; omega
theorem netsWt_len : ∀ l : List Net, l.length ≤ netsWt l
 | [] => by simp [netsWt]
 | n :: r => by have := netsWt_len r; have := n.wt_pos; simp [netsWt]; omega
theorem netsWt_mem : ∀ {l : List Net} {n : Net}, n ∈ l → n.wt ≤ netsWt l
 | m :: r, n, h => by
  rcases List.mem_cons.1 h with rfl | h
  · simp [netsWt]
  · have := netsWt_mem h; simp [netsWt]; omega
theorem netsWt_append : ∀ l m : List Net, netsWt (l ++ m) = netsWt l + netsWt m
 | [], m => by simp [netsWt]
 | n :: r, m => by simp [netsWt, netsWt_append r m]; omega
@[simp] theorem argRows_length (l : List Arg) : (argRows l).length = l.length := by simp [argRows]
@[simp] theorem elRows_length (l : List El) : (elRows l).length = l.length := by simp [elRows]
@[simp] theorem netRows_length (l : List Net) : (netRows l).length = l.length := by simp [netRows_map]
@[simp] theorem armRows_length (l : List Arm) : (armRows l).length = l.length := by simp [armRows_map]
theorem argRows_get {l : List Arg} {i : Nat} {a : Arg} (h : l[i]? = some a) : (argRows l)[i]? = some [iD a.k, iD a.n, iD a.p] := by simp [argRows, h, Arg.row]
theorem netRows_get {l : List Net} {i : Nat} {k op : Int} {as : List Arg} {ks : List Net} (h : l[i]? = some (.mk k op as ks)) : (netRows l)[i]? = some [iD k, iD op, .l 0 (argRows as), .l 0 (netRows ks)] := by simp [netRows_map, h, Net.row]
set_option linter.unusedSimpArgs false
def byt (l : List Int) : List (List D) := l.map fun n => [.s (.int .u8 n)]
@[simp] theorem byt_length (l : List Int) : (byt l).length = l.length := by simp [byt]
@[simp] theorem take_byt (l : List Int) : List.take l.length (byt l) = byt l := by rw [← byt_length l, List.take_length]
theorem wrap_succ {i : Nat} (h : i < 2 ^ 62) : IntKind.wrap .i64 ((i : Int) + 1) = ((i + 1 : Nat) : Int) := by
 simp [IntKind.wrap, IntKind.bits]; omega
theorem wrap_id {x : Int} (h1 : -(2 ^ 63) ≤ x) (h2 : x < 2 ^ 63) : IntKind.wrap .i64 x = x := by
 simp [IntKind.wrap, IntKind.bits, IntKind.signed]; omega
abbrev iV (n : Int) : V := .w (.d (.s (.int .i64 n)))
abbrev iW (n : Int) : W := .d (.s (.int .i64 n))
abbrev argX (a : Arg) : V := .agg [iW a.k, iW a.n, iW a.p]
end Go.VM

/- The value machine: data of a type, opened. Conditions: none. -/
namespace Go.VM
set_option linter.unusedSimpArgs false
set_option linter.unusedVariables false
section
variable {P : Program} {n : Nat} {t e : TypeId} {ds : List D}
theorem tyd_bool (hu : P.underlying t = some .bool) (h : TyD P n t ds) : ∃ b, ds = [.s (.bool b)] := by
 cases n with
 | zero => exact absurd h (by simp [TyD])
 | succ n => unfold TyD at h; rw [hu] at h; exact h
theorem tyd_int {k : IntKind} (hu : P.underlying t = some (.int k)) (h : TyD P n t ds) : ∃ m, ds = [.s (.int k m)] ∧ (Lit.int k m).wf = true := by
 cases n with
 | zero => exact absurd h (by simp [TyD])
 | succ n => unfold TyD at h; rw [hu] at h; exact h
theorem tyd_i64 (hu : P.underlying t = some (.int .i64)) (h : TyD P n t ds) : ∃ m : Int, ds = [.s (.int .i64 m)] ∧ -(2 ^ 63) ≤ m ∧ m < 2 ^ 63 := by
 obtain ⟨m, rfl, hw⟩ := tyd_int hu h; refine ⟨m, rfl, ?_⟩
 simp [Lit.wf, IntKind.min, IntKind.max, IntKind.bits, IntKind.signed] at hw; omega
theorem tyd_u8 (hu : P.underlying t = some (.int .u8)) (h : TyD P n t ds) : ∃ m : Int, ds = [.s (.int .u8 m)] ∧ 0 ≤ m ∧ m < 256 := by
 obtain ⟨m, rfl, hw⟩ := tyd_int hu h; refine ⟨m, rfl, ?_⟩
 simp [Lit.wf, IntKind.min, IntKind.max, IntKind.bits, IntKind.signed] at hw; omega
theorem tyd_slice (hu : P.underlying t = some (.slice e)) (h : TyD P n t ds) : ∃ rows m, ds = [.l 0 rows] ∧ rows.length ≤ maxLen ∧ ∀ row ∈ rows, row.length = P.cellsOf e ∧ TyD P m e row := by
 cases n with
 | zero => exact absurd h (by simp [TyD])
 | succ n => unfold TyD at h; rw [hu] at h; obtain ⟨rows, h1, h2, h3⟩ := h; exact ⟨rows, n, h1, h2, h3⟩
theorem tyd_struct {fs : Array Field} (hu : P.underlying t = some (.struct fs)) (h : TyD P n t ds) : ∃ m, ds.length = P.cellsOf t ∧ ∀ f ∈ fs.toList, TyD P m f.type ((ds.drop f.offset).take (P.cellsOf f.type)) := by
 cases n with
 | zero => exact absurd h (by simp [TyD])
 | succ n => unfold TyD at h; rw [hu] at h; exact ⟨n, h⟩
theorem bytes_of_rows {q : Int → Prop} : ∀ (rows : List (List D)), (∀ row ∈ rows, ∃ m : Int, row = [.s (.int .u8 m)] ∧ q m) → ∃ l : List Int, rows = byt l ∧ ∀ x ∈ l, q x
 | [], _ => ⟨[], rfl, by simp⟩
 | a :: r, h => by
  obtain ⟨m, rfl, hm⟩ := h a (List.mem_cons_self ..); obtain ⟨l, rfl, hl⟩ := bytes_of_rows r fun x hx => h x (List.mem_cons_of_mem _ hx)
  exact ⟨m :: l, rfl, by simpa using ⟨hm, hl⟩⟩
theorem tyd_bytes (hu : P.underlying t = some (.slice e)) (he : P.underlying e = some (.int .u8)) (h : TyD P n t ds) : ∃ l : List Int, ds = [.l 0 (byt l)] ∧ l.length < 2 ^ 63 ∧ ∀ x ∈ l, 0 ≤ x ∧ x < 256 := by
 obtain ⟨rows, m, rfl, h1, h2⟩ := tyd_slice hu h; obtain ⟨l, rfl, hl⟩ := bytes_of_rows (q := fun x => 0 ≤ x ∧ x < 256) rows fun row hrow => tyd_u8 he (h2 row hrow).2
 refine ⟨l, rfl, ?_, hl⟩
 simp [maxLen] at h1; omega
theorem list5 {α : Type} {l : List α} (h : l.length = 5) : ∃ a b c d e, l = [a, b, c, d, e] := by
 match l, h with
 | [a, b, c, d, e], _ => exact ⟨a, b, c, d, e, rfl⟩
theorem list6 {α : Type} {l : List α} (h : l.length = 6) : ∃ a b c d e f, l = [a, b, c, d, e, f] := by
 match l, h with
 | [a, b, c, d, e, f], _ => exact ⟨a, b, c, d, e, f, rfl⟩
theorem list4 {α : Type} {l : List α} (h : l.length = 4) : ∃ a b c d, l = [a, b, c, d] := by
 match l, h with
 | [a, b, c, d], _ => exact ⟨a, b, c, d, rfl⟩
theorem list2 {α : Type} {l : List α} (h : l.length = 2) : ∃ a b, l = [a, b] := by
 match l, h with
 | [a, b], _ => exact ⟨a, b, rfl⟩
theorem list3 {α : Type} {l : List α} (h : l.length = 3) : ∃ a b c, l = [a, b, c] := by
 match l, h with
 | [a, b, c], _ => exact ⟨a, b, c, rfl⟩
theorem argOk_1 {t : TypeId} {xs : List V} (h : ArgOk P [t] xs) : ∃ n ds a, TyD P n t ds ∧ agg? P t = some a ∧ xs = [argV a ds] := by
 match xs, h with
 | [x], ⟨⟨n, ds, a, h1, h2, h3⟩, _⟩ => exact ⟨n, ds, a, h1, h2, by rw [h3]⟩
 | _ :: _ :: _, ⟨_, h⟩ => exact absurd h (by simp [ArgOk])
theorem argOk_2 {t u : TypeId} {xs : List V} (h : ArgOk P [t, u] xs) : ∃ n ds a m es b, TyD P n t ds ∧ agg? P t = some a ∧ TyD P m u es ∧ agg? P u = some b ∧ xs = [argV a ds, argV b es] := by
 match xs, h with
 | x :: r, ⟨⟨n, ds, a, h1, h2, h3⟩, h⟩ =>
  obtain ⟨m, es, b, k1, k2, rfl⟩ := argOk_1 h; exact ⟨n, ds, a, m, es, b, h1, h2, k1, k2, by rw [h3]⟩
theorem argOk_3 {t u v : TypeId} {xs : List V} (h : ArgOk P [t, u, v] xs) : ∃ n ds a m es b q fs c, TyD P n t ds ∧ agg? P t = some a ∧ TyD P m u es ∧ agg? P u = some b ∧ TyD P q v fs ∧ agg? P v = some c ∧ xs = [argV a ds, argV b es, argV c fs] := by
 match xs, h with
 | x :: r, ⟨⟨n, ds, a, h1, h2, h3⟩, h⟩ =>
  obtain ⟨m, es, b, q, fs, c, k1, k2, k3, k4, rfl⟩ := argOk_2 h; exact ⟨n, ds, a, m, es, b, q, fs, c, h1, h2, k1, k2, k3, k4, by rw [h3]⟩
end
end Go.VM
