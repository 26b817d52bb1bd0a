/- The value machine: how the translated operations become the machine's, and that each pure one computes the same. Conditions: none. -/
import Derived.Test.YthkednnfadhidaaVM2
import Derived.Laws.Append
import Derived.Laws.CopyRow
import Derived.Laws.Rows
import Derived.ChangeKeysEq
namespace Go.VM
set_option linter.unusedVariables false

section strip
variable (P : Program) (cid : FuncId → Nat)

def sz? (t : TypeId) : Option Nat := (P.info? t).map (·.size)
def agg? (t : TypeId) : Option Bool :=
  match P.underlying t with
  | some (.struct _) => some true
  | some (.array _ _) => some true
  | some _ => some false
  | none => none

def constW : Value → Option W
  | .slice none 0 0 => some .nil
  | .int k n => some (.d (.s (.int k n)))
  | .bool b => some (.d (.s (.bool b)))
  | .string s => some (.d (.s (.string s)))
  | .float k b => some (.d (.s (.float k b)))
  | .pointer none => some (.d (.s (.pointer none)))
  | .nilFunc => some (.d (.s .nilFunc))
  | .nilIface => some (.d (.s .nilIface))
  | _ => none
def constL : List Value → Option (List W)
  | [] => some []
  | v :: r => match constW v, constL r with | some x, some l => some (x :: l) | _, _ => none
def constV : Value → Option V
  | .agg cs => (constL cs.toList).map .agg
  | v => (constW v).map .w

def stripX : Operand → Option X
  | .tmp t => some (.t t)
  | .const v => (constV v).map .k
  | .global g => some (.g g)
  | .func f => some (.k (.w (.fn (cid f) [])))
def stripXs : List Operand → Option (List X)
  | [] => some []
  | x :: r => match stripX cid x, stripXs r with | some y, some l => some (y :: l) | _, _ => none
def stripXo : Option Operand → Option (Option X)
  | none => some none
  | some x => (stripX cid x).map some

def zeroW (t : TypeId) : Option (List W) := match P.info? t with
  | some i => match i.zero with
    | some z => match constL z.cells.toList with
      | some l => if l.length = i.size then some l else none
      | none => none
    | none => none
  | none => none
def zeroD (t : TypeId) : Option (List D) := (zeroW P t).bind datas?

/-- The parts of a struct that is built: where each lies, its size. -/
def fieldParts (fs : Array Field) : List (Nat × Operand) → Option (List (Nat × Nat × X))
  | [] => some []
  | (i, x) :: r => match fs[i]? with
    | some f => match sz? P f.type, stripX cid x, fieldParts fs r with
      | some n, some y, some l => some ((f.offset, n, y) :: l)
      | _, _, _ => none
    | none => none
def elemParts (n : Nat) : List (Nat × Operand) → Option (List (Nat × Nat × X))
  | [] => some []
  | (i, x) :: r => match stripX cid x, elemParts n r with
    | some y, some l => some ((i * n, n, y) :: l)
    | _, _ => none
def rowParts? : List (Nat × Operand) → Option (List (Nat × X))
  | [] => some []
  | (i, x) :: r => match stripX cid x, rowParts? r with
    | some y, some l => some ((i, y) :: l)
    | _, _ => none

def kindT (t : TypeId) : Option Nat := match P.underlying t with
  | some .bool => some 0
  | some (.int _) => some 1
  | some .string => some 2
  | _ => none
/-- Fields of one scalar cell each, one behind the other from n on: their kinds. -/
def flat : Nat → List Field → Option (List Nat)
  | _, [] => some []
  | n, f :: r => match kindT P f.type, flat (n + 1) r with
    | some k, some l => if f.offset = n ∧ f.name ≠ "_" then some (k :: l) else none
    | _, _ => none
def cls? (t : TypeId) : Option Cls := match P.underlying t with
  | some .bool => some .b
  | some (.int _) => some .one
  | some .string => some .one
  | some (.pointer _) => some .p
  | some (.slice _) => some .sl
  | some (.struct fs) => match flat P 0 fs.toList with
    | some ks => if P.stoodInHeld t = false ∧ P.eqGuardType P.depth t = false then some (.agg ks) else none
    | none => none
  | _ => none

def stripCall (c : Call) : Option O :=
  match c.callee with
  | .value f => match stripX cid f, stripXs cid c.args.toList with
    | some f, some l => some (.call f l)
    | _, _ => none
  | .builtin .len => match c.argTypes.toList, c.args.toList with
    | [t], [x] => match P.underlying t, stripX cid x with
      | some .string, some x => some (.lens x)
      | some (.slice _), some x => some (.lenl x)
      | _, _ => none
    | _, _ => none
  | .builtin .append => match c.argTypes.toList, c.args.toList with
    | [t, u], [x, y] => match P.underlying t, P.underlying u, stripX cid x, stripX cid y with
      | some (.slice e), some (.slice _), some x, some y => match P.info? e, zeroD P e with
        | some i, some z => if 0 < i.size then some (.app i.size i.bytes z x y) else none
        | _, _ => none
      | _, _, _, _ => none
    | _, _ => none
  | .builtin .max => (stripXs cid c.args.toList).map (.mmx true)
  | .builtin .min => (stripXs cid c.args.toList).map (.mmx false)
  | _ => none

def stripO (o : Op) : Option O :=
  match o with
  | .move x => (stripX cid x).map .mv
  | .assign x => (stripX cid x).map .mv
  | .pick c a b => match stripX cid c, stripX cid a, stripX cid b with
    | some c, some a, some b => some (.pick c a b)
    | _, _, _ => none
  | .alloc t => (zeroW P t).map .new
  | .box t x => match sz? P t, stripX cid x with
    | some n, some x => some (.box n x)
    | _, _ => none
  | .build t parts => match P.underlying t, zeroW P t with
    | some (.struct fs), some z => if fs.toList.all (fun f => (sz? P f.type).isSome) then (fieldParts P cid fs parts.toList).map (.bld z) else none
    | some (.array _ e), some z => (sz? P e).bind fun n => (elemParts cid n parts.toList).map (.bld z)
    | _, _ => none
  | .buildSlice t len parts => match P.underlying t with
    | some (.slice e) => match sz? P e, zeroD P e, rowParts? cid parts.toList with
      | some n, some z, some l => if 0 < n ∧ len * n ≤ 2 ^ 24 then some (.bsl n len z l) else none
      | _, _, _ => none
    | _ => none
  | .load t x => match agg? P t, sz? P t, stripX cid x with
    | some a, some n, some x => if a || n == 1 then some (.ld a n x) else none
    | _, _, _ => none
  | .store t x y => match sz? P t, stripX cid x, stripX cid y with
    | some n, some x, some y => some (.st n x y)
    | _, _, _ => none
  | .nilCheck x => (stripX cid x).map .nc
  | .binOp op t x y _ => match cls? P t, stripX cid x, stripX cid y with
    | some c, some x, some y => some (.bin op c x y)
    | _, _, _ => none
  | .unOp op _ x => (stripX cid x).map (.un op)
  | .convert src dst x => match P.underlying src, P.underlying dst, stripX cid x with
    | some (.int _), some (.int k), some x => some (.cvi k x)
    | some (.slice e), some .string, some x => match P.underlying e with
      | some (.int .u8) => some (.cbs x)
      | _ => none
    | _, _, _ => none
  | .makeFunc (.func f) first caps => if first.size = 0 then (stripXs cid caps.toList).map (.mkf (cid f)) else none
  | .makeSlice t l c => match P.underlying t with
    | some (.slice e) => match P.info? e, zeroD P e, stripX cid l, stripX cid c with
      | some i, some z, some l, some c => if 0 < i.size then some (.msl i.size i.bytes z l c) else none
      | _, _, _, _ => none
    | _ => none
  | .slice t x lo hi mx => match P.underlying t, stripX cid x, stripXo cid lo, stripXo cid hi, stripXo cid mx with
    | some .string, some x, some lo, some hi, some none => some (.sls x lo hi)
    | some (.slice e), some x, some lo, some hi, some mx => (sz? P e).map fun n => .sl n x lo hi mx
    | _, _, _, _, _ => none
  | .fieldAddr t x f => match P.underlying t, stripX cid x with
    | some (.struct fs), some x => match fs[f]? with
      | some f => match sz? P f.type with
        | some n => if n = 0 then none else some (.fa f.offset x)
        | none => none
      | none => none
    | _, _ => none
  | .field t x f => match P.underlying t, stripX cid x with
    | some (.struct fs), some x => match fs[f]? with
      | some f => match agg? P f.type, sz? P f.type with
        | some a, some n => if a || n == 1 then some (.fld a f.offset n x) else none
        | _, _ => none
      | none => none
    | _, _ => none
  | .indexAddr t x i => match P.underlying t, stripX cid x, stripX cid i with
    | some (.array n e), some x, some i => (sz? P e).map fun k => .iaa n k x i
    | some (.slice e), some x, some i => (sz? P e).map fun k => .ia k x i
    | _, _, _ => none
  | .index t x i => match P.underlying t, stripX cid x, stripX cid i with
    | some (.array n e), some x, some i => match agg? P e, sz? P e with
      | some a, some k => if a || k == 1 then some (.ixa a n k x i) else none
      | _, _ => none
    | some .string, some x, some i => some (.ixs x i)
    | _, _, _ => none
  | .extract x i => (stripX cid x).map (.ext i)
  | .call c => stripCall P cid c
  | _ => none

end strip

section runs
variable {P : Program} {w : World}

theorem run_sz {t : TypeId} {n : Nat} (h : sz? P t = some n) : (sizeOf t).run P w = .ok n w := by
  unfold sz? at h
  cases hi : P.info? t with
  | none => simp [hi] at h
  | some i => simp [hi] at h; subst h; simp [sizeOf, typeInfo, hi]

theorem run_agg {t : TypeId} {b : Bool} (h : agg? P t = some b) : (isAgg t).run P w = .ok b w := by
  unfold agg? at h
  cases hu : P.underlying t with
  | none => simp [hu] at h
  | some d =>
    rw [hu] at h
    unfold isAgg
    simp only [Sem.run_bind, run_underlying hu, Result.andThen_ok]
    cases d <;> simp_all

theorem Addr.add_none (b o n : Nat) : (⟨b, o, none⟩ : Addr).add n = ⟨b, o + n, none⟩ := by
  unfold Addr.add; split <;> simp_all

/-- A load: the cells of a variable. -/
theorem run_loadAt_cells {t : TypeId} {a : Bool} {n : Nat} (ha : agg? P t = some a) (hn : sz? P t = some n) (h1 : (a || n == 1) = true) {b o : Nat} (cs : List Value) (hl : cs.length = n)
    (hc : ∀ (j : Nat) (v : Value), cs[j]? = some v → w.cell? ⟨b, o + j, none⟩ = some v) :
    ∃ v, (Instr.loadAt t (.pointer (some ⟨b, o, none⟩))).run P w = .ok v w ∧ (a = true → v = .agg cs.toArray) ∧ (a = false → cs = [v]) := by
  cases a with
  | true =>
    refine ⟨.agg cs.toArray, ?_, fun _ => rfl, by simp⟩
    have hload := run_loadCells_list (P := P) w ⟨b, o, none⟩ cs (fun j v hj => by rw [Addr.add_none]; exact hc j v hj)
    rw [hl] at hload
    simp only [Instr.loadAt, Instr.sureAddr, loadVar, Sem.run_bind, Sem.run_pure, Result.andThen_ok, run_agg ha, run_sz hn, hload, if_true]
  | false =>
    simp at h1
    obtain ⟨v, rfl⟩ : ∃ v, cs = [v] := List.length_eq_one_iff.1 (by omega)
    refine ⟨v, ?_, by simp, fun _ => rfl⟩
    have := hc 0 v rfl
    simp [Instr.loadAt, Instr.sureAddr, loadVar, run_agg ha, this] at this ⊢

/-- A store: the cells of a variable. -/
theorem run_storeAt_cells {t : TypeId} {n : Nat} (hn : sz? P t = some n) {b o : Nat} {T : TypeId} (arr : Array Value) (v : Value) (hl : v.cells.size = n)
    (hb : w.heap[b]? = some (.cells arr T (0, 0))) (hfit : o + n ≤ arr.size) (h1 : ∀ x ∈ v.cells.toList, x.oneCell' = true) :
    (Instr.storeAt t (.pointer (some ⟨b, o, none⟩)) v).run P w = .ok () (w.setRow b (splice arr.toList o v.cells.toList).toArray) := by
  have hst := run_storeCells_at P b o T v.cells.toList 0 arr w hb (by simp; omega) h1
  simp only [Nat.add_zero] at hst
  simp only [Instr.storeAt, Instr.sureAddr, storeVar, Sem.run_bind, Sem.run_pure, Result.andThen_ok, run_sz hn, hl, ne_eq, not_true_eq_false, if_false, hst]
  rfl

theorem run_alloc {t : TypeId} {i : TypeInfo} {z : Value} (hi : P.info? t = some i) (hz : i.zero = some z) :
    (Instr.alloc t true (.tuple #[])).run P w = .ok (.pointer (some ⟨w.heap.size, 0, none⟩)) (w.alloc (.cells z.cells t)) := by
  simp [Instr.alloc, zeroValue, typeInfo, hi, hz, newVar, newRow]

theorem run_box (t : TypeId) (v : Value) : (Instr.box t v).run P w = .ok (.pointer (some ⟨w.heap.size, 0, none⟩)) (w.alloc (.cells v.cells t)) := by
  simp [Instr.box, newVar, newRow]

end runs
end Go.VM
