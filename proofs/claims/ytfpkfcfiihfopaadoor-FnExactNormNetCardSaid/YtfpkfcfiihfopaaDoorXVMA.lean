/- The value machine: a value-level interpreter of translated Go code. Conditions: none (definitions). -/
import GoSem.Core.Code
import GoSem.Core.Region
import GoSem.Dispatch
import Derived.Calls
import Derived.RowKit3
import Derived.Laws.Cells
import Derived.Laws.Append
import Derived.Laws.CopyRow
import Derived.Laws.Rows
import Derived.ChangeKeysEq
import Derived.Great.BuildSlice
import Derived.Laws.BytesString

namespace Go.VM
inductive D where
 | s (v : Value)
 | l (st : Nat) (rows : List (List D))
 deriving Inhabited
inductive Cap where
 | d (x : D)
 | ptr (b off : Nat)
 deriving Inhabited
inductive W where
 | d (x : D)
 | nil
 | ln (st : Nat) (rows : List (List D))
 | own (b off len : Nat) (cap : Option Nat)
 | ptr (b off : Nat)
 | rp (b i off : Nat)
 | lp (row : List D) (off : Nat)
 | gp (g off : Nat)
 | fn (f : Nat) (caps : List Cap)
 deriving Inhabited
inductive V where
 | w (x : W)
 | agg (cs : List W)
 | tup (vs : List (Bool × List W))
 deriving Inhabited
inductive Box where
 | cells (cs : List W)
 | row (st : Option Nat) (sz : Nat) (rows : List (List D)) (ro : Nat)
 | dead
 deriving Inhabited
abbrev Sup := Nat → Nat
inductive X where
 | t (n : Nat)
 | k (v : V)
 | g (n : Nat)
 deriving Inhabited
inductive Cls where
 | one | b | p | sl | agg (ks : List Nat)
 deriving Inhabited
inductive O where
 | mv (x : X)
 | pick (c a b : X)
 | new (zero : List W)
 | box (sz : Nat) (x : X)
 | bld (zero : List W) (parts : List (Nat × Nat × X))
 | bsl (sz n : Nat) (zero : List D) (parts : List (Nat × X))
 | ld (agg : Bool) (sz : Nat) (x : X)
 | st (sz : Nat) (x y : X)
 | nc (x : X)
 | bin (op : BinOp) (c : Cls) (x y : X)
 | un (op : UnOp) (x : X)
 | cvi (k : IntKind) (x : X)
 | cbs (x : X)
 | msl (sz bytes : Nat) (zero : List D) (l c : X)
 | sls (x : X) (lo hi : Option X)
 | sl (sz : Nat) (x : X) (lo hi mx : Option X)
 | fa (off : Nat) (x : X)
 | fld (agg : Bool) (off sz : Nat) (x : X)
 | ia (sz : Nat) (x i : X)
 | iaa (n sz : Nat) (x i : X)
 | ixs (x i : X)
 | ixa (agg : Bool) (n sz : Nat) (x i : X)
 | ext (i : Nat) (x : X)
 | mkf (f : Nat) (caps : List X)
 | call (f : X) (args : List X)
 | lens (x : X)
 | lenl (x : X)
 | app (sz bytes : Nat) (zero : List D) (x y : X)
 | mmx (isMax : Bool) (args : List X)
 | bad
 deriving Inhabited
structure RO where
 dst : Option Nat
 op : O
 guard : Option (Nat × Bool)   -- the slot that must hold this bool
 deriving Inhabited
inductive C where
 | skip
 | reg (ops : List RO)
 | dreg (ops : List RO) (bf : List Nat)
 | seq (a b : C)
 | cond (x : X) (a b : C)
 | block (id : Nat) (c : C)
 | loop (c : C)
 | exit (id : Nat)
 | ret
 | bad
 deriving Inhabited
inductive RV where
 | tmp (t : Nat)
 | cell (t : Nat) (agg : Bool) (sz : Nat)
 deriving Inhabited
structure Fn where
 ntmps : Nat
 res : List RV
 code : C
 deriving Inhabited
structure Mode where
 stamp : Bool := false
 move : Bool := false
 inout : Bool := false
 deriving Inhabited
structure Res where
 v : V
 bs : List Box
 news : List Box
 deriving Inhabited
abbrev CallT := Nat → List V → List Box → Sup → Option Res
def upd {α : Type} (f : Nat → α) (n : Nat) (x : α) : Nat → α := fun m => if m = n then x else f m
def V.cells? : V → Option (List W)
 | .w x => some [x]
 | .agg cs => some cs
 | .tup _ => none
def mkV (agg : Bool) (cs : List W) : Option V := if agg then some (.agg cs) else match cs with | [x] => some (.w x) | _ => none
def W.int? : W → Option (IntKind × Int)
 | .d (.s (.int k n)) => some (k, n)
 | _ => none
def W.bool? : W → Option Bool
 | .d (.s (.bool b)) => some b
 | _ => none
def V.bool? : V → Option Bool
 | .w x => x.bool?
 | _ => none
def V.int? : V → Option (IntKind × Int)
 | .w x => x.int?
 | _ => none
def V.s? : V → Option Value
 | .w (.d (.s v)) => some v
 | _ => none
def sV (v : Value) : V := .w (.d (.s v))
def W.data? : W → Option D
 | .d x => some x
 | .nil => some (.l 0 [])
 | .ln st rows => some (.l st rows)
 | _ => none
def datas? : List W → Option (List D)
 | [] => some []
 | x :: r => match x.data?, datas? r with | some d, some l => some (d :: l) | _, _ => none
def Cap.names : Cap → List Nat
 | .ptr b _ => [b]
 | .d _ => []
def W.names : W → List Nat
 | .own b _ _ _ => [b]
 | .ptr b _ => [b]
 | .rp b _ _ => [b]
 | .fn _ caps => caps.flatMap Cap.names
 | _ => []
def wnames (l : List W) : List Nat := l.flatMap W.names
def V.names : V → List Nat
 | .w x => x.names
 | .agg cs => wnames cs
 | .tup vs => vs.flatMap fun p => wnames p.2
def Box.names : Box → List Nat
 | .cells cs => wnames cs
 | _ => []
def addN (acc : List Nat) (x : Nat) : List Nat := if x ∈ acc then acc else acc ++ [x]
def addAll (acc l : List Nat) : List Nat := l.foldl addN acc
def reach (H : Nat → Box) : Nat → List Nat → List Nat
 | 0, acc => acc
 | n + 1, acc => reach H n (addAll acc (acc.flatMap fun b => (H b).names))
def Cap.ren (ρ : Nat → Nat) : Cap → Cap
 | .ptr b off => .ptr (ρ b) off
 | .d x => .d x
def W.ren (ρ : Nat → Nat) : W → W
 | .own b off len cap => .own (ρ b) off len cap
 | .ptr b off => .ptr (ρ b) off
 | .rp b i off => .rp (ρ b) i off
 | .fn f caps => .fn f (caps.map (Cap.ren ρ))
 | x => x
def V.ren (ρ : Nat → Nat) : V → V
 | .w x => .w (x.ren ρ)
 | .agg cs => .agg (cs.map (W.ren ρ))
 | .tup vs => .tup (vs.map fun p => (p.1, p.2.map (W.ren ρ)))
def Box.ren (ρ : Nat → Nat) : Box → Box
 | .cells cs => .cells (cs.map (W.ren ρ))
 | x => x
def idx (l : List Nat) (x : Nat) : Nat := l.findIdx (· == x)
def closed (H : Nat → Box) (ns : List Nat) : Bool := ns.all fun b => (H b).names.all fun x => ns.contains x
structure Fz where
 H : Nat → Box
 k : Nat
 touch : List Nat
def stampOf (stamp : Bool) (s : Sup) (k : Nat) : Option Nat → Nat
 | some t => t
 | none => if stamp then s k else 0
def frzW (stamp : Bool) (s : Sup) (z : Fz) : W → Option (W × Fz)
 | .own b off len _ => match z.H b with
  | .row st sz rows ro =>
   if off + len ≤ rows.length then
    some (.d (.l (stampOf stamp s z.k st) ((rows.drop off).take len)),
     { H := upd z.H b (.row (some (stampOf stamp s z.k st)) sz rows (max ro (off + len))), k := z.k + 1, touch := z.touch ++ [b] })
   else none
  | _ => none
 | .nil => some (.d (.l 0 []), z)
 | .ln st rows => some (.d (.l st rows), z)
 | x => some (x, z)
def frzL (stamp : Bool) (s : Sup) : Fz → List W → Option (List W × Fz)
 | z, [] => some ([], z)
 | z, x :: r => match frzW stamp s z x with
  | some (y, z') => match frzL stamp s z' r with
   | some (l, z'') => some (y :: l, z'')
   | none => none
  | none => none
def frzP (stamp : Bool) (s : Sup) : Fz → List (Bool × List W) → Option (List (Bool × List W) × Fz)
 | z, [] => some ([], z)
 | z, x :: r => match frzL stamp s z x.2 with
  | some (y, z') => match frzP stamp s z' r with
   | some (l, z'') => some ((x.1, y) :: l, z'')
   | none => none
  | none => none
def frzV (stamp : Bool) (s : Sup) (z : Fz) : V → Option (V × Fz)
 | .w x => match frzW stamp s z x with | some (y, z') => some (.w y, z') | none => none
 | .agg cs => match frzL stamp s z cs with | some (l, z') => some (.agg l, z') | none => none
 | .tup vs => match frzP stamp s z vs with | some (l, z') => some (.tup l, z') | none => none
def frzA (stamp : Bool) (s : Sup) : Fz → List V → Option (List V × Fz)
 | z, [] => some ([], z)
 | z, x :: r => match frzV stamp s z x with
  | some (y, z') => match frzA stamp s z' r with
   | some (l, z'') => some (y :: l, z'')
   | none => none
  | none => none
end Go.VM
namespace Go.VM
structure Eff where
 v : V
 H : Nat → Box
 touch : List Nat
 wr : Bool
 deriving Inhabited
def splice {α : Type} (l : List α) (off : Nat) (cs : List α) : List α := l.take off ++ cs ++ l.drop (off + cs.length)
def part? {α : Type} (l : List α) (off sz : Nat) : Option (List α) := if off + sz ≤ l.length then some ((l.drop off).take sz) else none
def binS (op : BinOp) : Value → Value → Option Value
 | .int k a, .int k' b => match op with
  | .shl => if 0 ≤ b then some (.int k (k.wrap (a * 2 ^ (min b.toNat k.bits)))) else none
  | .shr => if 0 ≤ b then some (.int k (a.fdiv (2 ^ (min b.toNat k.bits)))) else none
  | _ => if k = k' then match op with
   | .add => some (.int k (k.wrap (a + b)))
   | .sub => some (.int k (k.wrap (a - b)))
   | .mul => some (.int k (k.wrap (a * b)))
   | .quo => if b = 0 then none else some (.int k (k.wrap (a.tdiv b)))
   | .rem => if b = 0 then none else some (.int k (a.tmod b))
   | .and => some (.int k (k.wrap (BitVec.ofInt k.bits a &&& BitVec.ofInt k.bits b).toNat))
   | .or => some (.int k (k.wrap (BitVec.ofInt k.bits a ||| BitVec.ofInt k.bits b).toNat))
   | .xor => some (.int k (k.wrap (BitVec.ofInt k.bits a ^^^ BitVec.ofInt k.bits b).toNat))
   | .andNot => some (.int k (k.wrap (BitVec.ofInt k.bits a &&& ~~~ BitVec.ofInt k.bits b).toNat))
   | .eql => some (.bool (a == b))
   | .neq => some (.bool (a != b))
   | .lss => some (.bool (decide (a < b)))
   | .leq => some (.bool (decide (a ≤ b)))
   | .gtr => some (.bool (decide (a > b)))
   | .geq => some (.bool (decide (a ≥ b)))
   | _ => none
   else none
 | .bool a, .bool b => match op with
  | .eql => some (.bool (a == b))
  | .neq => some (.bool (!(a == b)))
  | _ => none
 | .string a, .string b => match op with
  | .add => if a.size + b.size ≤ 2 ^ 47 then some (.string (a ++ b)) else none
  | .eql => some (.bool (a.toList == b.toList))
  | .neq => some (.bool (!(a.toList == b.toList)))
  | _ => none
 | _, _ => none
def eq1 : Nat → Value → Value → Option Bool
 | 0, .bool x, .bool y => some (x == y)
 | 1, .int i x, .int j y => if i = j then some (x == y) else none
 | 2, .string x, .string y => some (x.toList == y.toList)
 | _, _, _ => none
def eqCells : List Nat → List W → List W → Option Bool
 | [], [], [] => some true
 | k :: ks, .d (.s a) :: r, .d (.s b) :: q => match eq1 k a b, eqCells ks r q with
  | some x, some y => some (x && y)
  | _, _ => none
 | _, _, _ => none
def isNil? : W → Option Bool
 | .nil => some true
 | .ln _ _ => some false
 | .own _ _ len _ => if len = 0 then none else some false
 | .d (.l _ rows) => if rows.isEmpty then none else some false
 | _ => none
def ptrNil? : W → Option Bool
 | .d (.s (.pointer none)) => some true
 | .ptr _ _ => some false
 | .rp _ _ _ => some false
 | .lp _ _ => some false
 | .gp _ _ => some false
 | _ => none
def binV (op : BinOp) (c : Cls) (x y : V) : Option V :=
 match c with
 | .one => match x.s?, y.s? with
  | some (.bool _), _ => none
  | some a, some b => (binS op a b).map sV
  | _, _ => none
 | .b => match x.bool?, y.bool? with
  | some a, some b => match op with
   | .eql => some (sV (.bool (a == b)))
   | .neq => some (sV (.bool (!(a == b))))
   | _ => none
  | _, _ => none
 | .p => match x, y with
  | .w p, .w q => match ptrNil? p, ptrNil? q with
   | some a, some true => match op with
    | .eql => some (sV (.bool a))
    | .neq => some (sV (.bool !a))
    | _ => none
   | _, _ => none
  | _, _ => none
 | .sl => match x, y with
  | .w p, .w .nil => match isNil? p with
   | some b => match op with
    | .eql => some (sV (.bool b))
    | .neq => some (sV (.bool !b))
    | _ => none
   | none => none
  | _, _ => none
 | .agg ks => match x, y with
  | .agg p, .agg q => match eqCells ks p q with
   | some b => match op with
    | .eql => some (sV (.bool b))
    | .neq => some (sV (.bool !b))
    | _ => none
   | none => none
  | _, _ => none
def unV (op : UnOp) (x : V) : Option V :=
 match op, x.s? with
 | .neg, some (.int k n) => some (sV (.int k (k.wrap (0 - n))))
 | .not, some (.bool b) => some (sV (.bool !b))
 | _, _ => none
def bytesOf : List (List D) → Option (List UInt8)
 | [] => some []
 | [.s (.int .u8 n)] :: r => (bytesOf r).map (UInt8.ofNat n.toNat :: ·)
 | _ => none
def setParts (cells : List W) : List (Nat × Nat × V) → Option (List W)
 | [] => some cells
 | (off, sz, v) :: r => match v.cells? with
  | some cs => if cs.length = sz ∧ off + sz ≤ cells.length then setParts (splice cells off cs) r else none
  | none => none
def rowsOf (H : Nat → Box) : W → Option (List (List D) × List Nat)
 | .nil => some ([], [])
 | .ln _ rows => some (rows, [])
 | .d (.l _ rows) => some (rows, [])
 | .own b off len _ => match H b with
  | .row _ _ rows _ => if off + len ≤ rows.length then some ((rows.drop off).take len, [b]) else none
  | _ => none
 | _ => none
def optInt (ev : X → V) : Option X → Option (Option Int)
 | none => some none
 | some x => match (ev x).int? with
  | some (_, n) => some (some n)
  | none => none
def rowParts (stamp : Bool) (s : Sup) (sz : Nat) (rows : List (List D)) (z : Fz) : List (Nat × V) → Option (List (List D) × Fz)
 | [] => some (rows, z)
 | (i, v) :: r => match v.cells? with
  | some cs => match frzL stamp s z cs with
   | some (l, z') => match datas? l with
    | some ds => if ds.length = sz ∧ i < rows.length then rowParts stamp s sz (rows.set i ds) z' r else none
    | none => none
   | none => none
  | none => none
def fold2 (isMax : Bool) : IntKind → Int → List V → Option V
 | k, a, [] => some (sV (.int k a))
 | k, a, v :: r => match v.int? with
  | some (k', b) => if k = k' then fold2 isMax k (if isMax then (if b > a then b else a) else (if b < a then b else a)) r else none
  | none => none
def capOf : V → Option Cap
 | .w (.d x) => some (.d x)
 | .w (.ptr b off) => some (.ptr b off)
 | _ => none
def capsOf : List V → Option (List Cap)
 | [] => some []
 | x :: r => match capOf x, capsOf r with | some c, some l => some (c :: l) | _, _ => none
def Cap.v : Cap → V
 | .d x => .w (.d x)
 | .ptr b off => .w (.ptr b off)
def updL (H : Nat → Box) : List (Nat × Box) → Nat → Box
 | [] => H
 | (b, x) :: r => updL (upd H b x) r
def callV (call : CallT) (M : Nat → Mode) (stamp : Bool) (H : Nat → Box) (g : Nat) (s : Sup) (f : Nat) (args : List V) : Option Eff :=
 match (if (M f).inout then some (args, (⟨H, 0, []⟩ : Fz)) else frzA stamp (fun k => s (2 * k)) ⟨H, 0, []⟩ args) with
 | none => none
 | some (args, z) =>
  let ns := reach z.H 4 (addAll [] (args.flatMap V.names))
  match call f (args.map (V.ren (idx ns))) (ns.map fun b => (z.H b).ren (idx ns)) (fun k => s (2 * k + 1)) with
  | none => none
  | some r =>
   if r.bs.length = ns.length ∧ r.news.length ≤ 64 ∧ closed z.H ns = true then
    let σ : Nat → Nat := fun k => if k < ns.length then ns.getD k 0 else g + (k - ns.length)
    some ⟨r.v.ren σ, updL z.H ((ns.zip (r.bs.map (Box.ren σ))) ++ ((List.range r.news.length).map (g + ·)).zip (r.news.map (Box.ren σ))),
     z.touch ++ ns, !(z.touch ++ ns).isEmpty⟩
   else none
def taint : Option Nat → Option Nat
 | none => none
 | some _ => some 0
def newCap (mx : Option Int) (cap : Option Nat) (l : Nat) : Option Nat :=
 match mx with
 | some m => some (m.toNat - l)
 | none => cap.map (· - l)
def ret0 (H : Nat → Box) (v : Option V) : Option Eff := match v with | some v => some ⟨v, H, [], false⟩ | none => none
def room (n bytes : Nat) : Bool := n * bytes ≤ 2 ^ 40 && n ≤ 2 ^ 40
def opV (call : CallT) (M : Nat → Mode) (G : Nat → Option (List D)) (stamp : Bool) (ev : X → V) (H : Nat → Box) (g : Nat) (s : Sup) : O → Option Eff
 | .mv x => ret0 H (some (ev x))
 | .pick c a b => ret0 H ((ev c).bool?.map fun t => if t then ev a else ev b)
 | .new zero => some ⟨.w (.ptr g 0), upd H g (.cells zero), [], false⟩
 | .box sz x => match (ev x).cells? with
  | some cs => if cs.length = sz then some ⟨.w (.ptr g 0), upd H g (.cells cs), [], false⟩ else none
  | none => none
 | .bld zero parts => ret0 H ((setParts zero (parts.map fun p => (p.1, p.2.1, ev p.2.2))).map .agg)
 | .bsl sz n zero parts => match rowParts stamp s sz (List.replicate n zero) ⟨H, 0, []⟩ (parts.map fun p => (p.1, ev p.2)) with
  | some (rows, z) => some ⟨.w (.own g 0 n (some n)), upd z.H g (.row none sz rows 0), z.touch, !z.touch.isEmpty⟩
  | none => none
 | .ld agg sz x => match ev x with
  | .w (.ptr b off) => match H b with
   | .cells cs => match (part? cs off sz).bind (mkV agg) with | some v => some ⟨v, H, [b], false⟩ | none => none
   | _ => none
  | .w (.rp b i off) => match H b with
   | .row _ _ rows _ => match rows[i]? with
    | some row => match (part? row off sz).bind (fun l => mkV agg (l.map .d)) with | some v => some ⟨v, H, [b], false⟩ | none => none
    | none => none
   | _ => none
  | .w (.lp row off) => ret0 H ((part? row off sz).bind (fun l => mkV agg (l.map .d)))
  | .w (.gp k off) => ret0 H ((G k).bind fun row => (part? row off sz).bind (fun l => mkV agg (l.map .d)))
  | _ => none
 | .st sz x y => match (ev y).cells? with
  | some cs => if cs.length = sz then match ev x with
   | .w (.ptr b off) => match H b with
    | .cells old => if off + sz ≤ old.length then some ⟨.tup [], upd H b (.cells (splice old off cs)), [b], true⟩ else none
    | _ => none
   | .w (.rp b i off) => match frzL stamp s ⟨H, 0, []⟩ cs with
    | some (l, z) => match datas? l, z.H b with
     | some ds, .row st sz' rows ro => match rows[i]? with
      | some row => if ro ≤ i ∧ off + sz ≤ row.length then
       some ⟨.tup [], upd z.H b (.row st sz' (rows.set i (splice row off ds)) ro), z.touch ++ [b], true⟩ else none
      | none => none
     | _, _ => none
    | none => none
   | _ => none
   else none
  | none => none
 | .nc x => match ev x with
  | .w (.ptr b off) => ret0 H (some (.w (.ptr b off)))
  | .w (.rp b i off) => ret0 H (some (.w (.rp b i off)))
  | .w (.lp r off) => ret0 H (some (.w (.lp r off)))
  | .w (.gp k off) => ret0 H (some (.w (.gp k off)))
  | .w (.fn f cs) => ret0 H (some (.w (.fn f cs)))
  | _ => none
 | .bin op c x y => ret0 H (binV op c (ev x) (ev y))
 | .un op x => ret0 H (unV op (ev x))
 | .cvi k x => ret0 H ((ev x).int?.map fun p => sV (.int k (k.wrap p.2)))
 | .cbs x => match ev x with
  | .w y => match rowsOf H y with
   | some (rows, t) => match bytesOf rows with
    | some bs => some ⟨sV (.string ⟨bs.toArray⟩), H, t, false⟩
    | none => none
   | none => none
  | _ => none
 | .msl sz bytes zero l c => match (ev l).int?, (ev c).int? with
  | some (.i64, l), some (.i64, c) => if 0 ≤ l ∧ l ≤ c ∧ room c.toNat bytes = true then
   some ⟨.w (.own g 0 l.toNat (some c.toNat)), upd H g (.row none sz (List.replicate l.toNat zero) 0), [], false⟩ else none
  | _, _ => none
 | .sls x lo hi => match (ev x).s?, optInt ev lo, optInt ev hi with
  | some (.string b), some lo, some hi =>
   let h := hi.getD b.size
   let l := lo.getD 0
   if 0 ≤ l ∧ l ≤ h ∧ h ≤ b.size then ret0 H (some (sV (.string (b.extract l.toNat h.toNat)))) else none
  | _, _, _ => none
 | .sl sz x lo hi mx => match ev x, optInt ev lo, optInt ev hi, optInt ev mx with
  | .w y, some lo, some hi, some mx => match rowsOf H y with
   | some (rows, t) =>
    let n : Int := rows.length
    let h := hi.getD n
    let l := lo.getD 0
    let m := mx.getD n
    if 0 ≤ l ∧ l ≤ h ∧ h ≤ m ∧ m ≤ n ∧ (mx.isSome → hi.isSome) then match y with
     | .own b off _ cap => match H b with
      | .row _ sz' _ _ => if sz' = sz then
       some ⟨.w (.own b (off + l.toNat) (h.toNat - l.toNat) (newCap mx cap l.toNat)), H, t, false⟩ else none
      | _ => none
     | .nil => ret0 H (some (.w .nil))
     | .ln st rows => if rows.all (·.length == sz) then ret0 H (some (.w (.ln st ((rows.drop l.toNat).take (h.toNat - l.toNat))))) else none
     | .d (.l st rows) => if rows.all (·.length == sz) then ret0 H (some (.w (.d (.l st ((rows.drop l.toNat).take (h.toNat - l.toNat)))))) else none
     | _ => none
    else none
   | none => none
  | _, _, _, _ => none
 | .fa off x => match ev x with
  | .w (.ptr b o) => ret0 H (some (.w (.ptr b (o + off))))
  | .w (.rp b i o) => ret0 H (some (.w (.rp b i (o + off))))
  | .w (.lp r o) => ret0 H (some (.w (.lp r (o + off))))
  | .w (.gp k o) => ret0 H (some (.w (.gp k (o + off))))
  | _ => none
 | .fld agg off sz x => match ev x with
  | .agg cs => ret0 H ((part? cs off sz).bind (mkV agg))
  | _ => none
 | .ia sz x i => match ev x, (ev i).int? with
  | .w (.own b off len _), some (_, i) => match H b with
   | .row _ sz' _ _ => if sz' = sz ∧ 0 ≤ i ∧ i < len then some ⟨.w (.rp b (off + i.toNat) 0), H, [b], false⟩ else none
   | _ => none
  | .w (.d (.l _ rows)), some (_, i) => if 0 ≤ i then match rows[i.toNat]? with
   | some row => if row.length = sz then ret0 H (some (.w (.lp row 0))) else none
   | none => none
   else none
  | .w (.ln _ rows), some (_, i) => if 0 ≤ i then match rows[i.toNat]? with
   | some row => if row.length = sz then ret0 H (some (.w (.lp row 0))) else none
   | none => none
   else none
  | _, _ => none
 | .iaa n sz x i => match (ev i).int? with
  | some (_, i) => if 0 ≤ i ∧ i < n then match ev x with
   | .w (.ptr b o) => ret0 H (some (.w (.ptr b (o + i.toNat * sz))))
   | .w (.rp b j o) => ret0 H (some (.w (.rp b j (o + i.toNat * sz))))
   | .w (.lp r o) => ret0 H (some (.w (.lp r (o + i.toNat * sz))))
   | .w (.gp k o) => ret0 H (some (.w (.gp k (o + i.toNat * sz))))
   | _ => none
   else none
  | none => none
 | .ixs x i => match (ev x).s?, (ev i).int? with
  | some (.string b), some (_, i) => if 0 ≤ i then match b[i.toNat]? with
   | some c => ret0 H (some (sV (.int .u8 c.toNat)))
   | none => none
   else none
  | _, _ => none
 | .ixa agg n sz x i => match ev x, (ev i).int? with
  | .agg cs, some (_, i) => if 0 ≤ i ∧ i < n then ret0 H ((part? cs (i.toNat * sz) sz).bind (mkV agg)) else none
  | _, _ => none
 | .ext i x => match ev x with
  | .tup vs => match vs[i]? with
   | some p => ret0 H (mkV p.1 p.2)
   | none => none
  | _ => none
 | .mkf f caps => match capsOf (caps.map ev) with
  | some l => ret0 H (some (.w (.fn f l)))
  | none => none
 | .call f args => match ev f with
  | .w (.fn f caps) => callV call M stamp H g s f (args.map ev ++ caps.map Cap.v)
  | _ => none
 | .lens x => match (ev x).s? with
  | some (.string b) => ret0 H (some (sV (.int .i64 b.size)))
  | _ => none
 | .lenl x => match ev x with
  | .w (.own _ _ len _) => ret0 H (some (sV (.int .i64 len)))
  | .w (.d (.l _ rows)) => ret0 H (some (sV (.int .i64 rows.length)))
  | .w (.ln _ rows) => ret0 H (some (sV (.int .i64 rows.length)))
  | .w .nil => ret0 H (some (sV (.int .i64 0)))
  | _ => none
 | .app sz bytes zero x y => match ev y with
  | .w y => match rowsOf H y with
   | some (ys, t) => if ys.all (·.length == sz) && zero.length == sz then match ev x with
    | .w .nil => if room ys.length bytes = true then some ⟨.w (.own g 0 ys.length none), upd H g (.row none sz ys 0), t, false⟩ else none
    | .w (.own b off len _) => match H b with
     | .row st sz' rows ro =>
      if sz' = sz ∧ off + len ≤ rows.length ∧ ro ≤ off + len ∧ room (len + ys.length) bytes = true then
       some ⟨.w (.own g 0 (len + ys.length) none),
        upd (upd H b .dead) g (.row (taint st) sz ((rows.drop off).take len ++ ys) (ro - off)), t ++ [b], true⟩
      else none
     | _ => none
    | _ => none
    else none
   | none => none
  | _ => none
 | .mmx isMax args => match args.map ev with
  | v :: r => match v.int? with
   | some (k, a) => ret0 H (fold2 isMax k a r)
   | none => none
  | [] => none
 | .bad => none
inductive Ex where
 | normal | exit (id : Nat) | ret
 deriving Inhabited
structure St where
 τ : Nat → V
 H : Nat → Box
 g : Nat
 s : Sup
def evX (τ : Nat → V) : X → V
 | .t n => τ n
 | .k v => v
 | .g n => .w (.gp n 0)
def subS (s : Sup) (i : Nat) : Sup := fun k => s (2 ^ (i + 1) * (2 * k + 1))
def restS (s : Sup) : Sup := fun k => s (2 * k + 1)
def stepE (call : CallT) (M : Nat → Mode) (G : Nat → Option (List D)) (stamp : Bool) (τ : Nat → V) (H : Nat → Box) (g : Nat) (s : Sup) (o : RO) : Option Eff :=
 match o.guard with
 | none => opV call M G stamp (evX τ) H g s o.op
 | some (t, want) => match τ t with
  | .w (.d (.s (.bool b))) => if b = want then opV call M G stamp (evX τ) H g s o.op else some ⟨.tup [], H, [], false⟩
  | .tup _ => some ⟨.tup [], H, [], false⟩
  | _ => none
def put (N : Nat) (τ : Nat → V) (dst : Option Nat) (v : V) : Option (Nat → V) :=
 match dst with
 | none => some τ
 | some d => if d < N then some (upd τ d v) else none
def regV (call : CallT) (M : Nat → Mode) (G : Nat → Option (List D)) (stamp : Bool) (N : Nat) (g : Nat) (s : Sup) : Nat → List RO → (Nat → V) → (Nat → Box) → Option ((Nat → V) × (Nat → Box))
 | _, [], τ, H => some (τ, H)
 | i, o :: r, τ, H => match stepE call M G stamp τ H (g + 64 * i) (subS s i) o with
  | some e => match put N τ o.dst e.v with
   | some τ' => regV call M G stamp N g s (i + 1) r τ' e.H
   | none => none
  | none => none
def wOf (o : O) (t : List Nat) (wr : Bool) : List Nat := if wr then (match o with | .app _ _ _ _ _ => t.drop (t.length - 1) | _ => t) else []
def regL (call : CallT) (M : Nat → Mode) (G : Nat → Option (List D)) (stamp : Bool) (N : Nat) (g : Nat) (s : Sup) : Nat → List RO → (Nat → V) → (Nat → Box) → Option ((Nat → V) × (Nat → Box) × List (List Nat × List Nat))
 | _, [], τ, H => some (τ, H, [])
 | i, o :: r, τ, H => match stepE call M G stamp τ H (g + 64 * i) (subS s i) o with
  | some e => match put N τ o.dst e.v with
   | some τ' => match regL call M G stamp N g s (i + 1) r τ' e.H with
    | some (τ'', H'', l) => some (τ'', H'', (e.touch, wOf o.op e.touch e.wr) :: l)
    | none => none
   | none => none
  | none => none
def ncW (g i j : Nat) (x y : List Nat × List Nat) : Bool :=
 x.2.all (fun n => !y.1.contains n) && y.2.all (fun n => !x.1.contains n) && y.1.all (fun n => !(decide (g + 64 * i ≤ n) && decide (n < g + 64 * i + 64))) && x.1.all (fun n => !(decide (g + 64 * j ≤ n) && decide (n < g + 64 * j + 64)))
def calmWith (g : Nat) (x : List Nat × List Nat) (i : Nat) : Nat → List (List Nat × List Nat) → List Nat → Bool
 | j, y :: l, b :: bf => (b.testBit i || ncW g i j x y) && calmWith g x i (j + 1) l bf
 | _, _, _ => true
def calm (g : Nat) : Nat → List (List Nat × List Nat) → List Nat → Bool
 | i, x :: l, _ :: bf => calmWith g x i (i + 1) l bf && calm g (i + 1) l bf
 | _, _, _ => true
def iter (body : St → Option (Ex × St)) : Nat → St → Option (Ex × St)
 | 0, _ => none
 | n + 1, st => match body st with
  | some (.normal, st') => iter body n st'
  | r => r
def execC (call : CallT) (M : Nat → Mode) (G : Nat → Option (List D)) (stamp : Bool) (N n : Nat) : C → St → Option (Ex × St)
 | .skip, st => some (.normal, st)
 | .reg ops, st => match regV call M G stamp N st.g st.s 0 ops st.τ st.H with
  | some (τ, H) => some (.normal, ⟨τ, H, st.g + 64 * ops.length, restS st.s⟩)
  | none => none
 | .dreg ops bf, st => match regL call M G stamp N st.g st.s 0 ops st.τ st.H with
  | some (τ, H, l) => if calm st.g 0 l bf then some (.normal, ⟨τ, H, st.g + 64 * ops.length, restS st.s⟩) else none
  | none => none
 | .seq a b, st => match execC call M G stamp N n a st with
  | some (.normal, st') => execC call M G stamp N n b st'
  | r => r
 | .cond x a b, st => match evX st.τ x with
  | .w (.d (.s (.bool t))) => if t then execC call M G stamp N n a st else execC call M G stamp N n b st
  | _ => none
 | .block id c, st => match execC call M G stamp N n c st with
  | some (.exit id', st') => if id' = id then some (.normal, st') else some (.exit id', st')
  | r => r
 | .loop c, st => iter (execC call M G stamp N n c) n st
 | .exit id, st => some (.exit id, st)
 | .ret, st => some (.ret, st)
 | .bad, _ => none
def resV (τ : Nat → V) (H : Nat → Box) : List RV → Option (List (Bool × List W))
 | [] => some []
 | .tmp t :: r => match τ t, resV τ H r with
  | .w x, some l => some ((false, [x]) :: l)
  | .agg cs, some l => some ((true, cs) :: l)
  | _, _ => none
 | .cell t agg sz :: r => match τ t, resV τ H r with
  | .w (.ptr b off), some l => match H b with
   | .cells cs => match part? cs off sz with
    | some p => if agg || p.length == 1 then some ((agg, p) :: l) else none
    | none => none
   | _ => none
  | _, _ => none
def one? : List (Bool × List W) → V
 | [(true, cs)] => .agg cs
 | [(false, [x])] => .w x
 | l => .tup l
def finish (stamp move : Bool) (m : Nat) (st : St) (res : List (Bool × List W)) : Option Res :=
 match (if move then some (res, (⟨st.H, 0, []⟩ : Fz)) else frzP stamp st.s ⟨st.H, 0, []⟩ res) with
 | none => none
 | some (res, z) =>
  let ns := reach z.H 4 (addAll (List.range m) ((res.flatMap fun p => wnames p.2) ++ (List.range m).flatMap fun b => (z.H b).names))
  if m ≤ ns.length ∧ ns.take m = List.range m ∧ closed z.H ns = true then
   some ⟨(one? res).ren (idx ns), (List.range m).map (fun b => (z.H b).ren (idx ns)), (ns.drop m).map fun b => (z.H b).ren (idx ns)⟩
  else none
def runF (call : CallT) (M : Nat → Mode) (G : Nat → Option (List D)) (n : Nat) (f : Nat) (F : Fn) (args : List V) (bs : List Box) (s : Sup) : Option Res :=
 if args.length ≤ F.ntmps then
  match execC call M G (M f).stamp F.ntmps n F.code ⟨fun t => args.getD t (.tup []), fun b => bs.getD b .dead, bs.length, s⟩ with
  | some (.ret, st) | some (.normal, st) => match resV st.τ st.H F.res with
   | some res => finish (M f).stamp (M f).move bs.length st res
   | none => none
  | _ => none
 else none
abbrev Tab := Nat → Option Fn
abbrev Orc := Nat → List V → Option Res
def run (FT : Tab) (O : Nat → Bool) (A : Orc) (M : Nat → Mode) (G : Nat → Option (List D)) : Nat → CallT
 | 0, _, _, _, _ => none
 | n + 1, f, args, bs, s => if O f then (match bs with | [] => A f args | _ => none) else
  match FT f with
  | some F => runF (run FT O A M G n) M G n f F args bs s
  | none => none
end Go.VM

/- The value machine: how its values read in the model's world, and what keeps. Conditions: none. -/
namespace Go.VM
set_option linter.unusedVariables false
structure Inf where
 blk : Nat
 δ : Nat
 sz : Nat
 room : Nat
 real : Bool
structure Ctx where
 w : World
 Im : Nat → Nat → Prop
 ζ : Nat → Option Nat
 β : Nat → Option Inf
inductive Rel (w : World) (Im : Nat → Nat → Prop) (ζ : Nat → Option Nat) : Value → D → Prop
 | s (v : Value) (h : v.oneCell' = true) : Rel w Im ζ v (.s v)
 | nil (st : Nat) : Rel w Im ζ (.slice none 0 0) (.l st [])
 | e (a : Addr) : Rel w Im ζ (.slice (some a) 0 0) (.l 0 [])
 | l (st : Nat) (rows : List (List D)) (blk o cap sz : Nat) (f : Nat → Nat → Value)
  (hlen : ∀ (i : Nat) (row : List D), rows[i]? = some row → row.length = sz)
  (hcap : rows.length ≤ cap) (hb : blk < w.heap.size)
  (hcell : ∀ i j, i < rows.length → j < sz → w.cell? ⟨blk, o + i * sz + j, none⟩ = some (f i j))
  (him : ∀ i j, i < rows.length → j < sz → Im blk (o + i * sz + j))
  (hrel : ∀ (i : Nat) (row : List D) (j : Nat) (x : D), rows[i]? = some row → row[j]? = some x → Rel w Im ζ (f i j) x)
  (hst : st ≠ 0 → ζ st = some blk) : Rel w Im ζ (.slice (some ⟨blk, o, none⟩) rows.length cap) (.l st rows)
theorem Rel.oneCell {w : World} {Im : Nat → Nat → Prop} {ζ : Nat → Option Nat} {v : Value} {d : D} (h : Rel w Im ζ v d) : v.oneCell' = true := by
 cases h <;> first | assumption | rfl
theorem Rel.mono {w w' : World} {Im Im' : Nat → Nat → Prop} {ζ ζ' : Nat → Option Nat}
 (hs : w.heap.size ≤ w'.heap.size) (hi : ∀ b o, Im b o → Im' b o) (hc : ∀ b o, Im b o → w'.cell? ⟨b, o, none⟩ = w.cell? ⟨b, o, none⟩)
 (hz : ∀ t b, ζ t = some b → ζ' t = some b) {v : Value} {d : D} (h : Rel w Im ζ v d) : Rel w' Im' ζ' v d := by
 induction h with
 | s v h => exact .s v h
 | nil st => exact .nil st
 | e a => exact .e a
 | l st rows blk o cap sz f hlen hcap hb hcell him hrel hst ih =>
  exact .l st rows blk o cap sz f hlen hcap (Nat.lt_of_lt_of_le hb hs) (fun i j a b => (hc _ _ (him i j a b)).trans (hcell i j a b)) (fun i j a b => hi _ _ (him i j a b)) ih (fun h => hz _ _ (hst h))
structure Ctx.le (κ κ' : Ctx) : Prop where
 size : κ.w.heap.size ≤ κ'.w.heap.size
 im : ∀ b o, κ.Im b o → κ'.Im b o
 cell : ∀ b o, κ.Im b o → κ'.w.cell? ⟨b, o, none⟩ = κ.w.cell? ⟨b, o, none⟩
 z : ∀ t b, κ.ζ t = some b → κ'.ζ t = some b
 b : ∀ n i, κ.β n = some i → κ'.β n = some i
theorem Ctx.le.refl (κ : Ctx) : κ.le κ := ⟨Nat.le_refl _, fun _ _ h => h, fun _ _ _ => rfl, fun _ _ h => h, fun _ _ h => h⟩
theorem Ctx.le.trans {a b c : Ctx} (h : a.le b) (k : b.le c) : a.le c :=
 ⟨Nat.le_trans h.size k.size, fun x y e => k.im _ _ (h.im _ _ e), fun x y e => (k.cell _ _ (h.im _ _ e)).trans (h.cell _ _ e), fun t x e => k.z _ _ (h.z _ _ e), fun n i e => k.b _ _ (h.b _ _ e)⟩
def Ctx.rel (κ : Ctx) : Value → D → Prop := Rel κ.w κ.Im κ.ζ
theorem Ctx.le.rel {κ κ' : Ctx} (h : κ.le κ') {v : Value} {d : D} (r : κ.rel v d) : κ'.rel v d := Rel.mono h.size h.im h.cell h.z r
def CapRel (κ : Ctx) : Value → Cap → Prop
 | v, .d x => κ.rel v x
 | v, .ptr b off => ∃ i, κ.β b = some i ∧ i.δ = 0 ∧ v = .pointer (some ⟨i.blk, off, none⟩)
def WRel (fid : Nat → FuncId) (κ : Ctx) : Value → W → Prop
 | v, .d x => κ.rel v x
 | v, .nil => v = .slice none 0 0
 | v, .ln st rows => κ.rel v (.l st rows) ∧ v ≠ .slice none 0 0
 | v, .own b off len cap => ∃ i cap', κ.β b = some i ∧ (cap = none ∨ cap = some cap') ∧ len ≤ cap' ∧
  ((v = .slice none 0 0 ∧ len = 0 ∧ cap' = 0) ∨
   (i.real = true ∧ ∃ o, v = .slice (some ⟨i.blk, o, none⟩) len cap' ∧ (cap' = 0 ∨ (o = i.δ + off * i.sz ∧ o + cap' * i.sz ≤ i.room))))
 | v, .ptr b off => ∃ i, κ.β b = some i ∧ i.δ = 0 ∧ v = .pointer (some ⟨i.blk, off, none⟩)
 | v, .rp b j off => ∃ i, κ.β b = some i ∧ v = .pointer (some ⟨i.blk, i.δ + j * i.sz + off, none⟩)
 | v, .lp row off => ∃ (blk o : Nat) (f : Nat → Value), blk < κ.w.heap.size ∧ v = .pointer (some ⟨blk, o + off, none⟩) ∧
  ∀ (j : Nat) (x : D), row[j]? = some x → κ.Im blk (o + j) ∧ κ.w.cell? ⟨blk, o + j, none⟩ = some (f j) ∧ κ.rel (f j) x
 | v, .gp g off => v = .pointer (some ⟨g, off, none⟩)
 | v, .fn f caps => ∃ arr : Array Value, v = .func (.func (fid f)) #[] arr ∧ arr.size = caps.length ∧ ∀ (i : Nat) (c : Cap), caps[i]? = some c → ∃ x : Value, arr[i]? = some x ∧ CapRel κ x c
def LRel (fid : Nat → FuncId) (κ : Ctx) (arr : Array Value) (cs : List W) : Prop :=
 arr.size = cs.length ∧ ∀ (i : Nat) (c : W), cs[i]? = some c → ∃ x : Value, arr[i]? = some x ∧ WRel fid κ x c
def PRel (fid : Nat → FuncId) (κ : Ctx) : Value → Bool × List W → Prop
 | v, (true, cs) => ∃ arr, v = .agg arr ∧ LRel fid κ arr cs
 | v, (false, [x]) => WRel fid κ v x
 | _, (false, _) => False
def VRel (fid : Nat → FuncId) (κ : Ctx) : Value → V → Prop
 | v, .w x => WRel fid κ v x
 | v, .agg cs => ∃ arr, v = .agg arr ∧ LRel fid κ arr cs
 | v, .tup vs => ∃ arr : Array Value, v = .tuple arr ∧ arr.size = vs.length ∧ ∀ (i : Nat) (p : Bool × List W), vs[i]? = some p → ∃ x : Value, arr[i]? = some x ∧ PRel fid κ x p
section
variable {fid : Nat → FuncId} {κ κ' : Ctx}
theorem CapRel.mono (h : κ.le κ') {v : Value} {c : Cap} (r : CapRel κ v c) : CapRel κ' v c := by
 cases c with
 | d x => exact h.rel r
 | ptr b off => obtain ⟨i, hi, h0, hv⟩ := r; exact ⟨i, h.b _ _ hi, h0, hv⟩
theorem WRel.mono (h : κ.le κ') {v : Value} {x : W} (r : WRel fid κ v x) : WRel fid κ' v x := by
 cases x with
 | d x => exact h.rel r
 | nil => exact r
 | ln st rows => exact ⟨h.rel r.1, r.2⟩
 | own b off len cap => obtain ⟨i, cap', hi, hc⟩ := r; exact ⟨i, cap', h.b _ _ hi, hc⟩
 | ptr b off => obtain ⟨i, hi, hv⟩ := r; exact ⟨i, h.b _ _ hi, hv⟩
 | rp b j off => obtain ⟨i, hi, hv⟩ := r; exact ⟨i, h.b _ _ hi, hv⟩
 | lp row off =>
  obtain ⟨blk, o, f, hb, hv, hr⟩ := r; exact ⟨blk, o, f, Nat.lt_of_lt_of_le hb h.size, hv, fun j x hj => ⟨h.im _ _ (hr j x hj).1, (h.cell _ _ (hr j x hj).1).trans (hr j x hj).2.1, h.rel (hr j x hj).2.2⟩⟩
 | gp g off => exact r
 | fn f caps => obtain ⟨arr, hv, hs, hr⟩ := r; exact ⟨arr, hv, hs, fun i c hc => let ⟨x, hx, q⟩ := hr i c hc; ⟨x, hx, q.mono h⟩⟩
theorem LRel.mono (h : κ.le κ') {arr : Array Value} {cs : List W} (r : LRel fid κ arr cs) : LRel fid κ' arr cs :=
 ⟨r.1, fun i c hc => let ⟨x, hx, q⟩ := r.2 i c hc; ⟨x, hx, q.mono h⟩⟩
theorem PRel.mono (h : κ.le κ') {v : Value} {p : Bool × List W} (r : PRel fid κ v p) : PRel fid κ' v p := by
 obtain ⟨b, cs⟩ := p; cases b with
 | true => obtain ⟨arr, hv, q⟩ := r; exact ⟨arr, hv, q.mono h⟩
 | false => match cs, r with
  | [x], r => exact WRel.mono h r
theorem VRel.mono (h : κ.le κ') {v : Value} {x : V} (r : VRel fid κ v x) : VRel fid κ' v x := by
 cases x with
 | w x => exact WRel.mono h r
 | agg cs => obtain ⟨arr, hv, q⟩ := r; exact ⟨arr, hv, q.mono h⟩
 | tup vs => obtain ⟨arr, hv, hs, hr⟩ := r; exact ⟨arr, hv, hs, fun i p hp => let ⟨x, hx, q⟩ := hr i p hp; ⟨x, hx, q.mono h⟩⟩
theorem WRel.oneCell {v : Value} {x : W} (r : WRel fid κ v x) : v.oneCell' = true := by
 cases x with
 | d x => exact Rel.oneCell r
 | nil => cases r; rfl
 | ln st rows => exact Rel.oneCell r.1
 | own b off len cap => obtain ⟨i, cap', _, _, _, h | ⟨_, o, h, _⟩⟩ := r <;> (first | (obtain ⟨rfl, _, _⟩ := h; rfl) | (subst h; rfl))
 | ptr b off => obtain ⟨i, _, _, rfl⟩ := r; rfl
 | rp b j off => obtain ⟨i, _, rfl⟩ := r; rfl
 | lp row off => obtain ⟨blk, o, f, _, rfl, _⟩ := r; rfl
 | gp g off => cases r; rfl
 | fn f caps => obtain ⟨arr, rfl, _⟩ := r; rfl
theorem oneCell_cells {v : Value} (h : v.oneCell' = true) : v.cells = #[v] := by
 cases v <;> first | rfl | (simp [Value.oneCell'] at h)
theorem VRel.cells {v : Value} {x : V} (r : VRel fid κ v x) {cs : List W} (hc : x.cells? = some cs) : LRel fid κ v.cells cs := by
 cases x with
 | w x =>
  simp only [V.cells?, Option.some.injEq] at hc; subst hc
  rw [oneCell_cells (WRel.oneCell r)]; refine ⟨rfl, fun i c hi => ?_⟩
  match i with
  | 0 => simp at hi; subst hi; exact ⟨v, rfl, r⟩
  | i + 1 => simp at hi
 | agg cs' =>
  simp only [V.cells?, Option.some.injEq] at hc; subst hc
  obtain ⟨arr, rfl, q⟩ := r; exact q
 | tup vs => simp [V.cells?] at hc
end
end Go.VM

/- The value machine: what holds in a frame, and how it is kept by a new block, a store, a freezing. Conditions: none. -/
namespace Go.VM
set_option linter.unusedVariables false
def StOk (κ : Ctx) (blk : Nat) : Option Nat → Prop
 | none => ∀ t, κ.ζ t ≠ some blk
 | some t => t ≠ 0 → κ.ζ t = some blk
def RowsAt (κ : Ctx) (arr : Array Value) (δ sz : Nat) (rows : List (List D)) : Prop :=
 ∀ (i : Nat) (row : List D), rows[i]? = some row → ∀ (j : Nat) (x : D), row[j]? = some x → ∃ y : Value, arr[δ + i * sz + j]? = some y ∧ κ.rel y x
structure RowBox (κ : Ctx) (i : Inf) (st : Option Nat) (rows : List (List D)) (ro : Nat) (arr : Array Value) (T : TypeId) : Prop where
 real : i.real = true
 heap : κ.w.heap[i.blk]? = some (.cells arr T (0, 0))
 size : arr.size = i.room
 fits : i.δ + rows.length * i.sz ≤ i.room
 rows : RowsAt κ arr i.δ i.sz rows
 im : ∀ o, κ.Im i.blk o → o < i.δ + ro * i.sz
 st : StOk κ i.blk st
def BoxRel (fid : Nat → FuncId) (κ : Ctx) (b : Nat) : Box → Prop
 | .dead => True
 | .cells cs => ∃ (i : Inf) (arr : Array Value) (T : TypeId), κ.β b = some i ∧ i.real = true ∧ i.δ = 0 ∧
  κ.w.heap[i.blk]? = some (.cells arr T (0, 0)) ∧ LRel fid κ arr cs ∧ ∀ o, ¬ κ.Im i.blk o
 | .row st sz rows ro => ∃ i : Inf, κ.β b = some i ∧ i.sz = sz ∧ (∀ row ∈ rows, row.length = sz) ∧
  ((i.real = false ∧ rows = []) ∨ ∃ (arr : Array Value) (T : TypeId), RowBox κ i st rows ro arr T)
structure Entry where
 κ : Ctx
 Z : Nat → Prop
 pass : Nat → Prop
def Glob (G : Nat → Option (List D)) (κ : Ctx) : Prop :=
 ∀ g row, G g = some row → g < κ.w.heap.size ∧ ∀ (j : Nat) (x : D), row[j]? = some x → κ.Im g j ∧ ∃ y, κ.w.cell? ⟨g, j, none⟩ = some y ∧ κ.rel y x
def Clean (w : World) (b : Nat) : Prop := ∃ (arr : Array Value) (T : TypeId), w.heap[b]? = some (.cells arr T (0, 0))
theorem Clean.lt {w : World} {b : Nat} (h : Clean w b) : b < w.heap.size := by
 obtain ⟨arr, T, h⟩ := h; rcases Nat.lt_or_ge b w.heap.size with h' | h'
 · exact h'
 · simp [Array.getElem?_eq_none h'] at h
theorem Clean.of {w w' : World} {b : Nat} (h : Clean w b) (e : w'.heap[b]? = w.heap[b]?) : Clean w' b := by
 obtain ⟨arr, T, h⟩ := h; exact ⟨arr, T, e.trans h⟩
structure Inv (fid : Nat → FuncId) (G : Nat → Option (List D)) (E : Entry) (κ : Ctx) (H : Nat → Box) (FN FZ : Nat → Prop) : Prop where
 le : E.κ.le κ
 os : κ.w.os = E.κ.w.os
 tape : κ.w.tape = E.κ.w.tape
 output : κ.w.output = E.κ.w.output
 same : ∀ k, k < E.κ.w.heap.size → ¬ E.pass k → κ.w.heap[k]? = E.κ.w.heap[k]?
 im : ∀ k o, κ.Im k o → E.κ.Im k o ∨ E.κ.w.heap.size ≤ k ∨ E.pass k
 imlt : ∀ k o, κ.Im k o → k < κ.w.heap.size
 zlt : ∀ t b, κ.ζ t = some b → Clean κ.w b
 zinj : ∀ t t' b, κ.ζ t = some b → κ.ζ t' = some b → t = t'
 znew : ∀ t b, κ.ζ t = some b → E.κ.ζ t = some b ∨ (E.Z t ∧ (E.κ.w.heap.size ≤ b ∨ E.pass b))
 zfree : ∀ t, FZ t → κ.ζ t = none ∧ t ≠ 0 ∧ E.Z t
 nfree : ∀ b, FN b → κ.β b = none
 blk : ∀ b i, H b ≠ .dead → κ.β b = some i → i.real = true → E.κ.w.heap.size ≤ i.blk ∨ E.pass i.blk
 box : ∀ b, BoxRel fid κ b (H b)
 dist : ∀ b b' i i', b ≠ b' → H b ≠ .dead → H b' ≠ .dead → κ.β b = some i → κ.β b' = some i' → i.real = true → i'.real = true → i.blk ≠ i'.blk
 glob : Glob G κ
section
variable {fid : Nat → FuncId} {G : Nat → Option (List D)} {E : Entry} {κ κ' : Ctx} {H : Nat → Box} {FN FZ : Nat → Prop}
theorem cell_heap {w w' : World} {b : Nat} (h : w'.heap[b]? = w.heap[b]?) (o : Nat) : w'.cell? ⟨b, o, none⟩ = w.cell? ⟨b, o, none⟩ := by
 simp [World.cell?, h]
theorem cell_of {w : World} {b : Nat} {arr : Array Value} {T : TypeId} {fr : Nat × Nat} (h : w.heap[b]? = some (.cells arr T fr)) (o : Nat) : w.cell? ⟨b, o, none⟩ = arr[o]? := by
 simp [World.cell?, h]
theorem lt_of_heap {w : World} {b : Nat} {x : Obj} (h : w.heap[b]? = some x) : b < w.heap.size := by
 rcases Nat.lt_or_ge b w.heap.size with h' | h'
 · exact h'
 · simp [Array.getElem?_eq_none h'] at h
theorem RowsAt.mono (h : κ.le κ') {arr : Array Value} {δ sz : Nat} {rows : List (List D)} (r : RowsAt κ arr δ sz rows) : RowsAt κ' arr δ sz rows :=
 fun i row hi j x hj => let ⟨y, hy, q⟩ := r i row hi j x hj; ⟨y, hy, h.rel q⟩
theorem BoxRel.keep (h : κ.le κ') {b : Nat} {B : Box} (r : BoxRel fid κ b B)
 (hh : ∀ i, B ≠ .dead → κ.β b = some i → i.real = true → κ'.w.heap[i.blk]? = κ.w.heap[i.blk]? ∧ (∀ o, κ'.Im i.blk o → κ.Im i.blk o) ∧ (∀ t, κ'.ζ t = some i.blk → κ.ζ t = some i.blk)) : BoxRel fid κ' b B := by
 cases B with
 | dead => trivial
 | cells cs =>
  obtain ⟨i, arr, T, hb, hr, hδ, hheap, hl, him⟩ := r; obtain ⟨h1, h2, h3⟩ := hh i (by simp) hb hr; exact ⟨i, arr, T, h.b _ _ hb, hr, hδ, h1.trans hheap, hl.mono h, fun o ho => him o (h2 o ho)⟩
 | row st sz rows ro =>
  obtain ⟨i, hb, hsz, hlen, hr | ⟨arr, T, q⟩⟩ := r
  · exact ⟨i, h.b _ _ hb, hsz, hlen, .inl hr⟩
  · obtain ⟨h1, h2, h3⟩ := hh i (by simp) hb q.real
    refine ⟨i, h.b _ _ hb, hsz, hlen, .inr ⟨arr, T, q.real, h1.trans q.heap, q.size, q.fits, q.rows.mono h, fun o ho => q.im o (h2 o ho), ?_⟩⟩
    have := q.st; cases st with
    | none => exact fun t ht => this t (h3 t ht)
    | some t => exact fun ht => h.z _ _ (this ht)
theorem Glob.mono (h : κ.le κ') (g : Glob G κ) : Glob G κ' := fun k row hk => by
 obtain ⟨h1, h2⟩ := g k row hk; exact ⟨Nat.lt_of_lt_of_le h1 h.size, fun j x hj => let ⟨a, y, hy, q⟩ := h2 j x hj; ⟨h.im _ _ a, y, (h.cell _ _ a).trans hy, h.rel q⟩⟩
theorem Inv.draw (I : Inv fid G E κ H FN FZ) {w' : World} (hh : w'.heap = κ.w.heap) (ho : w'.os = κ.w.os) (ht : w'.tape = κ.w.tape) (hu : w'.output = κ.w.output) :
 Inv fid G E { κ with w := w' } H FN FZ ∧ κ.le { κ with w := w' } := by
 have hle : κ.le { κ with w := w' } := ⟨by simp [hh], fun _ _ h => h, fun b o _ => cell_heap (by simp [hh]) o, fun _ _ h => h, fun _ _ h => h⟩; exact ⟨⟨I.le.trans hle, ho.trans I.os, ht.trans I.tape, hu.trans I.output, fun k hk hp => by simpa [hh] using I.same k hk hp, I.im, by simpa [hh] using I.imlt, fun t b h => (I.zlt t b h).of (by simp [hh]), I.zinj, I.znew, I.zfree, I.nfree, I.blk,
  fun b => (I.box b).keep hle (fun i _ _ _ => ⟨by simp [hh], fun _ h => h, fun _ h => h⟩), I.dist, I.glob.mono hle⟩, hle⟩
theorem Inv.new (I : Inv fid G E κ H FN FZ) {w' : World} {arr : Array Value} {T : TypeId} {g : Nat} {i : Inf} (B : Box)
 (hh : w'.heap = κ.w.heap.push (.cells arr T (0, 0))) (ho : w'.os = κ.w.os) (ht : w'.tape = κ.w.tape) (hu : w'.output = κ.w.output)
 (hg : FN g) (hb : i.blk = κ.w.heap.size)
 (hB : ∀ κ' : Ctx, κ.le κ' → κ'.w = w' → κ'.Im = κ.Im → κ'.ζ = κ.ζ → κ'.β g = some i → w'.heap[κ.w.heap.size]? = some (.cells arr T (0, 0)) → BoxRel fid κ' g B) :
 ∃ κ' : Ctx, κ'.w = w' ∧ κ.le κ' ∧ κ'.β g = some i ∧ Inv fid G E κ' (upd H g B) (fun n => FN n ∧ n ≠ g) FZ := by
 have hsz : w'.heap.size = κ.w.heap.size + 1 := by simp [hh]
 have hold : ∀ k, k < κ.w.heap.size → w'.heap[k]? = κ.w.heap[k]? := fun k hk => by rw [hh, Array.getElem?_push, if_neg (by omega)]
 have hnew : w'.heap[κ.w.heap.size]? = some (.cells arr T (0, 0)) := by rw [hh, Array.getElem?_push, if_pos rfl]
 have hng := I.nfree g hg
 let κ' : Ctx := { w := w', Im := κ.Im, ζ := κ.ζ, β := fun n => if n = g then some i else κ.β n }
 have hle : κ.le κ' := ⟨by simp [κ', hsz], fun _ _ h => h, fun b o h => cell_heap (hold b (I.imlt _ _ h)) o, fun _ _ h => h, fun n j hn => by
  show (if n = g then some i else κ.β n) = some j
  rw [if_neg (by intro e; rw [e, hng] at hn; cases hn)]; exact hn⟩
 have hbg : κ'.β g = some i := if_pos rfl; have hbo : ∀ n, n ≠ g → κ'.β n = κ.β n := fun n hn => if_neg hn
 refine ⟨κ', rfl, hle, hbg, I.le.trans hle, ho.trans I.os, ht.trans I.tape, hu.trans I.output, ?_, I.im, ?_, ?_, I.zinj, I.znew, I.zfree, ?_, ?_, ?_, ?_, I.glob.mono hle⟩
 · intro k hk hp
   exact (hold k (Nat.lt_of_lt_of_le hk I.le.size)).trans (I.same k hk hp)
 · intro k o h; show k < w'.heap.size; have := I.imlt k o h; omega
 · intro t b h; exact (I.zlt t b h).of (hold b (I.zlt t b h).lt)
 · intro b ⟨h1, h2⟩; rw [hbo b h2]; exact I.nfree b h1
 · intro b j hd hj hr
   by_cases e : b = g
   · subst e; rw [hbg] at hj; cases hj; left; have := I.le.size; omega
   · rw [hbo b e] at hj; simp only [upd, if_neg e] at hd; exact I.blk b j hd hj hr
 · intro b
   by_cases e : b = g
   · subst e; simp only [upd, if_pos]; exact hB κ' hle rfl rfl rfl hbg hnew
   · simp only [upd, if_neg e]
     refine (I.box b).keep hle (fun j hd hj hr => ⟨hold _ ?_, fun _ h => h, fun _ h => h⟩)
     have := I.box b
     revert this hd
     cases H b with
     | dead => intro hd; exact absurd rfl hd
     | cells cs => rintro _ ⟨i', arr', T', hb', _, _, hheap, _⟩; rw [hj] at hb'; cases hb'; exact lt_of_heap hheap
     | row st sz rows ro =>
      rintro _ ⟨i', hb', _, _, hx | ⟨arr', T', q⟩⟩ <;> (rw [hj] at hb'; cases hb')
      · rw [hx.1] at hr; cases hr
      · exact lt_of_heap q.heap
 · intro b b' j j' hne hd hd' hj hj' hr hr'
   have key : ∀ n jn, n ≠ g → H n ≠ .dead → κ.β n = some jn → jn.real = true → jn.blk < κ.w.heap.size := by
    intro n jn _ hd hj hr; have := I.box n
    revert this hd
    cases H n with
    | dead => intro hd; exact absurd rfl hd
    | cells cs => rintro _ ⟨i', arr', T', hb', _, _, hheap, _⟩; rw [hj] at hb'; cases hb'; exact lt_of_heap hheap
    | row st sz rows ro =>
     rintro _ ⟨i', hb', _, _, hx | ⟨arr', T', q⟩⟩ <;> (rw [hj] at hb'; cases hb')
     · rw [hx.1] at hr; cases hr
     · exact lt_of_heap q.heap
   by_cases e : b = g
   · subst e
     rw [hbg] at hj; cases hj
     have e' : b' ≠ b := fun h => hne h.symm
     rw [hbo b' e'] at hj'; simp only [upd, if_neg e'] at hd'; have := key b' j' e' hd' hj' hr'; omega
   · rw [hbo b e] at hj
     simp only [upd, if_neg e] at hd
     by_cases e' : b' = g
     · subst e'
       rw [hbg] at hj'; cases hj'
       have := key b j e hd hj hr; omega
     · rw [hbo b' e'] at hj'
       simp only [upd, if_neg e'] at hd'; exact I.dist b b' j j' hne hd hd' hj hj' hr hr'
theorem Inv.kill (I : Inv fid G E κ H FN FZ) (b : Nat) : Inv fid G E κ (upd H b .dead) FN FZ := by
 refine ⟨I.le, I.os, I.tape, I.output, I.same, I.im, I.imlt, I.zlt, I.zinj, I.znew, I.zfree, I.nfree, ?_, ?_, ?_, I.glob⟩
 · intro n i hd
   by_cases e : n = b
   · simp [upd, e] at hd
   · simp only [upd, if_neg e] at hd; exact I.blk n i hd
 · intro n; by_cases e : n = b
   · simp only [upd, if_pos e]; trivial
   · simp only [upd, if_neg e]; exact I.box n
 · intro n n' i i' hne hd hd'
   by_cases e : n = b
   · simp [upd, e] at hd
   · by_cases e' : n' = b
     · simp [upd, e'] at hd'
     · simp only [upd, if_neg e] at hd; simp only [upd, if_neg e'] at hd'; exact I.dist n n' i i' hne hd hd'
theorem Inv.store (I : Inv fid G E κ H FN FZ) {w' : World} {arr arr' : Array Value} {T : TypeId} {b : Nat} {i : Inf} (B : Box)
 (hb : κ.β b = some i) (hr : i.real = true) (hd : H b ≠ .dead)
 (hold : κ.w.heap[i.blk]? = some (.cells arr T (0, 0))) (hnew : w'.heap[i.blk]? = some (.cells arr' T (0, 0)))
 (hsize : w'.heap.size = κ.w.heap.size) (hoth : ∀ k, k ≠ i.blk → w'.heap[k]? = κ.w.heap[k]?)
 (ho : w'.os = κ.w.os) (ht : w'.tape = κ.w.tape) (hu : w'.output = κ.w.output)
 (him : ∀ o, κ.Im i.blk o → arr'[o]? = arr[o]?)
 (hB : κ.le { κ with w := w' } → BoxRel fid { κ with w := w' } b B) :
 κ.le { κ with w := w' } ∧ Inv fid G E { κ with w := w' } (upd H b B) FN FZ := by
 have hle : κ.le { κ with w := w' } := ⟨Nat.le_of_eq hsize.symm, fun _ _ h => h, fun k o h => by
  by_cases e : k = i.blk
  · subst e; rw [cell_of hnew, cell_of hold]; exact him o h
  · exact cell_heap (hoth k e) o, fun _ _ h => h, fun _ _ h => h⟩
 have f : ∀ m, upd H b B m ≠ .dead → H m ≠ .dead := by
  intro m hm
  by_cases e : m = b
  · subst e; exact hd
  · simpa only [upd, if_neg e] using hm
 refine ⟨hle, I.le.trans hle, ho.trans I.os, ht.trans I.tape, hu.trans I.output, ?_, I.im, ?_, ?_, I.zinj, I.znew, I.zfree, I.nfree, fun n i hn => I.blk n i (f n hn), ?_, ?_, I.glob.mono hle⟩
 · intro k hk hp
   have : k ≠ i.blk := by
    intro e; subst e
    rcases I.blk b i hd hb hr with h | h
    · omega
    · exact hp h
   exact (hoth k this).trans (I.same k hk hp)
 · intro k o h; show k < w'.heap.size; rw [hsize]; exact I.imlt k o h
 · intro t k h
   by_cases e : k = i.blk
   · subst e; exact ⟨arr', T, hnew⟩
   · exact (I.zlt t k h).of (hoth k e)
 · intro n
   by_cases e : n = b
   · subst e; simp only [upd, if_pos]; exact hB hle
   · simp only [upd, if_neg e]
     exact (I.box n).keep hle (fun j hdn hj hrj => ⟨hoth _ (I.dist n b j i e hdn hd hj hb hrj hr), fun _ h => h, fun _ h => h⟩)
 · intro n n' j j' hne hdn hdn' hj hj' hrj hrj'
   exact I.dist n n' j j' hne (f n hdn) (f n' hdn') hj hj' hrj hrj'
theorem Inv.freeze (I : Inv fid G E κ H FN FZ) {b : Nat} {i : Inf} {st : Option Nat} {sz : Nat} {rows : List (List D)} {ro : Nat} (t n : Nat)
 (hH : H b = .row st sz rows ro) (hb : κ.β b = some i)
 (ht : (st = some t) ∨ (st = none ∧ (t = 0 ∨ FZ t))) (hn : n ≤ rows.length) :
 ∃ κ' : Ctx, κ'.w = κ.w ∧ κ'.β = κ.β ∧ κ.le κ' ∧ (∀ o, i.real = true → i.δ ≤ o → o < i.δ + n * sz → κ'.Im i.blk o) ∧ (t ≠ 0 → i.real = true → κ'.ζ t = some i.blk) ∧
  Inv fid G E κ' (upd H b (.row (some t) sz rows (max ro n))) FN (fun z => FZ z ∧ (z ≠ t ∨ st ≠ none)) := by
 have hbox := I.box b; rw [hH] at hbox; obtain ⟨i', hb', hsz, hlen, hq⟩ := hbox; rw [hb] at hb'; cases hb'
 have f : ∀ x, upd H b (.row (some t) sz rows (max ro n)) x ≠ .dead → H x ≠ .dead := by
  intro x hx
  by_cases e : x = b
  · subst e; rw [hH]; simp
  · simpa only [upd, if_neg e] using hx
 have hlive : H b ≠ .dead := by rw [hH]; simp
 rcases hq with ⟨hr, hrows⟩ | ⟨arr, T, q⟩
 · -- no block: nothing is laid down
   refine ⟨κ, rfl, rfl, Ctx.le.refl κ, (fun o h => by rw [hr] at h; cases h), (fun _ h => by rw [hr] at h; cases h), I.le, I.os, I.tape, I.output, I.same, I.im, I.imlt, I.zlt, I.zinj, I.znew, fun z h => I.zfree z h.1, I.nfree, fun n i hn => I.blk n i (f n hn), ?_, ?_, I.glob⟩
   · intro m
     by_cases e : m = b
     · subst e; simp only [upd, if_pos]; exact ⟨i, hb, hsz, hlen, .inl ⟨hr, hrows⟩⟩
     · simp only [upd, if_neg e]; exact I.box m
   · intro m m' j j' hne hdm hdm'
     exact I.dist m m' j j' hne (f m hdm) (f m' hdm')
 · let add : Prop := st = none ∧ t ≠ 0
   let κ' : Ctx := { w := κ.w, Im := fun k o => κ.Im k o ∨ (k = i.blk ∧ i.δ ≤ o ∧ o < i.δ + n * sz), ζ := fun z => open Classical in if add ∧ z = t then some i.blk else κ.ζ z, β := κ.β }
   have hzt : add → κ.ζ t = none := fun h => by
    rcases ht with h' | ⟨_, h' | h'⟩
    · rw [h.1] at h'; cases h'
    · exact absurd h' h.2
    · exact (I.zfree t h').1
   have hnz : add → ∀ z, κ.ζ z ≠ some i.blk := fun h z => by have := q.st; rw [h.1] at this; exact this z
   have hz1 : ∀ z k, κ.ζ z = some k → κ'.ζ z = some k := fun z k hk => by
    show (if add ∧ z = t then some i.blk else κ.ζ z) = some k
    rw [if_neg]; exact hk
    rintro ⟨ha, rfl⟩; rw [hzt ha] at hk; cases hk
   have hz2 : ∀ z k, κ'.ζ z = some k → κ.ζ z = some k ∨ (add ∧ z = t ∧ k = i.blk) := fun z k hk => by
    have hk' : (if add ∧ z = t then some i.blk else κ.ζ z) = some k := hk
    by_cases e : add ∧ z = t
    · rw [if_pos e] at hk'; cases hk'; exact .inr ⟨e.1, e.2, rfl⟩
    · rw [if_neg e] at hk'; exact .inl hk'
   have hle : κ.le κ' := ⟨Nat.le_refl _, fun _ _ h => .inl h, fun _ _ _ => rfl, hz1, fun _ _ h => h⟩; have htz : t ≠ 0 → κ'.ζ t = some i.blk := fun h0 => by
    rcases ht with h' | ⟨h', _⟩
    · have := q.st; rw [h'] at this; exact hz1 _ _ (this h0)
    · show (if add ∧ t = t then some i.blk else κ.ζ t) = some i.blk
      rw [if_pos ⟨⟨h', h0⟩, rfl⟩]
   refine ⟨κ', rfl, rfl, hle, fun o _ h1 h2 => .inr ⟨rfl, h1, h2⟩, fun h0 _ => htz h0, I.le.trans hle, I.os, I.tape, I.output, I.same, ?_, ?_, ?_, ?_, ?_, ?_, I.nfree, fun n i hn => I.blk n i (f n hn), ?_, ?_, I.glob.mono hle⟩
   · rintro k o (h | ⟨rfl, _⟩)
     · exact I.im k o h
     · exact .inr (I.blk b i hlive hb q.real)
   · rintro k o (h | ⟨rfl, _⟩)
     · exact I.imlt k o h
     · exact lt_of_heap q.heap
   · intro z k hk
     rcases hz2 z k hk with h | ⟨_, _, rfl⟩
     · exact I.zlt z k h
     · exact ⟨arr, T, q.heap⟩
   · intro z z' k hk hk'
     rcases hz2 z k hk with h | ⟨ha, e, hkk⟩ <;> rcases hz2 z' k hk' with h' | ⟨ha', e', hk''⟩
     · exact I.zinj z z' k h h'
     · subst hk''; exact absurd h (hnz ha' z)
     · subst hkk; exact absurd h' (hnz ha z')
     · rw [e, e']
   · intro z k hk
     rcases hz2 z k hk with h | ⟨ha, e, rfl⟩
     · exact I.znew z k h
     · right
       have hZ : FZ t := by
        rcases ht with h' | ⟨_, h' | h'⟩
        · rw [ha.1] at h'; cases h'
        · exact absurd h' ha.2
        · exact h'
       rw [e]; exact ⟨(I.zfree t hZ).2.2, I.blk b i hlive hb q.real⟩
   · rintro z ⟨hz, hz'⟩
     refine ⟨?_, (I.zfree z hz).2⟩
     show (if add ∧ z = t then some i.blk else κ.ζ z) = none
     rw [if_neg]; exact (I.zfree z hz).1
     rintro ⟨ha, e⟩; rcases hz' with h | h
     · exact h e
     · exact h ha.1
   · intro m
     by_cases e : m = b
     · subst e; simp only [upd, if_pos]
       refine ⟨i, hb, hsz, hlen, .inr ⟨arr, T, q.real, q.heap, q.size, q.fits, q.rows.mono hle, ?_, ?_⟩⟩
       · rw [hsz]
         have h2 : n * sz ≤ max ro n * sz := Nat.mul_le_mul_right _ (Nat.le_max_right _ _); have h3 : ro * sz ≤ max ro n * sz := Nat.mul_le_mul_right _ (Nat.le_max_left _ _); rintro o (h | ⟨_, _, h⟩)
         · have h1 := q.im o h; rw [hsz] at h1; omega
         · omega
       · exact htz
     · simp only [upd, if_neg e]
       refine (I.box m).keep hle (fun j hdm hj hrj => ?_)
       have hne : j.blk ≠ i.blk := I.dist m b j i e hdm (by rw [hH]; simp) hj hb hrj q.real; refine ⟨rfl, ?_, ?_⟩
       · rintro o (h | ⟨h, _⟩)
         · exact h
         · exact absurd h hne
       · intro z hz
         rcases hz2 z _ hz with h | ⟨_, _, h⟩
         · exact h
         · exact absurd h hne
   · intro m m' j j' hne hdm hdm'
     exact I.dist m m' j j' hne (f m hdm) (f m' hdm')
end
end Go.VM

/- The value machine: how the translated operations become the machine's, and that each pure one computes the same. Conditions: none. -/
namespace Go.VM
set_option linter.unusedVariables false
section strip
variable (P : Program) (cid : FuncId → Nat)
def sz? (t : TypeId) : Option Nat := (P.info? t).map (·.size)
def agg? (t : TypeId) : Option Bool :=
 match P.underlying t with
 | some (.struct _) => some true
 | some (.array _ _) => some true
 | some _ => some false
 | none => none
def constW : Value → Option W
 | .slice none 0 0 => some .nil
 | .int k n => some (.d (.s (.int k n)))
 | .bool b => some (.d (.s (.bool b)))
 | .string s => some (.d (.s (.string s)))
 | .float k b => some (.d (.s (.float k b)))
 | .pointer none => some (.d (.s (.pointer none)))
 | .nilFunc => some (.d (.s .nilFunc))
 | .nilIface => some (.d (.s .nilIface))
 | _ => none
def constL : List Value → Option (List W)
 | [] => some []
 | v :: r => match constW v, constL r with | some x, some l => some (x :: l) | _, _ => none
def constV : Value → Option V
 | .agg cs => (constL cs.toList).map .agg
 | v => (constW v).map .w
def stripX : Operand → Option X
 | .tmp t => some (.t t)
 | .const v => (constV v).map .k
 | .global g => some (.g g)
 | .func f => some (.k (.w (.fn (cid f) [])))
def stripXs : List Operand → Option (List X)
 | [] => some []
 | x :: r => match stripX cid x, stripXs r with | some y, some l => some (y :: l) | _, _ => none
def stripXo : Option Operand → Option (Option X)
 | none => some none
 | some x => (stripX cid x).map some
def zeroW (t : TypeId) : Option (List W) := match P.info? t with
 | some i => match i.zero with
  | some z => match constL z.cells.toList with
   | some l => if l.length = i.size then some l else none
   | none => none
  | none => none
 | none => none
def zeroD (t : TypeId) : Option (List D) := (zeroW P t).bind datas?
def fieldParts (fs : Array Field) : List (Nat × Operand) → Option (List (Nat × Nat × X))
 | [] => some []
 | (i, x) :: r => match fs[i]? with
  | some f => match sz? P f.type, stripX cid x, fieldParts fs r with
   | some n, some y, some l => some ((f.offset, n, y) :: l)
   | _, _, _ => none
  | none => none
def elemParts (n : Nat) : List (Nat × Operand) → Option (List (Nat × Nat × X))
 | [] => some []
 | (i, x) :: r => match stripX cid x, elemParts n r with
  | some y, some l => some ((i * n, n, y) :: l)
  | _, _ => none
def rowParts? : List (Nat × Operand) → Option (List (Nat × X))
 | [] => some []
 | (i, x) :: r => match stripX cid x, rowParts? r with
  | some y, some l => some ((i, y) :: l)
  | _, _ => none
def kindT (t : TypeId) : Option Nat := match P.underlying t with
 | some .bool => some 0
 | some (.int _) => some 1
 | some .string => some 2
 | _ => none
def flat : Nat → List Field → Option (List Nat)
 | _, [] => some []
 | n, f :: r => match kindT P f.type, flat (n + 1) r with
  | some k, some l => if f.offset = n ∧ f.name ≠ "_" then some (k :: l) else none
  | _, _ => none
def cls? (t : TypeId) : Option Cls := match P.underlying t with
 | some .bool => some .b
 | some (.int _) => some .one
 | some .string => some .one
 | some (.pointer _) => some .p
 | some (.slice _) => some .sl
 | some (.struct fs) => match flat P 0 fs.toList with
  | some ks => if P.stoodInHeld t = false ∧ P.eqGuardType P.depth t = false then some (.agg ks) else none
  | none => none
 | _ => none
def stripCall (c : Call) : Option O :=
 match c.callee with
 | .value f => match stripX cid f, stripXs cid c.args.toList with
  | some f, some l => some (.call f l)
  | _, _ => none
 | .builtin .len => match c.argTypes.toList, c.args.toList with
  | [t], [x] => match P.underlying t, stripX cid x with
   | some .string, some x => some (.lens x)
   | some (.slice _), some x => some (.lenl x)
   | _, _ => none
  | _, _ => none
 | .builtin .append => match c.argTypes.toList, c.args.toList with
  | [t, u], [x, y] => match P.underlying t, P.underlying u, stripX cid x, stripX cid y with
   | some (.slice e), some (.slice _), some x, some y => match P.info? e, zeroD P e with
    | some i, some z => if 0 < i.size then some (.app i.size i.bytes z x y) else none
    | _, _ => none
   | _, _, _, _ => none
  | _, _ => none
 | .builtin .max => (stripXs cid c.args.toList).map (.mmx true)
 | .builtin .min => (stripXs cid c.args.toList).map (.mmx false)
 | _ => none
def stripO (o : Op) : Option O :=
 match o with
 | .move x => (stripX cid x).map .mv
 | .assign x => (stripX cid x).map .mv
 | .pick c a b => match stripX cid c, stripX cid a, stripX cid b with
  | some c, some a, some b => some (.pick c a b)
  | _, _, _ => none
 | .alloc t => (zeroW P t).map .new
 | .box t x => match sz? P t, stripX cid x with
  | some n, some x => some (.box n x)
  | _, _ => none
 | .build t parts => match P.underlying t, zeroW P t with
  | some (.struct fs), some z => if fs.toList.all (fun f => (sz? P f.type).isSome) then (fieldParts P cid fs parts.toList).map (.bld z) else none
  | some (.array _ e), some z => (sz? P e).bind fun n => (elemParts cid n parts.toList).map (.bld z)
  | _, _ => none
 | .buildSlice t len parts => match P.underlying t with
  | some (.slice e) => match sz? P e, zeroD P e, rowParts? cid parts.toList with
   | some n, some z, some l => if 0 < n ∧ len * n ≤ 2 ^ 24 then some (.bsl n len z l) else none
   | _, _, _ => none
  | _ => none
 | .load t x => match agg? P t, sz? P t, stripX cid x with
  | some a, some n, some x => if a || n == 1 then some (.ld a n x) else none
  | _, _, _ => none
 | .store t x y => match sz? P t, stripX cid x, stripX cid y with
  | some n, some x, some y => some (.st n x y)
  | _, _, _ => none
 | .nilCheck x => (stripX cid x).map .nc
 | .binOp op t x y _ => match cls? P t, stripX cid x, stripX cid y with
  | some c, some x, some y => some (.bin op c x y)
  | _, _, _ => none
 | .unOp op _ x => (stripX cid x).map (.un op)
 | .convert src dst x => match P.underlying src, P.underlying dst, stripX cid x with
  | some (.int _), some (.int k), some x => some (.cvi k x)
  | some (.slice e), some .string, some x => match P.underlying e with
   | some (.int .u8) => some (.cbs x)
   | _ => none
  | _, _, _ => none
 | .makeFunc (.func f) first caps => if first.size = 0 then (stripXs cid caps.toList).map (.mkf (cid f)) else none
 | .makeSlice t l c => match P.underlying t with
  | some (.slice e) => match P.info? e, zeroD P e, stripX cid l, stripX cid c with
   | some i, some z, some l, some c => if 0 < i.size then some (.msl i.size i.bytes z l c) else none
   | _, _, _, _ => none
  | _ => none
 | .slice t x lo hi mx => match P.underlying t, stripX cid x, stripXo cid lo, stripXo cid hi, stripXo cid mx with
  | some .string, some x, some lo, some hi, some none => some (.sls x lo hi)
  | some (.slice e), some x, some lo, some hi, some mx => (sz? P e).map fun n => .sl n x lo hi mx
  | _, _, _, _, _ => none
 | .fieldAddr t x f => match P.underlying t, stripX cid x with
  | some (.struct fs), some x => match fs[f]? with
   | some f => match sz? P f.type with
    | some n => if n = 0 then none else some (.fa f.offset x)
    | none => none
   | none => none
  | _, _ => none
 | .field t x f => match P.underlying t, stripX cid x with
  | some (.struct fs), some x => match fs[f]? with
   | some f => match agg? P f.type, sz? P f.type with
    | some a, some n => if a || n == 1 then some (.fld a f.offset n x) else none
    | _, _ => none
   | none => none
  | _, _ => none
 | .indexAddr t x i => match P.underlying t, stripX cid x, stripX cid i with
  | some (.array n e), some x, some i => (sz? P e).map fun k => .iaa n k x i
  | some (.slice e), some x, some i => (sz? P e).map fun k => .ia k x i
  | _, _, _ => none
 | .index t x i => match P.underlying t, stripX cid x, stripX cid i with
  | some (.array n e), some x, some i => match agg? P e, sz? P e with
   | some a, some k => if a || k == 1 then some (.ixa a n k x i) else none
   | _, _ => none
  | some .string, some x, some i => some (.ixs x i)
  | _, _, _ => none
 | .extract x i => (stripX cid x).map (.ext i)
 | .call c => stripCall P cid c
 | _ => none
end strip
section runs
variable {P : Program} {w : World}
theorem run_sz {t : TypeId} {n : Nat} (h : sz? P t = some n) : (sizeOf t).run P w = .ok n w := by
 unfold sz? at h; cases hi : P.info? t with
 | none => simp [hi] at h
 | some i => simp [hi] at h; subst h; simp [sizeOf, typeInfo, hi]
theorem run_agg {t : TypeId} {b : Bool} (h : agg? P t = some b) : (isAgg t).run P w = .ok b w := by
 unfold agg? at h; cases hu : P.underlying t with
 | none => simp [hu] at h
 | some d =>
  rw [hu] at h; unfold isAgg; simp only [Sem.run_bind, run_underlying hu, Result.andThen_ok]; cases d <;> simp_all
theorem Addr.add_none (b o n : Nat) : (⟨b, o, none⟩ : Addr).add n = ⟨b, o + n, none⟩ := by
 unfold Addr.add; split <;> simp_all
theorem run_loadAt_cells {t : TypeId} {a : Bool} {n : Nat} (ha : agg? P t = some a) (hn : sz? P t = some n) (h1 : (a || n == 1) = true) {b o : Nat} (cs : List Value) (hl : cs.length = n)
 (hc : ∀ (j : Nat) (v : Value), cs[j]? = some v → w.cell? ⟨b, o + j, none⟩ = some v) :
 ∃ v, (Instr.loadAt t (.pointer (some ⟨b, o, none⟩))).run P w = .ok v w ∧ (a = true → v = .agg cs.toArray) ∧ (a = false → cs = [v]) := by
 cases a with
 | true =>
  refine ⟨.agg cs.toArray, ?_, fun _ => rfl, by simp⟩
  have hload := run_loadCells_list (P := P) w ⟨b, o, none⟩ cs (fun j v hj => by rw [Addr.add_none]; exact hc j v hj); rw [hl] at hload; simp only [Instr.loadAt, Instr.sureAddr, loadVar, Sem.run_bind, Sem.run_pure, Result.andThen_ok, run_agg ha, run_sz hn, hload, if_true]
 | false =>
  simp at h1; obtain ⟨v, rfl⟩ : ∃ v, cs = [v] := List.length_eq_one_iff.1 (by omega); refine ⟨v, ?_, by simp, fun _ => rfl⟩
  have := hc 0 v rfl; simp [Instr.loadAt, Instr.sureAddr, loadVar, run_agg ha, this] at this ⊢
theorem run_storeAt_cells {t : TypeId} {n : Nat} (hn : sz? P t = some n) {b o : Nat} {T : TypeId} (arr : Array Value) (v : Value) (hl : v.cells.size = n)
 (hb : w.heap[b]? = some (.cells arr T (0, 0))) (hfit : o + n ≤ arr.size) (h1 : ∀ x ∈ v.cells.toList, x.oneCell' = true) :
 (Instr.storeAt t (.pointer (some ⟨b, o, none⟩)) v).run P w = .ok () (w.setRow b (splice arr.toList o v.cells.toList).toArray) := by
 have hst := run_storeCells_at P b o T v.cells.toList 0 arr w hb (by simp; omega) h1; simp only [Nat.add_zero] at hst; simp only [Instr.storeAt, Instr.sureAddr, storeVar, Sem.run_bind, Sem.run_pure, Result.andThen_ok, run_sz hn, hl, ne_eq, not_true_eq_false, if_false, hst]
 rfl
theorem run_alloc {t : TypeId} {i : TypeInfo} {z : Value} (hi : P.info? t = some i) (hz : i.zero = some z) :
 (Instr.alloc t true (.tuple #[])).run P w = .ok (.pointer (some ⟨w.heap.size, 0, none⟩)) (w.alloc (.cells z.cells t)) := by
 simp [Instr.alloc, zeroValue, typeInfo, hi, hz, newVar, newRow]
theorem run_box (t : TypeId) (v : Value) : (Instr.box t v).run P w = .ok (.pointer (some ⟨w.heap.size, 0, none⟩)) (w.alloc (.cells v.cells t)) := by
 simp [Instr.box, newVar, newRow]
end runs
end Go.VM

/- The value machine: each pure operation computes what the machine's does. Conditions: none. -/
namespace Go.VM
set_option linter.unusedVariables false
set_option linter.unusedSimpArgs false
section
variable {P : Program} {fid : Nat → FuncId} {cid : FuncId → Nat} {κ : Ctx}
theorem Act_put (a : Act) (d : Option Nat) (v : Value) : a.put d v = a.put d v := rfl
theorem wrel_s {v : Value} {x : V} {u : Value} (h : VRel fid κ v x) (hx : x.s? = some u) : v = u := by
 cases x with
 | w x =>
  cases x with
  | d x =>
   cases x with
   | s y => simp [V.s?] at hx; subst hx; cases h with | s _ _ => rfl
   | l st rows => simp [V.s?] at hx
  | _ => simp [V.s?] at hx
 | _ => simp [V.s?] at hx
theorem sV_rel {v : Value} (h : v.oneCell' = true) : VRel fid κ v (sV v) := .s v h
theorem int?_rel {v : Value} {x : V} {k : IntKind} {n : Int} (h : VRel fid κ v x) (hx : x.int? = some (k, n)) : v = .int k n := by
 cases x with
 | w x =>
  cases x with
  | d x =>
   cases x with
   | s y =>
    cases y <;> simp [V.int?, W.int?] at hx
    obtain ⟨rfl, rfl⟩ := hx; cases h with | s _ _ => rfl
   | l st rows => simp [V.int?, W.int?] at hx
  | _ => simp [V.int?, W.int?] at hx
 | _ => simp [V.int?] at hx
theorem bool?_rel {v : Value} {x : V} {b : Bool} (h : VRel fid κ v x) (hx : x.bool? = some b) : v = .bool b := by
 cases x with
 | w x =>
  cases x with
  | d x =>
   cases x with
   | s y =>
    cases y <;> simp [V.bool?, W.bool?] at hx
    subst hx; cases h with | s _ _ => rfl
   | l st rows => simp [V.bool?, W.bool?] at hx
  | _ => simp [V.bool?, W.bool?] at hx
 | _ => simp [V.bool?] at hx
theorem constW_rel {v : Value} {x : W} (h : constW v = some x) : WRel fid κ v x := by
 unfold constW at h; split at h <;> first | (cases h; rfl) | (cases h; exact .s _ rfl) | cases h
theorem constL_rel : ∀ {l : List Value} {cs : List W}, constL l = some cs → l.length = cs.length ∧ ∀ (i : Nat) (c : W), cs[i]? = some c → ∃ x : Value, l[i]? = some x ∧ WRel fid κ x c
 | [], cs, h => by simp [constL] at h; subst h; simp
 | v :: r, cs, h => by
  simp only [constL] at h; split at h
  · rename_i x l hx hl
    cases h
    obtain ⟨h1, h2⟩ := constL_rel hl; refine ⟨by simp [h1], fun i c hi => ?_⟩
    match i with
    | 0 => simp at hi; subst hi; exact ⟨v, rfl, constW_rel hx⟩
    | i + 1 => simpa using h2 i c (by simpa using hi)
  · cases h
theorem constV_rel {v : Value} {x : V} (h : constV v = some x) : VRel fid κ v x := by
 unfold constV at h; split at h
 · rename_i cs
   cases hl : constL cs.toList with
   | none => simp [hl] at h
   | some l =>
    simp [hl] at h; subst h
    obtain ⟨h1, h2⟩ := constL_rel (κ := κ) (fid := fid) hl; exact ⟨cs, rfl, by simpa using h1, fun i c hi => by simpa using h2 i c hi⟩
 · cases hw : constW v with
   | none => simp [hw] at h
   | some y => simp [hw] at h; subst h; exact constW_rel hw
theorem eqIn_bool {t : TypeId} (hu : P.underlying t = some .bool) (d : Nat) (a b : Bool) (w : World) :
 (Op.equalIn (d + 1) t (.bool a) (.bool b)).run P w = .ok (a == b) w := by
 simp only [Op.equalIn, Sem.run_bind, run_underlying hu, Result.andThen_ok, Sem.run_pure]
theorem binS_run {op : BinOp} {t : TypeId} {a b v : Value} {w : World} (h : binS op a b = some v)
 (ht : (∃ x y, a = .bool x ∧ b = .bool y) → P.underlying t = some .bool) : (binOp op t a b).run P w = .ok v w ∧ v.oneCell' = true := by
 unfold binS at h; split at h
 · rename_i k x k' y
   split at h
   · split at h
     · rename_i hy
       cases h
       refine ⟨?_, rfl⟩
       simp [binOp, Op.shift, show ¬ y < 0 by omega]
     · cases h
   · split at h
     · rename_i hy
       cases h
       refine ⟨?_, rfl⟩
       simp [binOp, Op.shift, show ¬ y < 0 by omega]
     · cases h
   · split at h
     · rename_i hk
       subst hk; split at h <;> first
        | (cases h; exact ⟨by simp [binOp, Op.intArith, Op.intBits, Op.intCmp], rfl⟩)
        | (split at h
           · cases h
           · rename_i hb; cases h; exact ⟨by simp [binOp, Op.intDiv, hb], rfl⟩)
        | cases h
     · cases h
 · rename_i x y
   have hu := ht ⟨x, y, rfl, rfl⟩; have he : (Op.equal t (.bool x) (.bool y)).run P w = .ok (x == y) w := eqIn_bool hu 9999 x y w; split at h
   · cases h; exact ⟨by simp only [binOp, Sem.run_bind, he, Result.andThen_ok, Sem.run_pure], rfl⟩
   · cases h; exact ⟨by simp only [binOp, Sem.run_bind, he, Result.andThen_ok, Sem.run_pure], rfl⟩
   · cases h
 · rename_i x y
   split at h
   · split at h
     · rename_i hl
       cases h
       have : ¬ (((x.size + y.size : Nat) : Int) > IntKind.i64.max) := by
        have : IntKind.i64.max = 9223372036854775807 := by decide
        omega
       exact ⟨by simp only [binOp, Op.stringOp, this, if_false]; rfl, rfl⟩
     · cases h
   · cases h; exact ⟨by simp [binOp, Op.stringOp], rfl⟩
   · cases h; exact ⟨by simp [binOp, Op.stringOp], rfl⟩
   · cases h
 · cases h
end
end Go.VM

/- The value machine: each operation keeps the frame. Conditions: none. -/
namespace Go.VM
set_option linter.unusedVariables false
set_option linter.unusedSimpArgs false
set_option linter.unusedSectionVars false
section
variable {P : Program} {fid : Nat → FuncId} {cid : FuncId → Nat} {G : Nat → Option (List D)} {E : Entry} {κ : Ctx} {H : Nat → Box} {FN FZ : Nat → Prop} {g : Nat} {s : Sup}
variable {ρ : Operand → Value} {ev : X → V} {o : Oper}
def FN' (FN : Nat → Prop) (g : Nat) : Nat → Prop := fun n => FN n ∧ ¬ (g ≤ n ∧ n < g + 64)
def FZ' (FZ : Nat → Prop) (s : Sup) : Nat → Prop := fun z => FZ z ∧ ∀ k, z ≠ s k
theorem Inv.weak {FN₁ FZ₁ : Nat → Prop} (I : Inv fid G E κ H FN FZ) (h1 : ∀ n, FN₁ n → FN n) (h2 : ∀ n, FZ₁ n → FZ n) : Inv fid G E κ H FN₁ FZ₁ :=
 { I with zfree := fun t h => I.zfree t (h2 t h), nfree := fun b h => I.nfree b (h1 b h) }
def Good (P : Program) (fid : Nat → FuncId) (G : Nat → Option (List D)) (E : Entry) (κ : Ctx) (FN FZ : Nat → Prop) (g : Nat) (s : Sup) (ρ : Operand → Value) (o : Oper) (e : Eff) : Prop :=
 ∃ n v κ', (execOp ρ o).run P κ.w = .ok n κ'.w ∧ (n = .value v ∨ (n = .skip ∧ v = undef)) ∧ κ.le κ' ∧ VRel fid κ' v e.v ∧ Inv fid G E κ' e.H (FN' FN g) (FZ' FZ s)
theorem good_pure (I : Inv fid G E κ H FN FZ) {v : Value} {x : V} {t : List Nat} {b : Bool} (hr : (execOp ρ o).run P κ.w = .ok (.value v) κ.w) (hv : VRel fid κ v x) :
 Good P fid G E κ FN FZ g s ρ o ⟨x, H, t, b⟩ :=
 ⟨_, v, κ, hr, .inl rfl, Ctx.le.refl κ, hv, I.weak (fun n h => h.1) (fun n h => h.1)⟩
theorem ret0_some {v : Option V} {e : Eff} (h : ret0 H v = some e) : ∃ x, v = some x ∧ e = ⟨x, H, [], false⟩ := by
 unfold ret0 at h; cases v with
 | none => cases h
 | some x => cases h; exact ⟨x, rfl, rfl⟩
theorem slice_len {y : Value} {x : W} {n : Nat} (h : WRel fid κ y x)
 (hx : (∃ b off cap, x = .own b off n cap) ∨ (∃ st rows, x = .d (.l st rows) ∧ n = rows.length) ∨ (∃ st rows, x = .ln st rows ∧ n = rows.length) ∨ (x = .nil ∧ n = 0)) :
 ∃ a cap, y = .slice a n cap := by
 rcases hx with ⟨b, off, cap, rfl⟩ | ⟨st, rows, rfl, rfl⟩ | ⟨st, rows, rfl, rfl⟩ | ⟨rfl, rfl⟩
 · obtain ⟨i, cap', _, _, _, ⟨rfl, rfl, rfl⟩ | ⟨_, o', rfl, _⟩⟩ := h <;> exact ⟨_, _, rfl⟩
 · cases h <;> exact ⟨_, _, rfl⟩
 · obtain ⟨h, _⟩ := h; cases h <;> exact ⟨_, _, rfl⟩
 · cases h; exact ⟨_, _, rfl⟩
section ops
variable (I : Inv fid G E κ H FN FZ) (hev : ∀ x X, stripX cid x = some X → VRel fid κ (ρ x) (ev X))
include I hev
theorem good_mv {x : Operand} {X : X} {e : Eff} (ho : o.op = .move x ∨ o.op = .assign x) (hx : stripX cid x = some X) (h : ret0 H (some (ev X)) = some e) :
 Good P fid G E κ FN FZ g s ρ o e := by
 obtain ⟨v, hv, rfl⟩ := ret0_some h; cases hv
 refine good_pure I ?_ (hev x X hx)
 rcases ho with ho | ho <;> simp [execOp, ho]
theorem good_pick {c a b : Operand} {C A B : X} {e : Eff} (ho : o.op = .pick c a b) (hc : stripX cid c = some C) (ha : stripX cid a = some A) (hb : stripX cid b = some B)
 (h : ret0 H ((ev C).bool?.map fun t => if t then ev A else ev B) = some e) : Good P fid G E κ FN FZ g s ρ o e := by
 obtain ⟨v, hv, rfl⟩ := ret0_some h; cases ht : (ev C).bool? with
 | none => simp [ht] at hv
 | some t =>
  simp [ht] at hv; have hC := bool?_rel (hev c C hc) ht; have h1 := hev a A ha; have h2 := hev b B hb; cases t
  · simp at hv; subst hv
    exact good_pure I (by simp [execOp, ho, hC, asBool]) h2
  · simp at hv; subst hv
    exact good_pure I (by simp [execOp, ho, hC, asBool]) h1
theorem good_nc {x : Operand} {X : X} {e : Eff} {v : V} (ho : o.op = .nilCheck x) (hx : stripX cid x = some X) (he : e = ⟨ev X, H, [], false⟩)
 (hp : (∃ b off, ev X = .w (.ptr b off)) ∨ (∃ b i off, ev X = .w (.rp b i off)) ∨ (∃ r off, ev X = .w (.lp r off)) ∨ (∃ k off, ev X = .w (.gp k off)) ∨ (∃ f cs, ev X = .w (.fn f cs))) :
 Good P fid G E κ FN FZ g s ρ o e := by
 subst he; have hr := hev x X hx; refine good_pure I (v := ρ x) ?_ hr
 rcases hp with ⟨b, off, h⟩ | ⟨b, i, off, h⟩ | ⟨r, off, h⟩ | ⟨k, off, h⟩ | ⟨f, cs, h⟩ <;> rw [h] at hr
 · obtain ⟨i, _, _, hv⟩ := hr; simp [execOp, ho, hv]
 · obtain ⟨i, _, hv⟩ := hr; simp [execOp, ho, hv]
 · obtain ⟨blk, o', f, _, hv, _⟩ := hr; simp [execOp, ho, hv]
 · have hv : ρ x = .pointer (some ⟨k, off, none⟩) := hr; simp [execOp, ho, hv]
 · obtain ⟨arr, hv, _⟩ := hr; simp [execOp, ho, hv]
theorem good_un {op : UnOp} {t : TypeId} {x : Operand} {X : X} {e : Eff} (ho : o.op = .unOp op t x) (hx : stripX cid x = some X) (h : ret0 H (unV op (ev X)) = some e) :
 Good P fid G E κ FN FZ g s ρ o e := by
 obtain ⟨v, hv, rfl⟩ := ret0_some h; unfold unV at hv; split at hv
 · rename_i k n hs
   cases hv
   exact good_pure I (v := .int k (k.wrap (0 - n))) (by simp [execOp, ho, wrel_s (hev x X hx) hs, Op.unary, Op.intArith]) (sV_rel rfl)
 · rename_i b hs
   cases hv
   exact good_pure I (v := .bool !b) (by simp [execOp, ho, wrel_s (hev x X hx) hs, Op.unary]) (sV_rel rfl)
 · cases hv
theorem good_cvi {src dst : TypeId} {k0 k : IntKind} {x : Operand} {X : X} {e : Eff} (ho : o.op = .convert src dst x) (hs : P.underlying src = some (.int k0)) (hd : P.underlying dst = some (.int k))
 (hx : stripX cid x = some X) (h : ret0 H ((ev X).int?.map fun p => sV (.int k (k.wrap p.2))) = some e) : Good P fid G E κ FN FZ g s ρ o e := by
 obtain ⟨v, hv, rfl⟩ := ret0_some h; cases hi : (ev X).int? with
 | none => simp [hi] at hv
 | some p =>
  obtain ⟨k', n⟩ := p; simp [hi] at hv; subst hv
  exact good_pure I (v := .int k (k.wrap n)) (by simp [execOp, ho, int?_rel (hev x X hx) hi, convert, run_underlying hs, run_underlying hd, Conv.intToInt]) (sV_rel rfl)
theorem good_ext {x : Operand} {i : Nat} {X : X} {vs : List (Bool × List W)} {p : Bool × List W} {e : Eff} (ho : o.op = .extract x i) (hx : stripX cid x = some X) (hv : ev X = .tup vs) (hp : vs[i]? = some p)
 (h : ret0 H (mkV p.1 p.2) = some e) : Good P fid G E κ FN FZ g s ρ o e := by
 obtain ⟨v, hv', rfl⟩ := ret0_some h; have hr := hev x X hx; rw [hv] at hr; obtain ⟨arr, ha, hs, hr⟩ := hr; obtain ⟨y, hy, q⟩ := hr i p hp; refine good_pure I (v := y) (by simp [execOp, ho, ha, Instr.extract, hy]) ?_
 obtain ⟨b, cs⟩ := p; cases b with
 | true => simp [mkV] at hv'; subst hv'; exact q
 | false =>
  match cs, q, hv' with
  | [c], q, hv' => simp [mkV] at hv'; subst hv'; exact q
theorem good_lens {t : TypeId} {x : Operand} {X : X} {c : Call} {b : ByteArray} {e : Eff} (ho : o.op = .call c) (hc : c.callee = .builtin .len) (ht : c.argTypes.toList = [t]) (hx : c.args.toList = [x])
 (hu : P.underlying t = some .string) (hX : stripX cid x = some X) (hs : (ev X).s? = some (.string b)) (h : ret0 H (some (sV (.int .i64 b.size))) = some e) : Good P fid G E κ FN FZ g s ρ o e := by
 obtain ⟨v, hv, rfl⟩ := ret0_some h; cases hv
 have h1 : c.argTypes = #[t] := by rw [← Array.toArray_toList (xs := c.argTypes), ht]
 have h2 : c.args = #[x] := by rw [← Array.toArray_toList (xs := c.args), hx]
 exact good_pure I (v := .int .i64 b.size) (by simp [execOp, ho, resolve, hc, invoke, builtin, h1, h2, Builtin.len_, run_underlying hu, wrel_s (hev x X hX) hs, goInt]) (sV_rel rfl)
theorem good_lenl {t e0 : TypeId} {x : Operand} {X : X} {c : Call} {y : W} {n : Nat} {e : Eff} (ho : o.op = .call c) (hc : c.callee = .builtin .len) (ht : c.argTypes.toList = [t]) (hx : c.args.toList = [x])
 (hu : P.underlying t = some (.slice e0)) (hX : stripX cid x = some X) (hy : ev X = .w y)
 (hn : (∃ b off cap, y = .own b off n cap) ∨ (∃ st rows, y = .d (.l st rows) ∧ n = rows.length) ∨ (∃ st rows, y = .ln st rows ∧ n = rows.length) ∨ (y = .nil ∧ n = 0))
 (he : e = ⟨sV (.int .i64 n), H, [], false⟩) : Good P fid G E κ FN FZ g s ρ o e := by
 subst he; have h1 : c.argTypes = #[t] := by rw [← Array.toArray_toList (xs := c.argTypes), ht]
 have h2 : c.args = #[x] := by rw [← Array.toArray_toList (xs := c.args), hx]
 have hr := hev x X hX; rw [hy] at hr; obtain ⟨a, cap, hv⟩ := slice_len hr hn; exact good_pure I (v := .int .i64 n) (by simp [execOp, ho, resolve, hc, invoke, builtin, h1, h2, Builtin.len_, run_underlying hu, hv, goInt]) (sV_rel rfl)
theorem good_fa {t : TypeId} {x : Operand} {X : X} {fs : Array Field} {i n : Nat} {f : Field} {e : Eff} {v : V} (ho : o.op = .fieldAddr t x i) (hu : P.underlying t = some (.struct fs)) (hf : fs[i]? = some f)
 (hn : sz? P f.type = some n) (h0 : n ≠ 0) (hX : stripX cid x = some X) (he : e = ⟨v, H, [], false⟩)
 (hp : (∃ b off, ev X = .w (.ptr b off) ∧ v = .w (.ptr b (off + f.offset))) ∨ (∃ b i off, ev X = .w (.rp b i off) ∧ v = .w (.rp b i (off + f.offset))) ∨
  (∃ r off, ev X = .w (.lp r off) ∧ v = .w (.lp r (off + f.offset))) ∨ (∃ k off, ev X = .w (.gp k off) ∧ v = .w (.gp k (off + f.offset)))) :
 Good P fid G E κ FN FZ g s ρ o e := by
 subst he; have hr := hev x X hX; have run : ∀ b off, ρ x = .pointer (some ⟨b, off, none⟩) → (execOp ρ o).run P κ.w = .ok (.value (.pointer (some ⟨b, off + f.offset, none⟩))) κ.w := fun b off hv => by
  simp [execOp, ho, Instr.fieldAt, run_underlying hu, hf, hv, Instr.sureAddr, fieldPlace, run_sz hn, h0, Addr.add_none]
 rcases hp with ⟨b, off, h, rfl⟩ | ⟨b, j, off, h, rfl⟩ | ⟨r, off, h, rfl⟩ | ⟨k, off, h, rfl⟩ <;> rw [h] at hr
 · obtain ⟨i, hi, hd, hv⟩ := hr; exact good_pure I (run _ _ hv) ⟨i, hi, hd, rfl⟩
 · obtain ⟨i, hi, hv⟩ := hr; exact good_pure I (run _ _ hv) ⟨i, hi, by rw [Nat.add_assoc]⟩
 · obtain ⟨blk, o', q, hb, hv, hr⟩ := hr; exact good_pure I (run _ _ hv) ⟨blk, o', q, hb, by rw [Nat.add_assoc], hr⟩
 · exact good_pure I (run _ _ hr) rfl
theorem good_iaa {t e0 : TypeId} {x i : Operand} {J X : X} {len n : Nat} {k : IntKind} {j : Int} {e : Eff} {v : V} (ho : o.op = .indexAddr t x i) (hu : P.underlying t = some (.array len e0)) (hn : sz? P e0 = some n)
 (hX : stripX cid x = some X) (hJ : stripX cid i = some J) (hj : (ev J).int? = some (k, j)) (h0 : 0 ≤ j ∧ j < len) (he : e = ⟨v, H, [], false⟩)
 (hp : (∃ b off, ev X = .w (.ptr b off) ∧ v = .w (.ptr b (off + j.toNat * n))) ∨ (∃ b i off, ev X = .w (.rp b i off) ∧ v = .w (.rp b i (off + j.toNat * n))) ∨
  (∃ r off, ev X = .w (.lp r off) ∧ v = .w (.lp r (off + j.toNat * n))) ∨ (∃ k off, ev X = .w (.gp k off) ∧ v = .w (.gp k (off + j.toNat * n)))) :
 Good P fid G E κ FN FZ g s ρ o e := by
 subst he; have hr := hev x X hX; have hi := int?_rel (hev i J hJ) hj; have run : ∀ b off, ρ x = .pointer (some ⟨b, off, none⟩) → (execOp ρ o).run P κ.w = .ok (.value (.pointer (some ⟨b, off + j.toNat * n, none⟩))) κ.w := fun b off hv => by
  simp [execOp, ho, Instr.indexAt, asIntOf, run_underlying hu, hi, hv, Instr.sureAddr, h0, run_sz hn, Addr.add_none]
 rcases hp with ⟨b, off, h, rfl⟩ | ⟨b, j', off, h, rfl⟩ | ⟨r, off, h, rfl⟩ | ⟨k', off, h, rfl⟩ <;> rw [h] at hr
 · obtain ⟨i', hi', hd, hv⟩ := hr; exact good_pure I (run _ _ hv) ⟨i', hi', hd, rfl⟩
 · obtain ⟨i', hi', hv⟩ := hr; exact good_pure I (run _ _ hv) ⟨i', hi', by rw [Nat.add_assoc]⟩
 · obtain ⟨blk, o', q, hb, hv, hr⟩ := hr; exact good_pure I (run _ _ hv) ⟨blk, o', q, hb, by rw [Nat.add_assoc], hr⟩
 · exact good_pure I (run _ _ hr) rfl
theorem good_ixs {t : TypeId} {x i : Operand} {J X : X} {k : IntKind} {j : Int} {b : ByteArray} {c : UInt8} {e : Eff} (ho : o.op = .index t x i) (hu : P.underlying t = some .string)
 (hX : stripX cid x = some X) (hJ : stripX cid i = some J) (hs : (ev X).s? = some (.string b)) (hj : (ev J).int? = some (k, j)) (h0 : 0 ≤ j) (hc : b[j.toNat]? = some c)
 (h : ret0 H (some (sV (.int .u8 c.toNat))) = some e) : Good P fid G E κ FN FZ g s ρ o e := by
 obtain ⟨v, hv, rfl⟩ := ret0_some h; cases hv
 exact good_pure I (v := .int .u8 c.toNat) (by simp [execOp, ho, Instr.index, asIntOf, run_underlying hu, int?_rel (hev i J hJ) hj, wrel_s (hev x X hX) hs, h0, hc]) (sV_rel rfl)
end ops
end
end Go.VM

/- The value machine: freezing keeps the frame, and what is frozen reads as it did. Conditions: none. -/
namespace Go.VM
set_option linter.unusedVariables false
set_option linter.unusedSimpArgs false
set_option linter.unusedSectionVars false
section
variable {P : Program} {fid : Nat → FuncId} {cid : FuncId → Nat} {G : Nat → Option (List D)} {E : Entry} {κ : Ctx} {H : Nat → Box} {FN FZ : Nat → Prop} {g : Nat} {s : Sup}
theorem seg_get {α : Type} (rows : List α) (off len i : Nat) : ((rows.drop off).take len)[i]? = if i < len then rows[off + i]? else none := by
 rw [List.getElem?_take]; split <;> simp
theorem own_data {v : Value} {b off len : Nat} {cap : Option Nat} {st : Option Nat} {sz : Nat} {rows : List (List D)} {ro : Nat} {i : Inf} {t : Nat} {κ' : Ctx}
 (I : Inv fid G E κ H FN FZ) (hH : H b = .row st sz rows ro) (hv : WRel fid κ v (.own b off len cap)) (hb : κ.β b = some i) (hfit : off + len ≤ rows.length)
 (hw : κ'.w = κ.w) (hle : κ.le κ') (him : ∀ o, i.real = true → i.δ ≤ o → o < i.δ + (off + len) * sz → κ'.Im i.blk o) (hz : t ≠ 0 → i.real = true → κ'.ζ t = some i.blk) :
 κ'.rel v (.l t ((rows.drop off).take len)) := by
 obtain ⟨i', cap', hb', hc, hlc, ⟨rfl, rfl, rfl⟩ | ⟨hr, o, rfl, ho⟩⟩ := hv
 · simp only [List.take_zero]; exact .nil t
 · rw [hb] at hb'; cases hb'
   have hbox := I.box b; rw [hH] at hbox; obtain ⟨i'', hb'', hsz, hlen, ⟨hr', _⟩ | ⟨arr, T, q⟩⟩ := hbox <;> (rw [hb] at hb''; cases hb'')
   · rw [hr] at hr'; cases hr'
   · have hlt : i.blk < κ'.w.heap.size := by rw [hw]; exact lt_of_heap q.heap
     have hll : ((rows.drop off).take len).length = len := by simp; omega
     have hlen' : ∀ (k : Nat) (row : List D), ((rows.drop off).take len)[k]? = some row → row.length = sz := by
      intro k row hk; rw [seg_get] at hk; split at hk
      · exact hlen row (List.mem_of_getElem? hk)
      · cases hk
     suffices key : κ'.rel (.slice (some ⟨i.blk, o, none⟩) ((rows.drop off).take len).length cap') (.l t ((rows.drop off).take len)) by rw [hll] at key; exact key
     rcases Nat.eq_zero_or_pos len with h0 | h0
     · refine .l t _ i.blk o cap' sz (fun _ _ => undef) hlen' (by rw [hll]; exact hlc) hlt ?_ ?_ ?_ (fun h => hz h hr)
       · intro k j hk; rw [hll] at hk; omega
       · intro k j hk; rw [hll] at hk; omega
       · intro k row j x hk; rw [seg_get, h0] at hk; simp at hk
     · have ho' : o = i.δ + off * i.sz := by rcases ho with h | h; omega; exact h.1
       rw [hsz] at ho'; have cell : ∀ k j, k < len → j < sz → ∃ x row y, rows[off + k]? = some row ∧ row[j]? = some x ∧ arr[o + k * sz + j]? = some y ∧ κ.rel y x := by
        intro k j hk hj; have h1 : off + k < rows.length := by omega
        have h2 : rows[off + k]? = some rows[off + k] := List.getElem?_eq_getElem h1; have h3 : (rows[off + k]).length = sz := hlen _ (List.getElem_mem h1); have h4 : (rows[off + k])[j]? = some (rows[off + k])[j] := List.getElem?_eq_getElem (by omega); obtain ⟨y, hy, hyr⟩ := q.rows _ _ h2 _ _ h4; refine ⟨_, _, y, h2, h4, ?_, hyr⟩
        rw [← hy, hsz]; congr 1; rw [ho', Nat.add_mul]; omega
       refine .l t _ i.blk o cap' sz (fun k j => (arr[o + k * sz + j]?).getD undef) hlen' (by rw [hll]; exact hlc) hlt ?_ ?_ ?_ (fun h => hz h hr)
       · intro k j hk hj
         rw [hll] at hk; obtain ⟨x, row, y, _, _, hy, _⟩ := cell k j hk hj; rw [hw, cell_of q.heap, hy]; rfl
       · intro k j hk hj
         rw [hll] at hk; refine him _ hr (by omega) ?_
         have : (off + k + 1) * sz ≤ (off + len) * sz := Nat.mul_le_mul_right _ (by omega); rw [Nat.add_mul, Nat.add_mul] at this; rw [ho']; simp at this; omega
       · intro k row j x hk hj
         rw [seg_get] at hk; split at hk
         · rename_i hkl
           have hjs : j < sz := by
            have := hlen row (List.mem_of_getElem? hk); have := List.getElem?_eq_some_iff.1 hj; obtain ⟨h, _⟩ := this; omega
           obtain ⟨x', row', y, hk', hj', hy, hyr⟩ := cell k j hkl hjs; rw [hk] at hk'; cases hk'
           rw [hj] at hj'; cases hj'
           show Rel κ'.w κ'.Im κ'.ζ _ _
           rw [hy]; exact hle.rel hyr
         · cases hk
structure Frozen (fid : Nat → FuncId) (G : Nat → Option (List D)) (E : Entry) (κ : Ctx) (FN FZ : Nat → Prop) (s : Sup) (z : Fz) (κ' : Ctx) (z' : Fz) : Prop where
 w : κ'.w = κ.w
 β : κ'.β = κ.β
 le : κ.le κ'
 k : z.k ≤ z'.k
 inv : Inv fid G E κ' z'.H FN (fun t => FZ t ∧ ∀ k, k < z'.k → t ≠ s k)
theorem Frozen.trans {κ₁ κ₂ : Ctx} {z z₁ z₂ : Fz} (h : Frozen fid G E κ FN FZ s z κ₁ z₁) (h' : Frozen fid G E κ₁ FN FZ s z₁ κ₂ z₂) : Frozen fid G E κ FN FZ s z κ₂ z₂ :=
 ⟨h'.w.trans h.w, h'.β.trans h.β, h.le.trans h'.le, Nat.le_trans h.k h'.k, h'.inv⟩
theorem frzW_ok {stamp : Bool} (hinj : ∀ a b, s a = s b → a = b) (hs : ∀ k, FZ (s k)) {z z' : Fz} {x y : W} {v : Value}
 (I : Inv fid G E κ z.H FN (fun t => FZ t ∧ ∀ k, k < z.k → t ≠ s k)) (hv : WRel fid κ v x) (h : frzW stamp s z x = some (y, z')) :
 ∃ κ', Frozen fid G E κ FN FZ s z κ' z' ∧ WRel fid κ' v y ∧ (∀ b off len cap, y ≠ .own b off len cap) ∧ (∀ a b, y ≠ .ln a b) ∧ y ≠ .nil := by
 have same : ∀ y, some (x, z) = some (y, z') → (∀ b off len cap, x ≠ .own b off len cap) → (∀ a b, x ≠ .ln a b) → x ≠ .nil →
  ∃ κ', Frozen fid G E κ FN FZ s z κ' z' ∧ WRel fid κ' v y ∧ (∀ b off len cap, y ≠ .own b off len cap) ∧ (∀ a b, y ≠ .ln a b) ∧ y ≠ .nil := by
  intro y h n1 n2 n3; cases h
  exact ⟨κ, ⟨rfl, rfl, Ctx.le.refl κ, Nat.le_refl _, I⟩, hv, n1, n2, n3⟩
 cases x with
 | own b off len cap =>
  simp only [frzW] at h; split at h
  · rename_i st sz rows ro hH
    split at h
    · rename_i hfit
      generalize ht0 : stampOf stamp s z.k st = t at h; cases h
      obtain ⟨i, cap', hb, rest⟩ := id hv; have ht : (st = some t) ∨ (st = none ∧ (t = 0 ∨ (FZ t ∧ ∀ k, k < z.k → t ≠ s k))) := by
       cases st with
       | some t' => left; simpa [stampOf] using ht0
       | none =>
        refine .inr ⟨rfl, ?_⟩
        cases stamp with
        | false => left; simpa [stampOf] using ht0.symm
        | true => simp [stampOf] at ht0; subst ht0; exact .inr ⟨hs _, fun k hk e => by have := hinj _ _ e; omega⟩
      obtain ⟨κ', hw, hβ, hle, him, hz, I'⟩ := I.freeze t (off + len) hH hb ht hfit; refine ⟨κ', ⟨hw, hβ, hle, Nat.le_succ _, ?_⟩, own_data I hH hv hb hfit hw hle him hz, by simp, by simp, by simp⟩
      refine I'.weak (fun _ h => h) ?_
      rintro a ⟨ha1, ha2⟩; have ha3 : ∀ k, k < z.k → a ≠ s k := fun k hk => ha2 k (by show k < z.k + 1; omega)
      refine ⟨⟨ha1, ha3⟩, ?_⟩
      cases st with
      | some t' => exact .inr (by simp)
      | none =>
       left
       cases stamp with
       | false => simp [stampOf] at ht0; subst ht0; exact (I.zfree a ⟨ha1, ha3⟩).2.1
       | true => simp [stampOf] at ht0; subst ht0; exact ha2 z.k (Nat.lt_succ_self _)
    · cases h
  · cases h
 | nil =>
  cases h; cases hv
  exact ⟨κ, ⟨rfl, rfl, Ctx.le.refl κ, Nat.le_refl _, I⟩, .nil 0, by simp, by simp, by simp⟩
 | ln st rows =>
  cases h
  exact ⟨κ, ⟨rfl, rfl, Ctx.le.refl κ, Nat.le_refl _, I⟩, hv.1, by simp, by simp, by simp⟩
 | d x => exact same y h (by simp) (by simp) (by simp)
 | ptr b off => exact same y h (by simp) (by simp) (by simp)
 | rp b i off => exact same y h (by simp) (by simp) (by simp)
 | lp row off => exact same y h (by simp) (by simp) (by simp)
 | gp k off => exact same y h (by simp) (by simp) (by simp)
 | fn f caps => exact same y h (by simp) (by simp) (by simp)
theorem frzL_ok {stamp : Bool} (hinj : ∀ a b, s a = s b → a = b) (hs : ∀ k, FZ (s k)) : ∀ {cs ys : List W} {z z' : Fz} {vs : List Value} {κ : Ctx},
 Inv fid G E κ z.H FN (fun t => FZ t ∧ ∀ k, k < z.k → t ≠ s k) → vs.length = cs.length → (∀ (i : Nat) (c : W), cs[i]? = some c → ∃ x : Value, vs[i]? = some x ∧ WRel fid κ x c) →
 frzL stamp s z cs = some (ys, z') →
 ∃ κ', Frozen fid G E κ FN FZ s z κ' z' ∧ vs.length = ys.length ∧ ∀ (i : Nat) (c : W), ys[i]? = some c → ∃ x : Value, vs[i]? = some x ∧ WRel fid κ' x c
 | [], ys, z, z', vs, κ, I, hl, hv, h => by
  cases h
  exact ⟨κ, ⟨rfl, rfl, Ctx.le.refl κ, Nat.le_refl _, I⟩, hl, hv⟩
 | c :: r, ys, z, z', vs, κ, I, hl, hv, h => by
  simp only [frzL] at h; split at h
  · rename_i y z₁ h₁
    split at h
    · rename_i l z₂ h₂
      cases h
      match vs, hl, hv with
      | v :: vr, hl, hv =>
       obtain ⟨v', e, hv0⟩ := hv 0 c rfl; cases e
       obtain ⟨κ₁, f₁, r₁, _⟩ := frzW_ok hinj hs I hv0 h₁; obtain ⟨κ₂, f₂, hl₂, r₂⟩ := frzL_ok hinj hs (vs := vr) f₁.inv (by simpa using hl) (fun i d hi => let ⟨x, hx, q⟩ := hv (i + 1) d (by simpa using hi); ⟨x, by simpa using hx, q.mono f₁.le⟩) h₂; refine ⟨κ₂, f₁.trans f₂, by simp [hl₂], fun i d hi => ?_⟩
       match i with
       | 0 => simp at hi; subst hi; exact ⟨v, rfl, r₁.mono f₂.le⟩
       | i + 1 => simpa using r₂ i d (by simpa using hi)
    · cases h
  · cases h
theorem frzP_ok {stamp : Bool} (hinj : ∀ a b, s a = s b → a = b) (hs : ∀ k, FZ (s k)) : ∀ {ps ys : List (Bool × List W)} {z z' : Fz} {vs : List Value} {κ : Ctx},
 Inv fid G E κ z.H FN (fun t => FZ t ∧ ∀ k, k < z.k → t ≠ s k) → vs.length = ps.length → (∀ (i : Nat) (c : Bool × List W), ps[i]? = some c → ∃ x : Value, vs[i]? = some x ∧ PRel fid κ x c) →
 frzP stamp s z ps = some (ys, z') →
 ∃ κ', Frozen fid G E κ FN FZ s z κ' z' ∧ vs.length = ys.length ∧ ∀ (i : Nat) (c : Bool × List W), ys[i]? = some c → ∃ x : Value, vs[i]? = some x ∧ PRel fid κ' x c
 | [], ys, z, z', vs, κ, I, hl, hv, h => by
  cases h
  exact ⟨κ, ⟨rfl, rfl, Ctx.le.refl κ, Nat.le_refl _, I⟩, hl, hv⟩
 | c :: r, ys, z, z', vs, κ, I, hl, hv, h => by
  simp only [frzP] at h; split at h
  · rename_i y z₁ h₁
    split at h
    · rename_i l z₂ h₂
      cases h
      match vs, hl, hv with
      | v :: vr, hl, hv =>
       obtain ⟨v', e, hv0⟩ := hv 0 c rfl; cases e
       have step : ∃ κ₁, Frozen fid G E κ FN FZ s z κ₁ z₁ ∧ PRel fid κ₁ v (c.1, y) := by
        obtain ⟨b, cs⟩ := c; cases b with
        | true =>
         obtain ⟨arr, rfl, ha⟩ := hv0; obtain ⟨κ₁, f₁, hl₁, r₁⟩ := frzL_ok hinj hs (vs := arr.toList) I (by simpa using ha.1) (fun i d hi => by simpa using ha.2 i d hi) h₁; exact ⟨κ₁, f₁, arr, rfl, by simpa using hl₁, fun i d hi => by simpa using r₁ i d hi⟩
        | false =>
         match cs, hv0, h₁ with
         | [x], hv0, h₁ =>
          obtain ⟨κ₁, f₁, hl₁, r₁⟩ := frzL_ok hinj hs (vs := [v]) I rfl (fun i d hi => by
           match i with
           | 0 => simp at hi; subst hi; exact ⟨v, rfl, hv0⟩
           | i + 1 => simp at hi) h₁
          match y, hl₁, r₁ with
          | [y0], _, r₁ => obtain ⟨_, e, q⟩ := r₁ 0 y0 rfl; cases e; exact ⟨κ₁, f₁, q⟩
       obtain ⟨κ₁, f₁, r₁⟩ := step; obtain ⟨κ₂, f₂, hl₂, r₂⟩ := frzP_ok hinj hs (vs := vr) f₁.inv (by simpa using hl) (fun i d hi => let ⟨x, hx, q⟩ := hv (i + 1) d (by simpa using hi); ⟨x, by simpa using hx, q.mono f₁.le⟩) h₂; refine ⟨κ₂, f₁.trans f₂, by simp [hl₂], fun i d hi => ?_⟩
       match i with
       | 0 => simp at hi; subst hi; exact ⟨v, rfl, r₁.mono f₂.le⟩
       | i + 1 => simpa using r₂ i d (by simpa using hi)
    · cases h
  · cases h
theorem frzV_ok {stamp : Bool} (hinj : ∀ a b, s a = s b → a = b) (hs : ∀ k, FZ (s k)) {z z' : Fz} {x y : V} {v : Value}
 (I : Inv fid G E κ z.H FN (fun t => FZ t ∧ ∀ k, k < z.k → t ≠ s k)) (hv : VRel fid κ v x) (h : frzV stamp s z x = some (y, z')) :
 ∃ κ', Frozen fid G E κ FN FZ s z κ' z' ∧ VRel fid κ' v y := by
 cases x with
 | w x =>
  simp only [frzV] at h; split at h
  · rename_i y' z₁ h₁
    cases h
    obtain ⟨κ₁, f₁, r₁, _⟩ := frzW_ok hinj hs I hv h₁; exact ⟨κ₁, f₁, r₁⟩
  · cases h
 | agg cs =>
  simp only [frzV] at h; split at h
  · rename_i l z₁ h₁
    cases h
    obtain ⟨arr, rfl, ha⟩ := hv; obtain ⟨κ₁, f₁, hl₁, r₁⟩ := frzL_ok hinj hs (vs := arr.toList) I (by simpa using ha.1) (fun i d hi => by simpa using ha.2 i d hi) h₁; exact ⟨κ₁, f₁, arr, rfl, by simpa using hl₁, fun i d hi => by simpa using r₁ i d hi⟩
  · cases h
 | tup vs =>
  simp only [frzV] at h; split at h
  · rename_i l z₁ h₁
    cases h
    obtain ⟨arr, rfl, hl, ha⟩ := hv; obtain ⟨κ₁, f₁, hl₁, r₁⟩ := frzP_ok hinj hs (vs := arr.toList) I (by simpa using hl) (fun i d hi => by simpa using ha i d hi) h₁; exact ⟨κ₁, f₁, arr, rfl, by simpa using hl₁, fun i d hi => by simpa using r₁ i d hi⟩
  · cases h
theorem frzA_ok {stamp : Bool} (hinj : ∀ a b, s a = s b → a = b) (hs : ∀ k, FZ (s k)) : ∀ {ps ys : List V} {z z' : Fz} {vs : List Value} {κ : Ctx},
 Inv fid G E κ z.H FN (fun t => FZ t ∧ ∀ k, k < z.k → t ≠ s k) → vs.length = ps.length → (∀ (i : Nat) (c : V), ps[i]? = some c → ∃ x : Value, vs[i]? = some x ∧ VRel fid κ x c) →
 frzA stamp s z ps = some (ys, z') →
 ∃ κ', Frozen fid G E κ FN FZ s z κ' z' ∧ vs.length = ys.length ∧ ∀ (i : Nat) (c : V), ys[i]? = some c → ∃ x : Value, vs[i]? = some x ∧ VRel fid κ' x c
 | [], ys, z, z', vs, κ, I, hl, hv, h => by
  cases h
  exact ⟨κ, ⟨rfl, rfl, Ctx.le.refl κ, Nat.le_refl _, I⟩, hl, hv⟩
 | c :: r, ys, z, z', vs, κ, I, hl, hv, h => by
  simp only [frzA] at h; split at h
  · rename_i y z₁ h₁
    split at h
    · rename_i l z₂ h₂
      cases h
      match vs, hl, hv with
      | v :: vr, hl, hv =>
       obtain ⟨v', e, hv0⟩ := hv 0 c rfl; cases e
       obtain ⟨κ₁, f₁, r₁⟩ := frzV_ok hinj hs I hv0 h₁; obtain ⟨κ₂, f₂, hl₂, r₂⟩ := frzA_ok hinj hs (vs := vr) f₁.inv (by simpa using hl) (fun i d hi => let ⟨x, hx, q⟩ := hv (i + 1) d (by simpa using hi); ⟨x, by simpa using hx, q.mono f₁.le⟩) h₂; refine ⟨κ₂, f₁.trans f₂, by simp [hl₂], fun i d hi => ?_⟩
       match i with
       | 0 => simp at hi; subst hi; exact ⟨v, rfl, r₁.mono f₂.le⟩
       | i + 1 => simpa using r₂ i d (by simpa using hi)
    · cases h
  · cases h
end
end Go.VM

/- The value machine: operations that make, read and write memory keep the frame. Conditions: none. -/
namespace Go.VM
set_option linter.unusedVariables false
set_option linter.unusedSimpArgs false
set_option linter.unusedSectionVars false
section
variable {P : Program} {fid : Nat → FuncId} {cid : FuncId → Nat} {G : Nat → Option (List D)} {E : Entry} {κ : Ctx} {H : Nat → Box} {FN FZ : Nat → Prop} {g : Nat} {s : Sup}
variable {ρ : Operand → Value} {ev : X → V} {o : Oper}
theorem FN'_of {g : Nat} : ∀ n, FN' FN g n → FN n ∧ n ≠ g := fun n h => ⟨h.1, fun e => h.2 ⟨by omega, by omega⟩⟩
theorem mkV_rel {a : Bool} {l : List W} {x : V} {cs : List Value} {v : Value} (hx : mkV a l = some x) (hl : cs.length = l.length)
 (hc : ∀ (j : Nat) (c : W), l[j]? = some c → ∃ y : Value, cs[j]? = some y ∧ WRel fid κ y c) (h1 : a = true → v = .agg cs.toArray) (h2 : a = false → cs = [v]) : VRel fid κ v x := by
 cases a with
 | true =>
  simp [mkV] at hx; subst hx
  exact ⟨cs.toArray, h1 rfl, by simpa using hl, fun j c hj => by simpa using hc j c hj⟩
 | false =>
  have := h2 rfl; subst this
  match l, hl, hx, hc with
  | [c], _, hx, hc =>
   simp [mkV] at hx; subst hx
   obtain ⟨y, hy, q⟩ := hc 0 c rfl; simp at hy; subst hy; exact q
theorem part?_some {α : Type} {l p : List α} {off sz : Nat} (h : part? l off sz = some p) : off + sz ≤ l.length ∧ p.length = sz ∧ ∀ j, p[j]? = if j < sz then l[off + j]? else none := by
 unfold part? at h; split at h
 · rename_i hf
   cases h
   exact ⟨hf, by simp; omega, fun j => seg_get l off sz j⟩
 · cases h
theorem good_ld {t : TypeId} {a : Bool} {n : Nat} {x : Operand} {e : Eff} {l : List W} {v : V} {blk off : Nat} (I : Inv fid G E κ H FN FZ) (ho : o.op = .load t x)
 (ha : agg? P t = some a) (hn : sz? P t = some n) (h1 : (a || n == 1) = true) (hx : ρ x = .pointer (some ⟨blk, off, none⟩)) (hl : l.length = n) (hv : mkV a l = some v)
 (hc : ∀ (j : Nat) (c : W), l[j]? = some c → ∃ y : Value, κ.w.cell? ⟨blk, off + j, none⟩ = some y ∧ WRel fid κ y c) (hev : e.v = v) (heH : e.H = H) : Good P fid G E κ FN FZ g s ρ o e := by
 obtain ⟨ev, eH, et, ew⟩ := e; simp only at hev heH; subst hev heH
 let cs := (List.range n).map fun j => (κ.w.cell? ⟨blk, off + j, none⟩).getD undef
 have hget : ∀ j, j < n → ∃ c y, l[j]? = some c ∧ cs[j]? = some y ∧ κ.w.cell? ⟨blk, off + j, none⟩ = some y ∧ WRel fid κ y c := by
  intro j hj; have h2 : l[j]? = some l[j] := List.getElem?_eq_getElem (by omega); obtain ⟨y, hy, q⟩ := hc j _ h2; exact ⟨_, y, h2, by simp [cs, hj, hy], hy, q⟩
 have hcl : cs.length = n := by simp [cs]
 obtain ⟨u, hr, hu1, hu2⟩ := run_loadAt_cells (P := P) (w := κ.w) ha hn h1 (b := blk) (o := off) cs hcl (fun j u hj => by
  have : j < n := by have := List.getElem?_eq_some_iff.1 hj; obtain ⟨h, _⟩ := this; omega
  obtain ⟨c, y, _, hy, hcell, _⟩ := hget j this; rw [hj] at hy; cases hy; exact hcell)
 refine good_pure I (v := u) (by simp [execOp, ho, hx, hr]) (mkV_rel hv (by omega) (fun j c hj => ?_) hu1 hu2)
 have : j < n := by have := List.getElem?_eq_some_iff.1 hj; obtain ⟨h, _⟩ := this; omega
 obtain ⟨c', y, hc', hy, _, q⟩ := hget j this; rw [hj] at hc'; cases hc'
 exact ⟨y, hy, q⟩
theorem ptr_cell (I : Inv fid G E κ H FN FZ) {b off : Nat} {v : Value} {cs : List W} (hv : WRel fid κ v (.ptr b off)) (hH : H b = .cells cs) :
 ∃ i arr T, κ.β b = some i ∧ i.real = true ∧ v = .pointer (some ⟨i.blk, off, none⟩) ∧ κ.w.heap[i.blk]? = some (.cells arr T (0, 0)) ∧ LRel fid κ arr cs ∧ ∀ o, ¬ κ.Im i.blk o := by
 obtain ⟨i, hb, hd, rfl⟩ := hv; have hbox := I.box b; rw [hH] at hbox; obtain ⟨i', arr, T, hb', hr, _, hheap, hl, him⟩ := hbox; rw [hb] at hb'; cases hb'
 exact ⟨i, arr, T, hb, hr, rfl, hheap, hl, him⟩
theorem row_cell (I : Inv fid G E κ H FN FZ) {b j off : Nat} {v : Value} {st : Option Nat} {sz : Nat} {rows : List (List D)} {ro : Nat} {row : List D}
 (hv : WRel fid κ v (.rp b j off)) (hH : H b = .row st sz rows ro) (hrow : rows[j]? = some row) :
 ∃ i arr T, κ.β b = some i ∧ i.sz = sz ∧ (∀ row ∈ rows, row.length = sz) ∧ v = .pointer (some ⟨i.blk, i.δ + j * i.sz + off, none⟩) ∧ RowBox κ i st rows ro arr T := by
 obtain ⟨i, hb, rfl⟩ := hv; have hbox := I.box b; rw [hH] at hbox; obtain ⟨i', hb', hsz, hlen, ⟨_, h0⟩ | ⟨arr, T, q⟩⟩ := hbox <;> (rw [hb] at hb'; cases hb')
 · subst h0; simp at hrow
 · exact ⟨i, arr, T, hb, hsz, hlen, rfl, q⟩
theorem good_newcells {e : Eff} {T : TypeId} {arr : Array Value} {cs : List W} (I : Inv fid G E κ H FN FZ) (hfn : ∀ n, g ≤ n → n < g + 64 → FN n)
 (hr : (execOp ρ o).run P κ.w = .ok (.value (.pointer (some ⟨κ.w.heap.size, 0, none⟩))) (κ.w.alloc (.cells arr T))) (hl : LRel fid κ arr cs)
 (he : e = ⟨.w (.ptr g 0), upd H g (.cells cs), [], false⟩) : Good P fid G E κ FN FZ g s ρ o e := by
 subst he; obtain ⟨κ', hw, hle, hb, I'⟩ := I.new (w' := κ.w.alloc (.cells arr T)) (arr := arr) (T := T) (g := g) (i := ⟨κ.w.heap.size, 0, 0, 0, true⟩) (.cells cs) rfl rfl rfl rfl (hfn g (Nat.le_refl _) (by omega)) rfl
  (fun κ' hle hw him hz hb hheap => ⟨_, arr, T, hb, rfl, rfl, by rw [hw]; exact hheap, hl.mono hle, fun o ho => by
   rw [him] at ho; exact absurd (I.imlt _ _ ho) (Nat.lt_irrefl _)⟩)
 refine ⟨_, .pointer (some ⟨κ.w.heap.size, 0, none⟩), κ', by rw [hw]; exact hr, .inl rfl, hle, ⟨_, hb, rfl, rfl⟩, I'.weak (FN'_of) (fun n h => h.1)⟩
section ops
variable (I : Inv fid G E κ H FN FZ) (hev : ∀ x X, stripX cid x = some X → VRel fid κ (ρ x) (ev X)) (hfn : ∀ n, g ≤ n → n < g + 64 → FN n)
include I hev hfn
theorem good_new {t : TypeId} {z : List W} {e : Eff} (ho : o.op = .alloc t) (hz : zeroW P t = some z) (he : e = ⟨.w (.ptr g 0), upd H g (.cells z), [], false⟩) : Good P fid G E κ FN FZ g s ρ o e := by
 unfold zeroW at hz; split at hz
 · rename_i i hi
   split at hz
   · rename_i u hu
     split at hz
     · rename_i l hl
       split at hz
       · cases hz
         obtain ⟨h1, h2⟩ := constL_rel (κ := κ) (fid := fid) hl; exact good_newcells I hfn (arr := u.cells) (T := t) (by simp [execOp, ho, run_alloc hi hu]) ⟨by simpa using h1, fun j c hj => by simpa using h2 j c hj⟩ he
       · cases hz
     · cases hz
   · cases hz
 · cases hz
theorem good_box {t : TypeId} {x : Operand} {X : X} {cs : List W} {e : Eff} (ho : o.op = .box t x) (hX : stripX cid x = some X) (hc : (ev X).cells? = some cs)
 (he : e = ⟨.w (.ptr g 0), upd H g (.cells cs), [], false⟩) : Good P fid G E κ FN FZ g s ρ o e :=
 good_newcells I hfn (arr := (ρ x).cells) (T := t) (by simp [execOp, ho, run_box]) (VRel.cells (hev x X hX) hc) he
end ops
theorem LRel.splice {arr brr : Array Value} {old cs : List W} {off : Nat} (h : LRel fid κ arr old) (hc : LRel fid κ brr cs) (hf : off + cs.length ≤ old.length) :
 LRel fid κ (splice arr.toList off brr.toList).toArray (splice old off cs) := by
 have e1 := h.1; have e2 := hc.1; refine ⟨by simp [VM.splice]; omega, fun j c hj => ?_⟩
 simp only [VM.splice, List.getElem?_append, List.length_take, List.length_append] at hj; simp only [VM.splice, List.getElem?_toArray, List.getElem?_append, List.length_take, List.length_append, Array.length_toList, e1, e2]; split at hj
 · rename_i h1
   rw [if_pos h1]; split at hj
   · rename_i h2
     rw [if_pos h2]; rw [List.getElem?_take] at hj ⊢; split at hj
     · rename_i h3; rw [if_pos h3]; simpa using h.2 _ c hj
     · cases hj
   · rename_i h2
     rw [if_neg h2]
     simpa using hc.2 _ c hj
 · rename_i h1
   rw [if_neg h1]; rw [List.getElem?_drop] at hj ⊢
   simpa using h.2 _ c hj
theorem splice_length {α : Type} {l cs : List α} {off : Nat} (h : off + cs.length ≤ l.length) : (splice l off cs).length = l.length := by simp [splice]; omega
theorem splice_get {α : Type} {l cs : List α} {off : Nat} (h : off + cs.length ≤ l.length) (j : Nat) :
 (splice l off cs)[j]? = if off ≤ j ∧ j < off + cs.length then cs[j - off]? else l[j]? := by
 simp only [splice, List.getElem?_append, List.length_take, List.length_append, List.getElem?_take, List.getElem?_drop]; have hm : min off l.length = off := by omega
 rw [hm]
 by_cases h1 : j < off
 · rw [if_pos (by omega), if_pos h1, if_pos h1, if_neg (by omega)]
 · by_cases h2 : j < off + cs.length
   · rw [if_pos h2, if_neg h1, if_pos ⟨by omega, h2⟩]
   · rw [if_neg h2, if_neg (by omega)]; congr 1; omega
theorem good_stp {t : TypeId} {n b off : Nat} {x y : Operand} {Y X : X} {cs old : List W} {e : Eff} (I : Inv fid G E κ H FN FZ) (hev : ∀ x X, stripX cid x = some X → VRel fid κ (ρ x) (ev X))
 (ho : o.op = .store t x y) (hn : sz? P t = some n) (hX : stripX cid x = some X) (hY : stripX cid y = some Y) (hc : (ev Y).cells? = some cs) (hl : cs.length = n)
 (hp : ev X = .w (.ptr b off)) (hH : H b = .cells old) (hf : off + n ≤ old.length) (he : e = ⟨.tup [], upd H b (.cells (splice old off cs)), [b], true⟩) : Good P fid G E κ FN FZ g s ρ o e := by
 subst he; have hr := hev x X hX; rw [hp] at hr; obtain ⟨i, arr, T, hb, hreal, hv, hheap, hL, him⟩ := ptr_cell I hr hH; have hcL := VRel.cells (hev y Y hY) hc; have hsz : (ρ y).cells.size = n := by rw [hcL.1, hl]
 have hrun := run_storeAt_cells (P := P) (w := κ.w) hn (b := i.blk) (o := off) arr (ρ y) hsz hheap (by rw [hL.1]; omega) (fun u hu => by
  obtain ⟨k, hk, e⟩ := List.mem_iff_getElem.1 hu; have hk' : k < cs.length := by rw [← hcL.1]; simpa using hk
  obtain ⟨u', hu', q⟩ := hcL.2 k _ (List.getElem?_eq_getElem hk'); have : u' = u := by
   have h3 : (ρ y).cells[k]? = some u := by rw [← e]; simp at hk ⊢
   rw [hu'] at h3; cases h3; rfl
  subst this; exact q.oneCell)
 obtain ⟨hle, I'⟩ := I.store (w' := κ.w.setRow i.blk (splice arr.toList off (ρ y).cells.toList).toArray) (B := .cells (splice old off cs)) hb hreal (by rw [hH]; simp) hheap (setRow_heap _ _ _ _ _ _ hheap)
  (size_setRow _ _ _) (fun k hk => setRow_other _ _ _ _ hk) rfl rfl rfl (fun o ho => absurd ho (him o))
  (fun hle => ⟨i, _, T, hle.b _ _ hb, hreal, by obtain ⟨_, _, _, hb', _, h0, _⟩ := (hH ▸ I.box b : BoxRel fid κ b (.cells old)); rw [hb] at hb'; cases hb'; exact h0,
   setRow_heap _ _ _ _ _ _ hheap, (hL.mono hle).splice (hcL.mono hle) (by rw [hl]; exact hf), him⟩)
 refine ⟨.skip, undef, _, ?_, .inr ⟨rfl, rfl⟩, hle, ⟨#[], rfl, rfl, by simp⟩, I'.weak (fun n h => h.1) (fun n h => h.1)⟩
 have : ρ x = .pointer (some ⟨i.blk, off, none⟩) := hv; simp [execOp, ho, this, hrun]
theorem datas_rel : ∀ {l : List W} {ds : List D}, datas? l = some ds → l.length = ds.length ∧ ∀ (j : Nat) (d : D), ds[j]? = some d → ∃ c, l[j]? = some c ∧ ∀ v, WRel fid κ v c → κ.rel v d
 | [], ds, h => by simp [datas?] at h; subst h; simp
 | x :: r, ds, h => by
  simp only [datas?] at h; split at h
  · rename_i d l hd hl
    cases h
    obtain ⟨h1, h2⟩ := datas_rel hl; refine ⟨by simp [h1], fun j c hj => ?_⟩
    match j with
    | 0 =>
     simp at hj; subst hj
     refine ⟨x, rfl, fun v hv => ?_⟩
     cases x <;> simp [W.data?] at hd
     · subst hd; exact hv
     · subst hd; cases hv; exact .nil 0
     · subst hd; exact hv.1
    | j + 1 => simpa using h2 j c (by simpa using hj)
  · cases h
theorem good_str {t : TypeId} {n b j off : Nat} {x y : Operand} {Y X : X} {cs l : List W} {ds row : List D} {st : Option Nat} {sz : Nat} {rows : List (List D)} {ro : Nat} {z : Fz} {stamp : Bool} {e : Eff}
 (I : Inv fid G E κ H FN FZ) (hev : ∀ x X, stripX cid x = some X → VRel fid κ (ρ x) (ev X)) (hinj : ∀ a b, s a = s b → a = b) (hs : ∀ k, FZ (s k))
 (ho : o.op = .store t x y) (hn : sz? P t = some n) (hX : stripX cid x = some X) (hY : stripX cid y = some Y) (hc : (ev Y).cells? = some cs) (hl : cs.length = n)
 (hp : ev X = .w (.rp b j off)) (hz : frzL stamp s ⟨H, 0, []⟩ cs = some (l, z)) (hd : datas? l = some ds) (hH : z.H b = .row st sz rows ro) (hrow : rows[j]? = some row)
 (hro : ro ≤ j) (hf : off + n ≤ row.length) (he : e = ⟨.tup [], upd z.H b (.row st sz (rows.set j (splice row off ds)) ro), z.touch ++ [b], true⟩) : Good P fid G E κ FN FZ g s ρ o e := by
 subst he; have hcL := VRel.cells (hev y Y hY) hc; have hsz : (ρ y).cells.size = n := by rw [hcL.1, hl]
 obtain ⟨κ₁, f, hll, hlr⟩ := frzL_ok (FN := FN) (FZ := FZ) hinj hs (z := ⟨H, 0, []⟩) (vs := (ρ y).cells.toList) (I.weak (fun _ h => h) (fun t h => h.1)) (by simpa using hcL.1) (fun i c hi => by simpa using hcL.2 i c hi) hz; have hr := (hev x X hX).mono f.le; rw [hp] at hr; obtain ⟨i, arr, T, hb, hisz, hlen, hv, q⟩ := row_cell f.inv hr hH hrow; obtain ⟨hdl, hdr⟩ := datas_rel (κ := κ₁) (fid := fid) hd; have hll' : (ρ y).cells.size = l.length := by simpa using hll
 have hdsl : ds.length = n := by omega
 have hrl : row.length = sz := hlen _ (List.mem_of_getElem? hrow); have hj : j < rows.length := by have := List.getElem?_eq_some_iff.1 hrow; exact this.1
 have hjs : (j + 1) * sz ≤ rows.length * sz := Nat.mul_le_mul_right _ hj; rw [Nat.add_mul] at hjs; have hfits := q.fits; rw [hisz] at hfits; have hspan : i.δ + j * sz + off + n ≤ arr.size := by rw [q.size]; omega
 rw [hisz] at hv; have hrun := run_storeAt_cells (P := P) (w := κ₁.w) hn (b := i.blk) (o := i.δ + j * sz + off) arr (ρ y) hsz q.heap hspan (fun u hu => by
  obtain ⟨k, hk, e⟩ := List.mem_iff_getElem.1 hu; have hk' : k < cs.length := by rw [← hcL.1]; simpa using hk
  obtain ⟨u', hu', q⟩ := hcL.2 k _ (List.getElem?_eq_getElem hk'); have : u' = u := by
   have h3 : (ρ y).cells[k]? = some u := by rw [← e]; simp at hk ⊢
   rw [hu'] at h3; cases h3; rfl
  subst this; exact q.oneCell)
 have hvl : (ρ y).cells.toList.length = n := by simpa using hsz
 have hfit2 : i.δ + j * sz + off + (ρ y).cells.toList.length ≤ arr.toList.length := by simpa [hvl] using hspan
 have hget := fun m => splice_get (l := arr.toList) (cs := (ρ y).cells.toList) hfit2 m
 have hget2 := fun m => splice_get (l := row) (cs := ds) (off := off) (by omega) m
 obtain ⟨hle, I'⟩ := f.inv.store (w' := κ₁.w.setRow i.blk (splice arr.toList (i.δ + j * sz + off) (ρ y).cells.toList).toArray) (B := .row st sz (rows.set j (splice row off ds)) ro) hb q.real (by rw [hH]; simp) q.heap (setRow_heap _ _ _ _ _ _ q.heap)
  (size_setRow _ _ _) (fun k hk => setRow_other _ _ _ _ hk) rfl rfl rfl (fun m hm => by
   have h1 := q.im m hm; rw [hisz] at h1; have h2 : ro * sz ≤ j * sz := Nat.mul_le_mul_right _ hro; rw [List.getElem?_toArray, hget, if_neg (by omega)]; simp)
  (fun hle => by
   refine ⟨i, hle.b _ _ hb, hisz, ?_, .inr ⟨_, T, q.real, setRow_heap _ _ _ _ _ _ q.heap, ?_, by rw [List.length_set]; exact q.fits, ?_, q.im, ?_⟩⟩
   · intro r hr
     rcases List.mem_or_eq_of_mem_set hr with h | h
     · exact hlen r h
     · rw [h, splice_length (by omega)]; exact hrl
   · rw [List.size_toArray, splice_length hfit2]; simpa using q.size
   · intro k r hk m d hm
     rw [hisz]; rw [List.getElem?_toArray, hget]; have hm' : m < sz := by
      have h1 : r.length = sz := by
       rcases List.mem_or_eq_of_mem_set (List.mem_of_getElem? hk) with h | h
       · exact hlen r h
       · rw [h, splice_length (by omega)]; exact hrl
      have := List.getElem?_eq_some_iff.1 hm; obtain ⟨h2, _⟩ := this; omega
     rw [List.getElem?_set] at hk; split at hk
     · rename_i hjk
       subst hjk; simp only [hj, if_true, Option.some.injEq] at hk; subst hk; rw [hget2] at hm; split at hm
       · rename_i hin
         rw [if_pos (by omega)]; obtain ⟨c, hc', hcr⟩ := hdr _ d hm; obtain ⟨u, hu, qu⟩ := hlr _ c hc'; refine ⟨u, ?_, hle.rel (hcr u qu)⟩
         rw [← hu]; congr 1; omega
       · rename_i hout
         rw [if_neg (by omega)]; obtain ⟨u, hu, qu⟩ := q.rows _ _ hrow _ _ hm; rw [hisz] at hu; exact ⟨u, by simpa using hu, hle.rel qu⟩
     · rename_i hjk
       have hout : ¬ (i.δ + j * sz + off ≤ i.δ + k * sz + m ∧ i.δ + k * sz + m < i.δ + j * sz + off + (ρ y).cells.toList.length) := by
        rcases Nat.lt_or_ge k j with h | h
        · have : (k + 1) * sz ≤ j * sz := Nat.mul_le_mul_right _ h
          rw [Nat.add_mul] at this; omega
        · have h' : j + 1 ≤ k := by omega
          have : (j + 1) * sz ≤ k * sz := Nat.mul_le_mul_right _ h'; rw [Nat.add_mul] at this; omega
       rw [if_neg hout]; obtain ⟨u, hu, qu⟩ := q.rows _ _ hk _ _ hm; rw [hisz] at hu; exact ⟨u, by simpa using hu, hle.rel qu⟩
   · have := q.st
     cases st with
     | none => exact this
     | some t => exact this)
 refine ⟨.skip, undef, _, ?_, .inr ⟨rfl, rfl⟩, f.le.trans hle, ⟨#[], rfl, rfl, by simp⟩, I'.weak (fun n h => h.1) (fun n h => ⟨h.1, fun k hk => h.2 k⟩)⟩
 have hvx : ρ x = .pointer (some ⟨i.blk, i.δ + j * sz + off, none⟩) := hv; have hw : κ₁.w = κ.w := f.w; simp only [hw] at hrun; simp [execOp, ho, hvx, hrun, hw]
end
end Go.VM

/- The value machine: literals, new slices, reslicing, indexing, append. Conditions: none. -/
namespace Go.VM
set_option linter.unusedVariables false
set_option linter.unusedSimpArgs false
set_option linter.unusedSectionVars false
section
variable {P : Program} {fid : Nat → FuncId} {cid : FuncId → Nat} {G : Nat → Option (List D)} {E : Entry} {κ : Ctx} {H : Nat → Box} {FN FZ : Nat → Prop} {g : Nat} {s : Sup}
variable {ρ : Operand → Value} {ev : X → V} {o : Oper}
theorem zeroW_ok {t : TypeId} {z : List W} (h : zeroW P t = some z) : ∃ i u, P.info? t = some i ∧ i.zero = some u ∧ u.cells.size = i.size ∧ z.length = i.size ∧ constL u.cells.toList = some z := by
 unfold zeroW at h; split at h
 · rename_i i hi
   split at h
   · rename_i u hu
     split at h
     · rename_i l hl
       split at h
       · rename_i hs
         cases h
         have := (constL_rel (κ := default0) (fid := id) hl).1; exact ⟨i, u, hi, hu, by simpa [hs] using this, hs, hl⟩
       · cases h
     · cases h
   · cases h
 · cases h
where default0 : Ctx := ⟨default, fun _ _ => False, fun _ => none, fun _ => none⟩
theorem zeroD_ok {t : TypeId} {z : List D} (h : zeroD P t = some z) : ∃ i u, P.info? t = some i ∧ i.zero = some u ∧ u.cells.size = i.size ∧ z.length = i.size ∧
 ∀ (j : Nat) (d : D), z[j]? = some d → ∃ y, u.cells[j]? = some y ∧ ∀ κ : Ctx, κ.rel y d := by
 unfold zeroD at h; cases hz : zeroW P t with
 | none => simp [hz] at h
 | some w =>
  simp [hz] at h; obtain ⟨i, u, hi, hu, hs, hl, hc⟩ := zeroW_ok hz; have e := (datas_rel (κ := zeroW_ok.default0) (fid := id) h).1; refine ⟨i, u, hi, hu, hs, by omega, fun j d hj => ?_⟩
  obtain ⟨c, hcj, _⟩ := (datas_rel (κ := zeroW_ok.default0) (fid := id) h).2 j d hj; obtain ⟨y, hy, _⟩ := (constL_rel (κ := zeroW_ok.default0) (fid := id) hc).2 j c hcj; refine ⟨y, by simpa using hy, fun κ => ?_⟩
  obtain ⟨c', hc', hr⟩ := (datas_rel (κ := κ) (fid := id) h).2 j d hj; obtain ⟨y', hy', q⟩ := (constL_rel (κ := κ) (fid := id) hc).2 j c' hc'; rw [hy] at hy'; cases hy'
  exact hr _ q
theorem new_row (I : Inv fid G E κ H FN FZ) {w' : World} {arr : Array Value} {T : TypeId} {st : Option Nat} {sz ro : Nat} {rows : List (List D)}
 (hh : w'.heap = κ.w.heap.push (.cells arr T (0, 0))) (ho : w'.os = κ.w.os) (ht : w'.tape = κ.w.tape) (hu : w'.output = κ.w.output) (hg : FN g)
 (hlen : ∀ row ∈ rows, row.length = sz) (hfit : rows.length * sz ≤ arr.size) (hrows : RowsAt κ arr 0 sz rows) (hst : st = none ∨ st = some 0) :
 ∃ κ' : Ctx, κ'.w = w' ∧ κ.le κ' ∧ κ'.β g = some ⟨κ.w.heap.size, 0, sz, arr.size, true⟩ ∧ Inv fid G E κ' (upd H g (.row st sz rows ro)) (fun n => FN n ∧ n ≠ g) FZ :=
 I.new (i := ⟨κ.w.heap.size, 0, sz, arr.size, true⟩) (.row st sz rows ro) hh ho ht hu hg rfl
  (fun κ' hle hw him hz hb hheap => ⟨_, hb, rfl, hlen, .inr ⟨arr, T, rfl, by rw [hw]; exact hheap, rfl, by simpa using hfit, hrows.mono hle,
   fun o ho => by rw [him] at ho; exact absurd (I.imlt _ _ ho) (Nat.lt_irrefl _),
   by
    rcases hst with rfl | rfl
    · intro t ht'; rw [hz] at ht'; exact absurd (I.zlt _ _ ht').lt (Nat.lt_irrefl _)
    · intro h; exact absurd rfl h⟩⟩)
theorem i64_small {n : Int} (h0 : 0 ≤ n) (h : n ≤ 2 ^ 40) : IntKind.i64.wrap n = n := by
 rw [IntKind.wrap_i64]; omega
theorem room_ok {n bytes : Nat} (h : room n bytes = true) : n * bytes ≤ 2 ^ 40 ∧ n ≤ 2 ^ 40 := by simpa [room] using h
theorem good_msl {t e0 : TypeId} {ti : TypeInfo} {z : List D} {l c : Operand} {L C : X} {ln cp : Int} {e : Eff} (I : Inv fid G E κ H FN FZ) (hev : ∀ x X, stripX cid x = some X → VRel fid κ (ρ x) (ev X)) (hfn : ∀ n, g ≤ n → n < g + 64 → FN n)
 (ho : o.op = .makeSlice t l c) (hu : P.underlying t = some (.slice e0)) (hi : P.info? e0 = some ti) (hz : zeroD P e0 = some z) (hpos : 0 < ti.size) (hL : stripX cid l = some L) (hC : stripX cid c = some C)
 (hl : (ev L).int? = some (.i64, ln)) (hc : (ev C).int? = some (.i64, cp)) (h0 : 0 ≤ ln ∧ ln ≤ cp) (hr : room cp.toNat ti.bytes = true)
 (he : e = ⟨.w (.own g 0 ln.toNat (some cp.toNat)), upd H g (.row none ti.size (List.replicate ln.toNat z) 0), [], false⟩) : Good P fid G E κ FN FZ g s ρ o e := by
 subst he; obtain ⟨i', u, hi', hzu, hus, hzl, hzr⟩ := zeroD_ok hz; rw [hi] at hi'; cases hi'
 obtain ⟨hr1, hr2⟩ := room_ok hr; have hcp : cp ≤ 2 ^ 40 := by omega
 have w1 := i64_small (n := ln) h0.1 (by omega); have w2 := i64_small (n := cp) (by omega) hcp
 let arr : Array Value := (Array.range (cp.toNat * ti.size)).map (fun k => (if cp.toNat * ti.size = 0 then #[] else u.cells)[k % (if cp.toNat * ti.size = 0 then #[] else u.cells).size]!)
 have hrun : (execOp ρ o).run P κ.w = .ok (.value (.slice (some ⟨κ.w.heap.size, 0, none⟩) ln.toNat cp.toNat)) (κ.w.alloc (.cells arr e0)) := by
  have hb : ¬ ((ti.bytes : Int) * cp > 2 ^ 48) := by
   have : ((cp.toNat * ti.bytes : Nat) : Int) ≤ 2 ^ 40 := by exact_mod_cast hr1
   have e1 : ((cp.toNat * ti.bytes : Nat) : Int) = (ti.bytes : Int) * cp := by rw [Int.natCast_mul, Int.toNat_of_nonneg (by omega), Int.mul_comm]
   rw [e1] at this; omega
  have hcond : (decide (cp < 0) || decide ((ti.bytes : Int) * cp > 2 ^ 48) || decide (ln < 0) || decide (ln > cp)) = false := by
   simp only [Bool.or_eq_false_iff, decide_eq_false_iff_not]; exact ⟨⟨⟨by omega, hb⟩, by omega⟩, by omega⟩
  simp only [execOp, ho, Instr.makeSlice, Sem.run_bind, run_underlying hu, Result.andThen_ok, asInt, asIntOf, int?_rel (hev l L hL) hl, int?_rel (hev c C hC) hc, Sem.run_pure, typeInfo, run_program, hi, w1, w2]; have hcond' : ((decide (cp < 0) || decide (2 ^ 48 < (ti.bytes : Int) * cp) || decide (ln < 0)) || decide (cp < ln)) = false := by simpa using hcond
  simp only [gt_iff_lt, Bool.or_eq_true, decide_eq_true_eq]; rw [if_neg (by simpa [Bool.or_eq_false_iff, not_or] using hcond')]
  by_cases h00 : cp.toNat * ti.size = 0
  · simp [run_askRoom, sizeOf, typeInfo, hi, h00, newRow, arr]
  · simp [run_askRoom, sizeOf, typeInfo, hi, h00, newRow, zeroValue, hzu, arr]
 have hsize : arr.size = cp.toNat * ti.size := by simp [arr]
 have hfit : ln.toNat * ti.size ≤ cp.toNat * ti.size := Nat.mul_le_mul_right _ (by omega); obtain ⟨κ', hw, hle, hb, I'⟩ := new_row (g := g) (sz := ti.size) (ro := 0) (st := none) (rows := List.replicate ln.toNat z) I (w' := κ.w.alloc (.cells arr e0)) (arr := arr) (T := e0) rfl rfl rfl rfl (hfn g (Nat.le_refl _) (by omega))
  (fun row hrow => by rw [List.eq_of_mem_replicate hrow]; exact hzl) (by simpa [hsize] using hfit) (fun k row hk j d hj => by
   rw [List.getElem?_replicate] at hk; split at hk
   · rename_i hkl
     cases hk
     obtain ⟨y, hy, q⟩ := hzr j d hj; have hjs : j < ti.size := by have := List.getElem?_eq_some_iff.1 hj; obtain ⟨h, _⟩ := this; omega
     have hkn : (k + 1) * ti.size ≤ cp.toNat * ti.size := Nat.mul_le_mul_right _ (by omega); rw [Nat.add_mul] at hkn; refine ⟨y, ?_, q κ⟩
     have h00 : cp.toNat * ti.size ≠ 0 := by omega
     have hlt : k * ti.size + j < cp.toNat * ti.size := by omega
     have hmod : (k * ti.size + j) % ti.size = j := by rw [Nat.add_comm, Nat.add_mul_mod_self_right, Nat.mod_eq_of_lt hjs]
     have : u.cells[j]! = y := by rw [getElem!_def, hy]
     simp [arr, h00, hlt, hus, hmod, this]
   · cases hk) (.inl rfl)
 refine ⟨_, _, κ', by rw [hw]; exact hrun, .inl rfl, hle, ⟨_, cp.toNat, hb, .inr rfl, by omega, .inr ⟨rfl, 0, rfl, .inr ⟨by simp, by simp [hsize]⟩⟩⟩, I'.weak FN'_of (fun n h => h.1)⟩
end
end Go.VM

/- The value machine: reading, reslicing and indexing of slices; literals; comparisons. Conditions: none. -/
namespace Go.VM
set_option linter.unusedVariables false
set_option linter.unusedSimpArgs false
set_option linter.unusedSectionVars false
section
variable {P : Program} {fid : Nat → FuncId} {cid : FuncId → Nat} {G : Nat → Option (List D)} {E : Entry} {κ : Ctx} {H : Nat → Box} {FN FZ : Nat → Prop} {g : Nat} {s : Sup}
variable {ρ : Operand → Value} {ev : X → V} {o : Oper}
def Reads (κ : Ctx) (v : Value) (rows : List (List D)) : Prop :=
 ((v = .slice none 0 0 ∨ ∃ a, v = .slice (some a) 0 0) ∧ rows = []) ∨ ∃ (blk o cap sz : Nat) (f : Nat → Nat → Value), v = .slice (some ⟨blk, o, none⟩) rows.length cap ∧ rows.length ≤ cap ∧
  (∀ (i : Nat) (row : List D), rows[i]? = some row → row.length = sz) ∧
  (∀ i j, i < rows.length → j < sz → κ.w.cell? ⟨blk, o + i * sz + j, none⟩ = some (f i j)) ∧
  (∀ (i : Nat) (row : List D) (j : Nat) (x : D), rows[i]? = some row → row[j]? = some x → κ.rel (f i j) x)
theorem rel_reads {v : Value} {st : Nat} {rows : List (List D)} (h : κ.rel v (.l st rows)) : Reads κ v rows := by
 cases h with
 | nil st => exact .inl ⟨.inl rfl, rfl⟩
 | e a => exact .inl ⟨.inr ⟨a, rfl⟩, rfl⟩
 | l st rows blk o cap sz f hlen hcap hb hcell him hrel hst => exact .inr ⟨blk, o, cap, sz, f, rfl, hcap, hlen, hcell, hrel⟩
theorem rows_read (I : Inv fid G E κ H FN FZ) {v : Value} {y : W} {rows : List (List D)} {t : List Nat} (hv : WRel fid κ v y) (h : rowsOf H y = some (rows, t)) : Reads κ v rows := by
 cases y with
 | d x =>
  cases x with
  | s u => simp [rowsOf] at h
  | l st rs => simp [rowsOf] at h; obtain ⟨rfl, rfl⟩ := h; exact rel_reads hv
 | nil => simp [rowsOf] at h; obtain ⟨rfl, rfl⟩ := h; exact .inl ⟨.inl hv, rfl⟩
 | ln st rs => simp [rowsOf] at h; obtain ⟨rfl, rfl⟩ := h; exact rel_reads hv.1
 | own b off len cap =>
  simp only [rowsOf] at h; split at h
  · rename_i st sz rs ro hH
    split at h
    · rename_i hf
      cases h
      obtain ⟨i, cap', hb, hc, hlc, ⟨rfl, rfl, rfl⟩ | ⟨hr, o, rfl, ho⟩⟩ := hv
      · exact .inl ⟨.inl rfl, by simp⟩
      · have hbox := I.box b
        rw [hH] at hbox; obtain ⟨i'', hb'', hsz, hlen, ⟨hr', _⟩ | ⟨arr, T, q⟩⟩ := hbox <;> (rw [hb] at hb''; cases hb'')
        · rw [hr] at hr'; cases hr'
        · right
          have hll : ((rs.drop off).take len).length = len := by simp; omega
          rcases Nat.eq_zero_or_pos len with h0 | h0
          · subst h0
            refine ⟨i.blk, o, cap', sz, fun _ _ => undef, by simp, by simp, fun k row hk => by simp at hk, fun k j hk => by simp at hk, fun k row j x hk => by simp at hk⟩
          · have ho' : o = i.δ + off * sz := by rw [← hsz]; rcases ho with h | h; omega; exact h.1
            refine ⟨i.blk, o, cap', sz, fun k j => (arr[o + k * sz + j]?).getD undef, by rw [hll], by rw [hll]; exact hlc, ?_, ?_, ?_⟩
            · intro k row hk
              rw [seg_get] at hk; split at hk
              · exact hlen row (List.mem_of_getElem? hk)
              · cases hk
            · intro k j hk hj
              rw [hll] at hk; have h1 : off + k < rs.length := by omega
              have h2 : rs[off + k]? = some rs[off + k] := List.getElem?_eq_getElem h1; have h3 : (rs[off + k]).length = sz := hlen _ (List.getElem_mem h1); obtain ⟨y, hy, _⟩ := q.rows _ _ h2 j _ (List.getElem?_eq_getElem (by omega)); have e : i.δ + (off + k) * i.sz + j = o + k * sz + j := by rw [hsz, ho', Nat.add_mul]; omega
              rw [e] at hy; rw [cell_of q.heap]; simp [hy]
            · intro k row j x hk hj
              rw [seg_get] at hk; split at hk
              · obtain ⟨y, hy, hyr⟩ := q.rows _ _ hk j x hj
                have e : i.δ + (off + k) * i.sz + j = o + k * sz + j := by rw [hsz, ho', Nat.add_mul]; omega
                rw [e] at hy
                simpa [hy] using hyr
              · cases hk
    · cases h
  · cases h
 | ptr b off => simp [rowsOf] at h
 | rp b i off => simp [rowsOf] at h
 | lp r off => simp [rowsOf] at h
 | gp k off => simp [rowsOf] at h
 | fn f c => simp [rowsOf] at h
theorem bytes_rel : ∀ {rows : List (List D)} {bs : List UInt8}, bytesOf rows = some bs → ∃ ns : List Int, rows = ns.map (fun n => [.s (.int .u8 n)]) ∧ bs = ns.map (fun n => UInt8.ofNat n.toNat)
 | [], bs, h => by simp [bytesOf] at h; subst h; exact ⟨[], rfl, rfl⟩
 | r :: rs, bs, h => by
  unfold bytesOf at h; split at h
  · rename_i heq; cases heq
  · rename_i n rs' heq
    cases heq
    cases hb : bytesOf rs with
    | none => simp [hb] at h
    | some l =>
     simp [hb] at h; subst h
     obtain ⟨ns, h1, h2⟩ := bytes_rel hb; exact ⟨n :: ns, by simp [h1], by simp [h2]⟩
  · cases h
theorem foldl_push : ∀ (ns : List Int) (acc : ByteArray), ns.foldl (fun (r : ByteArray) n => r.push (UInt8.ofNat n.toNat)) acc = ⟨acc.data ++ (ns.map (fun n => UInt8.ofNat n.toNat)).toArray⟩
 | [], acc => by cases acc; simp
 | n :: ns, acc => by
  rw [List.foldl_cons, foldl_push ns]; cases acc with | mk d => simp [ByteArray.push]
section ops
variable (I : Inv fid G E κ H FN FZ) (hev : ∀ x X, stripX cid x = some X → VRel fid κ (ρ x) (ev X))
include I hev
theorem good_cbs {src dst e0 : TypeId} {x : Operand} {X : X} {y : W} {rows : List (List D)} {t : List Nat} {bs : List UInt8} {e : Eff} (ho : o.op = .convert src dst x) (hs : P.underlying src = some (.slice e0)) (hd : P.underlying dst = some .string)
 (hu8 : P.underlying e0 = some (.int .u8)) (hX : stripX cid x = some X) (hy : ev X = .w y) (hr : rowsOf H y = some (rows, t)) (hb : bytesOf rows = some bs)
 (he : e = ⟨sV (.string ⟨bs.toArray⟩), H, t, false⟩) : Good P fid G E κ FN FZ g s ρ o e := by
 subst he; have hv := hev x X hX; rw [hy] at hv; obtain ⟨ns, hns, hbs⟩ := bytes_rel hb; refine good_pure I (v := .string ⟨bs.toArray⟩) ?_ (sV_rel rfl)
 rcases rows_read I hv hr with ⟨hv0, h0⟩ | ⟨blk, o', cap, sz, f, hv0, hcap, hlen, hcell, hrel⟩
 · rw [h0] at hns
   have : ns = [] := by cases ns with | nil => rfl | cons a b => simp at hns
   subst this; subst hbs; rcases hv0 with hx | ⟨a, hx⟩
   · simp [execOp, ho, hx, convert, run_underlying hs, run_underlying hd, run_underlying hu8, Conv.bytesToString]; try rfl
   · have hload := run_loadCells_list (P := P) κ.w a [] (by simp)
     simp [execOp, ho, hx, convert, run_underlying hs, run_underlying hd, run_underlying hu8, Conv.bytesToString, hload]; try rfl
 · have hx : ρ x = .slice (some ⟨blk, o', none⟩) rows.length cap := hv0
   have hload := run_loadCells_list (P := P) κ.w ⟨blk, o', none⟩ (ns.map (Value.int .u8)) (fun j v hj => by
    rw [List.getElem?_map] at hj; cases hn : ns[j]? with
    | none => simp [hn] at hj
    | some n =>
     simp [hn] at hj; subst hj
     have hrow : rows[j]? = some [.s (.int .u8 n)] := by rw [hns, List.getElem?_map, hn]; rfl
     have hjl : j < rows.length := by have := List.getElem?_eq_some_iff.1 hrow; exact this.1
     have hsz : sz = 1 := (hlen _ _ hrow).symm; have hc := hcell j 0 hjl (by omega); have hq := hrel j _ 0 _ hrow rfl; generalize hfj : f j 0 = u at hc hq; cases hq
     rw [Addr.add_none]; subst hsz
     simpa using hc)
   have hl : (ns.map (Value.int .u8)).length = rows.length := by rw [hns]; simp
   rw [hl] at hload; have hrun := run_bytesToString κ.w ⟨blk, o', none⟩ rows.length cap ns hload; rw [foldl_push] at hrun; simp [execOp, ho, hx, convert, run_underlying hs, run_underlying hd, run_underlying hu8, hrun, hbs]; try rfl
theorem good_ia_own {t e0 : TypeId} {x i : Operand} {J X : X} {b off len : Nat} {cap : Option Nat} {n ro : Nat} {st : Option Nat} {rows : List (List D)} {k : IntKind} {j : Int} {e : Eff} (ho : o.op = .indexAddr t x i) (hu : P.underlying t = some (.slice e0)) (hn : sz? P e0 = some n)
 (hX : stripX cid x = some X) (hJ : stripX cid i = some J) (hj : (ev J).int? = some (k, j)) (hx : ev X = .w (.own b off len cap)) (hH : H b = .row st n rows ro) (h0 : 0 ≤ j ∧ j < len)
 (he : e = ⟨.w (.rp b (off + j.toNat) 0), H, [b], false⟩) : Good P fid G E κ FN FZ g s ρ o e := by
 subst he; have hr := hev x X hX; rw [hx] at hr; have hi := int?_rel (hev i J hJ) hj; obtain ⟨inf, cap', hb, hc, hlc, ⟨h1, h2, h3⟩ | ⟨hreal, o', hv, ho'⟩⟩ := hr
 · omega
 · have ho'' : o' = inf.δ + off * inf.sz := by rcases ho' with h | h; omega; exact h.1
   have hbox := I.box b; rw [hH] at hbox; obtain ⟨i'', hb'', hsz, _, _⟩ := hbox; rw [hb] at hb''; cases hb''
   have hx : ρ x = .slice (some ⟨inf.blk, o', none⟩) len cap' := hv; refine good_pure I (v := .pointer (some ⟨inf.blk, o' + j.toNat * n, none⟩)) (by simp [execOp, ho, Instr.indexAt, asIntOf, run_underlying hu, hi, hx, h0, run_sz hn, Addr.add_none]) ⟨inf, hb, ?_⟩
   rw [ho'', Nat.add_mul, hsz]; simp [Nat.add_assoc]
theorem good_ia_data {t e0 : TypeId} {x i : Operand} {J X : X} {n st : Nat} {rows : List (List D)} {row : List D} {k : IntKind} {j : Int} {y : W} {e : Eff} (ho : o.op = .indexAddr t x i) (hu : P.underlying t = some (.slice e0)) (hn : sz? P e0 = some n)
 (hX : stripX cid x = some X) (hJ : stripX cid i = some J) (hj : (ev J).int? = some (k, j)) (hx : ev X = .w y) (hy : y = .d (.l st rows) ∨ y = .ln st rows) (h0 : 0 ≤ j) (hrow : rows[j.toNat]? = some row) (hl : row.length = n)
 (he : e = ⟨.w (.lp row 0), H, [], false⟩) : Good P fid G E κ FN FZ g s ρ o e := by
 subst he; have hr := hev x X hX; rw [hx] at hr; have hi := int?_rel (hev i J hJ) hj; have hrel : κ.rel (ρ x) (.l st rows) := by rcases hy with rfl | rfl; exact hr; exact hr.1
 have hjl : j.toNat < rows.length := by have := List.getElem?_eq_some_iff.1 hrow; exact this.1
 generalize hvx : ρ x = vx at hrel; cases hrel with
 | nil st => simp at hrow
 | e a => simp at hrow
 | l _ _ blk o' cap sz f hlen hcap hb hcell him hrel hst =>
  have hs : sz = n := by rw [← hl, hlen _ _ hrow]
  subst hs; refine good_pure I (v := .pointer (some ⟨blk, o' + j.toNat * sz, none⟩)) (by simp [execOp, ho, Instr.indexAt, asIntOf, run_underlying hu, hi, hvx, h0, show j < rows.length by omega, run_sz hn, Addr.add_none]) ?_
  refine ⟨blk, o' + j.toNat * sz, fun m => f j.toNat m, hb, rfl, fun m x hm => ?_⟩
  have hms : m < sz := by rw [← hl]; have := List.getElem?_eq_some_iff.1 hm; exact this.1
  exact ⟨him _ _ hjl hms, hcell _ _ hjl hms, hrel _ _ _ _ hrow hm⟩
end ops
end
end Go.VM
