/- The value machine: a value-level interpreter of translated Go code. Conditions: none (definitions). -/
import GoSem.Core.Code
import GoSem.Core.Region
import GoSem.Dispatch
namespace Go.VM

/-- One cell of pure data: a scalar; a slice with its rows (each row: the cells of one element). -/
inductive D where
  | s (v : Value)
  | l (st : Nat) (rows : List (List D))
  deriving Inhabited

inductive Cap where
  | d (x : D)
  | ptr (b off : Nat)
  deriving Inhabited

/-- One cell of a frame. -/
inductive W where
  | d (x : D)
  | nil
  | ln (st : Nat) (rows : List (List D))
  | own (b off len : Nat) (cap : Option Nat)
  | ptr (b off : Nat)
  | rp (b i off : Nat)
  | lp (row : List D) (off : Nat)
  | gp (g off : Nat)
  | fn (f : Nat) (caps : List Cap)
  deriving Inhabited

inductive V where
  | w (x : W)
  | agg (cs : List W)
  | tup (vs : List (Bool × List W))
  deriving Inhabited

inductive Box where
  | cells (cs : List W)
  | row (st : Option Nat) (sz : Nat) (rows : List (List D)) (ro : Nat)
  | dead
  deriving Inhabited

abbrev Sup := Nat → Nat

/-- An operand. -/
inductive X where
  | t (n : Nat)
  | k (v : V)
  | g (n : Nat)
  deriving Inhabited

/-- How '==' compares: scalars of one cell; slices with nil; structs and arrays of scalar cells. -/
inductive Cls where
  | one | b | p | sl | agg (ks : List Nat)
  deriving Inhabited

inductive O where
  | mv (x : X)
  | pick (c a b : X)
  | new (zero : List W)
  | box (sz : Nat) (x : X)
  | bld (zero : List W) (parts : List (Nat × Nat × X))
  | bsl (sz n : Nat) (zero : List D) (parts : List (Nat × X))
  | ld (agg : Bool) (sz : Nat) (x : X)
  | st (sz : Nat) (x y : X)
  | nc (x : X)
  | bin (op : BinOp) (c : Cls) (x y : X)
  | un (op : UnOp) (x : X)
  | cvi (k : IntKind) (x : X)
  | cbs (x : X)
  | msl (sz bytes : Nat) (zero : List D) (l c : X)
  | sls (x : X) (lo hi : Option X)
  | sl (sz : Nat) (x : X) (lo hi mx : Option X)
  | fa (off : Nat) (x : X)
  | fld (agg : Bool) (off sz : Nat) (x : X)
  | ia (sz : Nat) (x i : X)
  | iaa (n sz : Nat) (x i : X)
  | ixs (x i : X)
  | ixa (agg : Bool) (n sz : Nat) (x i : X)
  | ext (i : Nat) (x : X)
  | mkf (f : Nat) (caps : List X)
  | call (f : X) (args : List X)
  | lens (x : X)
  | lenl (x : X)
  | app (sz bytes : Nat) (zero : List D) (x y : X)
  | mmx (isMax : Bool) (args : List X)
  | bad
  deriving Inhabited

structure RO where
  dst : Option Nat
  op : O
  guard : Option (Nat × Bool)   -- the slot that must hold this bool
  deriving Inhabited

inductive C where
  | skip
  | reg (ops : List RO)
  | dreg (ops : List RO) (bf : List Nat)
  | seq (a b : C)
  | cond (x : X) (a b : C)
  | block (id : Nat) (c : C)
  | loop (c : C)
  | exit (id : Nat)
  | ret
  | bad
  deriving Inhabited

inductive RV where
  | tmp (t : Nat)
  | cell (t : Nat) (agg : Bool) (sz : Nat)
  deriving Inhabited

structure Fn where
  ntmps : Nat
  res : List RV
  code : C
  deriving Inhabited

/-- How a function is run: freezing gives stamps; results may keep owned slices; slice arguments are passed with their ownership. -/
structure Mode where
  stamp : Bool := false
  move : Bool := false
  inout : Bool := false
  deriving Inhabited

structure Res where
  v : V
  bs : List Box
  news : List Box
  deriving Inhabited

abbrev CallT := Nat → List V → List Box → Sup → Option Res

/-! ### small words -/
def upd {α : Type} (f : Nat → α) (n : Nat) (x : α) : Nat → α := fun m => if m = n then x else f m
def V.cells? : V → Option (List W)
  | .w x => some [x]
  | .agg cs => some cs
  | .tup _ => none
def mkV (agg : Bool) (cs : List W) : Option V := if agg then some (.agg cs) else match cs with | [x] => some (.w x) | _ => none
def W.int? : W → Option (IntKind × Int)
  | .d (.s (.int k n)) => some (k, n)
  | _ => none
def W.bool? : W → Option Bool
  | .d (.s (.bool b)) => some b
  | _ => none
def V.bool? : V → Option Bool
  | .w x => x.bool?
  | _ => none
def V.int? : V → Option (IntKind × Int)
  | .w x => x.int?
  | _ => none
def V.s? : V → Option Value
  | .w (.d (.s v)) => some v
  | _ => none
def sV (v : Value) : V := .w (.d (.s v))
def W.data? : W → Option D
  | .d x => some x
  | .nil => some (.l 0 [])
  | .ln st rows => some (.l st rows)
  | _ => none
def datas? : List W → Option (List D)
  | [] => some []
  | x :: r => match x.data?, datas? r with | some d, some l => some (d :: l) | _, _ => none

/-! ### names -/
def Cap.names : Cap → List Nat
  | .ptr b _ => [b]
  | .d _ => []
def W.names : W → List Nat
  | .own b _ _ _ => [b]
  | .ptr b _ => [b]
  | .rp b _ _ => [b]
  | .fn _ caps => caps.flatMap Cap.names
  | _ => []
def wnames (l : List W) : List Nat := l.flatMap W.names
def V.names : V → List Nat
  | .w x => x.names
  | .agg cs => wnames cs
  | .tup vs => vs.flatMap fun p => wnames p.2
def Box.names : Box → List Nat
  | .cells cs => wnames cs
  | _ => []
def addN (acc : List Nat) (x : Nat) : List Nat := if x ∈ acc then acc else acc ++ [x]
def addAll (acc l : List Nat) : List Nat := l.foldl addN acc
/-- What can be reached from names. -/
def reach (H : Nat → Box) : Nat → List Nat → List Nat
  | 0, acc => acc
  | n + 1, acc => reach H n (addAll acc (acc.flatMap fun b => (H b).names))

def Cap.ren (ρ : Nat → Nat) : Cap → Cap
  | .ptr b off => .ptr (ρ b) off
  | .d x => .d x
def W.ren (ρ : Nat → Nat) : W → W
  | .own b off len cap => .own (ρ b) off len cap
  | .ptr b off => .ptr (ρ b) off
  | .rp b i off => .rp (ρ b) i off
  | .fn f caps => .fn f (caps.map (Cap.ren ρ))
  | x => x
def V.ren (ρ : Nat → Nat) : V → V
  | .w x => .w (x.ren ρ)
  | .agg cs => .agg (cs.map (W.ren ρ))
  | .tup vs => .tup (vs.map fun p => (p.1, p.2.map (W.ren ρ)))
def Box.ren (ρ : Nat → Nat) : Box → Box
  | .cells cs => .cells (cs.map (W.ren ρ))
  | x => x
def idx (l : List Nat) (x : Nat) : Nat := l.findIdx (· == x)
/-- All names of these boxes are among these. -/
def closed (H : Nat → Box) (ns : List Nat) : Bool := ns.all fun b => (H b).names.all fun x => ns.contains x

/-! ### freezing: a slice that is owned becomes data -/
structure Fz where
  H : Nat → Box
  k : Nat
  touch : List Nat

def stampOf (stamp : Bool) (s : Sup) (k : Nat) : Option Nat → Nat
  | some t => t
  | none => if stamp then s k else 0
def frzW (stamp : Bool) (s : Sup) (z : Fz) : W → Option (W × Fz)
  | .own b off len _ => match z.H b with
    | .row st sz rows ro =>
      if off + len ≤ rows.length then
        some (.d (.l (stampOf stamp s z.k st) ((rows.drop off).take len)),
          { H := upd z.H b (.row (some (stampOf stamp s z.k st)) sz rows (max ro (off + len))), k := z.k + 1, touch := z.touch ++ [b] })
      else none
    | _ => none
  | .nil => some (.d (.l 0 []), z)
  | .ln st rows => some (.d (.l st rows), z)
  | x => some (x, z)
def frzL (stamp : Bool) (s : Sup) : Fz → List W → Option (List W × Fz)
  | z, [] => some ([], z)
  | z, x :: r => match frzW stamp s z x with
    | some (y, z') => match frzL stamp s z' r with
      | some (l, z'') => some (y :: l, z'')
      | none => none
    | none => none
def frzP (stamp : Bool) (s : Sup) : Fz → List (Bool × List W) → Option (List (Bool × List W) × Fz)
  | z, [] => some ([], z)
  | z, x :: r => match frzL stamp s z x.2 with
    | some (y, z') => match frzP stamp s z' r with
      | some (l, z'') => some ((x.1, y) :: l, z'')
      | none => none
    | none => none
def frzV (stamp : Bool) (s : Sup) (z : Fz) : V → Option (V × Fz)
  | .w x => match frzW stamp s z x with | some (y, z') => some (.w y, z') | none => none
  | .agg cs => match frzL stamp s z cs with | some (l, z') => some (.agg l, z') | none => none
  | .tup vs => match frzP stamp s z vs with | some (l, z') => some (.tup l, z') | none => none
def frzA (stamp : Bool) (s : Sup) : Fz → List V → Option (List V × Fz)
  | z, [] => some ([], z)
  | z, x :: r => match frzV stamp s z x with
    | some (y, z') => match frzA stamp s z' r with
      | some (l, z'') => some (y :: l, z'')
      | none => none
    | none => none

end Go.VM
namespace Go.VM

/-! ### one operation -/
structure Eff where
  v : V
  H : Nat → Box
  touch : List Nat
  wr : Bool
  deriving Inhabited

def splice {α : Type} (l : List α) (off : Nat) (cs : List α) : List α := l.take off ++ cs ++ l.drop (off + cs.length)
def part? {α : Type} (l : List α) (off sz : Nat) : Option (List α) := if off + sz ≤ l.length then some ((l.drop off).take sz) else none

/-- A binary operation on two scalars. -/
def binS (op : BinOp) : Value → Value → Option Value
  | .int k a, .int k' b => match op with
    | .shl => if 0 ≤ b then some (.int k (k.wrap (a * 2 ^ (min b.toNat k.bits)))) else none
    | .shr => if 0 ≤ b then some (.int k (a.fdiv (2 ^ (min b.toNat k.bits)))) else none
    | _ => if k = k' then match op with
      | .add => some (.int k (k.wrap (a + b)))
      | .sub => some (.int k (k.wrap (a - b)))
      | .mul => some (.int k (k.wrap (a * b)))
      | .quo => if b = 0 then none else some (.int k (k.wrap (a.tdiv b)))
      | .rem => if b = 0 then none else some (.int k (a.tmod b))
      | .and => some (.int k (k.wrap (BitVec.ofInt k.bits a &&& BitVec.ofInt k.bits b).toNat))
      | .or => some (.int k (k.wrap (BitVec.ofInt k.bits a ||| BitVec.ofInt k.bits b).toNat))
      | .xor => some (.int k (k.wrap (BitVec.ofInt k.bits a ^^^ BitVec.ofInt k.bits b).toNat))
      | .andNot => some (.int k (k.wrap (BitVec.ofInt k.bits a &&& ~~~ BitVec.ofInt k.bits b).toNat))
      | .eql => some (.bool (a == b))
      | .neq => some (.bool (a != b))
      | .lss => some (.bool (decide (a < b)))
      | .leq => some (.bool (decide (a ≤ b)))
      | .gtr => some (.bool (decide (a > b)))
      | .geq => some (.bool (decide (a ≥ b)))
      | _ => none
      else none
  | .bool a, .bool b => match op with
    | .eql => some (.bool (a == b))
    | .neq => some (.bool (!(a == b)))
    | _ => none
  | .string a, .string b => match op with
    | .add => if a.size + b.size ≤ 2 ^ 47 then some (.string (a ++ b)) else none
    | .eql => some (.bool (a.toList == b.toList))
    | .neq => some (.bool (!(a.toList == b.toList)))
    | _ => none
  | _, _ => none

/-- Two scalars of a kind (0 a bool, 1 an integer, 2 a string) compared. -/
def eq1 : Nat → Value → Value → Option Bool
  | 0, .bool x, .bool y => some (x == y)
  | 1, .int i x, .int j y => if i = j then some (x == y) else none
  | 2, .string x, .string y => some (x.toList == y.toList)
  | _, _, _ => none
def eqCells : List Nat → List W → List W → Option Bool
  | [], [], [] => some true
  | k :: ks, .d (.s a) :: r, .d (.s b) :: q => match eq1 k a b, eqCells ks r q with
    | some x, some y => some (x && y)
    | _, _ => none
  | _, _, _ => none

/-- Is this slice nil? -/
def isNil? : W → Option Bool
  | .nil => some true
  | .ln _ _ => some false
  | .own _ _ len _ => if len = 0 then none else some false
  | .d (.l _ rows) => if rows.isEmpty then none else some false
  | _ => none
def ptrNil? : W → Option Bool
  | .d (.s (.pointer none)) => some true
  | .ptr _ _ => some false
  | .rp _ _ _ => some false
  | .lp _ _ => some false
  | .gp _ _ => some false
  | _ => none

def binV (op : BinOp) (c : Cls) (x y : V) : Option V :=
  match c with
  | .one => match x.s?, y.s? with
    | some (.bool _), _ => none
    | some a, some b => (binS op a b).map sV
    | _, _ => none
  | .b => match x.bool?, y.bool? with
    | some a, some b => match op with
      | .eql => some (sV (.bool (a == b)))
      | .neq => some (sV (.bool (!(a == b))))
      | _ => none
    | _, _ => none
  | .p => match x, y with
    | .w p, .w q => match ptrNil? p, ptrNil? q with
      | some a, some true => match op with
        | .eql => some (sV (.bool a))
        | .neq => some (sV (.bool !a))
        | _ => none
      | _, _ => none
    | _, _ => none
  | .sl => match x, y with
    | .w p, .w .nil => match isNil? p with
      | some b => match op with
        | .eql => some (sV (.bool b))
        | .neq => some (sV (.bool !b))
        | _ => none
      | none => none
    | _, _ => none
  | .agg ks => match x, y with
    | .agg p, .agg q => match eqCells ks p q with
      | some b => match op with
        | .eql => some (sV (.bool b))
        | .neq => some (sV (.bool !b))
        | _ => none
      | none => none
    | _, _ => none

def unV (op : UnOp) (x : V) : Option V :=
  match op, x.s? with
  | .neg, some (.int k n) => some (sV (.int k (k.wrap (0 - n))))
  | .not, some (.bool b) => some (sV (.bool !b))
  | _, _ => none

/-- Bytes out of rows. -/
def bytesOf : List (List D) → Option (List UInt8)
  | [] => some []
  | [.s (.int .u8 n)] :: r => (bytesOf r).map (UInt8.ofNat n.toNat :: ·)
  | _ => none

def setParts (cells : List W) : List (Nat × Nat × V) → Option (List W)
  | [] => some cells
  | (off, sz, v) :: r => match v.cells? with
    | some cs => if cs.length = sz ∧ off + sz ≤ cells.length then setParts (splice cells off cs) r else none
    | none => none

/-- The rows of a slice that is read. -/
def rowsOf (H : Nat → Box) : W → Option (List (List D) × List Nat)
  | .nil => some ([], [])
  | .ln _ rows => some (rows, [])
  | .d (.l _ rows) => some (rows, [])
  | .own b off len _ => match H b with
    | .row _ _ rows _ => if off + len ≤ rows.length then some ((rows.drop off).take len, [b]) else none
    | _ => none
  | _ => none

def optInt (ev : X → V) : Option X → Option (Option Int)
  | none => some none
  | some x => match (ev x).int? with
    | some (_, n) => some (some n)
    | none => none

def rowParts (stamp : Bool) (s : Sup) (sz : Nat) (rows : List (List D)) (z : Fz) : List (Nat × V) → Option (List (List D) × Fz)
  | [] => some (rows, z)
  | (i, v) :: r => match v.cells? with
    | some cs => match frzL stamp s z cs with
      | some (l, z') => match datas? l with
        | some ds => if ds.length = sz ∧ i < rows.length then rowParts stamp s sz (rows.set i ds) z' r else none
        | none => none
      | none => none
    | none => none

def fold2 (isMax : Bool) : IntKind → Int → List V → Option V
  | k, a, [] => some (sV (.int k a))
  | k, a, v :: r => match v.int? with
    | some (k', b) => if k = k' then fold2 isMax k (if isMax then (if b > a then b else a) else (if b < a then b else a)) r else none
    | none => none

def capOf : V → Option Cap
  | .w (.d x) => some (.d x)
  | .w (.ptr b off) => some (.ptr b off)
  | _ => none
def capsOf : List V → Option (List Cap)
  | [] => some []
  | x :: r => match capOf x, capsOf r with | some c, some l => some (c :: l) | _, _ => none
def Cap.v : Cap → V
  | .d x => .w (.d x)
  | .ptr b off => .w (.ptr b off)

def updL (H : Nat → Box) : List (Nat × Box) → Nat → Box
  | [] => H
  | (b, x) :: r => updL (upd H b x) r

def callV (call : CallT) (M : Nat → Mode) (stamp : Bool) (H : Nat → Box) (g : Nat) (s : Sup) (f : Nat) (args : List V) : Option Eff :=
  match (if (M f).inout then some (args, (⟨H, 0, []⟩ : Fz)) else frzA stamp (fun k => s (2 * k)) ⟨H, 0, []⟩ args) with
  | none => none
  | some (args, z) =>
    let ns := reach z.H 4 (addAll [] (args.flatMap V.names))
    match call f (args.map (V.ren (idx ns))) (ns.map fun b => (z.H b).ren (idx ns)) (fun k => s (2 * k + 1)) with
    | none => none
    | some r =>
      if r.bs.length = ns.length ∧ r.news.length ≤ 64 ∧ closed z.H ns = true then
        let σ : Nat → Nat := fun k => if k < ns.length then ns.getD k 0 else g + (k - ns.length)
        some ⟨r.v.ren σ, updL z.H ((ns.zip (r.bs.map (Box.ren σ))) ++ ((List.range r.news.length).map (g + ·)).zip (r.news.map (Box.ren σ))),
          z.touch ++ ns, !(z.touch ++ ns).isEmpty⟩
      else none

/-- The mark of what goes on from a row that may share its block. -/
def taint : Option Nat → Option Nat
  | none => none
  | some _ => some 0

def newCap (mx : Option Int) (cap : Option Nat) (l : Nat) : Option Nat :=
  match mx with
  | some m => some (m.toNat - l)
  | none => cap.map (· - l)

def ret0 (H : Nat → Box) (v : Option V) : Option Eff := match v with | some v => some ⟨v, H, [], false⟩ | none => none

def room (n bytes : Nat) : Bool := n * bytes ≤ 2 ^ 40 && n ≤ 2 ^ 40

def opV (call : CallT) (M : Nat → Mode) (G : Nat → Option (List D)) (stamp : Bool) (ev : X → V) (H : Nat → Box) (g : Nat) (s : Sup) : O → Option Eff
  | .mv x => ret0 H (some (ev x))
  | .pick c a b => ret0 H ((ev c).bool?.map fun t => if t then ev a else ev b)
  | .new zero => some ⟨.w (.ptr g 0), upd H g (.cells zero), [], false⟩
  | .box sz x => match (ev x).cells? with
    | some cs => if cs.length = sz then some ⟨.w (.ptr g 0), upd H g (.cells cs), [], false⟩ else none
    | none => none
  | .bld zero parts => ret0 H ((setParts zero (parts.map fun p => (p.1, p.2.1, ev p.2.2))).map .agg)
  | .bsl sz n zero parts => match rowParts stamp s sz (List.replicate n zero) ⟨H, 0, []⟩ (parts.map fun p => (p.1, ev p.2)) with
    | some (rows, z) => some ⟨.w (.own g 0 n (some n)), upd z.H g (.row none sz rows 0), z.touch, !z.touch.isEmpty⟩
    | none => none
  | .ld agg sz x => match ev x with
    | .w (.ptr b off) => match H b with
      | .cells cs => match (part? cs off sz).bind (mkV agg) with | some v => some ⟨v, H, [b], false⟩ | none => none
      | _ => none
    | .w (.rp b i off) => match H b with
      | .row _ _ rows _ => match rows[i]? with
        | some row => match (part? row off sz).bind (fun l => mkV agg (l.map .d)) with | some v => some ⟨v, H, [b], false⟩ | none => none
        | none => none
      | _ => none
    | .w (.lp row off) => ret0 H ((part? row off sz).bind (fun l => mkV agg (l.map .d)))
    | .w (.gp k off) => ret0 H ((G k).bind fun row => (part? row off sz).bind (fun l => mkV agg (l.map .d)))
    | _ => none
  | .st sz x y => match (ev y).cells? with
    | some cs => if cs.length = sz then match ev x with
      | .w (.ptr b off) => match H b with
        | .cells old => if off + sz ≤ old.length then some ⟨.tup [], upd H b (.cells (splice old off cs)), [b], true⟩ else none
        | _ => none
      | .w (.rp b i off) => match frzL stamp s ⟨H, 0, []⟩ cs with
        | some (l, z) => match datas? l, z.H b with
          | some ds, .row st sz' rows ro => match rows[i]? with
            | some row => if ro ≤ i ∧ off + sz ≤ row.length then
                some ⟨.tup [], upd z.H b (.row st sz' (rows.set i (splice row off ds)) ro), z.touch ++ [b], true⟩ else none
            | none => none
          | _, _ => none
        | none => none
      | _ => none
      else none
    | none => none
  | .nc x => match ev x with
    | .w (.ptr b off) => ret0 H (some (.w (.ptr b off)))
    | .w (.rp b i off) => ret0 H (some (.w (.rp b i off)))
    | .w (.lp r off) => ret0 H (some (.w (.lp r off)))
    | .w (.gp k off) => ret0 H (some (.w (.gp k off)))
    | .w (.fn f cs) => ret0 H (some (.w (.fn f cs)))
    | _ => none
  | .bin op c x y => ret0 H (binV op c (ev x) (ev y))
  | .un op x => ret0 H (unV op (ev x))
  | .cvi k x => ret0 H ((ev x).int?.map fun p => sV (.int k (k.wrap p.2)))
  | .cbs x => match ev x with
    | .w y => match rowsOf H y with
      | some (rows, t) => match bytesOf rows with
        | some bs => some ⟨sV (.string ⟨bs.toArray⟩), H, t, false⟩
        | none => none
      | none => none
    | _ => none
  | .msl sz bytes zero l c => match (ev l).int?, (ev c).int? with
    | some (.i64, l), some (.i64, c) => if 0 ≤ l ∧ l ≤ c ∧ room c.toNat bytes = true then
        some ⟨.w (.own g 0 l.toNat (some c.toNat)), upd H g (.row none sz (List.replicate l.toNat zero) 0), [], false⟩ else none
    | _, _ => none
  | .sls x lo hi => match (ev x).s?, optInt ev lo, optInt ev hi with
    | some (.string b), some lo, some hi =>
      let h := hi.getD b.size
      let l := lo.getD 0
      if 0 ≤ l ∧ l ≤ h ∧ h ≤ b.size then ret0 H (some (sV (.string (b.extract l.toNat h.toNat)))) else none
    | _, _, _ => none
  | .sl sz x lo hi mx => match ev x, optInt ev lo, optInt ev hi, optInt ev mx with
    | .w y, some lo, some hi, some mx => match rowsOf H y with
      | some (rows, t) =>
        let n : Int := rows.length
        let h := hi.getD n
        let l := lo.getD 0
        let m := mx.getD n
        if 0 ≤ l ∧ l ≤ h ∧ h ≤ m ∧ m ≤ n ∧ (mx.isSome → hi.isSome) then match y with
          | .own b off _ cap => match H b with
            | .row _ sz' _ _ => if sz' = sz then
                some ⟨.w (.own b (off + l.toNat) (h.toNat - l.toNat) (newCap mx cap l.toNat)), H, t, false⟩ else none
            | _ => none
          | .nil => ret0 H (some (.w .nil))
          | .ln st rows => if rows.all (·.length == sz) then ret0 H (some (.w (.ln st ((rows.drop l.toNat).take (h.toNat - l.toNat))))) else none
          | .d (.l st rows) => if rows.all (·.length == sz) then ret0 H (some (.w (.d (.l st ((rows.drop l.toNat).take (h.toNat - l.toNat)))))) else none
          | _ => none
        else none
      | none => none
    | _, _, _, _ => none
  | .fa off x => match ev x with
    | .w (.ptr b o) => ret0 H (some (.w (.ptr b (o + off))))
    | .w (.rp b i o) => ret0 H (some (.w (.rp b i (o + off))))
    | .w (.lp r o) => ret0 H (some (.w (.lp r (o + off))))
    | .w (.gp k o) => ret0 H (some (.w (.gp k (o + off))))
    | _ => none
  | .fld agg off sz x => match ev x with
    | .agg cs => ret0 H ((part? cs off sz).bind (mkV agg))
    | _ => none
  | .ia sz x i => match ev x, (ev i).int? with
    | .w (.own b off len _), some (_, i) => match H b with
      | .row _ sz' _ _ => if sz' = sz ∧ 0 ≤ i ∧ i < len then some ⟨.w (.rp b (off + i.toNat) 0), H, [b], false⟩ else none
      | _ => none
    | .w (.d (.l _ rows)), some (_, i) => if 0 ≤ i then match rows[i.toNat]? with
        | some row => if row.length = sz then ret0 H (some (.w (.lp row 0))) else none
        | none => none
        else none
    | .w (.ln _ rows), some (_, i) => if 0 ≤ i then match rows[i.toNat]? with
        | some row => if row.length = sz then ret0 H (some (.w (.lp row 0))) else none
        | none => none
        else none
    | _, _ => none
  | .iaa n sz x i => match (ev i).int? with
    | some (_, i) => if 0 ≤ i ∧ i < n then match ev x with
      | .w (.ptr b o) => ret0 H (some (.w (.ptr b (o + i.toNat * sz))))
      | .w (.rp b j o) => ret0 H (some (.w (.rp b j (o + i.toNat * sz))))
      | .w (.lp r o) => ret0 H (some (.w (.lp r (o + i.toNat * sz))))
      | .w (.gp k o) => ret0 H (some (.w (.gp k (o + i.toNat * sz))))
      | _ => none
      else none
    | none => none
  | .ixs x i => match (ev x).s?, (ev i).int? with
    | some (.string b), some (_, i) => if 0 ≤ i then match b[i.toNat]? with
        | some c => ret0 H (some (sV (.int .u8 c.toNat)))
        | none => none
        else none
    | _, _ => none
  | .ixa agg n sz x i => match ev x, (ev i).int? with
    | .agg cs, some (_, i) => if 0 ≤ i ∧ i < n then ret0 H ((part? cs (i.toNat * sz) sz).bind (mkV agg)) else none
    | _, _ => none
  | .ext i x => match ev x with
    | .tup vs => match vs[i]? with
      | some p => ret0 H (mkV p.1 p.2)
      | none => none
    | _ => none
  | .mkf f caps => match capsOf (caps.map ev) with
    | some l => ret0 H (some (.w (.fn f l)))
    | none => none
  | .call f args => match ev f with
    | .w (.fn f caps) => callV call M stamp H g s f (args.map ev ++ caps.map Cap.v)
    | _ => none
  | .lens x => match (ev x).s? with
    | some (.string b) => ret0 H (some (sV (.int .i64 b.size)))
    | _ => none
  | .lenl x => match ev x with
    | .w (.own _ _ len _) => ret0 H (some (sV (.int .i64 len)))
    | .w (.d (.l _ rows)) => ret0 H (some (sV (.int .i64 rows.length)))
    | .w (.ln _ rows) => ret0 H (some (sV (.int .i64 rows.length)))
    | .w .nil => ret0 H (some (sV (.int .i64 0)))
    | _ => none
  | .app sz bytes zero x y => match ev y with
    | .w y => match rowsOf H y with
      | some (ys, t) => if ys.all (·.length == sz) && zero.length == sz then match ev x with
        | .w .nil => if room ys.length bytes = true then some ⟨.w (.own g 0 ys.length none), upd H g (.row none sz ys 0), t, false⟩ else none
        | .w (.own b off len _) => match H b with
          | .row st sz' rows ro =>
            if sz' = sz ∧ off + len ≤ rows.length ∧ ro ≤ off + len ∧ room (len + ys.length) bytes = true then
              some ⟨.w (.own g 0 (len + ys.length) none),
                upd (upd H b .dead) g (.row (taint st) sz ((rows.drop off).take len ++ ys) (ro - off)), t ++ [b], true⟩
            else none
          | _ => none
        | _ => none
        else none
      | none => none
    | _ => none
  | .mmx isMax args => match args.map ev with
    | v :: r => match v.int? with
      | some (k, a) => ret0 H (fold2 isMax k a r)
      | none => none
    | [] => none
  | .bad => none

/-! ### code -/
inductive Ex where
  | normal | exit (id : Nat) | ret
  deriving Inhabited

structure St where
  τ : Nat → V
  H : Nat → Box
  g : Nat
  s : Sup

def evX (τ : Nat → V) : X → V
  | .t n => τ n
  | .k v => v
  | .g n => .w (.gp n 0)

def subS (s : Sup) (i : Nat) : Sup := fun k => s (2 ^ (i + 1) * (2 * k + 1))
def restS (s : Sup) : Sup := fun k => s (2 * k + 1)

/-- What an operation of a region does: nothing where its guard fails. -/
def stepE (call : CallT) (M : Nat → Mode) (G : Nat → Option (List D)) (stamp : Bool) (τ : Nat → V) (H : Nat → Box) (g : Nat) (s : Sup) (o : RO) : Option Eff :=
  match o.guard with
  | none => opV call M G stamp (evX τ) H g s o.op
  | some (t, want) => match τ t with
    | .w (.d (.s (.bool b))) => if b = want then opV call M G stamp (evX τ) H g s o.op else some ⟨.tup [], H, [], false⟩
    | .tup _ => some ⟨.tup [], H, [], false⟩
    | _ => none

def put (N : Nat) (τ : Nat → V) (dst : Option Nat) (v : V) : Option (Nat → V) :=
  match dst with
  | none => some τ
  | some d => if d < N then some (upd τ d v) else none

def regV (call : CallT) (M : Nat → Mode) (G : Nat → Option (List D)) (stamp : Bool) (N : Nat) (g : Nat) (s : Sup) : Nat → List RO → (Nat → V) → (Nat → Box) → Option ((Nat → V) × (Nat → Box))
  | _, [], τ, H => some (τ, H)
  | i, o :: r, τ, H => match stepE call M G stamp τ H (g + 64 * i) (subS s i) o with
    | some e => match put N τ o.dst e.v with
      | some τ' => regV call M G stamp N g s (i + 1) r τ' e.H
      | none => none
    | none => none

/-- The same with a row of what each operation touched. -/
def regL (call : CallT) (M : Nat → Mode) (G : Nat → Option (List D)) (stamp : Bool) (N : Nat) (g : Nat) (s : Sup) : Nat → List RO → (Nat → V) → (Nat → Box) → Option ((Nat → V) × (Nat → Box) × List (List Nat × Bool))
  | _, [], τ, H => some (τ, H, [])
  | i, o :: r, τ, H => match stepE call M G stamp τ H (g + 64 * i) (subS s i) o with
    | some e => match put N τ o.dst e.v with
      | some τ' => match regL call M G stamp N g s (i + 1) r τ' e.H with
        | some (τ'', H'', l) => some (τ'', H'', (e.touch, e.wr) :: l)
        | none => none
      | none => none
    | none => none

/-- No two operations without an order between them touch the same memory, one writing; none touches what the other makes. -/
def ncW (g i j : Nat) (x y : List Nat × Bool) : Bool :=
  (!(x.2 || y.2) || x.1.all (fun n => !y.1.contains n)) && y.1.all (fun n => !(decide (g + 64 * i ≤ n) && decide (n < g + 64 * i + 64))) && x.1.all (fun n => !(decide (g + 64 * j ≤ n) && decide (n < g + 64 * j + 64)))
def calmWith (g : Nat) (x : List Nat × Bool) (i : Nat) : Nat → List (List Nat × Bool) → List Nat → Bool
  | j, y :: l, b :: bf => (b.testBit i || ncW g i j x y) && calmWith g x i (j + 1) l bf
  | _, _, _ => true
def calm (g : Nat) : Nat → List (List Nat × Bool) → List Nat → Bool
  | i, x :: l, _ :: bf => calmWith g x i (i + 1) l bf && calm g (i + 1) l bf
  | _, _, _ => true

def iter (body : St → Option (Ex × St)) : Nat → St → Option (Ex × St)
  | 0, _ => none
  | n + 1, st => match body st with
    | some (.normal, st') => iter body n st'
    | r => r

def execC (call : CallT) (M : Nat → Mode) (G : Nat → Option (List D)) (stamp : Bool) (N n : Nat) : C → St → Option (Ex × St)
  | .skip, st => some (.normal, st)
  | .reg ops, st => match regV call M G stamp N st.g st.s 0 ops st.τ st.H with
    | some (τ, H) => some (.normal, ⟨τ, H, st.g + 64 * ops.length, restS st.s⟩)
    | none => none
  | .dreg ops bf, st => match regL call M G stamp N st.g st.s 0 ops st.τ st.H with
    | some (τ, H, l) => if calm st.g 0 l bf then some (.normal, ⟨τ, H, st.g + 64 * ops.length, restS st.s⟩) else none
    | none => none
  | .seq a b, st => match execC call M G stamp N n a st with
    | some (.normal, st') => execC call M G stamp N n b st'
    | r => r
  | .cond x a b, st => match evX st.τ x with
    | .w (.d (.s (.bool t))) => if t then execC call M G stamp N n a st else execC call M G stamp N n b st
    | _ => none
  | .block id c, st => match execC call M G stamp N n c st with
    | some (.exit id', st') => if id' = id then some (.normal, st') else some (.exit id', st')
    | r => r
  | .loop c, st => iter (execC call M G stamp N n c) n st
  | .exit id, st => some (.exit id, st)
  | .ret, st => some (.ret, st)
  | .bad, _ => none

def resV (τ : Nat → V) (H : Nat → Box) : List RV → Option (List (Bool × List W))
  | [] => some []
  | .tmp t :: r => match τ t, resV τ H r with
    | .w x, some l => some ((false, [x]) :: l)
    | .agg cs, some l => some ((true, cs) :: l)
    | _, _ => none
  | .cell t agg sz :: r => match τ t, resV τ H r with
    | .w (.ptr b off), some l => match H b with
      | .cells cs => match part? cs off sz with
        | some p => if agg || p.length == 1 then some ((agg, p) :: l) else none
        | none => none
      | _ => none
    | _, _ => none

def one? : List (Bool × List W) → V
  | [(true, cs)] => .agg cs
  | [(false, [x])] => .w x
  | l => .tup l

/-- Behind the last step: what is handed back, the boxes that came in, the new ones that they lead to. -/
def finish (stamp move : Bool) (m : Nat) (st : St) (res : List (Bool × List W)) : Option Res :=
  match (if move then some (res, (⟨st.H, 0, []⟩ : Fz)) else frzP stamp st.s ⟨st.H, 0, []⟩ res) with
  | none => none
  | some (res, z) =>
    let ns := reach z.H 4 (addAll (List.range m) ((res.flatMap fun p => wnames p.2) ++ (List.range m).flatMap fun b => (z.H b).names))
    if m ≤ ns.length ∧ ns.take m = List.range m ∧ closed z.H ns = true then
      some ⟨(one? res).ren (idx ns), (List.range m).map (fun b => (z.H b).ren (idx ns)), (ns.drop m).map fun b => (z.H b).ren (idx ns)⟩
    else none

def runF (call : CallT) (M : Nat → Mode) (G : Nat → Option (List D)) (n : Nat) (f : Nat) (F : Fn) (args : List V) (bs : List Box) (s : Sup) : Option Res :=
  if args.length ≤ F.ntmps then
    match execC call M G (M f).stamp F.ntmps n F.code ⟨fun t => args.getD t (.tup []), fun b => bs.getD b .dead, bs.length, s⟩ with
    | some (.ret, st) | some (.normal, st) => match resV st.τ st.H F.res with
      | some res => finish (M f).stamp (M f).move bs.length st res
      | none => none
    | _ => none
  else none

/-- The functions: their code, or an answer that is taken. -/
abbrev Tab := Nat → Option Fn
abbrev Orc := Nat → List V → Option Res

def run (FT : Tab) (O : Nat → Bool) (A : Orc) (M : Nat → Mode) (G : Nat → Option (List D)) : Nat → CallT
  | 0, _, _, _, _ => none
  | n + 1, f, args, bs, s => if O f then (match bs with | [] => A f args | _ => none) else
    match FT f with
    | some F => runF (run FT O A M G n) M G n f F args bs s
    | none => none

end Go.VM
