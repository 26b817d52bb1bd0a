/- Ladders as data: operands, contacts, nets, arms. Conditions: none. -/
import Derived.Test.YtcjdokngpmnkjaaDoorVMA
import Derived.Test.YtcjdokngpmnkjaaDoorVM31

namespace Go.VM
set_option linter.unusedVariables false

structure Arg where
  k : Int
  n : Int
  p : Int
  deriving DecidableEq
structure El where
  op : Int
  as : List Arg
  deriving DecidableEq
inductive Net where
  | mk (kind op : Int) (as : List Arg) (kids : List Net)
inductive Arm where
  | mk (net : Net) (coils : List El) (kids : List Arm)

abbrev iD (n : Int) : D := .s (.int .i64 n)
def Arg.row (a : Arg) : List D := [iD a.k, iD a.n, iD a.p]
def argRows (l : List Arg) : List (List D) := l.map Arg.row
def El.row (e : El) : List D := [iD e.op, .l 0 (argRows e.as)]
def elRows (l : List El) : List (List D) := l.map El.row
mutual
def Net.row : Net → List D
  | .mk k op as ks => [iD k, iD op, .l 0 (argRows as), .l 0 (netRows ks)]
def netRows : List Net → List (List D)
  | [] => []
  | n :: r => n.row :: netRows r
end
mutual
def Arm.row : Arm → List D
  | .mk (.mk k op as nks) cs ks => [iD k, iD op, .l 0 (argRows as), .l 0 (netRows nks), .l 0 (elRows cs), .l 0 (armRows ks)]
def armRows : List Arm → List (List D)
  | [] => []
  | n :: r => n.row :: armRows r
end
theorem netRows_map : ∀ l : List Net, netRows l = l.map Net.row
  | [] => by simp [netRows]
  | n :: r => by simp [netRows, netRows_map r]
theorem armRows_map : ∀ l : List Arm, armRows l = l.map Arm.row
  | [] => by simp [armRows]
  | n :: r => by simp [armRows, armRows_map r]

/-! how much there is of it -/
def El.wt (e : El) : Nat := 1 + e.as.length
def elsWt : List El → Nat
  | [] => 0
  | e :: r => e.wt + elsWt r
mutual
def Net.wt : Net → Nat
  | .mk _ _ as ks => 1 + as.length + netsWt ks
def netsWt : List Net → Nat
  | [] => 0
  | n :: r => n.wt + netsWt r
end
mutual
def Arm.wt : Arm → Nat
  | .mk n cs ks => 1 + n.wt + elsWt cs + armsWt ks
def armsWt : List Arm → Nat
  | [] => 0
  | n :: r => n.wt + armsWt r
end
theorem Net.wt_pos (n : Net) : 0 < n.wt := by cases n; simp [Net.wt]; omega
theorem Arm.wt_pos (a : Arm) : 0 < a.wt := by cases a with | mk n cs ks => simp [Arm.wt]; omega
theorem netsWt_len : ∀ l : List Net, l.length ≤ netsWt l
  | [] => by simp [netsWt]
  | n :: r => by have := netsWt_len r; have := n.wt_pos; simp [netsWt]; omega
theorem armsWt_len : ∀ l : List Arm, l.length ≤ armsWt l
  | [] => by simp [armsWt]
  | n :: r => by have := armsWt_len r; have := n.wt_pos; simp [armsWt]; omega
theorem elsWt_len : ∀ l : List El, l.length ≤ elsWt l
  | [] => by simp [elsWt]
  | n :: r => by have := elsWt_len r; simp [elsWt, El.wt]; omega
theorem netsWt_mem : ∀ {l : List Net} {n : Net}, n ∈ l → n.wt ≤ netsWt l
  | m :: r, n, h => by
    rcases List.mem_cons.1 h with rfl | h
    · simp [netsWt]
    · have := netsWt_mem h; simp [netsWt]; omega
theorem armsWt_mem : ∀ {l : List Arm} {n : Arm}, n ∈ l → n.wt ≤ armsWt l
  | m :: r, n, h => by
    rcases List.mem_cons.1 h with rfl | h
    · simp [armsWt]
    · have := armsWt_mem h; simp [armsWt]; omega
theorem elsWt_mem : ∀ {l : List El} {n : El}, n ∈ l → n.wt ≤ elsWt l
  | m :: r, n, h => by
    rcases List.mem_cons.1 h with rfl | h
    · simp [elsWt]
    · have := elsWt_mem h; simp [elsWt]; omega
theorem netsWt_append : ∀ l m : List Net, netsWt (l ++ m) = netsWt l + netsWt m
  | [], m => by simp [netsWt]
  | n :: r, m => by simp [netsWt, netsWt_append r m]; omega
theorem elsWt_append : ∀ l m : List El, elsWt (l ++ m) = elsWt l + elsWt m
  | [], m => by simp [elsWt]
  | n :: r, m => by simp [elsWt, elsWt_append r m]; omega

@[simp] theorem argRows_length (l : List Arg) : (argRows l).length = l.length := by simp [argRows]
@[simp] theorem elRows_length (l : List El) : (elRows l).length = l.length := by simp [elRows]
@[simp] theorem netRows_length (l : List Net) : (netRows l).length = l.length := by simp [netRows_map]
@[simp] theorem armRows_length (l : List Arm) : (armRows l).length = l.length := by simp [armRows_map]
theorem argRows_get {l : List Arg} {i : Nat} {a : Arg} (h : l[i]? = some a) : (argRows l)[i]? = some [iD a.k, iD a.n, iD a.p] := by simp [argRows, h, Arg.row]
theorem elRows_get {l : List El} {i : Nat} {e : El} (h : l[i]? = some e) : (elRows l)[i]? = some [iD e.op, .l 0 (argRows e.as)] := by simp [elRows, h, El.row]
theorem netRows_get {l : List Net} {i : Nat} {k op : Int} {as : List Arg} {ks : List Net} (h : l[i]? = some (.mk k op as ks)) : (netRows l)[i]? = some [iD k, iD op, .l 0 (argRows as), .l 0 (netRows ks)] := by simp [netRows_map, h, Net.row]
theorem armRows_get {l : List Arm} {i : Nat} {k op : Int} {as : List Arg} {nks : List Net} {cs : List El} {ks : List Arm} (h : l[i]? = some (.mk (.mk k op as nks) cs ks)) :
    (armRows l)[i]? = some [iD k, iD op, .l 0 (argRows as), .l 0 (netRows nks), .l 0 (elRows cs), .l 0 (armRows ks)] := by simp [armRows_map, h, Arm.row]

end Go.VM

/- Lists of bytes as rows; small words for reckoning. Conditions: none. -/
namespace Go.VM
set_option linter.unusedSimpArgs false
set_option linter.unusedVariables false

/-- Bytes as rows. -/
def byt (l : List Int) : List (List D) := l.map fun n => [.s (.int .u8 n)]
@[simp] theorem byt_length (l : List Int) : (byt l).length = l.length := by simp [byt]
@[simp] theorem take_byt (l : List Int) : List.take l.length (byt l) = byt l := by rw [← byt_length l, List.take_length]
theorem wrap_succ {i : Nat} (h : i < 2 ^ 62) : IntKind.wrap .i64 ((i : Int) + 1) = ((i + 1 : Nat) : Int) := by
  simp [IntKind.wrap, IntKind.bits]; omega
theorem wrap_id {x : Int} (h1 : -(2 ^ 63) ≤ x) (h2 : x < 2 ^ 63) : IntKind.wrap .i64 x = x := by
  simp [IntKind.wrap, IntKind.bits, IntKind.signed]; omega
abbrev iV (n : Int) : V := .w (.d (.s (.int .i64 n)))
abbrev iW (n : Int) : W := .d (.s (.int .i64 n))
abbrev argX (a : Arg) : V := .agg [iW a.k, iW a.n, iW a.p]

end Go.VM
