/- Ladders as data: operands, contacts, nets, arms. Conditions: none. -/
import Derived.Test.YtcjdokngpmnkjaaGreatDoorVMA
import Derived.Test.YtcjdokngpmnkjaaGreatDoorVM31
import Derived.Test.YtcjdokngpmnkjaaGreatDoorVMC

namespace Go.VM
set_option linter.unusedVariables false
structure Arg where
 k : Int
 n : Int
 p : Int
 deriving DecidableEq
structure El where
 op : Int
 as : List Arg
 deriving DecidableEq
inductive Net where
 | mk (kind op : Int) (as : List Arg) (kids : List Net)
inductive Arm where
 | mk (net : Net) (coils : List El) (kids : List Arm)
abbrev iD (n : Int) : D := .s (.int .i64 n)
def Arg.row (a : Arg) : List D := [iD a.k, iD a.n, iD a.p]
def argRows (l : List Arg) : List (List D) := l.map Arg.row
def El.row (e : El) : List D := [iD e.op, .l 0 (argRows e.as)]
def elRows (l : List El) : List (List D) := l.map El.row
mutual
def Net.row : Net → List D
 | .mk k op as ks => [iD k, iD op, .l 0 (argRows as), .l 0 (netRows ks)]
def netRows : List Net → List (List D)
 | [] => []
 | n :: r => n.row :: netRows r
end
mutual
def Arm.row : Arm → List D
 | .mk (.mk k op as nks) cs ks => [iD k, iD op, .l 0 (argRows as), .l 0 (netRows nks), .l 0 (elRows cs), .l 0 (armRows ks)]
def armRows : List Arm → List (List D)
 | [] => []
 | n :: r => n.row :: armRows r
end
theorem k55 : ∀ l : List Net, netRows l = l.map Net.row
 | [] => by simp [netRows]
 | n :: r => by simp [netRows, k55 r]
theorem k48 : ∀ l : List Arm, armRows l = l.map Arm.row
 | [] => by simp [armRows]
 | n :: r => by simp [armRows, k48 r]
def El.wt (e : El) : Nat := 1 + e.as.length
def elsWt : List El → Nat
 | [] => 0
 | e :: r => e.wt + elsWt r
mutual
def Net.wt : Net → Nat
 | .mk _ _ as ks => 1 + as.length + netsWt ks
def netsWt : List Net → Nat
 | [] => 0
 | n :: r => n.wt + netsWt r
end
mutual
def Arm.wt : Arm → Nat
 | .mk n cs ks => 1 + n.wt + elsWt cs + armsWt ks
def armsWt : List Arm → Nat
 | [] => 0
 | n :: r => n.wt + armsWt r
end
theorem Net.wt_pos (n : Net) : 0 < n.wt := by cases n; simp [Net.wt]; omega
theorem Arm.wt_pos (a : Arm) : 0 < a.wt := by cases a with | mk n cs ks => simp [Arm.wt]; omega
theorem k27 : ∀ l : List Net, l.length ≤ netsWt l
 | [] => by simp [netsWt]
 | n :: r => by have := k27 r; have := n.wt_pos; simp [netsWt]; omega
theorem k19 : ∀ l : List Arm, l.length ≤ armsWt l
 | [] => by simp [armsWt]
 | n :: r => by have := k19 r; have := n.wt_pos; simp [armsWt]; omega
theorem k37 : ∀ l : List El, l.length ≤ elsWt l
 | [] => by simp [elsWt]
 | n :: r => by have := k37 r; simp [elsWt, El.wt]; omega
theorem k38 : ∀ {l : List Net} {n : Net}, n ∈ l → n.wt ≤ netsWt l
 | m :: r, n, h => by
  rcases List.mem_cons.1 h with rfl | h
  · simp [netsWt]
  · have := k38 h; simp [netsWt]; omega
theorem k07 : ∀ {l : List Arm} {n : Arm}, n ∈ l → n.wt ≤ armsWt l
 | m :: r, n, h => by
  rcases List.mem_cons.1 h with rfl | h
  · simp [armsWt]
  · have := k07 h; simp [armsWt]; omega
theorem kd0 : ∀ {l : List El} {n : El}, n ∈ l → n.wt ≤ elsWt l
 | m :: r, n, h => by
  rcases List.mem_cons.1 h with rfl | h
  · simp [elsWt]
  · have := kd0 h; simp [elsWt]; omega
theorem k46 : ∀ l m : List Net, netsWt (l ++ m) = netsWt l + netsWt m
 | [], m => by simp [netsWt]
 | n :: r, m => by simp [netsWt, k46 r m]; omega
theorem k94 : ∀ l m : List Arm, armsWt (l ++ m) = armsWt l + armsWt m
 | [], m => by simp [armsWt]
 | n :: r, m => by simp [armsWt, k94 r m]; omega
theorem k56 : ∀ l m : List El, elsWt (l ++ m) = elsWt l + elsWt m
 | [], m => by simp [elsWt]
 | n :: r, m => by simp [elsWt, k56 r m]; omega
@[simp] theorem kj3 (l : List Arg) : (argRows l).length = l.length := by simp [argRows]
@[simp] theorem k21 (l : List El) : (elRows l).length = l.length := by simp [elRows]
@[simp] theorem k09 (l : List Net) : (netRows l).length = l.length := by simp [k55]
@[simp] theorem k15 (l : List Arm) : (armRows l).length = l.length := by simp [k48]
theorem ka9 {l : List Arg} {i : Nat} {a : Arg} (h : l[i]? = some a) : (argRows l)[i]? = some [iD a.k, iD a.n, iD a.p] := by simp [argRows, h, Arg.row]
theorem k68 {l : List El} {i : Nat} {e : El} (h : l[i]? = some e) : (elRows l)[i]? = some [iD e.op, .l 0 (argRows e.as)] := by simp [elRows, h, El.row]
theorem k31 {l : List Net} {i : Nat} {k op : Int} {as : List Arg} {ks : List Net} (h : l[i]? = some (.mk k op as ks)) : (netRows l)[i]? = some [iD k, iD op, .l 0 (argRows as), .l 0 (netRows ks)] := by simp [k55, h, Net.row]
theorem k18 {l : List Arm} {i : Nat} {k op : Int} {as : List Arg} {nks : List Net} {cs : List El} {ks : List Arm} (h : l[i]? = some (.mk (.mk k op as nks) cs ks)) :
 (armRows l)[i]? = some [iD k, iD op, .l 0 (argRows as), .l 0 (netRows nks), .l 0 (elRows cs), .l 0 (armRows ks)] := by simp [k48, h, Arm.row]
set_option linter.unusedSimpArgs false
def byt (l : List Int) : List (List D) := l.map fun n => [.s (.int .u8 n)]
@[simp] theorem byt_length (l : List Int) : (byt l).length = l.length := by simp [byt]
@[simp] theorem take_byt (l : List Int) : List.take l.length (byt l) = byt l := by rw [← byt_length l, List.take_length]
theorem k04 {i : Nat} (h : i < 2 ^ 62) : IntKind.wrap .i64 ((i : Int) + 1) = ((i + 1 : Nat) : Int) := by
 simp [IntKind.wrap, IntKind.bits]; omega
theorem k29 {x : Int} (h1 : -(2 ^ 63) ≤ x) (h2 : x < 2 ^ 63) : IntKind.wrap .i64 x = x := by
 simp [IntKind.wrap, IntKind.bits, IntKind.signed]; omega
abbrev iV (n : Int) : V := .w (.d (.s (.int .i64 n)))
abbrev iW (n : Int) : W := .d (.s (.int .i64 n))
abbrev bW (st : Nat) (l : List Int) : W := .d (.l st (byt l))
abbrev argX (a : Arg) : V := .agg [iW a.k, iW a.n, iW a.p]
end Go.VM

/- The value machine: data of a type, opened. Conditions: none. -/
namespace Go.VM
set_option linter.unusedSimpArgs false
set_option linter.unusedVariables false
section
variable {P : Program} {n : Nat} {t e : TypeId} {ds : List D}
theorem tyd_bool (hu : P.underlying t = some .bool) (h : TyD P n t ds) : ∃ b, ds = [.s (.bool b)] := by
  cases n with
  | zero => exact absurd h (by simp [TyD])
  | succ n => unfold TyD at h; rw [hu] at h; exact h
theorem kK0 {k : IntKind} (hu : P.underlying t = some (.int k)) (h : TyD P n t ds) : ∃ m, ds = [.s (.int k m)] ∧ (Lit.int k m).wf = true := by
  cases n with
  | zero => exact absurd h (by simp [TyD])
  | succ n => unfold TyD at h; rw [hu] at h; exact h
theorem tyd_i64 (hu : P.underlying t = some (.int .i64)) (h : TyD P n t ds) : ∃ m : Int, ds = [.s (.int .i64 m)] ∧ -(2 ^ 63) ≤ m ∧ m < 2 ^ 63 := by
  obtain ⟨m, rfl, hw⟩ := kK0 hu h; refine ⟨m, rfl, ?_⟩
  simp [Lit.wf, IntKind.min, IntKind.max, IntKind.bits, IntKind.signed] at hw; omega
theorem tyd_u8 (hu : P.underlying t = some (.int .u8)) (h : TyD P n t ds) : ∃ m : Int, ds = [.s (.int .u8 m)] ∧ 0 ≤ m ∧ m < 256 := by
  obtain ⟨m, rfl, hw⟩ := kK0 hu h; refine ⟨m, rfl, ?_⟩
  simp [Lit.wf, IntKind.min, IntKind.max, IntKind.bits, IntKind.signed] at hw; omega
theorem tyd_slice (hu : P.underlying t = some (.slice e)) (h : TyD P n t ds) : ∃ rows m, ds = [.l 0 rows] ∧ rows.length ≤ maxLen ∧ ∀ row ∈ rows, row.length = P.cellsOf e ∧ TyD P m e row := by
  cases n with
  | zero => exact absurd h (by simp [TyD])
  | succ n => unfold TyD at h; rw [hu] at h; obtain ⟨rows, h1, h2, h3⟩ := h; exact ⟨rows, n, h1, h2, h3⟩
theorem tyd_struct {fs : Array Field} (hu : P.underlying t = some (.struct fs)) (h : TyD P n t ds) : ∃ m, ds.length = P.cellsOf t ∧ ∀ f ∈ fs.toList, TyD P m f.type ((ds.drop f.offset).take (P.cellsOf f.type)) := by
  cases n with
  | zero => exact absurd h (by simp [TyD])
  | succ n => unfold TyD at h; rw [hu] at h; exact ⟨n, h⟩
theorem kn1 {q : Int → Prop} : ∀ (rows : List (List D)), (∀ row ∈ rows, ∃ m : Int, row = [.s (.int .u8 m)] ∧ q m) → ∃ l : List Int, rows = byt l ∧ ∀ x ∈ l, q x
  | [], _ => ⟨[], rfl, by simp⟩
  | a :: r, h => by
    obtain ⟨m, rfl, hm⟩ := h a (List.mem_cons_self ..); obtain ⟨l, rfl, hl⟩ := kn1 r fun x hx => h x (List.mem_cons_of_mem _ hx)
    exact ⟨m :: l, rfl, by simpa using ⟨hm, hl⟩⟩
theorem tyd_bytes (hu : P.underlying t = some (.slice e)) (he : P.underlying e = some (.int .u8)) (h : TyD P n t ds) : ∃ l : List Int, ds = [.l 0 (byt l)] ∧ l.length < 2 ^ 63 ∧ ∀ x ∈ l, 0 ≤ x ∧ x < 256 := by
  obtain ⟨rows, m, rfl, h1, h2⟩ := tyd_slice hu h; obtain ⟨l, rfl, hl⟩ := kn1 (q := fun x => 0 ≤ x ∧ x < 256) rows fun row hrow => tyd_u8 he (h2 row hrow).2
  refine ⟨l, rfl, ?_, hl⟩
  simp [maxLen] at h1; omega
theorem list5 {α : Type} {l : List α} (h : l.length = 5) : ∃ a b c d e, l = [a, b, c, d, e] := by
  match l, h with
  | [a, b, c, d, e], _ => exact ⟨a, b, c, d, e, rfl⟩
theorem list6 {α : Type} {l : List α} (h : l.length = 6) : ∃ a b c d e f, l = [a, b, c, d, e, f] := by
  match l, h with
  | [a, b, c, d, e, f], _ => exact ⟨a, b, c, d, e, f, rfl⟩
theorem list4 {α : Type} {l : List α} (h : l.length = 4) : ∃ a b c d, l = [a, b, c, d] := by
  match l, h with
  | [a, b, c, d], _ => exact ⟨a, b, c, d, rfl⟩
theorem list2 {α : Type} {l : List α} (h : l.length = 2) : ∃ a b, l = [a, b] := by
  match l, h with
  | [a, b], _ => exact ⟨a, b, rfl⟩
theorem list3 {α : Type} {l : List α} (h : l.length = 3) : ∃ a b c, l = [a, b, c] := by
  match l, h with
  | [a, b, c], _ => exact ⟨a, b, c, rfl⟩
theorem kL5 {t : TypeId} {xs : List V} (h : ArgOk P [t] xs) : ∃ n ds a, TyD P n t ds ∧ agg? P t = some a ∧ xs = [argV a ds] := by
  match xs, h with
  | [x], ⟨⟨n, ds, a, h1, h2, h3⟩, _⟩ => exact ⟨n, ds, a, h1, h2, by rw [h3]⟩
  | _ :: _ :: _, ⟨_, h⟩ => exact absurd h (by simp [ArgOk])
theorem argOk_2 {t u : TypeId} {xs : List V} (h : ArgOk P [t, u] xs) : ∃ n ds a m es b, TyD P n t ds ∧ agg? P t = some a ∧ TyD P m u es ∧ agg? P u = some b ∧ xs = [argV a ds, argV b es] := by
  match xs, h with
  | x :: r, ⟨⟨n, ds, a, h1, h2, h3⟩, h⟩ =>
    obtain ⟨m, es, b, k1, k2, rfl⟩ := kL5 h; exact ⟨n, ds, a, m, es, b, h1, h2, k1, k2, by rw [h3]⟩
theorem argOk_3 {t u v : TypeId} {xs : List V} (h : ArgOk P [t, u, v] xs) : ∃ n ds a m es b q fs c, TyD P n t ds ∧ agg? P t = some a ∧ TyD P m u es ∧ agg? P u = some b ∧ TyD P q v fs ∧ agg? P v = some c ∧ xs = [argV a ds, argV b es, argV c fs] := by
  match xs, h with
  | x :: r, ⟨⟨n, ds, a, h1, h2, h3⟩, h⟩ =>
    obtain ⟨m, es, b, q, fs, c, k1, k2, k3, k4, rfl⟩ := argOk_2 h; exact ⟨n, ds, a, m, es, b, q, fs, c, h1, h2, k1, k2, k3, k4, by rw [h3]⟩
end
end Go.VM

/- Ladders: which operands, contacts, coils, nets and arms are right, and their normal form; in plain words. Conditions: none. -/
namespace Go.VM
set_option linter.unusedVariables false
set_option linter.unusedSimpArgs false
def devSize (k : Int) : Int :=
 if k = 1 then 32 else if k = 2 then 32 else if k = 3 then 64 else if k = 4 then 16 else if k = 5 then 32 else if k = 6 then 5 else if k = 7 then 16 else if k = 8 then 16 else if k = 9 then 32 else if k = 10 then 16 else 0
def Arg.ok (a : Arg) : Bool :=
 if a.k = 11 then decide (-32768 ≤ a.n ∧ a.n ≤ 32767 ∧ a.p = 0)
 else if a.k = 12 then decide (-999999999 ≤ a.n ∧ a.n ≤ 999999999 ∧ 1 ≤ a.p ∧ a.p ≤ 6 ∧ (a.p = 1 ∨ a.n.tmod 10 ≠ 0))
 else if a.k = 13 then decide (0 ≤ a.n ∧ a.n ≤ 3 ∧ a.p = 0)
 else decide (0 ≤ a.n ∧ a.n < devSize a.k ∧ a.p = 0)
def Arg.isK (a : Arg) (l : List Int) : Bool := a.ok && l.contains a.k
def Arg.bit (a : Arg) : Bool := a.isK [1, 2, 3, 4, 6, 7, 8]
def Arg.whole (a : Arg) : Bool := a.isK [7, 8, 9, 11]
def Arg.real (a : Arg) : Bool := a.isK [10, 12, 13]
def arity (op : Int) : Int :=
 if op = 1 ∨ op = 2 ∨ (21 ≤ op ∧ op ≤ 23) ∨ op = 25 then 1 else if 31 ≤ op ∧ op ≤ 35 then 3 else if (3 ≤ op ∧ op ≤ 10) ∨ (24 ≤ op ∧ op ≤ 37) then 2 else 0
def El.contact (e : El) : Bool := match e.as with
 | [a] => decide (e.op = 1 ∨ e.op = 2) && a.bit
 | [a, b] => if e.op = 3 ∨ e.op = 4 then a.bit && b.isK [5] else decide (5 ≤ e.op ∧ e.op ≤ 10) && (a.whole && b.whole || a.real && b.real)
 | _ => false
def Arg.preset (b : Arg) : Bool := b.isK [11] && decide (0 ≤ b.n)
def El.coil (e : El) : Bool := match e.as with
 | [a] => if e.op = 21 then a.isK [2, 3] else if e.op = 22 then a.isK [2, 3, 4] else if e.op = 23 then a.isK [2, 3, 4, 7, 8] else if e.op = 25 then a.isK [4] else false
 | [a, b] => if e.op = 24 then a.isK [2, 3] && b.isK [5] else if 26 ≤ e.op ∧ e.op ≤ 28 then a.isK [7] && b.preset else if e.op = 29 then a.isK [8] && b.preset
  else if e.op = 30 then a.isK [9] && b.whole || a.isK [10] && b.real else if e.op = 36 then a.isK [10] && b.whole else if e.op = 37 then a.isK [9] && b.real else false
 | [a, b, c] => if 31 ≤ e.op ∧ e.op ≤ 34 then a.isK [9] && (b.whole && c.whole) || a.isK [10] && (b.real && c.real) else if e.op = 35 then a.isK [9] && (b.whole && c.whole) else false
 | _ => false
def Net.kind : Net → Int | .mk k _ _ _ => k
def Net.op : Net → Int | .mk _ o _ _ => o
def Net.as : Net → List Arg | .mk _ _ a _ => a
def Net.kids : Net → List Net | .mk _ _ _ ks => ks
mutual
def Net.size : Net → Nat
 | .mk _ _ _ ks => 1 + netsSize ks
def netsSize : List Net → Nat
 | [] => 0
 | n :: r => n.size + netsSize r
end
def Net.none (n : Net) : Bool := decide (n.kind = 0 ∧ n.op = 0 ∧ n.as = [] ∧ n.kids.length = 0)
mutual
def Net.wrong : Net → Int
 | .mk k op as ks => if k = 1 then (if 0 < ks.length then 2 else if El.contact ⟨op, as⟩ then 0 else 3)
  else if ¬ (2 ≤ k ∧ k ≤ 4) ∨ ¬ (op = 0 ∧ as = []) ∨ ks.length = 0 ∨ (k = 4 ∧ 1 < ks.length) then 2 else netsWrong ks
def netsWrong : List Net → Int
 | [] => 0
 | n :: r => if n.wrong ≠ 0 then n.wrong else netsWrong r
end
mutual
theorem Net.wrong_or : ∀ n : Net, n.wrong = 0 ∨ n.wrong = 2 ∨ n.wrong = 3
 | .mk k op as ks => by
  have := kq6 ks; unfold Net.wrong; split
  · split
    · simp
    · split <;> simp
  · split
    · simp
    · exact this
theorem kq6 : ∀ l : List Net, netsWrong l = 0 ∨ netsWrong l = 2 ∨ netsWrong l = 3
 | [] => by simp [netsWrong]
 | n :: r => by
  have h1 := Net.wrong_or n; have h2 := kq6 r; unfold netsWrong; split
  · exact h1
  · exact h2
end
theorem kl8 : ∀ {l : List Net}, netsWrong l = 0 → ∀ n ∈ l, n.wrong = 0
 | [], h, n, hn => by cases hn
 | m :: r, h, n, hn => by
  unfold netsWrong at h; split at h
  · rename_i hne; exact absurd h hne
  · rename_i hz
    rcases List.mem_cons.1 hn with rfl | hn
    · simpa using hz
    · exact kl8 h n hn
theorem kq7 : ∀ {l : List Net}, (∀ n ∈ l, n.wrong = 0) → netsWrong l = 0
 | [], h => by simp [netsWrong]
 | m :: r, h => by
  unfold netsWrong; rw [if_neg (by simp [h m (List.mem_cons_self ..)])]; exact kq7 fun n hn => h n (List.mem_cons_of_mem _ hn)
def Net.open (k : Int) (x : Net) : List Net := if x.kind = k then x.kids else [x]
def netOf (k : Int) (l : List Net) : Net := match l with
 | [x] => x
 | l => .mk k 0 [] l
mutual
def Net.norm : Net → Net
 | .mk k op as ks => if k = 1 then .mk k op as ks else if k = 4 then .mk 4 0 [] ((netsNorm ks).take 1) else netOf k ((netsNorm ks).flatMap (Net.open k))
def netsNorm : List Net → List Net
 | [] => []
 | n :: r => n.norm :: netsNorm r
end
theorem kg5 : ∀ l : List Net, netsNorm l = l.map Net.norm
 | [] => by simp [netsNorm]
 | n :: r => by simp [netsNorm, kg5 r]
/- As a normal form is. -/
mutual
def Net.wn : Net → Bool
 | .mk k op as ks => netsWn k ks && decide (k = 1 ∨ k = 4 ∨ 1 < ks.length)
def netsWn (k : Int) : List Net → Bool
 | [] => true
 | n :: r => !(decide (n.kind = k ∧ k ≠ 4)) && n.wn && netsWn k r
end
theorem kc6 (k : Int) : ∀ l : List Net, netsWn k l = true ↔ ∀ n ∈ l, ¬ (n.kind = k ∧ k ≠ 4) ∧ n.wn = true
 | [] => by simp [netsWn]
 | n :: r => by
  simp only [netsWn, kc6 k r, List.forall_mem_cons, Bool.and_eq_true, Bool.not_eq_true', decide_eq_false_iff_not]
theorem k45 {k op : Int} {as : List Arg} {ks : List Net} (h : Net.wrong (.mk k op as ks) = 0) (hk : k ≠ 1) :
 (k = 2 ∨ k = 3 ∨ k = 4) ∧ op = 0 ∧ as = [] ∧ ks ≠ [] ∧ (k = 4 → ks.length = 1) ∧ ∀ n ∈ ks, n.wrong = 0 := by
 unfold Net.wrong at h; rw [if_neg hk] at h; split at h
 · simp at h
 · rename_i hc
   simp only [not_or, Decidable.not_not] at hc; obtain ⟨h1, h2, h3, h4⟩ := hc; refine ⟨by omega, h2.1, h2.2, fun e => h3 (by simp [e]), fun e => ?_, kl8 h⟩
   have : ¬ 1 < ks.length := fun hl => h4 ⟨e, hl⟩
   omega
theorem kl6 {k : Int} {ks : List Net} (hk : k = 2 ∨ k = 3 ∨ k = 4) (h0 : ks ≠ []) (h1 : k = 4 → ks.length = 1) (h : ∀ n ∈ ks, n.wrong = 0) : Net.wrong (.mk k 0 [] ks) = 0 := by
 unfold Net.wrong; rw [if_neg (by omega), if_neg ?_]
 · exact kq7 h
 · have : ks.length ≠ 0 := fun e => h0 (List.eq_nil_of_length_eq_zero e)
   simp only [not_or, Decidable.not_not]; exact ⟨by omega, by simp, this, fun ⟨e, hl⟩ => by have := h1 e; omega⟩
theorem k71 : ∀ l m : List Net, netsSize (l ++ m) = netsSize l + netsSize m
 | [], m => by simp [netsSize]
 | n :: r, m => by simp [netsSize, k71 r m]; omega
theorem Net.size_eq (n : Net) : n.size = 1 + netsSize n.kids := by cases n; simp [Net.size, Net.kids]
theorem kb6 {k : Int} : ∀ l : List Net, netsWt (l.flatMap (Net.open k)) ≤ netsWt l
 | [] => by simp [netsWt]
 | n :: r => by
  have ih := kb6 (k := k) r; simp only [List.flatMap_cons, k46, netsWt]; have : netsWt (Net.open k n) ≤ n.wt := by
   unfold Net.open; split
   · cases n; simp [Net.kids, Net.wt]
   · simp [netsWt]
  omega
theorem ke8 {k : Int} : ∀ l : List Net, netsSize (l.flatMap (Net.open k)) ≤ netsSize l
 | [] => by simp [netsSize]
 | n :: r => by
  have ih := ke8 (k := k) r; simp only [List.flatMap_cons, k71, netsSize]; have : netsSize (Net.open k n) ≤ n.size := by
   unfold Net.open; split
   · rw [Net.size_eq]; omega
   · simp [netsSize]
  omega
/- What is right stays right in its normal form, which is as a normal form is, and not larger. -/
mutual
theorem ko1 : ∀ n : Net, n.wrong = 0 → n.norm.wrong = 0 ∧ n.norm.wn = true ∧ n.norm.size ≤ n.size ∧ n.norm.wt ≤ n.wt
 | .mk k op as ks, h => by
  by_cases hk : k = 1
  · subst hk
    have hks : ks = [] := by
     unfold Net.wrong at h; rw [if_pos rfl] at h; cases ks with
     | nil => rfl
     | cons => simp at h
    subst hks; have e : Net.norm (.mk 1 op as []) = .mk 1 op as [] := by simp [Net.norm]
    rw [e]; exact ⟨h, by simp [Net.wn, netsWn], Nat.le_refl _, Nat.le_refl _⟩
  · obtain ⟨h1, rfl, rfl, h4, h5, h6⟩ := k45 h hk
    have ih := kr6 ks h6; have hlen : (netsNorm ks).length = ks.length := by simp [kg5]
    by_cases h4' : k = 4
    · subst h4'
      have h1l := h5 rfl; obtain ⟨x, rfl⟩ : ∃ x, ks = [x] := by
       match ks, h1l with
       | [x], _ => exact ⟨x, rfl⟩
      have e : Net.norm (.mk 4 0 [] [x]) = .mk 4 0 [] [x.norm] := by simp [Net.norm, netsNorm]
      obtain ⟨i1, i2, i3⟩ := ih; have j1 := i1 x.norm (by simp [netsNorm]); rw [e]; refine ⟨kl6 (.inr (.inr rfl)) (by simp) (fun _ => rfl) (by simpa using j1.1), ?_, ?_, ?_⟩
      · simp [Net.wn, netsWn, j1.2]
      · simp [Net.size, netsSize, netsNorm] at i2 ⊢; omega
      · simp [Net.wt, netsWt, netsNorm] at i3 ⊢; omega
    · have hk23 : k = 2 ∨ k = 3 := by omega
      have e : Net.norm (.mk k 0 [] ks) = netOf k ((netsNorm ks).flatMap (Net.open k)) := by simp [Net.norm, hk, h4']
      rw [e]; obtain ⟨i1, i2, i3⟩ := ih; have hmem : ∀ x ∈ (netsNorm ks).flatMap (Net.open k), x.wrong = 0 ∧ x.wn = true ∧ x.kind ≠ k := by
       intro x hx0; obtain ⟨y, hy, hx⟩ := List.mem_flatMap.1 hx0; obtain ⟨y1, y2⟩ := i1 y hy; unfold Net.open at hx; split at hx
       · rename_i hyk
         obtain ⟨yk, yo, ya, yks⟩ := y; simp only [Net.kind] at hyk; subst hyk; have hx : x ∈ yks := hx; have hr := (k45 y1 hk).2.2.2.2.2 x hx; simp only [Net.wn, Bool.and_eq_true, kc6] at y2; have := y2.1 x hx; exact ⟨hr, this.2, fun e => this.1 ⟨e, h4'⟩⟩
       · rename_i hyk
         simp only [List.mem_singleton] at hx; subst hx; exact ⟨y1, y2, hyk⟩
      have hne : (netsNorm ks).flatMap (Net.open k) ≠ [] := by
       intro e0; obtain ⟨y, hy⟩ : ∃ y, y ∈ netsNorm ks := by
        cases ks with
        | nil => exact absurd rfl h4
        | cons a r => exact ⟨a.norm, by simp [netsNorm]⟩
       have hy' := List.flatMap_eq_nil_iff.1 e0 y hy; unfold Net.open at hy'; split at hy'
       · rename_i hyk
         obtain ⟨yk, yo, ya, yks⟩ := y; simp only [Net.kind] at hyk; subst hyk; exact (k45 (i1 _ hy).1 hk).2.2.2.1 hy'
       · cases hy'
      have hsz := ke8 (k := k) (netsNorm ks); have hwt := kb6 (k := k) (netsNorm ks); generalize (netsNorm ks).flatMap (Net.open k) = l at hmem hne hsz hwt ⊢
      match l, hne with
      | [x], _ =>
       have := hmem x (by simp); refine ⟨this.1, this.2.1, ?_, ?_⟩
       · simp [netOf, Net.size, netsSize] at hsz i2 ⊢; omega
       · simp [netOf, Net.wt, netsWt] at hwt i3 ⊢; omega
      | x :: y :: r, _ =>
       refine ⟨kl6 (by omega) (by simp) (fun e => absurd e h4') (fun n hn => (hmem n hn).1), ?_, ?_, ?_⟩
       · show Net.wn (.mk k 0 [] (x :: y :: r)) = true
         simp only [Net.wn, Bool.and_eq_true, kc6]; exact ⟨fun n hn => ⟨fun e => (hmem n hn).2.2 e.1, (hmem n hn).2.1⟩, by simp⟩
       · show Net.size (.mk k 0 [] (x :: y :: r)) ≤ _
         simp only [Net.size]; omega
       · show Net.wt (.mk k 0 [] (x :: y :: r)) ≤ _
         simp only [Net.wt, List.length_nil]; omega
theorem kr6 : ∀ l : List Net, (∀ n ∈ l, n.wrong = 0) → (∀ x ∈ netsNorm l, x.wrong = 0 ∧ x.wn = true) ∧ netsSize (netsNorm l) ≤ netsSize l ∧ netsWt (netsNorm l) ≤ netsWt l
 | [], h => ⟨by simp [netsNorm], by simp [netsNorm], by simp [netsNorm]⟩
 | n :: r, h => by
  have h1 := ko1 n (h n (List.mem_cons_self ..)); have h2 := kr6 r fun m hm => h m (List.mem_cons_of_mem _ hm)
  refine ⟨fun x hx => ?_, ?_, ?_⟩
  · simp only [netsNorm, List.mem_cons] at hx
    rcases hx with rfl | hx
    · exact ⟨h1.1, h1.2.1⟩
    · exact h2.1 x hx
  · simp only [netsNorm, netsSize]; have := h2.2.1; omega
  · simp only [netsNorm, netsWt]; have := h2.2.2; omega
end
/- What is right and as a normal form is, is its own normal form. -/
mutual
theorem kD7 : ∀ n : Net, n.wrong = 0 → n.wn = true → n.norm = n
 | .mk k op as ks, h, hw => by
  by_cases hk : k = 1
  · simp [Net.norm, hk]
  · obtain ⟨h1, rfl, rfl, h4, h5, h6⟩ := k45 h hk
    simp only [Net.wn, Bool.and_eq_true, kc6] at hw; have ih := kx2 ks h6 fun n hn => (hw.1 n hn).2
    by_cases h4' : k = 4
    · subst h4'
      have h1l := h5 rfl; rw [Net.norm, ih, if_neg (by omega), if_pos rfl, List.take_of_length_le (by omega)]
    · simp only [Net.norm, ih]
      rw [if_neg hk, if_neg h4']; have e : ks.flatMap (Net.open k) = ks := by
       have : ∀ l : List Net, (∀ n ∈ l, n.kind ≠ k) → l.flatMap (Net.open k) = l := by
        intro l
        induction l with
        | nil => intro _; rfl
        | cons a r ihr =>
         intro hl; simp only [List.flatMap_cons, Net.open, if_neg (hl a (List.mem_cons_self ..))]; rw [ihr fun n hn => hl n (List.mem_cons_of_mem _ hn)]
         rfl
       exact this ks fun n hn e => (hw.1 n hn).1 ⟨e, h4'⟩
      rw [e]; have hlen : 1 < ks.length := by simpa [hk, h4'] using hw.2
      match ks, hlen with
      | x :: y :: r, _ => rfl
theorem kx2 : ∀ l : List Net, (∀ n ∈ l, n.wrong = 0) → (∀ n ∈ l, n.wn = true) → netsNorm l = l
 | [], _, _ => by simp [netsNorm]
 | n :: r, h, hw => by
  rw [netsNorm, kD7 n (h n (List.mem_cons_self ..)) (hw n (List.mem_cons_self ..)), kx2 r (fun m hm => h m (List.mem_cons_of_mem _ hm)) fun m hm => hw m (List.mem_cons_of_mem _ hm)]
end
end Go.VM
