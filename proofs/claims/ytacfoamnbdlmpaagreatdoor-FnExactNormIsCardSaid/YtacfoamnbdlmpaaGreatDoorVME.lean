/- The value machine: words for reckoning a run. Conditions: none. -/
import Derived.Test.YtacfoamnbdlmpaaGreatDoorVMC
import Derived.OpenVars
import Derived.LaidMore
import Derived.MakeChecks
import Derived.Stop.Joined

namespace Go.VM
set_option linter.unusedVariables false

@[simp] theorem upd_at {α : Type} (f : Nat → α) (n : Nat) (x : α) (m : Nat) : upd f n x m = if m = n then x else f m := (rfl)

/-- What stands behind a list waits until the list is written out. -/
def withL {α : Type} (l : List Nat) (k : List Nat → α) : α := k l
@[congr] theorem withL_congr {α : Type} {l l' : List Nat} {k : List Nat → α} (h : l = l') : withL l k = withL l' k := by rw [h]
@[simp] theorem withL_nil {α : Type} (k : List Nat → α) : withL [] k = k [] := (rfl)
@[simp] theorem withL_1 {α : Type} (k : List Nat → α) (a : Nat) : withL [a] k = k [a] := (rfl)
@[simp] theorem withL_2 {α : Type} (k : List Nat → α) (a b : Nat) : withL [a, b] k = k [a, b] := (rfl)
@[simp] theorem withL_3 {α : Type} (k : List Nat → α) (a b c : Nat) : withL [a, b, c] k = k [a, b, c] := (rfl)
@[simp] theorem withL_4 {α : Type} (k : List Nat → α) (a b c d : Nat) : withL [a, b, c, d] k = k [a, b, c, d] := (rfl)
@[simp] theorem withL_5 {α : Type} (k : List Nat → α) (a b c d e : Nat) : withL [a, b, c, d, e] k = k [a, b, c, d, e] := (rfl)
@[simp] theorem withL_6 {α : Type} (k : List Nat → α) (a b c d e f : Nat) : withL [a, b, c, d, e, f] k = k [a, b, c, d, e, f] := (rfl)

def nth {α : Type} (d : α) : List α → Nat → α
  | [], _ => d
  | a :: _, 0 => a
  | _ :: l, n + 1 => nth d l n
theorem nth_eq {α : Type} (d : α) : ∀ (l : List α) (n : Nat), l.getD n d = nth d l n
  | [], n => by simp [nth]
  | a :: l, 0 => by simp [nth]
  | a :: l, n + 1 => by
    have := nth_eq d l n
    simp only [nth, ← this]
    simp
/-- What stands behind an answer waits until the answer is there. -/
def behindCall (z : Fz) (g : Nat) (ns : List Nat) (r : Res) : Option Eff :=
  if r.bs.length = ns.length ∧ r.news.length ≤ 64 ∧ closed z.H ns = true then
    let σ : Nat → Nat := fun k => if k < ns.length then nth 0 ns k else g + (k - ns.length)
    some ⟨r.v.ren σ, updL z.H ((ns.zip (r.bs.map (Box.ren σ))) ++ ((List.range r.news.length).map (g + ·)).zip (r.news.map (Box.ren σ))),
      z.touch ++ ns, !(z.touch ++ ns).isEmpty⟩
  else none

theorem callV_eq (call : CallT) (M : Nat → Mode) (stamp : Bool) (H : Nat → Box) (g : Nat) (s : Sup) (f : Nat) (args : List V) :
    callV call M stamp H g s f args = match (if (M f).inout then some (args, (⟨H, 0, []⟩ : Fz)) else frzA stamp (fun k => s (2 * k)) ⟨H, 0, []⟩ args) with
      | none => none
      | some (args, z) => withL (reach z.H 4 (addAll [] (args.flatMap V.names))) fun ns =>
        match call f (args.map (V.ren (idx ns))) (ns.map fun b => (z.H b).ren (idx ns)) (fun k => s (2 * k + 1)) with
        | none => none
        | some r => behindCall z g ns r := by
  unfold behindCall
  rw [show nth 0 = fun l k => l.getD k 0 from funext fun l => funext fun k => (nth_eq 0 l k).symm]
  rfl

theorem finish_eq (stamp move : Bool) (m : Nat) (st : St) (res : List (Bool × List W)) :
    finish stamp move m st res = match (if move then some (res, (⟨st.H, 0, []⟩ : Fz)) else frzP stamp st.s ⟨st.H, 0, []⟩ res) with
      | none => none
      | some (res, z) => withL (reach z.H 4 (addAll (List.range m) ((res.flatMap fun p => wnames p.2) ++ (List.range m).flatMap fun b => (z.H b).names))) fun ns =>
        if m ≤ ns.length ∧ ns.take m = List.range m ∧ closed z.H ns = true then
          some ⟨(one? res).ren (idx ns), (List.range m).map (fun b => (z.H b).ren (idx ns)), (ns.drop m).map fun b => (z.H b).ren (idx ns)⟩
        else none := (rfl)

theorem runF_eq (call : CallT) (M : Nat → Mode) (G : Nat → Option (List D)) (n : Nat) (f : Nat) (F : Fn) (args : List V) (bs : List Box) (s : Sup) :
    runF call M G n f F args bs s = if args.length ≤ F.ntmps then
    match execC call M G (M f).stamp F.ntmps n F.code ⟨nth (.tup []) args, nth .dead bs, bs.length, s⟩ with
    | some (.ret, st) | some (.normal, st) => match resV st.τ st.H F.res with
      | some res => finish (M f).stamp (M f).move bs.length st res
      | none => none
    | _ => none
  else none := by
  unfold runF
  rw [show (fun t => args.getD t (.tup [])) = nth (.tup []) args from funext (nth_eq _ _), show (fun b => bs.getD b .dead) = nth .dead bs from funext (nth_eq _ _)]
  rfl

/-- A loop, by a number that every round lowers. -/
theorem iter_rule {body : St → Option (Ex × St)} {Q : Ex → St → Prop} (I : Nat → St → Prop)
    (h : ∀ k st, I k st → ∃ e st', body st = some (e, st') ∧ (e = .normal → ∃ k', k' < k ∧ I k' st') ∧ (e ≠ .normal → Q e st')) :
    ∀ n k st, k < n → I k st → ∃ e st', iter body n st = some (e, st') ∧ e ≠ .normal ∧ Q e st'
  | 0, k, st, hk, hI => by omega
  | n + 1, k, st, hk, hI => by
    obtain ⟨e, st', h1, h2, h3⟩ := h k st hI
    cases e with
    | normal =>
      obtain ⟨k', hk', hI'⟩ := h2 rfl
      obtain ⟨e, st'', m1, m2, m3⟩ := iter_rule I h n k' st' (by omega) hI'
      exact ⟨e, st'', by simp only [iter, h1]; exact m1, m2, m3⟩
    | exit id => exact ⟨.exit id, st', by simp only [iter, h1], by simp, h3 (by simp)⟩
    | ret => exact ⟨.ret, st', by simp only [iter, h1], by simp, h3 (by simp)⟩


/-! ### what follows waits until what comes first is reckoned -/
def bnd {α β : Type} (x : Option α) (k : α → Option β) : Option β := match x with | some a => k a | none => none
@[congr] theorem bnd_congr {α β : Type} {x x' : Option α} {k : α → Option β} (h : x = x') : bnd x k = bnd x' k := by rw [h]
@[simp] theorem bnd_some {α β : Type} (a : α) (k : α → Option β) : bnd (some a) k = k a := (rfl)
@[simp] theorem bnd_none {α β : Type} (k : α → Option β) : bnd none k = none := (rfl)
def andThen (x : Option (Ex × St)) (k : St → Option (Ex × St)) : Option (Ex × St) := match x with
  | some (.normal, st) => k st
  | r => r
@[congr] theorem andThen_congr {x x' : Option (Ex × St)} {k : St → Option (Ex × St)} (h : x = x') : andThen x k = andThen x' k := by rw [h]
@[simp] theorem andThen_normal (st : St) (k : St → Option (Ex × St)) : andThen (some (.normal, st)) k = k st := (rfl)
@[simp] theorem andThen_exit (i : Nat) (st : St) (k : St → Option (Ex × St)) : andThen (some (.exit i, st)) k = some (.exit i, st) := (rfl)
@[simp] theorem andThen_ret (st : St) (k : St → Option (Ex × St)) : andThen (some (.ret, st)) k = some (.ret, st) := (rfl)
@[simp] theorem andThen_none (k : St → Option (Ex × St)) : andThen none k = none := (rfl)
def inBlock (id : Nat) (x : Option (Ex × St)) : Option (Ex × St) := match x with
  | some (.exit id', st') => if id' = id then some (.normal, st') else some (.exit id', st')
  | r => r
@[simp] theorem inBlock_normal (id : Nat) (st : St) : inBlock id (some (.normal, st)) = some (.normal, st) := (rfl)
@[simp] theorem inBlock_ret (id : Nat) (st : St) : inBlock id (some (.ret, st)) = some (.ret, st) := (rfl)
@[simp] theorem inBlock_exit (id i : Nat) (st : St) : inBlock id (some (.exit i, st)) = if i = id then some (.normal, st) else some (.exit i, st) := (rfl)
def behindF (x : Option (Ex × St)) (k : St → Option Res) : Option Res := match x with
  | some (.ret, st) => k st
  | some (.normal, st) => k st
  | _ => none
@[congr] theorem behindF_congr {x x' : Option (Ex × St)} {k : St → Option Res} (h : x = x') : behindF x k = behindF x' k := by rw [h]
@[simp] theorem behindF_ret (st : St) (k : St → Option Res) : behindF (some (.ret, st)) k = k st := (rfl)
@[simp] theorem behindF_normal (st : St) (k : St → Option Res) : behindF (some (.normal, st)) k = k st := (rfl)
def onBool (v : V) (a b : Option (Ex × St)) : Option (Ex × St) := match v with
  | .w (.d (.s (.bool t))) => if t then a else b
  | _ => none
@[congr] theorem onBool_congr {v v' : V} {a b : Option (Ex × St)} (h : v = v') : onBool v a b = onBool v' a b := by rw [h]
@[simp] theorem onBool_if (t : Bool) (a b : Option (Ex × St)) : onBool (.w (.d (.s (.bool t)))) a b = if t = true then a else b := (rfl)


def bndE {β : Type} (x : Option Eff) (k : V → (Nat → Box) → List Nat → Bool → Option β) : Option β := match x with | some e => k e.v e.H e.touch e.wr | none => none
@[congr] theorem bndE_congr {β : Type} {x x' : Option Eff} {k : V → (Nat → Box) → List Nat → Bool → Option β} (h : x = x') : bndE x k = bndE x' k := by rw [h]
@[simp] theorem bndE_some {β : Type} (v : V) (H : Nat → Box) (t : List Nat) (w : Bool) (k : V → (Nat → Box) → List Nat → Bool → Option β) : bndE (some ⟨v, H, t, w⟩) k = k v H t w := (rfl)
@[simp] theorem bndE_none {β : Type} (k : V → (Nat → Box) → List Nat → Bool → Option β) : bndE none k = none := (rfl)
def bnd2 {α β γ : Type} (x : Option (α × β)) (k : α → β → Option γ) : Option γ := match x with | some p => k p.1 p.2 | none => none
@[congr] theorem bnd2_congr {α β γ : Type} {x x' : Option (α × β)} {k : α → β → Option γ} (h : x = x') : bnd2 x k = bnd2 x' k := by rw [h]
@[simp] theorem bnd2_some {α β γ : Type} (a : α) (b : β) (k : α → β → Option γ) : bnd2 (some (a, b)) k = k a b := (rfl)
@[simp] theorem bnd2_none {α β γ : Type} (k : α → β → Option γ) : bnd2 none k = none := (rfl)
def bnd3 {α β γ δ : Type} (x : Option (α × β × γ)) (k : α → β → γ → Option δ) : Option δ := match x with | some p => k p.1 p.2.1 p.2.2 | none => none
@[congr] theorem bnd3_congr {α β γ δ : Type} {x x' : Option (α × β × γ)} {k : α → β → γ → Option δ} (h : x = x') : bnd3 x k = bnd3 x' k := by rw [h]
@[simp] theorem bnd3_some {α β γ δ : Type} (a : α) (b : β) (c : γ) (k : α → β → γ → Option δ) : bnd3 (some (a, b, c)) k = k a b c := (rfl)
@[simp] theorem bnd3_none {α β γ δ : Type} (k : α → β → γ → Option δ) : bnd3 none k = none := (rfl)
def guardE (v : V) (want : Bool) (x : Option Eff) (H : Nat → Box) : Option Eff := match v with
  | .w (.d (.s (.bool b))) => if b = want then x else some ⟨.tup [], H, [], false⟩
  | .tup _ => some ⟨.tup [], H, [], false⟩
  | _ => none
@[congr] theorem guardE_congr {v v' : V} {want : Bool} {x : Option Eff} {H : Nat → Box} (h : v = v') : guardE v want x H = guardE v' want x H := by rw [h]
@[simp] theorem guardE_bool (b want : Bool) (x : Option Eff) (H : Nat → Box) : guardE (.w (.d (.s (.bool b)))) want x H = if b = want then x else some ⟨.tup [], H, [], false⟩ := (rfl)
@[simp] theorem guardE_tup (l : List (Bool × List W)) (want : Bool) (x : Option Eff) (H : Nat → Box) : guardE (.tup l) want x H = some ⟨.tup [], H, [], false⟩ := (rfl)

/-! the operations, each by its arguments' shapes -/
def pickF (H : Nat → Box) (c a b : V) : Option Eff := ret0 H (c.bool?.map fun t => if t then a else b)
@[simp] theorem pickF_bool (H : Nat → Box) (t : Bool) (a b : V) : pickF H (.w (.d (.s (.bool t)))) a b = some ⟨if t = true then a else b, H, [], false⟩ := (rfl)
def boxF (H : Nat → Box) (g sz : Nat) (v : V) : Option Eff := match v.cells? with
  | some cs => if cs.length = sz then some ⟨.w (.ptr g 0), upd H g (.cells cs), [], false⟩ else none
  | none => none
@[simp] theorem boxF_agg (H : Nat → Box) (g sz : Nat) (cs : List W) : boxF H g sz (.agg cs) = if cs.length = sz then some ⟨.w (.ptr g 0), upd H g (.cells cs), [], false⟩ else none := (rfl)
@[simp] theorem boxF_w (H : Nat → Box) (g sz : Nat) (x : W) : boxF H g sz (.w x) = if 1 = sz then some ⟨.w (.ptr g 0), upd H g (.cells [x]), [], false⟩ else none := (rfl)
@[simp] theorem setParts_nil (cells : List W) : setParts cells [] = some cells := (rfl)
@[simp] theorem setParts_w (cells : List W) (off sz : Nat) (x : W) (r : List (Nat × Nat × V)) : setParts cells ((off, sz, .w x) :: r) = if 1 = sz ∧ off + sz ≤ cells.length then setParts (splice cells off [x]) r else none := (rfl)
@[simp] theorem setParts_agg (cells : List W) (off sz : Nat) (cs : List W) (r : List (Nat × Nat × V)) : setParts cells ((off, sz, .agg cs) :: r) = if cs.length = sz ∧ off + sz ≤ cells.length then setParts (splice cells off cs) r else none := (rfl)
@[simp] theorem rowParts_nil (stamp : Bool) (s : Sup) (sz : Nat) (rows : List (List D)) (z : Fz) : rowParts stamp s sz rows z [] = some (rows, z) := (rfl)
def rowPart (stamp : Bool) (s : Sup) (sz : Nat) (rows : List (List D)) (i : Nat) (r : List (Nat × V)) (l : List W) (z' : Fz) : Option (List (List D) × Fz) :=
  bnd (datas? l) fun ds => if ds.length = sz ∧ i < rows.length then rowParts stamp s sz (rows.set i ds) z' r else none
theorem rowParts_cells (stamp : Bool) (s : Sup) (sz : Nat) (rows : List (List D)) (z : Fz) (i : Nat) (v : V) (cs : List W) (h : v.cells? = some cs) (r : List (Nat × V)) :
    rowParts stamp s sz rows z ((i, v) :: r) = bnd2 (frzL stamp s z cs) (rowPart stamp s sz rows i r) := by
  rw [rowParts, h]
  simp only
  cases frzL stamp s z cs with
  | none => rfl
  | some p =>
    obtain ⟨l, z'⟩ := p
    show _ = rowPart stamp s sz rows i r l z'
    unfold rowPart
    simp only
    cases datas? l <;> rfl
@[simp] theorem rowParts_w (stamp : Bool) (s : Sup) (sz : Nat) (rows : List (List D)) (z : Fz) (i : Nat) (x : W) (r : List (Nat × V)) :
    rowParts stamp s sz rows z ((i, .w x) :: r) = bnd2 (frzL stamp s z [x]) (rowPart stamp s sz rows i r) := rowParts_cells stamp s sz rows z i _ _ rfl r
@[simp] theorem rowParts_agg (stamp : Bool) (s : Sup) (sz : Nat) (rows : List (List D)) (z : Fz) (i : Nat) (cs : List W) (r : List (Nat × V)) :
    rowParts stamp s sz rows z ((i, .agg cs) :: r) = bnd2 (frzL stamp s z cs) (rowPart stamp s sz rows i r) := rowParts_cells stamp s sz rows z i _ _ rfl r
attribute [simp] rowPart

def ofCells (H : Nat → Box) (t : List Nat) (x : Option V) : Option Eff := match x with | some v => some ⟨v, H, t, false⟩ | none => none
@[simp] theorem ofCells_some (H : Nat → Box) (t : List Nat) (v : V) : ofCells H t (some v) = some ⟨v, H, t, false⟩ := (rfl)
def ldB (H : Nat → Box) (agg : Bool) (b off sz : Nat) (x : Box) : Option Eff := match x with
  | .cells cs => ofCells H [b] ((part? cs off sz).bind (mkV agg))
  | _ => none
@[simp] theorem ldB_cells (H : Nat → Box) (agg : Bool) (b off sz : Nat) (cs : List W) : ldB H agg b off sz (.cells cs) = ofCells H [b] ((part? cs off sz).bind (mkV agg)) := (rfl)
def ldRow (H : Nat → Box) (agg : Bool) (b off sz : Nat) (x : Option (List D)) : Option Eff := match x with
  | some row => ofCells H [b] ((part? row off sz).bind (fun l => mkV agg (l.map .d)))
  | none => none
@[simp] theorem ldRow_some (H : Nat → Box) (agg : Bool) (b off sz : Nat) (row : List D) : ldRow H agg b off sz (some row) = ofCells H [b] ((part? row off sz).bind (fun l => mkV agg (l.map .d))) := (rfl)
def ldR (H : Nat → Box) (agg : Bool) (b i off sz : Nat) (x : Box) : Option Eff := match x with
  | .row _ _ rows _ => ldRow H agg b off sz rows[i]?
  | _ => none
@[simp] theorem ldR_row (H : Nat → Box) (agg : Bool) (b i off sz : Nat) (st : Option Nat) (z : Nat) (rows : List (List D)) (ro : Nat) : ldR H agg b i off sz (.row st z rows ro) = ldRow H agg b off sz rows[i]? := (rfl)
def ldF (G : Nat → Option (List D)) (H : Nat → Box) (agg : Bool) (sz : Nat) (v : V) : Option Eff := match v with
    | .w (.ptr b off) => ldB H agg b off sz (H b)
    | .w (.rp b i off) => ldR H agg b i off sz (H b)
    | .w (.lp row off) => ret0 H ((part? row off sz).bind (fun l => mkV agg (l.map .d)))
    | .w (.gp k off) => ret0 H ((G k).bind fun row => (part? row off sz).bind (fun l => mkV agg (l.map .d)))
    | _ => none
@[simp] theorem ldF_ptr (G : Nat → Option (List D)) (H : Nat → Box) (agg : Bool) (sz b off : Nat) : ldF G H agg sz (.w (.ptr b off)) = ldB H agg b off sz (H b) := (rfl)
@[simp] theorem ldF_rp (G : Nat → Option (List D)) (H : Nat → Box) (agg : Bool) (sz b i off : Nat) : ldF G H agg sz (.w (.rp b i off)) = ldR H agg b i off sz (H b) := (rfl)
@[simp] theorem ldF_lp (G : Nat → Option (List D)) (H : Nat → Box) (agg : Bool) (sz off : Nat) (row : List D) : ldF G H agg sz (.w (.lp row off)) = ret0 H ((part? row off sz).bind (fun l => mkV agg (l.map .d))) := (rfl)
@[simp] theorem ldF_gp (G : Nat → Option (List D)) (H : Nat → Box) (agg : Bool) (sz k off : Nat) : ldF G H agg sz (.w (.gp k off)) = ret0 H ((G k).bind fun row => (part? row off sz).bind (fun l => mkV agg (l.map .d))) := (rfl)

def stB (H : Nat → Box) (b off sz : Nat) (cs : List W) (x : Box) : Option Eff := match x with
  | .cells old => if off + sz ≤ old.length then some ⟨.tup [], upd H b (.cells (splice old off cs)), [b], true⟩ else none
  | _ => none
@[simp] theorem stB_cells (H : Nat → Box) (b off sz : Nat) (cs old : List W) : stB H b off sz cs (.cells old) = if off + sz ≤ old.length then some ⟨.tup [], upd H b (.cells (splice old off cs)), [b], true⟩ else none := (rfl)
def stR2 (b i off sz : Nat) (ds : List D) (z : Fz) (x : Box) : Option Eff := match x with
  | .row st sz' rows ro => match rows[i]? with
    | some row => if ro ≤ i ∧ off + sz ≤ row.length then
        some ⟨.tup [], upd z.H b (.row st sz' (rows.set i (splice row off ds)) ro), z.touch ++ [b], true⟩ else none
    | none => none
  | _ => none
def stR3 (b i off sz sz' : Nat) (ds : List D) (z : Fz) (st : Option Nat) (rows : List (List D)) (ro : Nat) (x : Option (List D)) : Option Eff := match x with
  | some row => if ro ≤ i ∧ off + sz ≤ row.length then
        some ⟨.tup [], upd z.H b (.row st sz' (rows.set i (splice row off ds)) ro), z.touch ++ [b], true⟩ else none
  | none => none
@[simp] theorem stR3_some (b i off sz sz' : Nat) (ds : List D) (z : Fz) (st : Option Nat) (rows : List (List D)) (ro : Nat) (row : List D) : stR3 b i off sz sz' ds z st rows ro (some row) = if ro ≤ i ∧ off + sz ≤ row.length then
        some ⟨.tup [], upd z.H b (.row st sz' (rows.set i (splice row off ds)) ro), z.touch ++ [b], true⟩ else none := (rfl)
@[simp] theorem stR2_row (b i off sz : Nat) (ds : List D) (z : Fz) (st : Option Nat) (sz' : Nat) (rows : List (List D)) (ro : Nat) : stR2 b i off sz ds z (.row st sz' rows ro) = stR3 b i off sz sz' ds z st rows ro rows[i]? := by
  unfold stR2 stR3; simp only
def stR (b i off sz : Nat) (l : List W) (z : Fz) : Option Eff := bnd (datas? l) fun ds => stR2 b i off sz ds z (z.H b)
def stF (stamp : Bool) (s : Sup) (H : Nat → Box) (sz : Nat) (v : V) (cs : List W) : Option Eff := match v with
      | .w (.ptr b off) => stB H b off sz cs (H b)
      | .w (.rp b i off) => bnd2 (frzL stamp s ⟨H, 0, []⟩ cs) (stR b i off sz)
      | _ => none
@[simp] theorem stF_ptr (stamp : Bool) (s : Sup) (H : Nat → Box) (sz b off : Nat) (cs : List W) : stF stamp s H sz (.w (.ptr b off)) cs = stB H b off sz cs (H b) := (rfl)
@[simp] theorem stF_rp (stamp : Bool) (s : Sup) (H : Nat → Box) (sz b i off : Nat) (cs : List W) : stF stamp s H sz (.w (.rp b i off)) cs = bnd2 (frzL stamp s ⟨H, 0, []⟩ cs) (stR b i off sz) := (rfl)
attribute [simp] stR
def stV (stamp : Bool) (s : Sup) (H : Nat → Box) (sz : Nat) (v y : V) : Option Eff := match y.cells? with
  | some cs => if cs.length = sz then stF stamp s H sz v cs else none
  | none => none
@[simp] theorem stV_w (stamp : Bool) (s : Sup) (H : Nat → Box) (sz : Nat) (v : V) (x : W) : stV stamp s H sz v (.w x) = if 1 = sz then stF stamp s H sz v [x] else none := (rfl)
@[simp] theorem stV_agg (stamp : Bool) (s : Sup) (H : Nat → Box) (sz : Nat) (v : V) (cs : List W) : stV stamp s H sz v (.agg cs) = if cs.length = sz then stF stamp s H sz v cs else none := (rfl)

def ncF (H : Nat → Box) (v : V) : Option Eff := match v with
    | .w (.ptr b off) => ret0 H (some (.w (.ptr b off)))
    | .w (.rp b i off) => ret0 H (some (.w (.rp b i off)))
    | .w (.lp r off) => ret0 H (some (.w (.lp r off)))
    | .w (.gp k off) => ret0 H (some (.w (.gp k off)))
    | .w (.fn f cs) => ret0 H (some (.w (.fn f cs)))
    | _ => none
@[simp] theorem ncF_ptr (H : Nat → Box) (b off : Nat) : ncF H (.w (.ptr b off)) = some ⟨.w (.ptr b off), H, [], false⟩ := (rfl)
@[simp] theorem ncF_rp (H : Nat → Box) (b i off : Nat) : ncF H (.w (.rp b i off)) = some ⟨.w (.rp b i off), H, [], false⟩ := (rfl)
@[simp] theorem ncF_lp (H : Nat → Box) (r : List D) (off : Nat) : ncF H (.w (.lp r off)) = some ⟨.w (.lp r off), H, [], false⟩ := (rfl)
@[simp] theorem ncF_gp (H : Nat → Box) (k off : Nat) : ncF H (.w (.gp k off)) = some ⟨.w (.gp k off), H, [], false⟩ := (rfl)
@[simp] theorem ncF_fn (H : Nat → Box) (f : Nat) (cs : List Cap) : ncF H (.w (.fn f cs)) = some ⟨.w (.fn f cs), H, [], false⟩ := (rfl)
def faF (H : Nat → Box) (off : Nat) (v : V) : Option Eff := match v with
    | .w (.ptr b o) => ret0 H (some (.w (.ptr b (o + off))))
    | .w (.rp b i o) => ret0 H (some (.w (.rp b i (o + off))))
    | .w (.lp r o) => ret0 H (some (.w (.lp r (o + off))))
    | .w (.gp k o) => ret0 H (some (.w (.gp k (o + off))))
    | _ => none
@[simp] theorem faF_ptr (H : Nat → Box) (off b o : Nat) : faF H off (.w (.ptr b o)) = some ⟨.w (.ptr b (o + off)), H, [], false⟩ := (rfl)
@[simp] theorem faF_rp (H : Nat → Box) (off b i o : Nat) : faF H off (.w (.rp b i o)) = some ⟨.w (.rp b i (o + off)), H, [], false⟩ := (rfl)
@[simp] theorem faF_lp (H : Nat → Box) (off o : Nat) (r : List D) : faF H off (.w (.lp r o)) = some ⟨.w (.lp r (o + off)), H, [], false⟩ := (rfl)
@[simp] theorem faF_gp (H : Nat → Box) (off k o : Nat) : faF H off (.w (.gp k o)) = some ⟨.w (.gp k (o + off)), H, [], false⟩ := (rfl)
def fldF (H : Nat → Box) (agg : Bool) (off sz : Nat) (v : V) : Option Eff := match v with
    | .agg cs => ret0 H ((part? cs off sz).bind (mkV agg))
    | _ => none
@[simp] theorem fldF_agg (H : Nat → Box) (agg : Bool) (off sz : Nat) (cs : List W) : fldF H agg off sz (.agg cs) = ret0 H ((part? cs off sz).bind (mkV agg)) := (rfl)

theorem binV_int (op : BinOp) (k k' : IntKind) (a b : Int) : binV op .one (.w (.d (.s (.int k a)))) (.w (.d (.s (.int k' b)))) = (binS op (.int k a) (.int k' b)).map sV := (rfl)
theorem binV_str (op : BinOp) (a b : ByteArray) : binV op .one (.w (.d (.s (.string a)))) (.w (.d (.s (.string b)))) = (binS op (.string a) (.string b)).map sV := (rfl)
theorem binV_beq (a b : Bool) : binV .eql .b (.w (.d (.s (.bool a)))) (.w (.d (.s (.bool b)))) = some (sV (.bool (a == b))) := (rfl)
theorem binV_bne (a b : Bool) : binV .neq .b (.w (.d (.s (.bool a)))) (.w (.d (.s (.bool b)))) = some (sV (.bool (!(a == b)))) := (rfl)
def binP (op : BinOp) (a b : Option Bool) : Option V := match a, b with
  | some a, some true => match op with
        | .eql => some (sV (.bool a))
        | .neq => some (sV (.bool !a))
        | _ => none
  | _, _ => none
theorem binV_p (op : BinOp) (p q : W) : binV op .p (.w p) (.w q) = binP op (ptrNil? p) (ptrNil? q) := (rfl)
theorem binP_eq (a : Bool) : binP .eql (some a) (some true) = some (sV (.bool a)) := (rfl)
theorem binP_ne (a : Bool) : binP .neq (some a) (some true) = some (sV (.bool !a)) := (rfl)
def binL (op : BinOp) (a : Option Bool) : Option V := match a with
  | some b => match op with
        | .eql => some (sV (.bool b))
        | .neq => some (sV (.bool !b))
        | _ => none
  | none => none
theorem binV_sl (op : BinOp) (p : W) : binV op .sl (.w p) (.w .nil) = binL op (isNil? p) := by
  show (match isNil? p with | some b => _ | none => none) = _
  unfold binL
  rfl
theorem binV_agg (op : BinOp) (ks : List Nat) (p q : List W) : binV op (.agg ks) (.agg p) (.agg q) = binL op (eqCells ks p q) := by
  show (match eqCells ks p q with | some b => _ | none => none) = _
  unfold binL
  rfl
theorem binL_eq (a : Bool) : binL .eql (some a) = some (sV (.bool a)) := (rfl)
theorem binL_ne (a : Bool) : binL .neq (some a) = some (sV (.bool !a)) := (rfl)
attribute [simp] binV_int binV_str binV_beq binV_bne binV_p binP_eq binP_ne binV_sl binV_agg binL_eq binL_ne
@[simp] theorem unV_neg (k : IntKind) (n : Int) : unV .neg (.w (.d (.s (.int k n)))) = some (sV (.int k (k.wrap (0 - n)))) := (rfl)
@[simp] theorem unV_not (b : Bool) : unV .not (.w (.d (.s (.bool b)))) = some (sV (.bool !b)) := (rfl)

def iaR (H : Nat → Box) (sz b i : Nat) (ok : Prop) [Decidable ok] (x : Box) : Option Eff := match x with
  | .row _ sz' _ _ => if sz' = sz ∧ ok then some ⟨.w (.rp b i 0), H, [b], false⟩ else none
  | _ => none
@[simp] theorem iaR_row (H : Nat → Box) (sz b i : Nat) (ok : Prop) [Decidable ok] (st : Option Nat) (sz' : Nat) (rows : List (List D)) (ro : Nat) : iaR H sz b i ok (.row st sz' rows ro) = if sz' = sz ∧ ok then some ⟨.w (.rp b i 0), H, [b], false⟩ else none := (rfl)
def iaL (H : Nat → Box) (sz : Nat) (x : Option (List D)) : Option Eff := match x with
  | some row => if row.length = sz then ret0 H (some (.w (.lp row 0))) else none
  | none => none
@[simp] theorem iaL_some (H : Nat → Box) (sz : Nat) (row : List D) : iaL H sz (some row) = if row.length = sz then some ⟨.w (.lp row 0), H, [], false⟩ else none := (rfl)
def iaF (H : Nat → Box) (sz : Nat) (v w : V) : Option Eff := match v, w.int? with
    | .w (.own b off len _), some (_, i) => iaR H sz b (off + i.toNat) (0 ≤ i ∧ i < len) (H b)
    | .w (.d (.l _ rows)), some (_, i) => if 0 ≤ i then iaL H sz rows[i.toNat]? else none
    | .w (.ln _ rows), some (_, i) => if 0 ≤ i then iaL H sz rows[i.toNat]? else none
    | _, _ => none
@[simp] theorem iaF_own (H : Nat → Box) (sz b off len : Nat) (c : Option Nat) (k : IntKind) (i : Int) : iaF H sz (.w (.own b off len c)) (.w (.d (.s (.int k i)))) = iaR H sz b (off + i.toNat) (0 ≤ i ∧ i < len) (H b) := (rfl)
@[simp] theorem iaF_d (H : Nat → Box) (sz st : Nat) (rows : List (List D)) (k : IntKind) (i : Int) : iaF H sz (.w (.d (.l st rows))) (.w (.d (.s (.int k i)))) = if 0 ≤ i then iaL H sz rows[i.toNat]? else none := (rfl)
@[simp] theorem iaF_ln (H : Nat → Box) (sz st : Nat) (rows : List (List D)) (k : IntKind) (i : Int) : iaF H sz (.w (.ln st rows)) (.w (.d (.s (.int k i)))) = if 0 ≤ i then iaL H sz rows[i.toNat]? else none := (rfl)
def lenF (H : Nat → Box) (v : V) : Option Eff := match v with
    | .w (.own _ _ len _) => ret0 H (some (sV (.int .i64 len)))
    | .w (.d (.l _ rows)) => ret0 H (some (sV (.int .i64 rows.length)))
    | .w (.ln _ rows) => ret0 H (some (sV (.int .i64 rows.length)))
    | .w .nil => ret0 H (some (sV (.int .i64 0)))
    | _ => none
@[simp] theorem lenF_own (H : Nat → Box) (b off len : Nat) (c : Option Nat) : lenF H (.w (.own b off len c)) = some ⟨sV (.int .i64 len), H, [], false⟩ := (rfl)
@[simp] theorem lenF_d (H : Nat → Box) (st : Nat) (rows : List (List D)) : lenF H (.w (.d (.l st rows))) = some ⟨sV (.int .i64 rows.length), H, [], false⟩ := (rfl)
@[simp] theorem lenF_ln (H : Nat → Box) (st : Nat) (rows : List (List D)) : lenF H (.w (.ln st rows)) = some ⟨sV (.int .i64 rows.length), H, [], false⟩ := (rfl)
@[simp] theorem lenF_nil (H : Nat → Box) : lenF H (.w .nil) = some ⟨sV (.int .i64 0), H, [], false⟩ := (rfl)

def rowsB (b off len : Nat) (x : Box) : Option (List (List D) × List Nat) := match x with
  | .row _ _ rows _ => if off + len ≤ rows.length then some ((rows.drop off).take len, [b]) else none
  | _ => none
@[simp] theorem rowsB_row (b off len : Nat) (st : Option Nat) (sz : Nat) (rows : List (List D)) (ro : Nat) : rowsB b off len (.row st sz rows ro) = if off + len ≤ rows.length then some ((rows.drop off).take len, [b]) else none := (rfl)
theorem rowsOf_own (H : Nat → Box) (b off len : Nat) (c : Option Nat) : rowsOf H (.own b off len c) = rowsB b off len (H b) := (rfl)
theorem rowsOf_nil (H : Nat → Box) : rowsOf H .nil = some ([], []) := (rfl)
theorem rowsOf_ln (H : Nat → Box) (st : Nat) (rows : List (List D)) : rowsOf H (.ln st rows) = some (rows, []) := (rfl)
theorem rowsOf_d (H : Nat → Box) (st : Nat) (rows : List (List D)) : rowsOf H (.d (.l st rows)) = some (rows, []) := (rfl)
attribute [simp] rowsOf_own rowsOf_nil rowsOf_ln rowsOf_d
def cbsF (H : Nat → Box) (v : V) : Option Eff := match v with
    | .w y => bnd2 (rowsOf H y) fun rows t => bnd (bytesOf rows) fun bs => some ⟨sV (.string ⟨bs.toArray⟩), H, t, false⟩
    | _ => none
@[simp] theorem cbsF_w (H : Nat → Box) (y : W) : cbsF H (.w y) = bnd2 (rowsOf H y) fun rows t => bnd (bytesOf rows) fun bs => some ⟨sV (.string ⟨bs.toArray⟩), H, t, false⟩ := (rfl)
def appO (H : Nat → Box) (g sz bytes b off len : Nat) (ys : List (List D)) (t : List Nat) (x : Box) : Option Eff := match x with
  | .row st sz' rows ro => if sz' = sz ∧ off + len ≤ rows.length ∧ ro ≤ off + len ∧ room (len + ys.length) bytes = true then
              some ⟨.w (.own g 0 (len + ys.length) none),
                upd (upd H b .dead) g (.row (taint st) sz ((rows.drop off).take len ++ ys) (ro - off)), t ++ [b], true⟩
            else none
  | _ => none
@[simp] theorem appO_row (H : Nat → Box) (g sz bytes b off len : Nat) (ys : List (List D)) (t : List Nat) (st : Option Nat) (sz' : Nat) (rows : List (List D)) (ro : Nat) : appO H g sz bytes b off len ys t (.row st sz' rows ro) =
   if sz' = sz ∧ off + len ≤ rows.length ∧ ro ≤ off + len ∧ room (len + ys.length) bytes = true then
              some ⟨.w (.own g 0 (len + ys.length) none),
                upd (upd H b .dead) g (.row (taint st) sz ((rows.drop off).take len ++ ys) (ro - off)), t ++ [b], true⟩
            else none := (rfl)
def appX (H : Nat → Box) (g sz bytes : Nat) (ys : List (List D)) (t : List Nat) (v : V) : Option Eff := match v with
        | .w .nil => if room ys.length bytes = true then some ⟨.w (.own g 0 ys.length none), upd H g (.row none sz ys 0), t, false⟩ else none
        | .w (.own b off len _) => appO H g sz bytes b off len ys t (H b)
        | _ => none
@[simp] theorem appX_nil (H : Nat → Box) (g sz bytes : Nat) (ys : List (List D)) (t : List Nat) : appX H g sz bytes ys t (.w .nil) = if room ys.length bytes = true then some ⟨.w (.own g 0 ys.length none), upd H g (.row none sz ys 0), t, false⟩ else none := (rfl)
@[simp] theorem appX_own (H : Nat → Box) (g sz bytes : Nat) (ys : List (List D)) (t : List Nat) (b off len : Nat) (c : Option Nat) : appX H g sz bytes ys t (.w (.own b off len c)) = appO H g sz bytes b off len ys t (H b) := (rfl)
def appF (H : Nat → Box) (g sz bytes zl : Nat) (v w : V) : Option Eff := match w with
    | .w y => bnd2 (rowsOf H y) fun ys t => if ys.all (·.length == sz) && zl == sz then appX H g sz bytes ys t v else none
    | _ => none
@[simp] theorem appF_w (H : Nat → Box) (g sz bytes zl : Nat) (v : V) (y : W) : appF H g sz bytes zl v (.w y) = bnd2 (rowsOf H y) fun ys t => if ys.all (·.length == sz) && zl == sz then appX H g sz bytes ys t v else none := (rfl)

def slB (H : Nat → Box) (sz b off len l h : Nat) (c : Option Nat) (t : List Nat) (x : Box) : Option Eff := match x with
  | .row _ sz' _ _ => if sz' = sz then some ⟨.w (.own b (off + l) (h - l) c), H, t, false⟩ else none
  | _ => none
@[simp] theorem slB_row (H : Nat → Box) (sz b off len l h : Nat) (c : Option Nat) (t : List Nat) (st : Option Nat) (sz' : Nat) (rows : List (List D)) (ro : Nat) : slB H sz b off len l h c t (.row st sz' rows ro) = if sz' = sz then some ⟨.w (.own b (off + l) (h - l) c), H, t, false⟩ else none := (rfl)
def slW (H : Nat → Box) (sz : Nat) (l h : Nat) (mx : Option Int) (t : List Nat) (y : W) : Option Eff := match y with
          | .own b off len cap => slB H sz b off len l h (newCap mx cap l) t (H b)
          | .nil => ret0 H (some (.w .nil))
          | .ln st rows => if rows.all (·.length == sz) then ret0 H (some (.w (.ln st ((rows.drop l).take (h - l))))) else none
          | .d (.l st rows) => if rows.all (·.length == sz) then ret0 H (some (.w (.d (.l st ((rows.drop l).take (h - l)))))) else none
          | _ => none
@[simp] theorem slW_own (H : Nat → Box) (sz : Nat) (l h : Nat) (mx : Option Int) (t : List Nat) (b off len : Nat) (cap : Option Nat) : slW H sz l h mx t (.own b off len cap) = slB H sz b off len l h (newCap mx cap l) t (H b) := (rfl)
@[simp] theorem slW_nil (H : Nat → Box) (sz : Nat) (l h : Nat) (mx : Option Int) (t : List Nat) : slW H sz l h mx t .nil = some ⟨.w .nil, H, [], false⟩ := (rfl)
@[simp] theorem slW_ln (H : Nat → Box) (sz : Nat) (l h : Nat) (mx : Option Int) (t : List Nat) (st : Nat) (rows : List (List D)) : slW H sz l h mx t (.ln st rows) = if rows.all (·.length == sz) then some ⟨.w (.ln st ((rows.drop l).take (h - l))), H, [], false⟩ else none := (rfl)
@[simp] theorem slW_d (H : Nat → Box) (sz : Nat) (l h : Nat) (mx : Option Int) (t : List Nat) (st : Nat) (rows : List (List D)) : slW H sz l h mx t (.d (.l st rows)) = if rows.all (·.length == sz) then some ⟨.w (.d (.l st ((rows.drop l).take (h - l)))), H, [], false⟩ else none := (rfl)
def slF (H : Nat → Box) (sz : Nat) (v : V) (lo hi mx : Option Int) : Option Eff := match v with
    | .w y => bnd2 (rowsOf H y) fun rows t =>
        if 0 ≤ lo.getD 0 ∧ lo.getD 0 ≤ hi.getD rows.length ∧ hi.getD rows.length ≤ mx.getD rows.length ∧ mx.getD rows.length ≤ (rows.length : Int) ∧ (mx.isSome → hi.isSome) then
          slW H sz (lo.getD 0).toNat (hi.getD rows.length).toNat mx t y else none
    | _ => none
@[simp] theorem slF_w (H : Nat → Box) (sz : Nat) (y : W) (lo hi mx : Option Int) : slF H sz (.w y) lo hi mx = bnd2 (rowsOf H y) fun rows t =>
        if 0 ≤ lo.getD 0 ∧ lo.getD 0 ≤ hi.getD rows.length ∧ hi.getD rows.length ≤ mx.getD rows.length ∧ mx.getD rows.length ≤ (rows.length : Int) ∧ (mx.isSome → hi.isSome) then
          slW H sz (lo.getD 0).toNat (hi.getD rows.length).toNat mx t y else none := (rfl)
@[simp] theorem optInt_none (ev : X → V) : optInt ev none = some none := (rfl)
def intO (v : V) : Option (Option Int) := match v.int? with | some (_, n) => some (some n) | none => none
@[simp] theorem intO_int (k : IntKind) (n : Int) : intO (.w (.d (.s (.int k n)))) = some (some n) := (rfl)
@[simp] theorem optInt_some (ev : X → V) (x : X) : optInt ev (some x) = intO (ev x) := (rfl)
def extF (H : Nat → Box) (i : Nat) (v : V) : Option Eff := match v with
    | .tup vs => match vs[i]? with
      | some p => ret0 H (mkV p.1 p.2)
      | none => none
    | _ => none
def extO (H : Nat → Box) (x : Option (Bool × List W)) : Option Eff := match x with
      | some p => ret0 H (mkV p.1 p.2)
      | none => none
@[simp] theorem extO_some (H : Nat → Box) (a : Bool) (cs : List W) : extO H (some (a, cs)) = ret0 H (mkV a cs) := (rfl)
@[simp] theorem extF_tup (H : Nat → Box) (i : Nat) (vs : List (Bool × List W)) : extF H i (.tup vs) = extO H vs[i]? := by
  unfold extF extO; rfl
def mslF (H : Nat → Box) (g sz bytes : Nat) (zero : List D) (l c : V) : Option Eff := match l.int?, c.int? with
    | some (.i64, l), some (.i64, c) => if 0 ≤ l ∧ l ≤ c ∧ room c.toNat bytes = true then
        some ⟨.w (.own g 0 l.toNat (some c.toNat)), upd H g (.row none sz (List.replicate l.toNat zero) 0), [], false⟩ else none
    | _, _ => none
@[simp] theorem mslF_int (H : Nat → Box) (g sz bytes : Nat) (zero : List D) (l c : Int) : mslF H g sz bytes zero (.w (.d (.s (.int .i64 l)))) (.w (.d (.s (.int .i64 c)))) = if 0 ≤ l ∧ l ≤ c ∧ room c.toNat bytes = true then
        some ⟨.w (.own g 0 l.toNat (some c.toNat)), upd H g (.row none sz (List.replicate l.toNat zero) 0), [], false⟩ else none := (rfl)
def mmxF (H : Nat → Box) (isMax : Bool) (l : List V) : Option Eff := match l with
    | v :: r => match v.int? with
      | some (k, a) => ret0 H (fold2 isMax k a r)
      | none => none
    | [] => none
@[simp] theorem mmxF_int (H : Nat → Box) (isMax : Bool) (k : IntKind) (a : Int) (r : List V) : mmxF H isMax ((.w (.d (.s (.int k a)))) :: r) = ret0 H (fold2 isMax k a r) := (rfl)
@[simp] theorem fold2_nil (isMax : Bool) (k : IntKind) (a : Int) : fold2 isMax k a [] = some (sV (.int k a)) := (rfl)
@[simp] theorem fold2_int (isMax : Bool) (k k' : IntKind) (a b : Int) (r : List V) : fold2 isMax k a ((.w (.d (.s (.int k' b)))) :: r) = if k = k' then fold2 isMax k (if isMax = true then (if b > a then b else a) else (if b < a then b else a)) r else none := (rfl)
def cviF (H : Nat → Box) (k : IntKind) (v : V) : Option Eff := ret0 H (v.int?.map fun p => sV (.int k (k.wrap p.2)))
@[simp] theorem cviF_int (H : Nat → Box) (k k' : IntKind) (n : Int) : cviF H k (.w (.d (.s (.int k' n)))) = some ⟨sV (.int k (k.wrap n)), H, [], false⟩ := (rfl)
def callF (call : CallT) (M : Nat → Mode) (stamp : Bool) (H : Nat → Box) (g : Nat) (s : Sup) (args : List V) (f : V) : Option Eff := match f with
    | .w (.fn f caps) => callV call M stamp H g s f (args ++ caps.map Cap.v)
    | _ => none
@[simp] theorem callF_fn (call : CallT) (M : Nat → Mode) (stamp : Bool) (H : Nat → Box) (g : Nat) (s : Sup) (args : List V) (f : Nat) (caps : List Cap) : callF call M stamp H g s args (.w (.fn f caps)) = callV call M stamp H g s f (args ++ caps.map Cap.v) := (rfl)

section
variable (call : CallT) (M : Nat → Mode) (G : Nat → Option (List D)) (stamp : Bool) (N n g : Nat) (s : Sup)
theorem x_seq (a b : C) (st : St) : execC call M G stamp N n (.seq a b) st = andThen (execC call M G stamp N n a st) (execC call M G stamp N n b) := by
  show (match execC call M G stamp N n a st with | some (.normal, st') => execC call M G stamp N n b st' | r => r) = _
  unfold andThen
  rfl
theorem x_skip (st : St) : execC call M G stamp N n .skip st = some (.normal, st) := (rfl)
theorem x_ret (st : St) : execC call M G stamp N n .ret st = some (.ret, st) := (rfl)
theorem x_exit (i : Nat) (st : St) : execC call M G stamp N n (.exit i) st = some (.exit i, st) := (rfl)
theorem x_block (id : Nat) (c : C) (st : St) : execC call M G stamp N n (.block id c) st = inBlock id (execC call M G stamp N n c st) := (rfl)
theorem x_cond (x : X) (a b : C) (st : St) : execC call M G stamp N n (.cond x a b) st = onBool (evX st.τ x) (execC call M G stamp N n a st) (execC call M G stamp N n b st) := (rfl)
theorem x_reg (ops : List RO) (st : St) : execC call M G stamp N n (.reg ops) st = bnd2 (regV call M G stamp N st.g st.s 0 ops st.τ st.H) fun τ H => some (.normal, ⟨τ, H, st.g + 64 * ops.length, restS st.s⟩) := by
  show (match regV call M G stamp N st.g st.s 0 ops st.τ st.H with | some (τ, H) => some (Ex.normal, (⟨τ, H, st.g + 64 * ops.length, restS st.s⟩ : St)) | none => none) = _
  generalize regV call M G stamp N st.g st.s 0 ops st.τ st.H = x
  cases x <;> rfl
theorem x_dreg (ops : List RO) (bf : List Nat) (st : St) : execC call M G stamp N n (.dreg ops bf) st =
    bnd3 (regL call M G stamp N st.g st.s 0 ops st.τ st.H) fun τ H l => if calm st.g 0 l bf then some (.normal, ⟨τ, H, st.g + 64 * ops.length, restS st.s⟩) else none := by
  show (match regL call M G stamp N st.g st.s 0 ops st.τ st.H with | some (τ, H, l) => if calm st.g 0 l bf then some (Ex.normal, (⟨τ, H, st.g + 64 * ops.length, restS st.s⟩ : St)) else none | none => none) = _
  generalize regL call M G stamp N st.g st.s 0 ops st.τ st.H = x
  cases x <;> rfl

theorem s_none (τ : Nat → V) (H : Nat → Box) (d : Option Nat) (op : O) : stepE call M G stamp τ H g s ⟨d, op, none⟩ = opV call M G stamp (evX τ) H g s op := (rfl)
theorem s_some (τ : Nat → V) (H : Nat → Box) (d : Option Nat) (op : O) (t : Nat) (w : Bool) : stepE call M G stamp τ H g s ⟨d, op, some (t, w)⟩ = guardE (τ t) w (opV call M G stamp (evX τ) H g s op) H := (rfl)
theorem put_none (τ : Nat → V) (v : V) : put N τ none v = some τ := (rfl)
theorem put_some (τ : Nat → V) (d : Nat) (v : V) : put N τ (some d) v = if d < N then some (upd τ d v) else none := (rfl)
theorem r_nil (i : Nat) (τ : Nat → V) (H : Nat → Box) : regV call M G stamp N g s i [] τ H = some (τ, H) := (rfl)
theorem r_cons (i : Nat) (d : Option Nat) (op : O) (gd : Option (Nat × Bool)) (r : List RO) (τ : Nat → V) (H : Nat → Box) : regV call M G stamp N g s i (⟨d, op, gd⟩ :: r) τ H =
    bndE (stepE call M G stamp τ H (g + 64 * i) (subS s i) ⟨d, op, gd⟩) fun v H' _ _ => bnd (put N τ d v) fun τ' => regV call M G stamp N g s (i + 1) r τ' H' := by
  show (match stepE call M G stamp τ H (g + 64 * i) (subS s i) ⟨d, op, gd⟩ with
    | some e => match put N τ d e.v with
      | some τ' => regV call M G stamp N g s (i + 1) r τ' e.H
      | none => none
    | none => none) = _
  generalize stepE call M G stamp τ H (g + 64 * i) (subS s i) ⟨d, op, gd⟩ = x
  cases x with
  | none => rfl
  | some e =>
    show (match put N τ d e.v with | some τ' => regV call M G stamp N g s (i + 1) r τ' e.H | none => none) = bnd (put N τ d e.v) _
    generalize put N τ d e.v = y
    cases y <;> rfl
theorem l_nil (i : Nat) (τ : Nat → V) (H : Nat → Box) : regL call M G stamp N g s i [] τ H = some (τ, H, []) := (rfl)
theorem l_cons (i : Nat) (d : Option Nat) (op : O) (gd : Option (Nat × Bool)) (r : List RO) (τ : Nat → V) (H : Nat → Box) : regL call M G stamp N g s i (⟨d, op, gd⟩ :: r) τ H =
    bndE (stepE call M G stamp τ H (g + 64 * i) (subS s i) ⟨d, op, gd⟩) fun v H' t w => bnd (put N τ d v) fun τ' => bnd3 (regL call M G stamp N g s (i + 1) r τ' H') fun a b l => some (a, b, (t, w) :: l) := by
  show (match stepE call M G stamp τ H (g + 64 * i) (subS s i) ⟨d, op, gd⟩ with
    | some e => match put N τ d e.v with
      | some τ' => match regL call M G stamp N g s (i + 1) r τ' e.H with
        | some (τ'', H'', l) => some (τ'', H'', (e.touch, e.wr) :: l)
        | none => none
      | none => none
    | none => none) = _
  generalize stepE call M G stamp τ H (g + 64 * i) (subS s i) ⟨d, op, gd⟩ = x
  cases x with
  | none => rfl
  | some e =>
    show (match put N τ d e.v with
      | some τ' => match regL call M G stamp N g s (i + 1) r τ' e.H with
        | some (τ'', H'', l) => some (τ'', H'', (e.touch, e.wr) :: l)
        | none => none
      | none => none) = bnd (put N τ d e.v) _
    generalize put N τ d e.v = y
    cases y with
    | none => rfl
    | some τ' =>
      simp only [bnd_some]
      generalize regL call M G stamp N g s (i + 1) r τ' e.H = z
      cases z <;> rfl
section
variable (ev : X → V) (H : Nat → Box)
theorem o_mv (x : X) : opV call M G stamp ev H g s (.mv x) = some ⟨ev x, H, [], false⟩ := (rfl)
theorem o_pick (c a b : X) : opV call M G stamp ev H g s (.pick c a b) = pickF H (ev c) (ev a) (ev b) := (rfl)
theorem o_new (zero : List W) : opV call M G stamp ev H g s (.new zero) = some ⟨.w (.ptr g 0), upd H g (.cells zero), [], false⟩ := (rfl)
theorem o_box (sz : Nat) (x : X) : opV call M G stamp ev H g s (.box sz x) = boxF H g sz (ev x) := (rfl)
theorem o_bld (zero : List W) (parts : List (Nat × Nat × X)) : opV call M G stamp ev H g s (.bld zero parts) = bnd (setParts zero (parts.map fun p => (p.1, p.2.1, ev p.2.2))) fun cs => some ⟨.agg cs, H, [], false⟩ := by
  show ret0 H ((setParts zero (parts.map fun p => (p.1, p.2.1, ev p.2.2))).map .agg) = _
  cases setParts zero (parts.map fun p => (p.1, p.2.1, ev p.2.2)) <;> rfl
theorem o_bsl (sz n : Nat) (zero : List D) (parts : List (Nat × X)) : opV call M G stamp ev H g s (.bsl sz n zero parts) =
    bnd2 (rowParts stamp s sz (List.replicate n zero) ⟨H, 0, []⟩ (parts.map fun p => (p.1, ev p.2))) fun rows z => some ⟨.w (.own g 0 n (some n)), upd z.H g (.row none sz rows 0), z.touch, !z.touch.isEmpty⟩ := by
  show (match rowParts stamp s sz (List.replicate n zero) ⟨H, 0, []⟩ (parts.map fun p => (p.1, ev p.2)) with
    | some (rows, z) => some (⟨.w (.own g 0 n (some n)), upd z.H g (.row none sz rows 0), z.touch, !z.touch.isEmpty⟩ : Eff)
    | none => none) = _
  cases rowParts stamp s sz (List.replicate n zero) ⟨H, 0, []⟩ (parts.map fun p => (p.1, ev p.2)) <;> rfl
theorem o_ld (agg : Bool) (sz : Nat) (x : X) : opV call M G stamp ev H g s (.ld agg sz x) = ldF G H agg sz (ev x) := by
  simp only [opV]
  generalize ev x = v
  rcases v with ⟨w⟩ | _ | _
  · cases w with
    | rp b i off =>
      simp only [ldF_rp]
      generalize H b = B
      cases B with
      | row st z rows ro =>
        simp only [ldR_row]
        generalize rows[i]? = q
        cases q <;> rfl
      | _ => rfl
    | ptr b off =>
      simp only [ldF_ptr]
      generalize H b = B
      cases B <;> rfl
    | _ => rfl
  · rfl
  · rfl
theorem o_st (sz : Nat) (x y : X) : opV call M G stamp ev H g s (.st sz x y) = stV stamp s H sz (ev x) (ev y) := by
  simp only [opV]
  generalize ev x = v
  generalize ev y = w
  unfold stV
  cases w.cells? with
  | none => rfl
  | some cs =>
    simp only
    split
    · rcases v with ⟨p⟩ | _ | _
      · cases p with
        | ptr b off =>
          simp only [stF_ptr]
          generalize H b = B
          cases B <;> rfl
        | rp b i off =>
          simp only [stF_rp]
          generalize frzL stamp s ⟨H, 0, []⟩ cs = q
          cases q with
          | none => rfl
          | some q =>
            obtain ⟨l, z⟩ := q
            simp only [bnd2_some, stR]
            generalize datas? l = d
            cases d with
            | none => rfl
            | some ds =>
              simp only [bnd_some]
              generalize z.H b = B
              cases B <;> rfl
        | _ => rfl
      · rfl
      · rfl
    · rfl
theorem o_nc (x : X) : opV call M G stamp ev H g s (.nc x) = ncF H (ev x) := (rfl)
theorem o_bin (op : BinOp) (c : Cls) (x y : X) : opV call M G stamp ev H g s (.bin op c x y) = ofCells H [] (binV op c (ev x) (ev y)) := (rfl)
theorem o_un (op : UnOp) (x : X) : opV call M G stamp ev H g s (.un op x) = ofCells H [] (unV op (ev x)) := (rfl)
theorem o_cvi (k : IntKind) (x : X) : opV call M G stamp ev H g s (.cvi k x) = cviF H k (ev x) := (rfl)
theorem o_cbs (x : X) : opV call M G stamp ev H g s (.cbs x) = cbsF H (ev x) := by
  simp only [opV]
  generalize ev x = v
  unfold cbsF
  rcases v with ⟨p⟩ | _ | _
  · simp only
    cases rowsOf H p with
    | none => rfl
    | some q =>
      obtain ⟨rows, t⟩ := q
      show _ = bnd (bytesOf rows) _
      simp only
      cases bytesOf rows <;> rfl
  · rfl
  · rfl
theorem o_msl (sz bytes : Nat) (zero : List D) (l c : X) : opV call M G stamp ev H g s (.msl sz bytes zero l c) = mslF H g sz bytes zero (ev l) (ev c) := (rfl)
theorem o_sl (sz : Nat) (x : X) (lo hi mx : Option X) : opV call M G stamp ev H g s (.sl sz x lo hi mx) = bnd (optInt ev lo) fun lo => bnd (optInt ev hi) fun hi => bnd (optInt ev mx) fun mx => slF H sz (ev x) lo hi mx := by
  simp only [opV]
  generalize ev x = v
  cases optInt ev lo with
  | none => cases v <;> rfl
  | some lo =>
    cases optInt ev hi with
    | none => cases v <;> rfl
    | some hi =>
      cases optInt ev mx with
      | none => cases v <;> rfl
      | some mx =>
        rcases v with ⟨y⟩ | _ | _
        · simp only [bnd_some, slF]
          cases rowsOf H y with
          | none => rfl
          | some q =>
            obtain ⟨rows, t⟩ := q
            simp only [bnd2_some]
            split
            · cases y with
              | own b off len cap =>
                simp only [slW_own]
                generalize H b = B
                cases B <;> rfl
              | d d => cases d <;> rfl
              | _ => rfl
            · rfl
        · rfl
        · rfl
theorem o_fa (off : Nat) (x : X) : opV call M G stamp ev H g s (.fa off x) = faF H off (ev x) := (rfl)
theorem o_fld (agg : Bool) (off sz : Nat) (x : X) : opV call M G stamp ev H g s (.fld agg off sz x) = fldF H agg off sz (ev x) := (rfl)
theorem o_ia (sz : Nat) (x i : X) : opV call M G stamp ev H g s (.ia sz x i) = iaF H sz (ev x) (ev i) := by
  simp only [opV]
  generalize ev x = v
  generalize (ev i) = w
  unfold iaF
  cases w.int? with
  | none =>
    rcases v with ⟨y⟩ | _ | _
    · cases y with
      | d d => cases d <;> rfl
      | _ => rfl
    · rfl
    · rfl
  | some q =>
    obtain ⟨k, j⟩ := q
    rcases v with ⟨y⟩ | _ | _
    · cases y with
      | d d => cases d <;> rfl
      | own b off len c =>
        simp only
        generalize H b = B
        cases B <;> rfl
      | _ => rfl
    · rfl
    · rfl
theorem o_ext (i : Nat) (x : X) : opV call M G stamp ev H g s (.ext i x) = extF H i (ev x) := (rfl)
theorem o_call (f : X) (args : List X) : opV call M G stamp ev H g s (.call f args) = callF call M stamp H g s (args.map ev) (ev f) := (rfl)
theorem o_lenl (x : X) : opV call M G stamp ev H g s (.lenl x) = lenF H (ev x) := (rfl)
theorem o_app (sz bytes : Nat) (zero : List D) (x y : X) : opV call M G stamp ev H g s (.app sz bytes zero x y) = appF H g sz bytes zero.length (ev x) (ev y) := by
  simp only [opV]
  generalize ev x = v
  generalize ev y = w
  unfold appF
  rcases w with ⟨y⟩ | _ | _
  · simp only
    cases rowsOf H y with
    | none => rfl
    | some q =>
      obtain ⟨ys, t⟩ := q
      simp only [bnd2_some]
      split
      · rename_i hc
        unfold appX appO
        rcases v with ⟨p⟩ | _ | _
        · cases p <;> rfl
        · rfl
        · rfl
      · rfl
  · rfl
  · rfl
theorem o_mmx (isMax : Bool) (args : List X) : opV call M G stamp ev H g s (.mmx isMax args) = mmxF H isMax (args.map ev) := (rfl)
end
end
/-- Behind the last step. -/
def endF (stamp move : Bool) (m : Nat) (rs : List RV) (st : St) : Option Res := bnd (resV st.τ st.H rs) fun res => finish stamp move m st res
theorem endF_at (stamp move : Bool) (m : Nat) (rs : List RV) (st : St) : endF stamp move m rs st = bnd (resV st.τ st.H rs) fun res => finish stamp move m st res := (rfl)
section
variable (call : CallT) (M : Nat → Mode) (G : Nat → Option (List D)) (stamp : Bool) (N n g : Nat) (s : Sup)
theorem runF_at (f : Nat) (F : Fn) (args : List V) (bs : List Box) : runF call M G n f F args bs s = if args.length ≤ F.ntmps then
    behindF (execC call M G (M f).stamp F.ntmps n F.code ⟨nth (.tup []) args, nth .dead bs, bs.length, s⟩) (endF (M f).stamp (M f).move bs.length F.res)
  else none := by
  rw [runF_eq]
  by_cases h : args.length ≤ F.ntmps
  · rw [if_pos h, if_pos h]
    generalize execC call M G (M f).stamp F.ntmps n F.code ⟨nth (.tup []) args, nth .dead bs, bs.length, s⟩ = x
    cases x with
    | none => rfl
    | some p =>
      obtain ⟨e, st⟩ := p
      cases e with
      | normal =>
        show (match resV st.τ st.H F.res with | some res => finish (M f).stamp (M f).move bs.length st res | none => none) = bnd (resV st.τ st.H F.res) _
        generalize resV st.τ st.H F.res = y
        cases y <;> rfl
      | ret =>
        show (match resV st.τ st.H F.res with | some res => finish (M f).stamp (M f).move bs.length st res | none => none) = bnd (resV st.τ st.H F.res) _
        generalize resV st.τ st.H F.res = y
        cases y <;> rfl
      | exit i => rfl
  · rw [if_neg h, if_neg h]
theorem callV_at (H : Nat → Box) (f : Nat) (args : List V) :
    callV call M stamp H g s f args = bnd2 (if (M f).inout then some (args, (⟨H, 0, []⟩ : Fz)) else frzA stamp (fun k => s (2 * k)) ⟨H, 0, []⟩ args) fun args z =>
      withL (reach z.H 4 (addAll [] (args.flatMap V.names))) fun ns =>
        bnd (call f (args.map (V.ren (idx ns))) (ns.map fun b => (z.H b).ren (idx ns)) (fun k => s (2 * k + 1))) (behindCall z g ns) := by
  rw [callV_eq]
  unfold bnd2 bnd
  split
  · rename_i h; rw [h]
  · rename_i a z h
    rw [h]
    unfold withL
    simp only
    split <;> rename_i h2 <;> rw [h2]
theorem finish_at (move : Bool) (m : Nat) (st : St) (res : List (Bool × List W)) :
    finish stamp move m st res = bnd2 (if move then some (res, (⟨st.H, 0, []⟩ : Fz)) else frzP stamp st.s ⟨st.H, 0, []⟩ res) fun res z =>
      withL (reach z.H 4 (addAll (List.range m) ((res.flatMap fun q => wnames q.2) ++ (List.range m).flatMap fun b => (z.H b).names))) fun ns =>
        if m ≤ ns.length ∧ ns.take m = List.range m ∧ closed z.H ns = true then
          some ⟨(one? res).ren (idx ns), (List.range m).map (fun b => (z.H b).ren (idx ns)), (ns.drop m).map fun b => (z.H b).ren (idx ns)⟩
        else none := by
  rw [finish_eq]
  unfold bnd2
  split
  · rename_i h; rw [h]
  · rename_i a z h; rw [h]
end

@[simp] theorem idx_nil (x : Nat) : idx [] x = 0 := (rfl)
@[simp] theorem idx_cons (a : Nat) (l : List Nat) (x : Nat) : idx (a :: l) x = if a = x then 0 else idx l x + 1 := by
  unfold idx
  rw [List.findIdx_cons]
  by_cases h : a = x
  · simp [h]
  · rw [if_neg h, beq_false_of_ne h]; rfl
@[simp] theorem range_2 : List.range 2 = [0, 1] := (rfl)
@[simp] theorem range_3 : List.range 3 = [0, 1, 2] := (rfl)
@[simp] theorem range_4 : List.range 4 = [0, 1, 2, 3] := (rfl)
@[simp] theorem range_5 : List.range 5 = [0, 1, 2, 3, 4] := (rfl)
@[simp] theorem range_6 : List.range 6 = [0, 1, 2, 3, 4, 5] := (rfl)
@[simp] theorem range_7 : List.range 7 = [0, 1, 2, 3, 4, 5, 6] := (rfl)
@[simp] theorem range_8 : List.range 8 = [0, 1, 2, 3, 4, 5, 6, 7] := (rfl)
theorem bit_at (x n : Nat) : x.testBit n = decide (x / 2 ^ n % 2 = 1) := Nat.testBit_eq_decide_div_mod_eq
theorem execC_loop (call : CallT) (M : Nat → Mode) (G : Nat → Option (List D)) (stamp : Bool) (N n : Nat) (c : C) (st : St) : execC call M G stamp N n (.loop c) st = iter (execC call M G stamp N n c) n st := (rfl)


/-! freezing, names, by shape -/
def frzB (stamp : Bool) (s : Sup) (z : Fz) (b off len : Nat) (x : Box) : Option (W × Fz) := match x with
    | .row st sz rows ro =>
      if off + len ≤ rows.length then
        some (.d (.l (stampOf stamp s z.k st) ((rows.drop off).take len)),
          { H := upd z.H b (.row (some (stampOf stamp s z.k st)) sz rows (max ro (off + len))), k := z.k + 1, touch := z.touch ++ [b] })
      else none
    | _ => none
@[simp] theorem frzB_row (stamp : Bool) (s : Sup) (z : Fz) (b off len : Nat) (st : Option Nat) (sz : Nat) (rows : List (List D)) (ro : Nat) : frzB stamp s z b off len (.row st sz rows ro) = if off + len ≤ rows.length then
        some (.d (.l (stampOf stamp s z.k st) ((rows.drop off).take len)),
          { H := upd z.H b (.row (some (stampOf stamp s z.k st)) sz rows (max ro (off + len))), k := z.k + 1, touch := z.touch ++ [b] })
      else none := (rfl)
@[simp] theorem frzW_own (stamp : Bool) (s : Sup) (z : Fz) (b off len : Nat) (c : Option Nat) : frzW stamp s z (.own b off len c) = frzB stamp s z b off len (z.H b) := (rfl)
@[simp] theorem frzW_nil (stamp : Bool) (s : Sup) (z : Fz) : frzW stamp s z .nil = some (.d (.l 0 []), z) := (rfl)
@[simp] theorem frzW_ln (stamp : Bool) (s : Sup) (z : Fz) (st : Nat) (rows : List (List D)) : frzW stamp s z (.ln st rows) = some (.d (.l st rows), z) := (rfl)
@[simp] theorem frzW_d (stamp : Bool) (s : Sup) (z : Fz) (d : D) : frzW stamp s z (.d d) = some (.d d, z) := (rfl)
@[simp] theorem frzW_ptr (stamp : Bool) (s : Sup) (z : Fz) (b o : Nat) : frzW stamp s z (.ptr b o) = some (.ptr b o, z) := (rfl)
@[simp] theorem frzW_rp (stamp : Bool) (s : Sup) (z : Fz) (b i o : Nat) : frzW stamp s z (.rp b i o) = some (.rp b i o, z) := (rfl)
@[simp] theorem frzW_lp (stamp : Bool) (s : Sup) (z : Fz) (r : List D) (o : Nat) : frzW stamp s z (.lp r o) = some (.lp r o, z) := (rfl)
@[simp] theorem frzW_gp (stamp : Bool) (s : Sup) (z : Fz) (k o : Nat) : frzW stamp s z (.gp k o) = some (.gp k o, z) := (rfl)
@[simp] theorem frzW_fn (stamp : Bool) (s : Sup) (z : Fz) (f : Nat) (c : List Cap) : frzW stamp s z (.fn f c) = some (.fn f c, z) := (rfl)
def frzC (stamp : Bool) (s : Sup) (r : List W) (y : W) (z : Fz) : Option (List W × Fz) := bnd2 (frzL stamp s z r) fun l z' => some (y :: l, z')
@[simp] theorem frzL_nil (stamp : Bool) (s : Sup) (z : Fz) : frzL stamp s z [] = some ([], z) := (rfl)
@[simp] theorem frzL_cons (stamp : Bool) (s : Sup) (z : Fz) (x : W) (r : List W) : frzL stamp s z (x :: r) = bnd2 (frzW stamp s z x) (frzC stamp s r) := by
  rw [frzL]
  cases frzW stamp s z x with
  | none => rfl
  | some p =>
    obtain ⟨y, z'⟩ := p
    simp only [bnd2_some]
    unfold frzC
    cases frzL stamp s z' r with
    | none => rfl
    | some q => rfl
attribute [simp] frzC
@[simp] theorem frzV_w (stamp : Bool) (s : Sup) (z : Fz) (x : W) : frzV stamp s z (.w x) = bnd2 (frzW stamp s z x) fun y z' => some (.w y, z') := by
  show (match frzW stamp s z x with | some (y, z') => some (V.w y, z') | none => none) = _
  cases frzW stamp s z x <;> rfl
@[simp] theorem frzV_agg (stamp : Bool) (s : Sup) (z : Fz) (cs : List W) : frzV stamp s z (.agg cs) = bnd2 (frzL stamp s z cs) fun l z' => some (.agg l, z') := by
  show (match frzL stamp s z cs with | some (l, z') => some (V.agg l, z') | none => none) = _
  cases frzL stamp s z cs <;> rfl
@[simp] theorem frzP_nil (stamp : Bool) (s : Sup) (z : Fz) : frzP stamp s z [] = some ([], z) := (rfl)
@[simp] theorem frzP_cons (stamp : Bool) (s : Sup) (z : Fz) (a : Bool) (cs : List W) (r : List (Bool × List W)) : frzP stamp s z ((a, cs) :: r) = bnd2 (frzL stamp s z cs) fun y z' => bnd2 (frzP stamp s z' r) fun l z'' => some ((a, y) :: l, z'') := by
  rw [frzP]
  cases frzL stamp s z cs with
  | none => rfl
  | some p =>
    obtain ⟨y, z'⟩ := p
    simp only [bnd2_some]
    cases frzP stamp s z' r with
    | none => rfl
    | some q => rfl
@[simp] theorem frzA_nil (stamp : Bool) (s : Sup) (z : Fz) : frzA stamp s z [] = some ([], z) := (rfl)
@[simp] theorem frzA_cons (stamp : Bool) (s : Sup) (z : Fz) (v : V) (r : List V) : frzA stamp s z (v :: r) = bnd2 (frzV stamp s z v) fun y z' => bnd2 (frzA stamp s z' r) fun l z'' => some (y :: l, z'') := by
  rw [frzA]
  cases frzV stamp s z v with
  | none => rfl
  | some p =>
    obtain ⟨y, z'⟩ := p
    simp only [bnd2_some]
    cases frzA stamp s z' r with
    | none => rfl
    | some q => rfl
@[simp] theorem names_own (b off len : Nat) (c : Option Nat) : W.names (.own b off len c) = [b] := (rfl)
@[simp] theorem names_ptr (b off : Nat) : W.names (.ptr b off) = [b] := (rfl)
@[simp] theorem names_rp (b i off : Nat) : W.names (.rp b i off) = [b] := (rfl)
@[simp] theorem names_d (d : D) : W.names (.d d) = [] := (rfl)
@[simp] theorem names_nil : W.names .nil = [] := (rfl)
@[simp] theorem names_ln (st : Nat) (rows : List (List D)) : W.names (.ln st rows) = [] := (rfl)
@[simp] theorem names_lp (r : List D) (o : Nat) : W.names (.lp r o) = [] := (rfl)
@[simp] theorem names_gp (k o : Nat) : W.names (.gp k o) = [] := (rfl)
@[simp] theorem names_fn (f : Nat) (c : List Cap) : W.names (.fn f c) = c.flatMap Cap.names := (rfl)
@[simp] theorem bnames_cells (cs : List W) : Box.names (.cells cs) = wnames cs := (rfl)
@[simp] theorem bnames_row (st : Option Nat) (sz : Nat) (rows : List (List D)) (ro : Nat) : Box.names (.row st sz rows ro) = [] := (rfl)
@[simp] theorem bnames_dead : Box.names .dead = [] := (rfl)
@[simp] theorem data_d (d : D) : W.data? (.d d) = some d := (rfl)
@[simp] theorem data_nil : W.data? .nil = some (.l 0 []) := (rfl)
@[simp] theorem data_ln (st : Nat) (rows : List (List D)) : W.data? (.ln st rows) = some (.l st rows) := (rfl)
@[simp] theorem ren_own (ρ : Nat → Nat) (b off len : Nat) (c : Option Nat) : W.ren ρ (.own b off len c) = .own (ρ b) off len c := (rfl)
@[simp] theorem ren_ptr (ρ : Nat → Nat) (b off : Nat) : W.ren ρ (.ptr b off) = .ptr (ρ b) off := (rfl)
@[simp] theorem ren_rp (ρ : Nat → Nat) (b i off : Nat) : W.ren ρ (.rp b i off) = .rp (ρ b) i off := (rfl)
@[simp] theorem ren_fn (ρ : Nat → Nat) (f : Nat) (c : List Cap) : W.ren ρ (.fn f c) = .fn f (c.map (Cap.ren ρ)) := (rfl)
@[simp] theorem ren_d (ρ : Nat → Nat) (d : D) : W.ren ρ (.d d) = .d d := (rfl)
@[simp] theorem ren_nil (ρ : Nat → Nat) : W.ren ρ .nil = .nil := (rfl)
@[simp] theorem ren_ln (ρ : Nat → Nat) (st : Nat) (rows : List (List D)) : W.ren ρ (.ln st rows) = .ln st rows := (rfl)
@[simp] theorem ren_lp (ρ : Nat → Nat) (r : List D) (o : Nat) : W.ren ρ (.lp r o) = .lp r o := (rfl)
@[simp] theorem ren_gp (ρ : Nat → Nat) (k o : Nat) : W.ren ρ (.gp k o) = .gp k o := (rfl)
@[simp] theorem bren_cells (ρ : Nat → Nat) (cs : List W) : Box.ren ρ (.cells cs) = .cells (cs.map (W.ren ρ)) := (rfl)
@[simp] theorem bren_row (ρ : Nat → Nat) (st : Option Nat) (sz : Nat) (rows : List (List D)) (ro : Nat) : Box.ren ρ (.row st sz rows ro) = .row st sz rows ro := (rfl)
@[simp] theorem bren_dead (ρ : Nat → Nat) : Box.ren ρ .dead = .dead := (rfl)
@[simp] theorem stamp_none (s : Sup) (k : Nat) : stampOf false s k none = 0 := (rfl)
@[simp] theorem stamp_some (st : Bool) (s : Sup) (k t : Nat) : stampOf st s k (some t) = t := (rfl)
@[simp] theorem at_0 {α : Type} (a : α) (l : List α) : (a :: l)[0]? = some a := (rfl)
@[simp] theorem at_s {α : Type} (a : α) (l : List α) (i : Nat) : (a :: l)[i + 1]? = l[i]? := (rfl)
@[simp] theorem isNil_nil : isNil? .nil = some true := (rfl)
@[simp] theorem isNil_ln (st : Nat) (rows : List (List D)) : isNil? (.ln st rows) = some false := (rfl)
@[simp] theorem isNil_own (b off len : Nat) (c : Option Nat) : isNil? (.own b off len c) = if len = 0 then none else some false := (rfl)
@[simp] theorem isNil_d (st : Nat) (rows : List (List D)) : isNil? (.d (.l st rows)) = if rows.isEmpty then none else some false := (rfl)
@[simp] theorem ptrNil_nil : ptrNil? (.d (.s (.pointer none))) = some true := (rfl)
@[simp] theorem ptrNil_ptr (b off : Nat) : ptrNil? (.ptr b off) = some false := (rfl)
@[simp] theorem ptrNil_rp (b i off : Nat) : ptrNil? (.rp b i off) = some false := (rfl)
@[simp] theorem ptrNil_lp (r : List D) (off : Nat) : ptrNil? (.lp r off) = some false := (rfl)
@[simp] theorem ptrNil_gp (k off : Nat) : ptrNil? (.gp k off) = some false := (rfl)

attribute [simp] endF_at bit_at x_seq x_skip x_ret x_exit x_block x_cond x_reg x_dreg r_nil r_cons l_nil l_cons runF_at callV_at finish_at s_none s_some put_none put_some
  o_mv o_pick o_new o_box o_bld o_bsl o_ld o_st o_nc o_bin o_un o_cvi o_cbs o_msl o_sl o_fa o_fld o_ia o_ext o_call o_lenl o_app o_mmx
attribute [simp] evX ret0 binS mkV eqCells eq1 part? splice resV one? sV V.cells?
  datas? capOf capsOf Cap.v V.names wnames Cap.names V.ren Cap.ren calm calmWith ncW addAll addN reach closed updL nth newCap taint bytesOf behindCall

end Go.VM

/- The value machine: a law whose code reads package-level tables of scalars. Conditions: none. -/
namespace Go.VM
open Go.ChangeShapes Go.WideShapes Go.ChangeAt Go.RowKit
set_option linter.unusedVariables false

/-- Scalars out of a table's datum. -/
def scal : DataW Unit → Option D
  | .lit (.int k n) => some (.s (.int k n))
  | .lit (.string l) => some (.s (.string ⟨l.toArray⟩))
  | _ => none
def scals : List (DataW Unit) → Option (List D)
  | [] => some []
  | x :: r => match scal x, scals r with | some d, some l => some (d :: l) | _, _ => none

theorem scals_get : ∀ {es : List (DataW Unit)} {ds : List D}, scals es = some ds → es.length = ds.length ∧ ∀ (i : Nat) (e : DataW Unit), es[i]? = some e → ∃ d, ds[i]? = some d ∧ scal e = some d
  | [], ds, h => by simp [scals] at h; subst h; simp
  | x :: r, ds, h => by
    simp only [scals] at h
    split at h
    · rename_i d l hd hl
      cases h
      obtain ⟨h1, h2⟩ := scals_get hl
      refine ⟨by simp [h1], fun i e hi => ?_⟩
      match i with
      | 0 => simp at hi; subst hi; exact ⟨d, rfl, hd⟩
      | i + 1 => simpa using h2 i e (by simpa using hi)
    · cases h

/-- One cell for an element: an integer, a string. -/
def scalT (P : Program) (e : TypeId) : Bool := P.cellsOf e == 1 && match P.underlying e with | some (.int _) => true | some .string => true | _ => false

theorem scal_trod {P : Program} {W : World} {e : TypeId} {n : Nat} {cs : List Value} {x : DataW Unit × List MemPlace} (he : scalT P e = true)
    (h : DataW.trod (fun _ => ()) P W 0 (fun _ => true) false n e cs = some x) : ∃ v d, cs = [v] ∧ scal x.1 = some (.s d) ∧ d = v ∧ v.oneCell' = true := by
  simp only [scalT, Bool.and_eq_true] at he
  cases hd : P.underlying e with
  | none => rw [hd] at he; cases he.2
  | some k =>
    rw [hd] at he
    cases k <;> simp at he
    · obtain ⟨m, rfl, rfl, _⟩ := DataW.trod_int hd h
      exact ⟨_, _, rfl, rfl, rfl, rfl⟩
    · obtain ⟨s, rfl, rfl, _⟩ := DataW.trod_string hd h
      exact ⟨_, _, rfl, rfl, by cases s; rfl, rfl⟩

/-- A table of scalars reads as rows. -/
theorem table_rel {P : Program} {W : World} {t e : TypeId} {fuel : Nat} {cs : List Value} {es sp : List (DataW Unit)} {p : List MemPlace} {ds : List D}
    (ht : P.underlying t = some (.slice e)) (he : scalT P e = true) (h : DataW.trod (fun _ => ()) P W 0 (fun _ => true) false fuel t cs = some (.slice es sp, p)) (hd : scals es = some ds) (hne : ds ≠ []) :
    ∃ v, cs = [v] ∧ (ctx0 W).rel v (.l 0 (ds.map fun d => [d])) := by
  have hc1 : P.cellsOf e = 1 := by simp only [scalT, Bool.and_eq_true, beq_iff_eq] at he; exact he.1
  rcases DataW.trod_slice ht h with ⟨_, hx⟩ | ⟨a, len, cap, elems, rest, n, hfu, rfl, hx, hb, hlc, hm, hlen, hel, _, _⟩
  · cases hx
  · simp only [Prod.mk.injEq, DataW.slice.injEq] at hx
    obtain ⟨⟨rfl, _⟩, _⟩ := hx
    obtain ⟨hl, hg⟩ := scals_get hd
    have hll : ds.length = len := by rw [← hl]; simpa using hlen
    have each : ∀ i (hi : i < len), ∃ v d, W.cell? (a.add i) = some v ∧ ds[i]? = some d ∧ d = .s v ∧ v.oneCell' = true := fun i hi => by
      have h1 := hel i hi
      rw [List.getElem?_eq_getElem (by omega), hc1, Nat.mul_one] at h1
      obtain ⟨cs', h2, h3⟩ := Option.bind_eq_some_iff.1 h1
      obtain ⟨v, d, rfl, h4, rfl, h5⟩ := scal_trod he h3
      obtain ⟨d', k1, k2⟩ := hg i _ (by rw [List.getElem?_map, List.getElem?_eq_getElem (by omega)]; rfl)
      rw [h4] at k2
      obtain ⟨_, _, hc⟩ := World.cells?_some h2
      have h6 := hc 0 (by omega)
      have e0 : (a.add i).add 0 = a.add i := by simp [Addr.add]
      rw [e0] at h6
      exact ⟨d, d', h6, k1, (Option.some.inj k2).symm, h5⟩
    have hpos : 0 < len := by rw [← hll]; exact List.length_pos_iff.2 hne
    obtain ⟨v0, _, hv0, _⟩ := each 0 hpos
    have e0 : a.add 0 = a := by simp [Addr.add]
    rw [e0] at hv0
    obtain ⟨hspot, hblk⟩ : a.spot = none ∧ a.block < W.heap.size := by
      unfold World.cell? at hv0
      split at hv0
      · rename_i c _ _ hh
        split at hv0
        · cases hv0
        · rename_i hs
          refine ⟨by simpa using hs, ?_⟩
          rcases Nat.lt_or_ge a.block W.heap.size with h' | h'
          · exact h'
          · simp [Array.getElem?_eq_none h'] at hh
      · cases hv0
    obtain ⟨blk, o, spt⟩ := a
    simp only at hspot hblk
    subst hspot
    refine ⟨_, rfl, ?_⟩
    have hrl : (ds.map fun d => [d]).length = len := by simpa using hll
    have key : (ctx0 W).rel (.slice (some ⟨blk, o, none⟩) (ds.map fun d => [d]).length cap) (.l 0 (ds.map fun d => [d])) := by
      refine .l 0 _ blk o cap 1 (fun i j => (W.cell? ⟨blk, o + i * 1 + j, none⟩).getD undef) ?_ (by omega) hblk ?_ (fun _ _ _ _ => hblk) ?_ (fun h => absurd rfl h)
      · intro i row hi
        rw [List.getElem?_map, Option.map_eq_some_iff] at hi
        obtain ⟨d, _, rfl⟩ := hi
        rfl
      · intro i j hi hj
        obtain rfl : j = 0 := by omega
        obtain ⟨v, d, hv, _⟩ := each i (by omega)
        rw [Addr.add_none] at hv
        show W.cell? _ = _
        rw [Nat.mul_one, Nat.add_zero, hv]; rfl
      · intro i row j x hi hj
        rw [List.getElem?_map, Option.map_eq_some_iff] at hi
        obtain ⟨d, hd1, rfl⟩ := hi
        obtain rfl : j = 0 := by
          match j, hj with
          | 0, _ => rfl
          | j + 1, hj => simp at hj
        simp only [List.getElem?_cons_zero, Option.some.injEq] at hj
        subst hj
        obtain ⟨v, d', hv, hd', rfl, hone⟩ := each i (by rw [← hll]; exact (List.getElem?_eq_some_iff.1 hd1).1)
        rw [hd1] at hd'
        rw [Option.some.inj hd']
        rw [Addr.add_none] at hv
        rw [Nat.mul_one, Nat.add_zero, hv]
        exact .s v hone
    rw [hrl] at key
    exact key

/-- What a listed table gives to the machine. -/
theorem laid_glob {P : Program} {W : World} : ∀ {l : List (String × DataW Unit)} {ps : List MemPlace}, DataW.LaidVars P W l ps → ∀ {n : String} {es sp : List (DataW Unit)} {g : Nat} {t e : TypeId} {ds : List D},
    (n, DataW.slice es sp) ∈ l → P.globalNamed n = some g → (P.globals[g]?).map (·.type) = some t → P.underlying t = some (.slice e) → scalT P e = true → scals es = some ds → ds ≠ [] →
    g < W.heap.size ∧ ∃ y, W.cell? ⟨g, 0, none⟩ = some y ∧ (ctx0 W).rel y (.l 0 (ds.map fun d => [d]))
  | [], ps, h, n, es, sp, g, t, e, ds, hm, _, _, _, _, _, _ => by cases hm
  | (n', d') :: r, ps, h, n, es, sp, g, t, e, ds, hm, hg, ht, hu, he, hs, hne => by
    obtain ⟨g', t', cs, fuel, p, q, k1, k2, k3, k4, k5, _⟩ := h
    rcases List.mem_cons.1 hm with e0 | hm
    · cases e0
      obtain rfl := Option.some.inj (k1.symm.trans hg)
      obtain rfl := Option.some.inj (k2.symm.trans ht)
      obtain ⟨v, hv, hr⟩ := table_rel hu he k4 hs hne
      have hc := World.var?_cell k1 k3 0
      rw [Array.eq_one_of_toList hv] at hc
      have hc' : W.cell? ⟨g', 0, none⟩ = some v := by simpa using hc
      refine ⟨?_, v, hc', hr⟩
      rcases Nat.lt_or_ge g' W.heap.size with h' | h'
      · exact h'
      · simp [World.cell?, Array.getElem?_eq_none h'] at hc'
    · exact laid_glob k5 hm hg ht hu he hs hne

/-- A table's row in the machine. -/
def gRow (ds : List D) : List D := [.l 0 (ds.map fun d => [d])]
theorem gRow_ok {W : World} {g : Nat} {ds : List D} (h : g < W.heap.size ∧ ∃ y, W.cell? ⟨g, 0, none⟩ = some y ∧ (ctx0 W).rel y (.l 0 (ds.map fun d => [d]))) :
    g < (ctx0 W).w.heap.size ∧ ∀ (j : Nat) (x : D), (gRow ds)[j]? = some x → (ctx0 W).Im g j ∧ ∃ y, (ctx0 W).w.cell? ⟨g, j, none⟩ = some y ∧ (ctx0 W).rel y x := by
  obtain ⟨h1, y, h2, h3⟩ := h
  refine ⟨h1, fun j x hx => ?_⟩
  match j with
  | 0 => simp [gRow] at hx; subst hx; exact ⟨h1, y, h2, h3⟩
  | j + 1 => simp [gRow] at hx

/-- THE ROW's STEP, where tables are listed. -/
theorem law_laid {H : Type} {enc : TypeId × Value → H} {C : Checked} {os : Os} {f : FuncId} {fn : Func} {s : ChangeSpec} {S : List TypeId} {tb : TypeId} {laid : List (String × DataW Unit)} {G : Nat → Option (List D)} {fid : Nat → FuncId} {c : Nat}
    (own : ownKnob C.prog.godebug = none) (started : os.Started) (noInit : C.prog.inits.idxOf? f = none) (hfn : C.prog.funcs[f]? = some fn)
    (witness : ∃ (w : World) (tape : Tape) (i : Input), w.os = os ∧ (w.forCall tape i).Shaped C.prog ∧ i.vars = [] ∧ Input.okWide C.prog (w.forCall tape i) .any w.heap.size f i ∧
      ((s.pre enc C.prog fn [] false (w.forCall tape i).memory i.args ∧ laidMetH C.prog laid (w.forCall tape i).memory) ∧ sizedMet enc C.prog fn (OpenSpec.ofChange s) false (w.forCall tape i).memory i.args) ∧
      ({} : Assume).holds C.prog (lone (Frame.enter C.prog f i.args .normal) [] (w.forCall tape i)))
    (hl : laidOutB C.prog = true) (hS : plainIn C.prog S = true) (hpS : fn.params.toList.all (fun t => S.contains t && C.prog.readableRec t) = true) (hres : fn.resultTypes = #[tb]) (hb : C.prog.underlying tb = some .bool)
    (hvars : varsRowed C.prog s.vars = true) (hspec : ∀ ds gs : List (DataW H), ds.length = fn.params.size → gs.length = s.vars.length → s.fn H (ds ++ gs) = { results := [.lit (.bool true)], args := ds, vars := gs })
    (hG : ∀ W : World, laidMetH C.prog laid W → Glob G (ctx0 W)) (hf : fid c = f)
    (hrun : ∀ xs, ArgOk C.prog fn.params.toList xs → ∃ r, CallOK C.prog fid G c xs [] (fun k => k + 1) r ∧ r.v = sV (.bool true)) :
    ReturnsInHanded {} C os f .any (fun w args => (s.pre enc C.prog fn [] false w args ∧ laidMetH C.prog laid w) ∧ sizedMet enc C.prog fn (OpenSpec.ofChange s) false w args) (s.post enc C.prog fn false true false false) := by
  refine returnsInHanded_of_change_and (C := C) (X := fun w _ => laidMetH C.prog laid w) (fun _ _ _ hh h => h.of_heap hh) own started noInit hfn witness ?_
  intro W base args ds gs before hval hW _ _ hL _
  have hW' := hW
  obtain ⟨p, q, hA, hV, rfl, hfz, hnd⟩ := hW
  simp only [List.all_eq_true, Bool.and_eq_true, List.contains_iff_mem] at hpS
  have hS' := hS
  simp only [plainIn, List.all_eq_true, Bool.and_eq_true, decide_eq_true_eq] at hS'
  obtain ⟨xs, hx, hlen, hdl, hrel⟩ := args_rel (fid := fid) hl hS fn.params.toList args.toList ds p (fun t ht => (hpS t ht).1)
    (fun j t v hj hv => hval j t v (by rw [← Array.getElem?_toList]; exact hj) (by rw [← Array.getElem?_toList]; exact hv)) hA
  obtain ⟨r, hc, hrv⟩ := hrun xs hx
  have := hc.2 (ctx0 W) args.toList (in0 (fun k => Nat.succ_ne_zero k) (fun a b e => Nat.succ.inj e) (hG W hL)) hlen hrel
  rw [hf, Array.toArray_toList] at this
  refine this.mono ?_
  rintro e W' ⟨v, κ', rfl, rfl, O⟩
  have hv : v = .bool true := by
    have := O.v
    rw [hrv] at this
    cases this
    rfl
  subst hv
  have hbel : Below W.heap.size W κ'.w := out_below (G := G) O
  have hlt : ∀ x ∈ p, x.block < W.heap.size := fun x hx => by simpa using hW'.lt x (by simp [hx])
  have hgl : ∀ {ns : List String} {gs : List (DataW H)} {q : List MemPlace}, DataW.TrodVars enc C.prog W (fun _ => true) ns gs q → gs.length = ns.length := by
    intro ns
    induction ns with
    | nil => intro gs q h; cases gs with | nil => rfl | cons => exact h.elim
    | cons n ns ih => intro gs q h; cases gs with | nil => exact h.elim | cons => obtain ⟨_, _, _, _, _, _, _, _, _, _, h, _⟩ := h; simp [ih h]
  have hsp : s.fn H (ds ++ gs) = { results := [.lit (.bool true)], args := ds, vars := gs } := hspec ds gs (by simpa using hdl) (hgl hV)
  refine ⟨_, rfl, ds, gs, p ++ q, [], p, q, hW', ?_, ?_, ?_, hbel.frame _, fun h => by cases h⟩
  · rw [hsp, hres]
    exact trodAll_mk1 ⟨1, by simp [DataW.trod, Value.cells, hb]⟩
  · rw [hsp]
    exact args_stay hl hbel _ _ _ _ (fun t ht => ⟨(hpS t ht).2, (hS' t (hpS t ht).1).1⟩) hlt (fun x hx => by simpa using hlt x hx) hA
  · rw [hsp]; exact Below.trodVars hl hbel hvars hV

end Go.VM

/- The value machine: what 'slices.Clone' answers, whether its argument is nil or not. Conditions: none. -/
namespace Go.VM
set_option linter.unusedSimpArgs false
set_option linter.unusedVariables false
set_option maxHeartbeats 4000000

section
variable {P : Program} {fid : Nat → FuncId} {cid : FuncId → Nat} {G : Nat → Option (List D)}

/-- An empty slice is nil or it is not. -/
theorem nil_split {f st : Nat} {s : Sup} {r : Res} (h1 : CallOK P fid G f [.w .nil] [] s r) (h2 : CallOK P fid G f [.w (.ln st [])] [] s r) : CallOK P fid G f [.w (.d (.l st []))] [] s r := by
  refine ⟨h1.1, fun κ vs hI hl hr => ?_⟩
  obtain ⟨v, hv, hrel⟩ := hr 0 _ rfl
  have hvs : ∀ i : Nat, ∀ x : V, ∀ y : V, [y][i]? = some x → i = 0 ∧ x = y := fun i x y h => by
    match i with
    | 0 => simp at h; exact ⟨rfl, h.symm⟩
    | i + 1 => simp at h
  by_cases hn : v = .slice none 0 0
  · refine h1.2 κ vs hI hl fun i x hx => ?_
    obtain ⟨rfl, rfl⟩ := hvs i x _ hx
    exact ⟨v, hv, hn⟩
  · refine h2.2 κ vs hI hl fun i x hx => ?_
    obtain ⟨rfl, rfl⟩ := hvs i x _ hx
    exact ⟨v, hv, hrel, hn⟩

/-- A nil slice is an empty one that is one's own. -/
theorem nil_own {f : Nat} {args : List V} {s : Sup} {sz : Nat} (h : CallOK P fid G f args [] s ⟨.w .nil, [], []⟩) : CallOK P fid G f args [] s ⟨.w (.own 0 0 0 none), [], [.row none sz [] 0]⟩ := by
  refine ⟨h.1, fun κ vs hI hl hr => (h.2 κ vs hI hl hr).mono ?_⟩
  rintro e w' ⟨v, κ', rfl, rfl, O⟩
  have hd : ∀ b, κ'.β b = none := fun b => O.dom b (by simp)
  have hv : v = .slice none 0 0 := O.v
  have hge : ∀ b, b ≠ 0 → (([] : List Box) ++ [Box.row none sz [] 0]).getD b .dead = .dead := fun b hb => by
    obtain ⟨k, rfl⟩ : ∃ k, b = k + 1 := ⟨b - 1, by omega⟩
    rfl
  refine ⟨v, { κ' with β := upd κ'.β 0 (some ⟨0, 0, sz, 0, false⟩) }, rfl, rfl, ⟨O.le.size, O.le.im, O.le.cell, O.le.z, fun n i hn => ?_⟩, O.os, O.tape, O.output, O.same, O.im, O.imlt, O.zlt, O.zinj, O.znew, rfl, fun b hb => by simp at hb, ?_, ?_, ?_, ?_, ?_⟩
  · rw [hI.dom n (by simp)] at hn; cases hn
  · intro b hb
    have hb' : b ≠ 0 := fun e => by subst e; simp at hb
    show upd κ'.β 0 _ b = none
    simp [upd, hb', hd]
  · intro b i hb hi hre
    by_cases e : b = 0
    · subst e
      have : i = ⟨0, 0, sz, 0, false⟩ := by
        have h0 : upd κ'.β 0 (some ⟨0, 0, sz, 0, false⟩) 0 = some i := hi
        simp [upd] at h0; exact h0.symm
      subst this; cases hre
    · exact absurd (hge b e) hb
  · intro b
    by_cases e : b = 0
    · subst e
      exact ⟨⟨0, 0, sz, 0, false⟩, by simp [upd], rfl, by simp, .inl ⟨rfl, rfl⟩⟩
    · rw [hge b e]; trivial
  · intro b b' i i' hne hb hb' hi hi' hre hre'
    by_cases e : b = 0
    · by_cases e' : b' = 0
      · exact absurd (e.trans e'.symm) hne
      · exact absurd (hge b' e') hb'
    · exact absurd (hge b e) hb
  · exact ⟨⟨0, 0, sz, 0, false⟩, 0, by simp [upd], .inl rfl, Nat.le_refl _, .inl ⟨hv, rfl, rfl⟩⟩

/-- The code of 'slices.Clone'. -/
def cloneF (sz bytes : Nat) (zero : List D) : Fn := ⟨8, [.tmp 2],
  (.seq (.reg [⟨(some 2), .mv (.k (.w .nil)), none⟩])
  (.seq (.seq (.reg [⟨(some 3), .mv (.t 0), none⟩,
    ⟨(some 4), .bin .eql .sl (.t 3) (.k (.w .nil)), none⟩])
  (.cond (.t 4)
    (.seq (.reg [⟨(some 2), .mv (.k (.w .nil)), none⟩])
    .ret)
    .skip))
  (.seq (.reg [⟨(some 5), .bsl sz 0 zero [], none⟩,
    ⟨(some 6), .mv (.t 0), none⟩,
    ⟨(some 7), .app sz bytes zero (.t 5) (.t 6), none⟩,
    ⟨(some 2), .mv (.t 7), none⟩])
  .ret)))⟩

/-- Results keep slices that are one's own. -/
def keep (_ : Nat) : Mode := { move := true }

theorem clone_nil (call : CallT) (n f sz bytes : Nat) (zero : List D) (s : Sup) : runF call keep G n f (cloneF sz bytes zero) [.w .nil] [] s = some ⟨.w .nil, [], []⟩ := by
  simp [cloneF, keep]
theorem clone_ln (call : CallT) (n f sz bytes st : Nat) (zero : List D) (hz : zero.length = sz) (rows : List (List D)) (h1 : rows.all (·.length == sz) = true) (h2 : room rows.length bytes = true) (s : Sup) :
    runF call keep G n f (cloneF sz bytes zero) [.w (.ln st rows)] [] s = some ⟨.w (.own 0 0 rows.length none), [], [.row none sz rows 0]⟩ := by
  have h1' : (∀ x ∈ rows, x.length = sz) = True := eq_true (by simpa using h1)
  simp [cloneF, keep, rowParts, h1', h2, hz]
theorem clone_d (call : CallT) (n f sz bytes st : Nat) (zero : List D) (hz : zero.length = sz) (rows : List (List D)) (h0 : rows ≠ []) (h1 : rows.all (·.length == sz) = true) (h2 : room rows.length bytes = true) (s : Sup) :
    runF call keep G n f (cloneF sz bytes zero) [.w (.d (.l st rows))] [] s = some ⟨.w (.own 0 0 rows.length none), [], [.row none sz rows 0]⟩ := by
  have h1' : (∀ x ∈ rows, x.length = sz) = True := eq_true (by simpa using h1)
  simp [cloneF, keep, rowParts, h1', h2, hz, h0]

/-- What 'slices.Clone' answers. -/
theorem clone_ok (hcid : ∀ f, fid (cid f) = f) (hmix : P.follows .mixedOrders = true) {f sz bytes st : Nat} {zero : List D} {fn : Func} {rows : List (List D)} {s : Sup} (hfn : P.funcs[fid f]? = some fn) (hF : stripF P cid fn = some (cloneF sz bytes zero))
    (hz : zero.length = sz) (h1 : rows.all (·.length == sz) = true) (h2 : room rows.length bytes = true) :
    CallOK P fid G f [.w (.d (.l st rows))] [] s ⟨.w (.own 0 0 rows.length none), [], [.row none sz rows 0]⟩ := by
  have key := fun args r s (h : runF (fun _ _ _ _ => none) keep G 0 f (cloneF sz bytes zero) args [] s = some r) => runF_ok (fid := fid) hcid hmix (fun _ _ _ _ _ h => by cases h) hfn hF h
  by_cases h0 : rows = []
  · subst h0
    exact nil_split (nil_own (key _ _ _ (clone_nil _ _ _ _ _ _ _))) (key _ _ _ (clone_ln _ _ _ _ _ _ _ hz [] h1 h2 _))
  · exact key _ _ _ (clone_d _ _ _ _ _ _ _ hz rows h0 h1 h2 _)

end
end Go.VM

/- The value machine: a call that borrows its slices: they are read as data and are one's own again behind it. Conditions: none. -/
namespace Go.VM
set_option linter.unusedVariables false
set_option linter.unusedSimpArgs false

def D.flat : D → Bool
  | .s _ => true
  | .l _ _ => false
def W.flat : W → Bool
  | .d (.s _) => true
  | .nil => true
  | .own _ _ _ _ => true
  | _ => false
def V.flat : V → Bool
  | .w x => x.flat
  | .agg cs => cs.all W.flat
  | .tup vs => vs.all fun p => p.2.all W.flat
/-- A new row of plain cells, as it is once nothing is borrowed. -/
def cleanB : Box → Option Box
  | .row _ sz rows _ => if rows.all (fun r => r.all D.flat) then some (.row none sz rows 0) else none
  | .dead => some .dead
  | _ => none
def cleanL : List Box → Option (List Box)
  | [] => some []
  | b :: r => match cleanB b, cleanL r with | some x, some l => some (x :: l) | _, _ => none

def brw (call : CallT) : CallT := fun f args bs s =>
  match frzA false (fun k => s (2 * k)) ⟨fun b => bs.getD b .dead, 0, []⟩ args with
  | none => none
  | some (args', _) =>
    if args'.all (fun x => x.names.isEmpty) then
      match call f args' [] (fun k => s (2 * k + 1)) with
      | none => none
      | some r => match cleanL r.news with
        | none => none
        | some news => if r.bs.isEmpty && r.v.flat then some ⟨r.v.ren (fun k => k + bs.length), bs, news⟩ else none
    else none

section
variable {P : Program} {fid : Nat → FuncId} {G : Nat → Option (List D)} {κ κ' : Ctx}

theorem cleanL_len : ∀ {l m : List Box}, cleanL l = some m → m.length = l.length
  | [], m, h => by simp [cleanL] at h; subst h; rfl
  | b :: r, m, h => by
    simp only [cleanL] at h
    split at h
    · rename_i x l hx hl
      cases h
      simp [cleanL_len hl]
    · cases h
theorem cleanL_get : ∀ {l m : List Box}, cleanL l = some m → ∀ k, cleanB (l.getD k .dead) = some (m.getD k .dead)
  | [], m, h, k => by simp [cleanL] at h; subst h; simp [cleanB]
  | b :: r, m, h, k => by
    simp only [cleanL] at h
    split at h
    · rename_i x l hx hl
      cases h
      cases k with
      | zero => simpa using hx
      | succ k => simpa using cleanL_get hl k
    · cases h

theorem WRel.flat {v : Value} {x : W} (h : WRel fid κ v x) (hf : x.flat = true) {β' : Nat → Option Inf} {r : Nat → Nat} {w' : World} {Im' : Nat → Nat → Prop} {ζ' : Nat → Option Nat} (hr : ∀ n ∈ x.names, β' (r n) = κ.β n) : WRel fid ⟨w', Im', ζ', β'⟩ v (x.ren r) := by
  cases x with
  | d x =>
    cases x with
    | s u => cases h with | s _ hv => exact .s _ hv
    | l a b => simp [W.flat] at hf
  | nil => exact h
  | own b off len cap => obtain ⟨i, c, hi, h⟩ := h; exact ⟨i, c, by rw [← hi]; exact hr b (by simp [W.names]), h⟩
  | _ => simp [W.flat] at hf
theorem LRel.flat {arr : Array Value} {cs : List W} (h : LRel fid κ arr cs) (hf : cs.all W.flat = true) {β' : Nat → Option Inf} {r : Nat → Nat} {w' : World} {Im' : Nat → Nat → Prop} {ζ' : Nat → Option Nat} (hr : ∀ n ∈ wnames cs, β' (r n) = κ.β n) : LRel fid ⟨w', Im', ζ', β'⟩ arr (cs.map (W.ren r)) := by
  refine ⟨by simpa using h.1, fun i c hc => ?_⟩
  rw [List.getElem?_map] at hc
  cases hci : cs[i]? with
  | none => simp [hci] at hc
  | some c' =>
    simp [hci] at hc; subst hc
    obtain ⟨y, hy, q⟩ := h.2 i c' hci
    exact ⟨y, hy, q.flat (List.all_eq_true.1 hf _ (List.mem_of_getElem? hci)) (fun n hn => hr n (by simp only [wnames, List.mem_flatMap]; exact ⟨c', List.mem_of_getElem? hci, hn⟩))⟩
theorem VRel.flat {v : Value} {x : V} (h : VRel fid κ v x) (hf : x.flat = true) {β' : Nat → Option Inf} {r : Nat → Nat} {w' : World} {Im' : Nat → Nat → Prop} {ζ' : Nat → Option Nat} (hr : ∀ n ∈ x.names, β' (r n) = κ.β n) : VRel fid ⟨w', Im', ζ', β'⟩ v (x.ren r) := by
  cases x with
  | w x => exact WRel.flat h hf hr
  | agg cs => obtain ⟨arr, hv, h⟩ := h; exact ⟨arr, hv, h.flat hf hr⟩
  | tup vs =>
    obtain ⟨arr, hv, hs, h⟩ := h
    refine ⟨arr, hv, by simpa using hs, fun i p hp => ?_⟩
    rw [List.getElem?_map] at hp
    cases hpi : vs[i]? with
    | none => simp [hpi] at hp
    | some p' =>
      simp [hpi] at hp; subst hp
      obtain ⟨y, hy, q⟩ := h i p' hpi
      refine ⟨y, hy, ?_⟩
      have hfp : p'.2.all W.flat = true := List.all_eq_true.1 hf _ (List.mem_of_getElem? hpi)
      have hrn : ∀ n ∈ wnames p'.2, β' (r n) = κ.β n := fun n hn => hr n (by simp only [V.names, List.mem_flatMap]; exact ⟨p', List.mem_of_getElem? hpi, hn⟩)
      obtain ⟨b, cs⟩ := p'
      cases b with
      | true => obtain ⟨arr, hv, q⟩ := q; exact ⟨arr, hv, q.flat hfp hrn⟩
      | false =>
        match cs, q, hfp, hrn with
        | [x], q, hfp, hrn => exact WRel.flat q (by simpa using hfp) (fun n hn => hrn n (by simpa [wnames] using hn))

theorem RowsAt.flat {arr : Array Value} {δ sz : Nat} {rows : List (List D)} (h : RowsAt κ arr δ sz rows) (hf : rows.all (fun r => r.all D.flat) = true) : RowsAt κ' arr δ sz rows := by
  intro i row hi j x hj
  obtain ⟨y, hy, q⟩ := h i row hi j x hj
  refine ⟨y, hy, ?_⟩
  have h1 := List.all_eq_true.1 hf _ (List.mem_of_getElem? hi)
  have h2 := List.all_eq_true.1 h1 _ (List.mem_of_getElem? hj)
  cases x with
  | s u => cases q with | s _ hv => exact .s _ hv
  | l a b => simp [D.flat] at h2

theorem Cap.ren_same (c : Cap) : c.ren (fun n => n) = c := by cases c <;> rfl
theorem W.ren_same (x : W) : x.ren (fun n => n) = x := by
  cases x with
  | fn f caps =>
    show W.fn f (caps.map (Cap.ren fun n => n)) = _
    rw [show (Cap.ren fun n => n) = id from funext Cap.ren_same, List.map_id]
  | _ => rfl
theorem V.ren_same (x : V) : x.ren (fun n => n) = x := by
  have hw : (W.ren fun n => n) = id := funext W.ren_same
  cases x with
  | w x => show V.w (x.ren _) = _; rw [W.ren_same]
  | agg cs => show V.agg (cs.map _) = _; rw [hw, List.map_id]
  | tup vs =>
    show V.tup (vs.map fun p => (p.1, p.2.map (W.ren fun n => n))) = _
    rw [hw]
    simp

/-- A call that borrows is a call. -/
theorem brw_ok {call : CallT} (hcall : ∀ f args bs s r, call f args bs s = some r → CallOK P fid G f args bs s r) :
    ∀ f args bs s r, brw call f args bs s = some r → CallOK P fid G f args bs s r := by
  intro f args bs s r h
  unfold brw at h
  split at h
  · cases h
  · rename_i args' z hz
    split at h
    · rename_i hnm
      split at h
      · cases h
      · rename_i r0 hr0
        split at h
        · cases h
        · rename_i news hnews
          split at h
          · rename_i hc
            cases h
            simp only [Bool.and_eq_true, List.isEmpty_iff] at hc
            obtain ⟨hbs, hflat⟩ := hc
            obtain ⟨hent, hok⟩ := hcall _ _ _ _ _ hr0
            refine ⟨hent, fun κ vs hIn hl hr => ?_⟩
            let E : Entry := ⟨κ, fun t => ∃ k, t = s k, passOf κ bs⟩
            have I0 : Inv fid G E κ (fun b => bs.getD b .dead) (fun b => bs.length ≤ b) (fun t => ∃ k, t = s k) :=
              ⟨Ctx.le.refl κ, rfl, rfl, rfl, fun _ _ _ => rfl, fun _ _ h => .inl h, hIn.imlt, hIn.zlt, hIn.zinj, fun _ _ h => .inl h,
                fun t ht => by obtain ⟨k, rfl⟩ := ht; exact ⟨(hIn.zfree k).1, (hIn.zfree k).2, k, rfl⟩, fun b hb => hIn.dom b hb, fun b i hd hb hre => .inr ⟨b, i, hd, hb, hre, rfl⟩, hIn.box, hIn.dist, hIn.glob⟩
            obtain ⟨κ₁, F, h1, h2⟩ := frzA_ok (s := fun k => s (2 * k)) (fun a b e => by have := hIn.sinj _ _ e; omega) (fun k => ⟨2 * k, rfl⟩) (z := ⟨fun b => bs.getD b .dead, 0, []⟩) (vs := vs) (I0.weak (fun _ h => h) (fun t h => h.1)) hl hr hz
            let κ₂ : Ctx := { κ₁ with β := fun _ => none }
            have hIn2 : In fid G κ₂ [] (fun k => s (2 * k + 1)) := by
              refine ⟨F.inv.imlt, F.inv.zlt, F.inv.zinj, fun k => ?_, fun a b e => by have := hIn.sinj _ _ e; omega, fun _ _ => rfl, fun _ h => by simp at h, fun b => by simp [BoxRel], fun _ _ _ _ _ h => by simp at h, F.inv.glob⟩
              have := F.inv.zfree (s (2 * k + 1)) ⟨⟨2 * k + 1, rfl⟩, fun j _ e => by have := hIn.sinj _ _ e; omega⟩
              exact ⟨this.1, this.2.1⟩
            have hpn : ∀ b, ¬ passOf κ₂ [] b := fun b hb => by obtain ⟨n, i, hd, _⟩ := hb; simp at hd
            have hcallr := hok κ₂ vs hIn2 h1 (fun i x hx => by
              obtain ⟨v, hv, q⟩ := h2 i x hx
              refine ⟨v, hv, ?_⟩
              have hx' : x.names = [] := by simpa using List.all_eq_true.1 hnm _ (List.mem_of_getElem? hx)
              have := VRel.ren (β' := fun _ => none) (r := fun n => n) q (fun n hn => by rw [hx'] at hn; cases hn)
              rw [V.ren_same] at this
              exact this)
            have hw1 : κ₂.w = κ.w := F.w
            rw [hw1] at hcallr
            refine hcallr.mono ?_
            rintro en w' ⟨v, κ₃, rfl, rfl, O⟩
            have hlenn := cleanL_len hnews
            have hget := cleanL_get hnews
            have hle3 : κ.w.heap.size ≤ κ₃.w.heap.size := by
              have h1 := F.le.size
              have h2 : κ₁.w.heap.size ≤ κ₃.w.heap.size := O.le.size
              exact Nat.le_trans h1 h2
            have hsame : ∀ k, k < κ.w.heap.size → κ₃.w.heap[k]? = κ.w.heap[k]? := fun k hk => by
              have := O.same k (by rw [hw1]; exact hk) (hpn k)
              rw [hw1] at this; exact this
            let β₄ : Nat → Option Inf := fun b => if b < bs.length then κ.β b else κ₃.β (b - bs.length)
            let κ₄ : Ctx := ⟨κ₃.w, κ.Im, κ.ζ, β₄⟩
            have hle4 : κ.le κ₄ := by
              refine ⟨hle3, fun _ _ h => h, fun b o hbo => ?_, fun _ _ h => h, fun n i hn => ?_⟩
              · exact cell_heap (hsame b (hIn.imlt b o hbo)) o
              · show β₄ n = some i
                have : n < bs.length := by
                  rcases Nat.lt_or_ge n bs.length with h | h
                  · exact h
                  · rw [hIn.dom n h] at hn; cases hn
                simp only [β₄]; rw [if_pos this]; exact hn
            have hbs0 : r0.bs = [] := hbs
            have hO : ∀ k, (r0.bs ++ r0.news).getD k .dead = r0.news.getD k .dead := fun k => by rw [hbs0, List.nil_append]
            have hin : ∀ b, b < bs.length → (bs ++ news).getD b .dead = bs.getD b .dead := fun b hb => by
              rw [List.getD_eq_getElem?_getD, List.getD_eq_getElem?_getD, List.getElem?_append_left hb]
            have hout : ∀ b, bs.length ≤ b → (bs ++ news).getD b .dead = news.getD (b - bs.length) .dead := fun b hb => by
              rw [List.getD_eq_getElem?_getD, List.getD_eq_getElem?_getD, List.getElem?_append_right hb]
            have hdead : ∀ k, news.getD k .dead ≠ .dead → r0.news.getD k .dead ≠ .dead := fun k hk e => by
              have := hget k
              rw [e] at this
              simp only [cleanB, Option.some.injEq] at this
              exact hk this.symm
            have hnewblk : ∀ k i, news.getD k .dead ≠ .dead → κ₃.β k = some i → i.real = true → κ.w.heap.size ≤ i.blk := fun k i hk hi hre => by
              rcases O.blk k i (by rw [hO]; exact hdead k hk) hi hre with h | h
              · rw [hw1] at h; exact h
              · exact absurd h (hpn _)
            have hoct : κ₂.w.os = κ.w.os := by rw [hw1]
            refine ⟨v, κ₄, rfl, rfl, hle4, ?_, ?_, ?_, fun k hk _ => hsame k hk, fun _ _ h => .inl h, fun k o h => Nat.lt_of_lt_of_le (hIn.imlt k o h) hle3, fun t b h => Nat.lt_of_lt_of_le (hIn.zlt t b h) hle3, hIn.zinj, fun _ _ h => .inl h, rfl, ?_, ?_, ?_, ?_, ?_, ?_⟩
            · have := O.os; rw [hw1] at this; exact this
            · have := O.tape; rw [hw1] at this; exact this
            · have := O.output; rw [hw1] at this; exact this
            · intro b hb
              show β₄ b = κ.β b
              simp only [β₄]; rw [if_pos hb]
            · intro b hb
              show β₄ b = none
              have hb' : bs.length + news.length ≤ b := hb
              simp only [β₄]; rw [if_neg (by omega)]
              exact O.dom _ (by rw [← hlenn]; simp; omega)
            · intro b i hd hi hre
              have hi' : β₄ b = some i := hi
              simp only [β₄] at hi'
              rcases Nat.lt_or_ge b bs.length with hb | hb
              · rw [if_pos hb] at hi'
                have hd' : (bs ++ news).getD b .dead ≠ .dead := hd
                rw [hin b hb] at hd'
                exact .inr ⟨b, i, hd', hi', hre, rfl⟩
              · rw [if_neg (by omega)] at hi'
                have hd' : (bs ++ news).getD b .dead ≠ .dead := hd
                rw [hout b hb] at hd'
                exact .inl (hnewblk _ i hd' hi' hre)
            · intro b
              show BoxRel fid κ₄ b ((bs ++ news).getD b .dead)
              rcases Nat.lt_or_ge b bs.length with hb | hb
              · rw [hin b hb]
                refine (hIn.box b).keep hle4 (fun i hd hi hre => ⟨hsame _ ?_, fun _ h => h, fun _ h => h⟩)
                exact I0.live_lt hd hi hre
              · rw [hout b hb]
                have hc := hget (b - bs.length)
                have hbx := O.box (b - bs.length)
                rw [hO] at hbx
                have hβb : κ₄.β b = κ₃.β (b - bs.length) := by
                  show β₄ b = _
                  simp only [β₄]; rw [if_neg (by omega)]
                by_cases hnd : news.getD (b - bs.length) .dead = .dead
                · rw [hnd]; trivial
                · have hnb := fun i => hnewblk (b - bs.length) i hnd
                  revert hc hbx
                  cases r0.news.getD (b - bs.length) .dead with
                  | dead => intro hc _; simp only [cleanB, Option.some.injEq] at hc; rw [← hc]; trivial
                  | cells cs => intro hc; simp [cleanB] at hc
                  | row st sz rows ro =>
                    intro hc hbx
                    simp only [cleanB] at hc
                    split at hc
                    · rename_i hfl
                      simp only [Option.some.injEq] at hc
                      rw [← hc]
                      obtain ⟨i, hi, k1, k2, k3⟩ := hbx
                      refine ⟨i, by rw [hβb]; exact hi, k1, k2, ?_⟩
                      rcases k3 with k3 | ⟨arr, T, q⟩
                      · exact .inl k3
                      · have hge := hnb i hi q.real
                        refine .inr ⟨arr, T, q.real, q.heap, q.size, q.fits, q.rows.flat hfl, fun o ho => ?_, fun t ht => ?_⟩
                        · have := hIn.imlt i.blk o ho; omega
                        · have := hIn.zlt t i.blk ht; omega
                    · cases hc
            · intro b b' i i' hne hd hd' hi hi' hre hre'
              have hi1 : β₄ b = some i := hi
              have hi1' : β₄ b' = some i' := hi'
              have hd1 : (bs ++ news).getD b .dead ≠ .dead := hd
              have hd1' : (bs ++ news).getD b' .dead ≠ .dead := hd'
              simp only [β₄] at hi1 hi1'
              rcases Nat.lt_or_ge b bs.length with hb | hb <;> rcases Nat.lt_or_ge b' bs.length with hb' | hb'
              · rw [if_pos hb] at hi1
                rw [if_pos hb'] at hi1'
                rw [hin b hb] at hd1
                rw [hin b' hb'] at hd1'
                exact hIn.dist b b' i i' hne hd1 hd1' hi1 hi1' hre hre'
              · rw [if_pos hb] at hi1
                rw [if_neg (by omega)] at hi1'
                rw [hin b hb] at hd1
                rw [hout b' hb'] at hd1'
                have h1 := hnewblk _ i' hd1' hi1' hre'
                have h2 := I0.live_lt hd1 hi1 hre
                have h3 : i.blk < κ.w.heap.size := h2
                omega
              · rw [if_neg (by omega)] at hi1
                rw [if_pos hb'] at hi1'
                rw [hout b hb] at hd1
                rw [hin b' hb'] at hd1'
                have h1 := hnewblk _ i hd1 hi1 hre
                have h2 := I0.live_lt hd1' hi1' hre'
                have h3 : i'.blk < κ.w.heap.size := h2
                omega
              · rw [if_neg (by omega)] at hi1 hi1'
                rw [hout b hb] at hd1
                rw [hout b' hb'] at hd1'
                exact O.dist _ _ i i' (by omega) (by rw [hO]; exact hdead _ hd1) (by rw [hO]; exact hdead _ hd1') hi1 hi1' hre hre'
            · refine O.v.flat hflat (fun n hn => ?_)
              show β₄ (n + bs.length) = κ₃.β n
              simp only [β₄]; rw [if_neg (by omega), Nat.add_sub_cancel]
          · cases h
    · cases h

end
end Go.VM

/- The value machine: a table of functions of which some lend their slices to what they call. Conditions: none. -/
namespace Go.VM
set_option linter.unusedVariables false

def brwEnd (bs : List Box) (r : Res) (news : List Box) : Option Res := if r.bs.isEmpty && r.v.flat then some ⟨r.v.ren (fun k => k + bs.length), bs, news⟩ else none
def brwCall (call : CallT) (f : Nat) (bs : List Box) (s : Sup) (args : List V) : Option Res :=
  if args.all (fun x => x.names.isEmpty) then bnd (call f args [] (fun k => s (2 * k + 1))) fun r => bnd (cleanL r.news) (brwEnd bs r) else none
theorem brw_at (call : CallT) (f : Nat) (args : List V) (bs : List Box) (s : Sup) :
    brw call f args bs s = bnd2 (frzA false (fun k => s (2 * k)) ⟨nth .dead bs, 0, []⟩ args) fun args' _ => brwCall call f bs s args' := by
  unfold brw
  rw [show (fun b => bs.getD b .dead) = nth .dead bs from funext (nth_eq _ _)]
  cases frzA false (fun k => s (2 * k)) ⟨nth .dead bs, 0, []⟩ args with
  | none => rfl
  | some p =>
    obtain ⟨a, z⟩ := p
    simp only [bnd2_some, brwCall]
    split
    · generalize call f a [] (fun k => s (2 * k + 1)) = x
      cases x with
      | none => rfl
      | some r =>
        simp only [bnd_some]
        cases cleanL r.news with
        | none => rfl
        | some news => simp only [bnd_some, brwEnd]
    · rfl

@[simp] theorem cleanL_nil : cleanL [] = some [] := rfl

/-- Calls of which some borrow. -/
def lend (BR : Nat → Bool) (call : CallT) : CallT := fun g a b s => if BR g then brw call g a b s else call g a b s
def run2 (FT : Tab) (O : Nat → Bool) (A : Orc) (M : Nat → Mode) (SP BR : Nat → Bool) (M2 : Nat → Mode) (G : Nat → Option (List D)) : Nat → CallT
  | 0, _, _, _, _ => none
  | n + 1, f, args, bs, s => if O f then (match bs with | [] => A f args | _ => none) else
    match FT f with
    | some F => if SP f then runF (lend BR (run2 FT O A M SP BR M2 G n)) M2 G n f F args bs s else runF (run2 FT O A M SP BR M2 G n) M G n f F args bs s
    | none => none

section
variable {P : Program} {fid : Nat → FuncId} {cid : FuncId → Nat} {G : Nat → Option (List D)} {M M2 : Nat → Mode} {SP BR : Nat → Bool}
theorem lend_ok {call : CallT} (hcall : ∀ f args bs s r, call f args bs s = some r → CallOK P fid G f args bs s r) :
    ∀ f args bs s r, lend BR call f args bs s = some r → CallOK P fid G f args bs s r := by
  intro f args bs s r h
  unfold lend at h
  split at h
  · exact brw_ok hcall f args bs s r h
  · exact hcall f args bs s r h
theorem run2_ok {FT : Tab} {O : Nat → Bool} {A : Orc} (hcid : ∀ f, fid (cid f) = f) (hmix : P.follows .mixedOrders = true)
    (hFT : ∀ f F, FT f = some F → ∃ fn, P.funcs[fid f]? = some fn ∧ stripF P cid fn = some F)
    (hA : ∀ f args s r, O f = true → A f args = some r → CallOK P fid G f args [] s r) :
    ∀ (n f : Nat) (args : List V) (bs : List Box) (s : Sup) (r : Res), run2 FT O A M SP BR M2 G n f args bs s = some r → CallOK P fid G f args bs s r
  | 0, f, args, bs, s, r, h => by cases h
  | n + 1, f, args, bs, s, r, h => by
    simp only [run2] at h
    split at h
    · rename_i ho
      split at h
      · exact hA f args s r ho h
      · cases h
    · split at h
      · rename_i F hF
        obtain ⟨fn, h1, h2⟩ := hFT f F hF
        split at h
        · exact runF_ok hcid hmix (lend_ok (run2_ok hcid hmix hFT hA n)) h1 h2 h
        · exact runF_ok hcid hmix (run2_ok hcid hmix hFT hA n) h1 h2 h
      · cases h
end
end Go.VM

/- The tables that the program's package-level variables hold. Conditions: none. -/
namespace Go.VM

def ints (l : List Int) : List D := l.map fun n => .s (.int .i64 n)
def sizesD : List D := ints [0, 32, 32, 64, 16, 32, 5, 16, 16, 32, 16]
def wordsD : List D := [.s (.string ⟨#[110, 97, 110]⟩), .s (.string ⟨#[105, 110, 102]⟩), .s (.string ⟨#[45, 105, 110, 102]⟩), .s (.string ⟨#[45, 48, 46, 48]⟩)]
def GT : Nat → Option (List D) := fun g => if g = 0 then some (gRow wordsD) else if g = 1 then some (gRow sizesD) else none

end Go.VM
