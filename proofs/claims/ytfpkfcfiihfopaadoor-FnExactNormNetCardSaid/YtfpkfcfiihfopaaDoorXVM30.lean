/- The value machine: words for reckoning a run. Conditions: none. -/
import Derived.Test.YtfpkfcfiihfopaaDoorXVMC

namespace Go.VM
set_option linter.unusedVariables false
@[simp] theorem upd_at {α : Type} (f : Nat → α) (n : Nat) (x : α) (m : Nat) : upd f n x m = if m = n then x else f m := (rfl)
def withL {α : Type} (l : List Nat) (k : List Nat → α) : α := k l
@[congr] theorem withL_congr {α : Type} {l l' : List Nat} {k : List Nat → α} (h : l = l') : withL l k = withL l' k := by rw [h]
@[simp] theorem withL_nil {α : Type} (k : List Nat → α) : withL [] k = k [] := (rfl)
@[simp] theorem withL_1 {α : Type} (k : List Nat → α) (a : Nat) : withL [a] k = k [a] := (rfl)
@[simp] theorem withL_2 {α : Type} (k : List Nat → α) (a b : Nat) : withL [a, b] k = k [a, b] := (rfl)
@[simp] theorem withL_3 {α : Type} (k : List Nat → α) (a b c : Nat) : withL [a, b, c] k = k [a, b, c] := (rfl)
@[simp] theorem withL_4 {α : Type} (k : List Nat → α) (a b c d : Nat) : withL [a, b, c, d] k = k [a, b, c, d] := (rfl)
@[simp] theorem withL_5 {α : Type} (k : List Nat → α) (a b c d e : Nat) : withL [a, b, c, d, e] k = k [a, b, c, d, e] := (rfl)
@[simp] theorem withL_6 {α : Type} (k : List Nat → α) (a b c d e f : Nat) : withL [a, b, c, d, e, f] k = k [a, b, c, d, e, f] := (rfl)
def nth {α : Type} (d : α) : List α → Nat → α
 | [], _ => d
 | a :: _, 0 => a
 | _ :: l, n + 1 => nth d l n
theorem nth_eq {α : Type} (d : α) : ∀ (l : List α) (n : Nat), l.getD n d = nth d l n
 | [], n => by simp [nth]
 | a :: l, 0 => by simp [nth]
 | a :: l, n + 1 => by
  have := nth_eq d l n; simp only [nth, ← this]; simp
def behindCall (z : Fz) (g : Nat) (ns : List Nat) (r : Res) : Option Eff :=
 if r.bs.length = ns.length ∧ r.news.length ≤ 64 ∧ closed z.H ns = true then
  let σ : Nat → Nat := fun k => if k < ns.length then nth 0 ns k else g + (k - ns.length)
  some ⟨r.v.ren σ, updL z.H ((ns.zip (r.bs.map (Box.ren σ))) ++ ((List.range r.news.length).map (g + ·)).zip (r.news.map (Box.ren σ))),
   z.touch ++ ns, !(z.touch ++ ns).isEmpty⟩
 else none
theorem callV_eq (call : CallT) (M : Nat → Mode) (stamp : Bool) (H : Nat → Box) (g : Nat) (s : Sup) (f : Nat) (args : List V) :
 callV call M stamp H g s f args = match (if (M f).inout then some (args, (⟨H, 0, []⟩ : Fz)) else frzA stamp (fun k => s (2 * k)) ⟨H, 0, []⟩ args) with
  | none => none
  | some (args, z) => withL (reach z.H 4 (addAll [] (args.flatMap V.names))) fun ns =>
   match call f (args.map (V.ren (idx ns))) (ns.map fun b => (z.H b).ren (idx ns)) (fun k => s (2 * k + 1)) with
   | none => none
   | some r => behindCall z g ns r := by
 unfold behindCall; rw [show nth 0 = fun l k => l.getD k 0 from funext fun l => funext fun k => (nth_eq 0 l k).symm]
 rfl
theorem finish_eq (stamp move : Bool) (m : Nat) (st : St) (res : List (Bool × List W)) :
 finish stamp move m st res = match (if move then some (res, (⟨st.H, 0, []⟩ : Fz)) else frzP stamp st.s ⟨st.H, 0, []⟩ res) with
  | none => none
  | some (res, z) => withL (reach z.H 4 (addAll (List.range m) ((res.flatMap fun p => wnames p.2) ++ (List.range m).flatMap fun b => (z.H b).names))) fun ns =>
   if m ≤ ns.length ∧ ns.take m = List.range m ∧ closed z.H ns = true then
    some ⟨(one? res).ren (idx ns), (List.range m).map (fun b => (z.H b).ren (idx ns)), (ns.drop m).map fun b => (z.H b).ren (idx ns)⟩
   else none := (rfl)
theorem runF_eq (call : CallT) (M : Nat → Mode) (G : Nat → Option (List D)) (n : Nat) (f : Nat) (F : Fn) (args : List V) (bs : List Box) (s : Sup) :
 runF call M G n f F args bs s = if args.length ≤ F.ntmps then
 match execC call M G (M f).stamp F.ntmps n F.code ⟨nth (.tup []) args, nth .dead bs, bs.length, s⟩ with
 | some (.ret, st) | some (.normal, st) => match resV st.τ st.H F.res with
  | some res => finish (M f).stamp (M f).move bs.length st res
  | none => none
 | _ => none
 else none := by
 unfold runF; rw [show (fun t => args.getD t (.tup [])) = nth (.tup []) args from funext (nth_eq _ _), show (fun b => bs.getD b .dead) = nth .dead bs from funext (nth_eq _ _)]
 rfl
theorem iter_rule {body : St → Option (Ex × St)} {Q : Ex → St → Prop} (I : Nat → St → Prop)
 (h : ∀ k st, I k st → ∃ e st', body st = some (e, st') ∧ (e = .normal → ∃ k', k' < k ∧ I k' st') ∧ (e ≠ .normal → Q e st')) :
 ∀ n k st, k < n → I k st → ∃ e st', iter body n st = some (e, st') ∧ e ≠ .normal ∧ Q e st'
 | 0, k, st, hk, hI => by omega
 | n + 1, k, st, hk, hI => by
  obtain ⟨e, st', h1, h2, h3⟩ := h k st hI; cases e with
  | normal =>
   obtain ⟨k', hk', hI'⟩ := h2 rfl; obtain ⟨e, st'', m1, m2, m3⟩ := iter_rule I h n k' st' (by omega) hI'; exact ⟨e, st'', by simp only [iter, h1]; exact m1, m2, m3⟩
  | exit id => exact ⟨.exit id, st', by simp only [iter, h1], by simp, h3 (by simp)⟩
  | ret => exact ⟨.ret, st', by simp only [iter, h1], by simp, h3 (by simp)⟩
def bnd {α β : Type} (x : Option α) (k : α → Option β) : Option β := match x with | some a => k a | none => none
@[congr] theorem bnd_congr {α β : Type} {x x' : Option α} {k : α → Option β} (h : x = x') : bnd x k = bnd x' k := by rw [h]
@[simp] theorem bnd_some {α β : Type} (a : α) (k : α → Option β) : bnd (some a) k = k a := (rfl)
@[simp] theorem bnd_none {α β : Type} (k : α → Option β) : bnd none k = none := (rfl)
def andThen (x : Option (Ex × St)) (k : St → Option (Ex × St)) : Option (Ex × St) := match x with
 | some (.normal, st) => k st
 | r => r
@[congr] theorem andThen_congr {x x' : Option (Ex × St)} {k : St → Option (Ex × St)} (h : x = x') : andThen x k = andThen x' k := by rw [h]
@[simp] theorem andThen_normal (st : St) (k : St → Option (Ex × St)) : andThen (some (.normal, st)) k = k st := (rfl)
@[simp] theorem andThen_exit (i : Nat) (st : St) (k : St → Option (Ex × St)) : andThen (some (.exit i, st)) k = some (.exit i, st) := (rfl)
@[simp] theorem andThen_ret (st : St) (k : St → Option (Ex × St)) : andThen (some (.ret, st)) k = some (.ret, st) := (rfl)
@[simp] theorem andThen_none (k : St → Option (Ex × St)) : andThen none k = none := (rfl)
def inBlock (id : Nat) (x : Option (Ex × St)) : Option (Ex × St) := match x with
 | some (.exit id', st') => if id' = id then some (.normal, st') else some (.exit id', st')
 | r => r
@[simp] theorem inBlock_normal (id : Nat) (st : St) : inBlock id (some (.normal, st)) = some (.normal, st) := (rfl)
@[simp] theorem inBlock_ret (id : Nat) (st : St) : inBlock id (some (.ret, st)) = some (.ret, st) := (rfl)
@[simp] theorem inBlock_exit (id i : Nat) (st : St) : inBlock id (some (.exit i, st)) = if i = id then some (.normal, st) else some (.exit i, st) := (rfl)
def behindF (x : Option (Ex × St)) (k : St → Option Res) : Option Res := match x with
 | some (.ret, st) => k st
 | some (.normal, st) => k st
 | _ => none
@[congr] theorem behindF_congr {x x' : Option (Ex × St)} {k : St → Option Res} (h : x = x') : behindF x k = behindF x' k := by rw [h]
@[simp] theorem behindF_ret (st : St) (k : St → Option Res) : behindF (some (.ret, st)) k = k st := (rfl)
@[simp] theorem behindF_normal (st : St) (k : St → Option Res) : behindF (some (.normal, st)) k = k st := (rfl)
def onBool (v : V) (a b : Option (Ex × St)) : Option (Ex × St) := match v with
 | .w (.d (.s (.bool t))) => if t then a else b
 | _ => none
@[congr] theorem onBool_congr {v v' : V} {a b : Option (Ex × St)} (h : v = v') : onBool v a b = onBool v' a b := by rw [h]
@[simp] theorem onBool_if (t : Bool) (a b : Option (Ex × St)) : onBool (.w (.d (.s (.bool t)))) a b = if t = true then a else b := (rfl)
def bndE {β : Type} (x : Option Eff) (k : V → (Nat → Box) → List Nat → Bool → Option β) : Option β := match x with | some e => k e.v e.H e.touch e.wr | none => none
@[congr] theorem bndE_congr {β : Type} {x x' : Option Eff} {k : V → (Nat → Box) → List Nat → Bool → Option β} (h : x = x') : bndE x k = bndE x' k := by rw [h]
@[simp] theorem bndE_some {β : Type} (v : V) (H : Nat → Box) (t : List Nat) (w : Bool) (k : V → (Nat → Box) → List Nat → Bool → Option β) : bndE (some ⟨v, H, t, w⟩) k = k v H t w := (rfl)
@[simp] theorem bndE_none {β : Type} (k : V → (Nat → Box) → List Nat → Bool → Option β) : bndE none k = none := (rfl)
def bnd2 {α β γ : Type} (x : Option (α × β)) (k : α → β → Option γ) : Option γ := match x with | some p => k p.1 p.2 | none => none
@[congr] theorem bnd2_congr {α β γ : Type} {x x' : Option (α × β)} {k : α → β → Option γ} (h : x = x') : bnd2 x k = bnd2 x' k := by rw [h]
@[simp] theorem bnd2_some {α β γ : Type} (a : α) (b : β) (k : α → β → Option γ) : bnd2 (some (a, b)) k = k a b := (rfl)
@[simp] theorem bnd2_none {α β γ : Type} (k : α → β → Option γ) : bnd2 none k = none := (rfl)
def bnd3 {α β γ δ : Type} (x : Option (α × β × γ)) (k : α → β → γ → Option δ) : Option δ := match x with | some p => k p.1 p.2.1 p.2.2 | none => none
@[congr] theorem bnd3_congr {α β γ δ : Type} {x x' : Option (α × β × γ)} {k : α → β → γ → Option δ} (h : x = x') : bnd3 x k = bnd3 x' k := by rw [h]
@[simp] theorem bnd3_some {α β γ δ : Type} (a : α) (b : β) (c : γ) (k : α → β → γ → Option δ) : bnd3 (some (a, b, c)) k = k a b c := (rfl)
@[simp] theorem bnd3_none {α β γ δ : Type} (k : α → β → γ → Option δ) : bnd3 none k = none := (rfl)
def guardE (v : V) (want : Bool) (x : Option Eff) (H : Nat → Box) : Option Eff := match v with
 | .w (.d (.s (.bool b))) => if b = want then x else some ⟨.tup [], H, [], false⟩
 | .tup _ => some ⟨.tup [], H, [], false⟩
 | _ => none
@[congr] theorem guardE_congr {v v' : V} {want : Bool} {x : Option Eff} {H : Nat → Box} (h : v = v') : guardE v want x H = guardE v' want x H := by rw [h]
@[simp] theorem guardE_bool (b want : Bool) (x : Option Eff) (H : Nat → Box) : guardE (.w (.d (.s (.bool b)))) want x H = if b = want then x else some ⟨.tup [], H, [], false⟩ := (rfl)
@[simp] theorem guardE_tup (l : List (Bool × List W)) (want : Bool) (x : Option Eff) (H : Nat → Box) : guardE (.tup l) want x H = some ⟨.tup [], H, [], false⟩ := (rfl)
def pickF (H : Nat → Box) (c a b : V) : Option Eff := ret0 H (c.bool?.map fun t => if t then a else b)
@[simp] theorem pickF_bool (H : Nat → Box) (t : Bool) (a b : V) : pickF H (.w (.d (.s (.bool t)))) a b = some ⟨if t = true then a else b, H, [], false⟩ := (rfl)
def boxF (H : Nat → Box) (g sz : Nat) (v : V) : Option Eff := match v.cells? with
 | some cs => if cs.length = sz then some ⟨.w (.ptr g 0), upd H g (.cells cs), [], false⟩ else none
 | none => none
@[simp] theorem boxF_agg (H : Nat → Box) (g sz : Nat) (cs : List W) : boxF H g sz (.agg cs) = if cs.length = sz then some ⟨.w (.ptr g 0), upd H g (.cells cs), [], false⟩ else none := (rfl)
@[simp] theorem boxF_w (H : Nat → Box) (g sz : Nat) (x : W) : boxF H g sz (.w x) = if 1 = sz then some ⟨.w (.ptr g 0), upd H g (.cells [x]), [], false⟩ else none := (rfl)
@[simp] theorem setParts_nil (cells : List W) : setParts cells [] = some cells := (rfl)
@[simp] theorem setParts_w (cells : List W) (off sz : Nat) (x : W) (r : List (Nat × Nat × V)) : setParts cells ((off, sz, .w x) :: r) = if 1 = sz ∧ off + sz ≤ cells.length then setParts (splice cells off [x]) r else none := (rfl)
@[simp] theorem setParts_agg (cells : List W) (off sz : Nat) (cs : List W) (r : List (Nat × Nat × V)) : setParts cells ((off, sz, .agg cs) :: r) = if cs.length = sz ∧ off + sz ≤ cells.length then setParts (splice cells off cs) r else none := (rfl)
@[simp] theorem rowParts_nil (stamp : Bool) (s : Sup) (sz : Nat) (rows : List (List D)) (z : Fz) : rowParts stamp s sz rows z [] = some (rows, z) := (rfl)
def rowPart (stamp : Bool) (s : Sup) (sz : Nat) (rows : List (List D)) (i : Nat) (r : List (Nat × V)) (l : List W) (z' : Fz) : Option (List (List D) × Fz) :=
 bnd (datas? l) fun ds => if ds.length = sz ∧ i < rows.length then rowParts stamp s sz (rows.set i ds) z' r else none
theorem rowParts_cells (stamp : Bool) (s : Sup) (sz : Nat) (rows : List (List D)) (z : Fz) (i : Nat) (v : V) (cs : List W) (h : v.cells? = some cs) (r : List (Nat × V)) :
 rowParts stamp s sz rows z ((i, v) :: r) = bnd2 (frzL stamp s z cs) (rowPart stamp s sz rows i r) := by
 rw [rowParts, h]; simp only; cases frzL stamp s z cs with
 | none => rfl
 | some p =>
  obtain ⟨l, z'⟩ := p
  show _ = rowPart stamp s sz rows i r l z'
  unfold rowPart; simp only; cases datas? l <;> rfl
@[simp] theorem rowParts_w (stamp : Bool) (s : Sup) (sz : Nat) (rows : List (List D)) (z : Fz) (i : Nat) (x : W) (r : List (Nat × V)) :
 rowParts stamp s sz rows z ((i, .w x) :: r) = bnd2 (frzL stamp s z [x]) (rowPart stamp s sz rows i r) := rowParts_cells stamp s sz rows z i _ _ rfl r
@[simp] theorem rowParts_agg (stamp : Bool) (s : Sup) (sz : Nat) (rows : List (List D)) (z : Fz) (i : Nat) (cs : List W) (r : List (Nat × V)) :
 rowParts stamp s sz rows z ((i, .agg cs) :: r) = bnd2 (frzL stamp s z cs) (rowPart stamp s sz rows i r) := rowParts_cells stamp s sz rows z i _ _ rfl r
attribute [simp] rowPart
def ofCells (H : Nat → Box) (t : List Nat) (x : Option V) : Option Eff := match x with | some v => some ⟨v, H, t, false⟩ | none => none
@[simp] theorem ofCells_some (H : Nat → Box) (t : List Nat) (v : V) : ofCells H t (some v) = some ⟨v, H, t, false⟩ := (rfl)
def ldB (H : Nat → Box) (agg : Bool) (b off sz : Nat) (x : Box) : Option Eff := match x with
 | .cells cs => ofCells H [b] ((part? cs off sz).bind (mkV agg))
 | _ => none
@[simp] theorem ldB_cells (H : Nat → Box) (agg : Bool) (b off sz : Nat) (cs : List W) : ldB H agg b off sz (.cells cs) = ofCells H [b] ((part? cs off sz).bind (mkV agg)) := (rfl)
def ldRow (H : Nat → Box) (agg : Bool) (b off sz : Nat) (x : Option (List D)) : Option Eff := match x with
 | some row => ofCells H [b] ((part? row off sz).bind (fun l => mkV agg (l.map .d)))
 | none => none
@[simp] theorem ldRow_some (H : Nat → Box) (agg : Bool) (b off sz : Nat) (row : List D) : ldRow H agg b off sz (some row) = ofCells H [b] ((part? row off sz).bind (fun l => mkV agg (l.map .d))) := (rfl)
def ldR (H : Nat → Box) (agg : Bool) (b i off sz : Nat) (x : Box) : Option Eff := match x with
 | .row _ _ rows _ => ldRow H agg b off sz rows[i]?
 | _ => none
@[simp] theorem ldR_row (H : Nat → Box) (agg : Bool) (b i off sz : Nat) (st : Option Nat) (z : Nat) (rows : List (List D)) (ro : Nat) : ldR H agg b i off sz (.row st z rows ro) = ldRow H agg b off sz rows[i]? := (rfl)
def ldF (G : Nat → Option (List D)) (H : Nat → Box) (agg : Bool) (sz : Nat) (v : V) : Option Eff := match v with
 | .w (.ptr b off) => ldB H agg b off sz (H b)
 | .w (.rp b i off) => ldR H agg b i off sz (H b)
 | .w (.lp row off) => ret0 H ((part? row off sz).bind (fun l => mkV agg (l.map .d)))
 | .w (.gp k off) => ret0 H ((G k).bind fun row => (part? row off sz).bind (fun l => mkV agg (l.map .d)))
 | _ => none
@[simp] theorem ldF_ptr (G : Nat → Option (List D)) (H : Nat → Box) (agg : Bool) (sz b off : Nat) : ldF G H agg sz (.w (.ptr b off)) = ldB H agg b off sz (H b) := (rfl)
@[simp] theorem ldF_rp (G : Nat → Option (List D)) (H : Nat → Box) (agg : Bool) (sz b i off : Nat) : ldF G H agg sz (.w (.rp b i off)) = ldR H agg b i off sz (H b) := (rfl)
@[simp] theorem ldF_lp (G : Nat → Option (List D)) (H : Nat → Box) (agg : Bool) (sz off : Nat) (row : List D) : ldF G H agg sz (.w (.lp row off)) = ret0 H ((part? row off sz).bind (fun l => mkV agg (l.map .d))) := (rfl)
@[simp] theorem ldF_gp (G : Nat → Option (List D)) (H : Nat → Box) (agg : Bool) (sz k off : Nat) : ldF G H agg sz (.w (.gp k off)) = ret0 H ((G k).bind fun row => (part? row off sz).bind (fun l => mkV agg (l.map .d))) := (rfl)
def stB (H : Nat → Box) (b off sz : Nat) (cs : List W) (x : Box) : Option Eff := match x with
 | .cells old => if off + sz ≤ old.length then some ⟨.tup [], upd H b (.cells (splice old off cs)), [b], true⟩ else none
 | _ => none
@[simp] theorem stB_cells (H : Nat → Box) (b off sz : Nat) (cs old : List W) : stB H b off sz cs (.cells old) = if off + sz ≤ old.length then some ⟨.tup [], upd H b (.cells (splice old off cs)), [b], true⟩ else none := (rfl)
def stR2 (b i off sz : Nat) (ds : List D) (z : Fz) (x : Box) : Option Eff := match x with
 | .row st sz' rows ro => match rows[i]? with
  | some row => if ro ≤ i ∧ off + sz ≤ row.length then
   some ⟨.tup [], upd z.H b (.row st sz' (rows.set i (splice row off ds)) ro), z.touch ++ [b], true⟩ else none
  | none => none
 | _ => none
def stR3 (b i off sz sz' : Nat) (ds : List D) (z : Fz) (st : Option Nat) (rows : List (List D)) (ro : Nat) (x : Option (List D)) : Option Eff := match x with
 | some row => if ro ≤ i ∧ off + sz ≤ row.length then
       some ⟨.tup [], upd z.H b (.row st sz' (rows.set i (splice row off ds)) ro), z.touch ++ [b], true⟩ else none
 | none => none
@[simp] theorem stR3_some (b i off sz sz' : Nat) (ds : List D) (z : Fz) (st : Option Nat) (rows : List (List D)) (ro : Nat) (row : List D) : stR3 b i off sz sz' ds z st rows ro (some row) = if ro ≤ i ∧ off + sz ≤ row.length then
        some ⟨.tup [], upd z.H b (.row st sz' (rows.set i (splice row off ds)) ro), z.touch ++ [b], true⟩ else none := (rfl)
@[simp] theorem stR2_row (b i off sz : Nat) (ds : List D) (z : Fz) (st : Option Nat) (sz' : Nat) (rows : List (List D)) (ro : Nat) : stR2 b i off sz ds z (.row st sz' rows ro) = stR3 b i off sz sz' ds z st rows ro rows[i]? := by
 unfold stR2 stR3; simp only
def stR (b i off sz : Nat) (l : List W) (z : Fz) : Option Eff := bnd (datas? l) fun ds => stR2 b i off sz ds z (z.H b)
def stF (stamp : Bool) (s : Sup) (H : Nat → Box) (sz : Nat) (v : V) (cs : List W) : Option Eff := match v with
      | .w (.ptr b off) => stB H b off sz cs (H b)
      | .w (.rp b i off) => bnd2 (frzL stamp s ⟨H, 0, []⟩ cs) (stR b i off sz)
      | _ => none
@[simp] theorem stF_ptr (stamp : Bool) (s : Sup) (H : Nat → Box) (sz b off : Nat) (cs : List W) : stF stamp s H sz (.w (.ptr b off)) cs = stB H b off sz cs (H b) := (rfl)
@[simp] theorem stF_rp (stamp : Bool) (s : Sup) (H : Nat → Box) (sz b i off : Nat) (cs : List W) : stF stamp s H sz (.w (.rp b i off)) cs = bnd2 (frzL stamp s ⟨H, 0, []⟩ cs) (stR b i off sz) := (rfl)
attribute [simp] stR
def stV (stamp : Bool) (s : Sup) (H : Nat → Box) (sz : Nat) (v y : V) : Option Eff := match y.cells? with
 | some cs => if cs.length = sz then stF stamp s H sz v cs else none
 | none => none
@[simp] theorem stV_w (stamp : Bool) (s : Sup) (H : Nat → Box) (sz : Nat) (v : V) (x : W) : stV stamp s H sz v (.w x) = if 1 = sz then stF stamp s H sz v [x] else none := (rfl)
@[simp] theorem stV_agg (stamp : Bool) (s : Sup) (H : Nat → Box) (sz : Nat) (v : V) (cs : List W) : stV stamp s H sz v (.agg cs) = if cs.length = sz then stF stamp s H sz v cs else none := (rfl)
def ncF (H : Nat → Box) (v : V) : Option Eff := match v with
 | .w (.ptr b off) => ret0 H (some (.w (.ptr b off)))
 | .w (.rp b i off) => ret0 H (some (.w (.rp b i off)))
 | .w (.lp r off) => ret0 H (some (.w (.lp r off)))
 | .w (.gp k off) => ret0 H (some (.w (.gp k off)))
 | .w (.fn f cs) => ret0 H (some (.w (.fn f cs)))
 | _ => none
@[simp] theorem ncF_ptr (H : Nat → Box) (b off : Nat) : ncF H (.w (.ptr b off)) = some ⟨.w (.ptr b off), H, [], false⟩ := (rfl)
@[simp] theorem ncF_rp (H : Nat → Box) (b i off : Nat) : ncF H (.w (.rp b i off)) = some ⟨.w (.rp b i off), H, [], false⟩ := (rfl)
@[simp] theorem ncF_lp (H : Nat → Box) (r : List D) (off : Nat) : ncF H (.w (.lp r off)) = some ⟨.w (.lp r off), H, [], false⟩ := (rfl)
@[simp] theorem ncF_gp (H : Nat → Box) (k off : Nat) : ncF H (.w (.gp k off)) = some ⟨.w (.gp k off), H, [], false⟩ := (rfl)
@[simp] theorem ncF_fn (H : Nat → Box) (f : Nat) (cs : List Cap) : ncF H (.w (.fn f cs)) = some ⟨.w (.fn f cs), H, [], false⟩ := (rfl)
def faF (H : Nat → Box) (off : Nat) (v : V) : Option Eff := match v with
 | .w (.ptr b o) => ret0 H (some (.w (.ptr b (o + off))))
 | .w (.rp b i o) => ret0 H (some (.w (.rp b i (o + off))))
 | .w (.lp r o) => ret0 H (some (.w (.lp r (o + off))))
 | .w (.gp k o) => ret0 H (some (.w (.gp k (o + off))))
 | _ => none
@[simp] theorem faF_ptr (H : Nat → Box) (off b o : Nat) : faF H off (.w (.ptr b o)) = some ⟨.w (.ptr b (o + off)), H, [], false⟩ := (rfl)
@[simp] theorem faF_rp (H : Nat → Box) (off b i o : Nat) : faF H off (.w (.rp b i o)) = some ⟨.w (.rp b i (o + off)), H, [], false⟩ := (rfl)
@[simp] theorem faF_lp (H : Nat → Box) (off o : Nat) (r : List D) : faF H off (.w (.lp r o)) = some ⟨.w (.lp r (o + off)), H, [], false⟩ := (rfl)
@[simp] theorem faF_gp (H : Nat → Box) (off k o : Nat) : faF H off (.w (.gp k o)) = some ⟨.w (.gp k (o + off)), H, [], false⟩ := (rfl)
def fldF (H : Nat → Box) (agg : Bool) (off sz : Nat) (v : V) : Option Eff := match v with
 | .agg cs => ret0 H ((part? cs off sz).bind (mkV agg))
 | _ => none
@[simp] theorem fldF_agg (H : Nat → Box) (agg : Bool) (off sz : Nat) (cs : List W) : fldF H agg off sz (.agg cs) = ret0 H ((part? cs off sz).bind (mkV agg)) := (rfl)
theorem binV_int (op : BinOp) (k k' : IntKind) (a b : Int) : binV op .one (.w (.d (.s (.int k a)))) (.w (.d (.s (.int k' b)))) = (binS op (.int k a) (.int k' b)).map sV := (rfl)
theorem binV_str (op : BinOp) (a b : ByteArray) : binV op .one (.w (.d (.s (.string a)))) (.w (.d (.s (.string b)))) = (binS op (.string a) (.string b)).map sV := (rfl)
theorem binV_beq (a b : Bool) : binV .eql .b (.w (.d (.s (.bool a)))) (.w (.d (.s (.bool b)))) = some (sV (.bool (a == b))) := (rfl)
theorem binV_bne (a b : Bool) : binV .neq .b (.w (.d (.s (.bool a)))) (.w (.d (.s (.bool b)))) = some (sV (.bool (!(a == b)))) := (rfl)
def binP (op : BinOp) (a b : Option Bool) : Option V := match a, b with
 | some a, some true => match op with
       | .eql => some (sV (.bool a))
       | .neq => some (sV (.bool !a))
       | _ => none
 | _, _ => none
theorem binV_p (op : BinOp) (p q : W) : binV op .p (.w p) (.w q) = binP op (ptrNil? p) (ptrNil? q) := (rfl)
theorem binP_eq (a : Bool) : binP .eql (some a) (some true) = some (sV (.bool a)) := (rfl)
theorem binP_ne (a : Bool) : binP .neq (some a) (some true) = some (sV (.bool !a)) := (rfl)
def binL (op : BinOp) (a : Option Bool) : Option V := match a with
 | some b => match op with
       | .eql => some (sV (.bool b))
       | .neq => some (sV (.bool !b))
       | _ => none
 | none => none
theorem binV_sl (op : BinOp) (p : W) : binV op .sl (.w p) (.w .nil) = binL op (isNil? p) := by
 show (match isNil? p with | some b => _ | none => none) = _
 unfold binL
 rfl
theorem binV_agg (op : BinOp) (ks : List Nat) (p q : List W) : binV op (.agg ks) (.agg p) (.agg q) = binL op (eqCells ks p q) := by
 show (match eqCells ks p q with | some b => _ | none => none) = _
 unfold binL
 rfl
theorem binL_eq (a : Bool) : binL .eql (some a) = some (sV (.bool a)) := (rfl)
theorem binL_ne (a : Bool) : binL .neq (some a) = some (sV (.bool !a)) := (rfl)
attribute [simp] binV_int binV_str binV_beq binV_bne binV_p binP_eq binP_ne binV_sl binV_agg binL_eq binL_ne
@[simp] theorem unV_neg (k : IntKind) (n : Int) : unV .neg (.w (.d (.s (.int k n)))) = some (sV (.int k (k.wrap (0 - n)))) := (rfl)
@[simp] theorem unV_not (b : Bool) : unV .not (.w (.d (.s (.bool b)))) = some (sV (.bool !b)) := (rfl)
def iaR (H : Nat → Box) (sz b i : Nat) (ok : Prop) [Decidable ok] (x : Box) : Option Eff := match x with
 | .row _ sz' _ _ => if sz' = sz ∧ ok then some ⟨.w (.rp b i 0), H, [b], false⟩ else none
 | _ => none
@[simp] theorem iaR_row (H : Nat → Box) (sz b i : Nat) (ok : Prop) [Decidable ok] (st : Option Nat) (sz' : Nat) (rows : List (List D)) (ro : Nat) : iaR H sz b i ok (.row st sz' rows ro) = if sz' = sz ∧ ok then some ⟨.w (.rp b i 0), H, [b], false⟩ else none := (rfl)
def iaL (H : Nat → Box) (sz : Nat) (x : Option (List D)) : Option Eff := match x with
 | some row => if row.length = sz then ret0 H (some (.w (.lp row 0))) else none
 | none => none
@[simp] theorem iaL_some (H : Nat → Box) (sz : Nat) (row : List D) : iaL H sz (some row) = if row.length = sz then some ⟨.w (.lp row 0), H, [], false⟩ else none := (rfl)
def iaF (H : Nat → Box) (sz : Nat) (v w : V) : Option Eff := match v, w.int? with
 | .w (.own b off len _), some (_, i) => iaR H sz b (off + i.toNat) (0 ≤ i ∧ i < len) (H b)
 | .w (.d (.l _ rows)), some (_, i) => if 0 ≤ i then iaL H sz rows[i.toNat]? else none
 | .w (.ln _ rows), some (_, i) => if 0 ≤ i then iaL H sz rows[i.toNat]? else none
 | _, _ => none
@[simp] theorem iaF_own (H : Nat → Box) (sz b off len : Nat) (c : Option Nat) (k : IntKind) (i : Int) : iaF H sz (.w (.own b off len c)) (.w (.d (.s (.int k i)))) = iaR H sz b (off + i.toNat) (0 ≤ i ∧ i < len) (H b) := (rfl)
@[simp] theorem iaF_d (H : Nat → Box) (sz st : Nat) (rows : List (List D)) (k : IntKind) (i : Int) : iaF H sz (.w (.d (.l st rows))) (.w (.d (.s (.int k i)))) = if 0 ≤ i then iaL H sz rows[i.toNat]? else none := (rfl)
@[simp] theorem iaF_ln (H : Nat → Box) (sz st : Nat) (rows : List (List D)) (k : IntKind) (i : Int) : iaF H sz (.w (.ln st rows)) (.w (.d (.s (.int k i)))) = if 0 ≤ i then iaL H sz rows[i.toNat]? else none := (rfl)
def lenF (H : Nat → Box) (v : V) : Option Eff := match v with
 | .w (.own _ _ len _) => ret0 H (some (sV (.int .i64 len)))
 | .w (.d (.l _ rows)) => ret0 H (some (sV (.int .i64 rows.length)))
 | .w (.ln _ rows) => ret0 H (some (sV (.int .i64 rows.length)))
 | .w .nil => ret0 H (some (sV (.int .i64 0)))
 | _ => none
@[simp] theorem lenF_own (H : Nat → Box) (b off len : Nat) (c : Option Nat) : lenF H (.w (.own b off len c)) = some ⟨sV (.int .i64 len), H, [], false⟩ := (rfl)
@[simp] theorem lenF_d (H : Nat → Box) (st : Nat) (rows : List (List D)) : lenF H (.w (.d (.l st rows))) = some ⟨sV (.int .i64 rows.length), H, [], false⟩ := (rfl)
@[simp] theorem lenF_ln (H : Nat → Box) (st : Nat) (rows : List (List D)) : lenF H (.w (.ln st rows)) = some ⟨sV (.int .i64 rows.length), H, [], false⟩ := (rfl)
@[simp] theorem lenF_nil (H : Nat → Box) : lenF H (.w .nil) = some ⟨sV (.int .i64 0), H, [], false⟩ := (rfl)
def rowsB (b off len : Nat) (x : Box) : Option (List (List D) × List Nat) := match x with
 | .row _ _ rows _ => if off + len ≤ rows.length then some ((rows.drop off).take len, [b]) else none
 | _ => none
@[simp] theorem rowsB_row (b off len : Nat) (st : Option Nat) (sz : Nat) (rows : List (List D)) (ro : Nat) : rowsB b off len (.row st sz rows ro) = if off + len ≤ rows.length then some ((rows.drop off).take len, [b]) else none := (rfl)
theorem rowsOf_own (H : Nat → Box) (b off len : Nat) (c : Option Nat) : rowsOf H (.own b off len c) = rowsB b off len (H b) := (rfl)
theorem rowsOf_nil (H : Nat → Box) : rowsOf H .nil = some ([], []) := (rfl)
theorem rowsOf_ln (H : Nat → Box) (st : Nat) (rows : List (List D)) : rowsOf H (.ln st rows) = some (rows, []) := (rfl)
theorem rowsOf_d (H : Nat → Box) (st : Nat) (rows : List (List D)) : rowsOf H (.d (.l st rows)) = some (rows, []) := (rfl)
attribute [simp] rowsOf_own rowsOf_nil rowsOf_ln rowsOf_d
def cbsF (H : Nat → Box) (v : V) : Option Eff := match v with
 | .w y => bnd2 (rowsOf H y) fun rows t => bnd (bytesOf rows) fun bs => some ⟨sV (.string ⟨bs.toArray⟩), H, t, false⟩
 | _ => none
@[simp] theorem cbsF_w (H : Nat → Box) (y : W) : cbsF H (.w y) = bnd2 (rowsOf H y) fun rows t => bnd (bytesOf rows) fun bs => some ⟨sV (.string ⟨bs.toArray⟩), H, t, false⟩ := (rfl)
def appO (H : Nat → Box) (g sz bytes b off len : Nat) (ys : List (List D)) (t : List Nat) (x : Box) : Option Eff := match x with
 | .row st sz' rows ro => if sz' = sz ∧ off + len ≤ rows.length ∧ ro ≤ off + len ∧ room (len + ys.length) bytes = true then
             some ⟨.w (.own g 0 (len + ys.length) none),
              upd (upd H b .dead) g (.row (taint st) sz ((rows.drop off).take len ++ ys) (ro - off)), t ++ [b], true⟩
  else none
 | _ => none
@[simp] theorem appO_row (H : Nat → Box) (g sz bytes b off len : Nat) (ys : List (List D)) (t : List Nat) (st : Option Nat) (sz' : Nat) (rows : List (List D)) (ro : Nat) : appO H g sz bytes b off len ys t (.row st sz' rows ro) =
   if sz' = sz ∧ off + len ≤ rows.length ∧ ro ≤ off + len ∧ room (len + ys.length) bytes = true then
              some ⟨.w (.own g 0 (len + ys.length) none),
               upd (upd H b .dead) g (.row (taint st) sz ((rows.drop off).take len ++ ys) (ro - off)), t ++ [b], true⟩
    else none := (rfl)
def appX (H : Nat → Box) (g sz bytes : Nat) (ys : List (List D)) (t : List Nat) (v : V) : Option Eff := match v with
        | .w .nil => if room ys.length bytes = true then some ⟨.w (.own g 0 ys.length none), upd H g (.row none sz ys 0), t, false⟩ else none
        | .w (.own b off len _) => appO H g sz bytes b off len ys t (H b)
        | _ => none
@[simp] theorem appX_nil (H : Nat → Box) (g sz bytes : Nat) (ys : List (List D)) (t : List Nat) : appX H g sz bytes ys t (.w .nil) = if room ys.length bytes = true then some ⟨.w (.own g 0 ys.length none), upd H g (.row none sz ys 0), t, false⟩ else none := (rfl)
@[simp] theorem appX_own (H : Nat → Box) (g sz bytes : Nat) (ys : List (List D)) (t : List Nat) (b off len : Nat) (c : Option Nat) : appX H g sz bytes ys t (.w (.own b off len c)) = appO H g sz bytes b off len ys t (H b) := (rfl)
def appF (H : Nat → Box) (g sz bytes zl : Nat) (v w : V) : Option Eff := match w with
 | .w y => bnd2 (rowsOf H y) fun ys t => if ys.all (·.length == sz) && zl == sz then appX H g sz bytes ys t v else none
 | _ => none
@[simp] theorem appF_w (H : Nat → Box) (g sz bytes zl : Nat) (v : V) (y : W) : appF H g sz bytes zl v (.w y) = bnd2 (rowsOf H y) fun ys t => if ys.all (·.length == sz) && zl == sz then appX H g sz bytes ys t v else none := (rfl)
def slB (H : Nat → Box) (sz b off len l h : Nat) (c : Option Nat) (t : List Nat) (x : Box) : Option Eff := match x with
 | .row _ sz' _ _ => if sz' = sz then some ⟨.w (.own b (off + l) (h - l) c), H, t, false⟩ else none
 | _ => none
@[simp] theorem slB_row (H : Nat → Box) (sz b off len l h : Nat) (c : Option Nat) (t : List Nat) (st : Option Nat) (sz' : Nat) (rows : List (List D)) (ro : Nat) : slB H sz b off len l h c t (.row st sz' rows ro) = if sz' = sz then some ⟨.w (.own b (off + l) (h - l) c), H, t, false⟩ else none := (rfl)
def slW (H : Nat → Box) (sz : Nat) (l h : Nat) (mx : Option Int) (t : List Nat) (y : W) : Option Eff := match y with
          | .own b off len cap => slB H sz b off len l h (newCap mx cap l) t (H b)
          | .nil => ret0 H (some (.w .nil))
          | .ln st rows => if rows.all (·.length == sz) then ret0 H (some (.w (.ln st ((rows.drop l).take (h - l))))) else none
          | .d (.l st rows) => if rows.all (·.length == sz) then ret0 H (some (.w (.d (.l st ((rows.drop l).take (h - l)))))) else none
          | _ => none
@[simp] theorem slW_own (H : Nat → Box) (sz : Nat) (l h : Nat) (mx : Option Int) (t : List Nat) (b off len : Nat) (cap : Option Nat) : slW H sz l h mx t (.own b off len cap) = slB H sz b off len l h (newCap mx cap l) t (H b) := (rfl)
@[simp] theorem slW_nil (H : Nat → Box) (sz : Nat) (l h : Nat) (mx : Option Int) (t : List Nat) : slW H sz l h mx t .nil = some ⟨.w .nil, H, [], false⟩ := (rfl)
@[simp] theorem slW_ln (H : Nat → Box) (sz : Nat) (l h : Nat) (mx : Option Int) (t : List Nat) (st : Nat) (rows : List (List D)) : slW H sz l h mx t (.ln st rows) = if rows.all (·.length == sz) then some ⟨.w (.ln st ((rows.drop l).take (h - l))), H, [], false⟩ else none := (rfl)
@[simp] theorem slW_d (H : Nat → Box) (sz : Nat) (l h : Nat) (mx : Option Int) (t : List Nat) (st : Nat) (rows : List (List D)) : slW H sz l h mx t (.d (.l st rows)) = if rows.all (·.length == sz) then some ⟨.w (.d (.l st ((rows.drop l).take (h - l)))), H, [], false⟩ else none := (rfl)
def slF (H : Nat → Box) (sz : Nat) (v : V) (lo hi mx : Option Int) : Option Eff := match v with
 | .w y => bnd2 (rowsOf H y) fun rows t =>
  if 0 ≤ lo.getD 0 ∧ lo.getD 0 ≤ hi.getD rows.length ∧ hi.getD rows.length ≤ mx.getD rows.length ∧ mx.getD rows.length ≤ (rows.length : Int) ∧ (mx.isSome → hi.isSome) then
   slW H sz (lo.getD 0).toNat (hi.getD rows.length).toNat mx t y else none
 | _ => none
@[simp] theorem slF_w (H : Nat → Box) (sz : Nat) (y : W) (lo hi mx : Option Int) : slF H sz (.w y) lo hi mx = bnd2 (rowsOf H y) fun rows t =>
        if 0 ≤ lo.getD 0 ∧ lo.getD 0 ≤ hi.getD rows.length ∧ hi.getD rows.length ≤ mx.getD rows.length ∧ mx.getD rows.length ≤ (rows.length : Int) ∧ (mx.isSome → hi.isSome) then
         slW H sz (lo.getD 0).toNat (hi.getD rows.length).toNat mx t y else none := (rfl)
@[simp] theorem optInt_none (ev : X → V) : optInt ev none = some none := (rfl)
def intO (v : V) : Option (Option Int) := match v.int? with | some (_, n) => some (some n) | none => none
@[simp] theorem intO_int (k : IntKind) (n : Int) : intO (.w (.d (.s (.int k n)))) = some (some n) := (rfl)
@[simp] theorem optInt_some (ev : X → V) (x : X) : optInt ev (some x) = intO (ev x) := (rfl)
def extF (H : Nat → Box) (i : Nat) (v : V) : Option Eff := match v with
 | .tup vs => match vs[i]? with
  | some p => ret0 H (mkV p.1 p.2)
  | none => none
 | _ => none
def extO (H : Nat → Box) (x : Option (Bool × List W)) : Option Eff := match x with
      | some p => ret0 H (mkV p.1 p.2)
      | none => none
@[simp] theorem extO_some (H : Nat → Box) (a : Bool) (cs : List W) : extO H (some (a, cs)) = ret0 H (mkV a cs) := (rfl)
@[simp] theorem extF_tup (H : Nat → Box) (i : Nat) (vs : List (Bool × List W)) : extF H i (.tup vs) = extO H vs[i]? := by
 unfold extF extO; rfl
def mslF (H : Nat → Box) (g sz bytes : Nat) (zero : List D) (l c : V) : Option Eff := match l.int?, c.int? with
 | some (.i64, l), some (.i64, c) => if 0 ≤ l ∧ l ≤ c ∧ room c.toNat bytes = true then
  some ⟨.w (.own g 0 l.toNat (some c.toNat)), upd H g (.row none sz (List.replicate l.toNat zero) 0), [], false⟩ else none
 | _, _ => none
@[simp] theorem mslF_int (H : Nat → Box) (g sz bytes : Nat) (zero : List D) (l c : Int) : mslF H g sz bytes zero (.w (.d (.s (.int .i64 l)))) (.w (.d (.s (.int .i64 c)))) = if 0 ≤ l ∧ l ≤ c ∧ room c.toNat bytes = true then
        some ⟨.w (.own g 0 l.toNat (some c.toNat)), upd H g (.row none sz (List.replicate l.toNat zero) 0), [], false⟩ else none := (rfl)
def mmxF (H : Nat → Box) (isMax : Bool) (l : List V) : Option Eff := match l with
 | v :: r => match v.int? with
  | some (k, a) => ret0 H (fold2 isMax k a r)
  | none => none
 | [] => none
@[simp] theorem mmxF_int (H : Nat → Box) (isMax : Bool) (k : IntKind) (a : Int) (r : List V) : mmxF H isMax ((.w (.d (.s (.int k a)))) :: r) = ret0 H (fold2 isMax k a r) := (rfl)
@[simp] theorem fold2_nil (isMax : Bool) (k : IntKind) (a : Int) : fold2 isMax k a [] = some (sV (.int k a)) := (rfl)
@[simp] theorem fold2_int (isMax : Bool) (k k' : IntKind) (a b : Int) (r : List V) : fold2 isMax k a ((.w (.d (.s (.int k' b)))) :: r) = if k = k' then fold2 isMax k (if isMax = true then (if b > a then b else a) else (if b < a then b else a)) r else none := (rfl)
def cviF (H : Nat → Box) (k : IntKind) (v : V) : Option Eff := ret0 H (v.int?.map fun p => sV (.int k (k.wrap p.2)))
@[simp] theorem cviF_int (H : Nat → Box) (k k' : IntKind) (n : Int) : cviF H k (.w (.d (.s (.int k' n)))) = some ⟨sV (.int k (k.wrap n)), H, [], false⟩ := (rfl)
def callF (call : CallT) (M : Nat → Mode) (stamp : Bool) (H : Nat → Box) (g : Nat) (s : Sup) (args : List V) (f : V) : Option Eff := match f with
 | .w (.fn f caps) => callV call M stamp H g s f (args ++ caps.map Cap.v)
 | _ => none
@[simp] theorem callF_fn (call : CallT) (M : Nat → Mode) (stamp : Bool) (H : Nat → Box) (g : Nat) (s : Sup) (args : List V) (f : Nat) (caps : List Cap) : callF call M stamp H g s args (.w (.fn f caps)) = callV call M stamp H g s f (args ++ caps.map Cap.v) := (rfl)
section
variable (call : CallT) (M : Nat → Mode) (G : Nat → Option (List D)) (stamp : Bool) (N n g : Nat) (s : Sup)
theorem x_seq (a b : C) (st : St) : execC call M G stamp N n (.seq a b) st = andThen (execC call M G stamp N n a st) (execC call M G stamp N n b) := by
 show (match execC call M G stamp N n a st with | some (.normal, st') => execC call M G stamp N n b st' | r => r) = _
 unfold andThen
 rfl
theorem x_skip (st : St) : execC call M G stamp N n .skip st = some (.normal, st) := (rfl)
theorem x_ret (st : St) : execC call M G stamp N n .ret st = some (.ret, st) := (rfl)
theorem x_exit (i : Nat) (st : St) : execC call M G stamp N n (.exit i) st = some (.exit i, st) := (rfl)
theorem x_block (id : Nat) (c : C) (st : St) : execC call M G stamp N n (.block id c) st = inBlock id (execC call M G stamp N n c st) := (rfl)
theorem x_cond (x : X) (a b : C) (st : St) : execC call M G stamp N n (.cond x a b) st = onBool (evX st.τ x) (execC call M G stamp N n a st) (execC call M G stamp N n b st) := (rfl)
theorem x_reg (ops : List RO) (st : St) : execC call M G stamp N n (.reg ops) st = bnd2 (regV call M G stamp N st.g st.s 0 ops st.τ st.H) fun τ H => some (.normal, ⟨τ, H, st.g + 64 * ops.length, restS st.s⟩) := by
 show (match regV call M G stamp N st.g st.s 0 ops st.τ st.H with | some (τ, H) => some (Ex.normal, (⟨τ, H, st.g + 64 * ops.length, restS st.s⟩ : St)) | none => none) = _
 generalize regV call M G stamp N st.g st.s 0 ops st.τ st.H = x; cases x <;> rfl
theorem x_dreg (ops : List RO) (bf : List Nat) (st : St) : execC call M G stamp N n (.dreg ops bf) st =
 bnd3 (regL call M G stamp N st.g st.s 0 ops st.τ st.H) fun τ H l => if calm st.g 0 l bf then some (.normal, ⟨τ, H, st.g + 64 * ops.length, restS st.s⟩) else none := by
 show (match regL call M G stamp N st.g st.s 0 ops st.τ st.H with | some (τ, H, l) => if calm st.g 0 l bf then some (Ex.normal, (⟨τ, H, st.g + 64 * ops.length, restS st.s⟩ : St)) else none | none => none) = _
 generalize regL call M G stamp N st.g st.s 0 ops st.τ st.H = x; cases x <;> rfl
theorem s_none (τ : Nat → V) (H : Nat → Box) (d : Option Nat) (op : O) : stepE call M G stamp τ H g s ⟨d, op, none⟩ = opV call M G stamp (evX τ) H g s op := (rfl)
theorem s_some (τ : Nat → V) (H : Nat → Box) (d : Option Nat) (op : O) (t : Nat) (w : Bool) : stepE call M G stamp τ H g s ⟨d, op, some (t, w)⟩ = guardE (τ t) w (opV call M G stamp (evX τ) H g s op) H := (rfl)
theorem put_none (τ : Nat → V) (v : V) : put N τ none v = some τ := (rfl)
theorem put_some (τ : Nat → V) (d : Nat) (v : V) : put N τ (some d) v = if d < N then some (upd τ d v) else none := (rfl)
theorem r_nil (i : Nat) (τ : Nat → V) (H : Nat → Box) : regV call M G stamp N g s i [] τ H = some (τ, H) := (rfl)
theorem r_cons (i : Nat) (d : Option Nat) (op : O) (gd : Option (Nat × Bool)) (r : List RO) (τ : Nat → V) (H : Nat → Box) : regV call M G stamp N g s i (⟨d, op, gd⟩ :: r) τ H =
 bndE (stepE call M G stamp τ H (g + 64 * i) (subS s i) ⟨d, op, gd⟩) fun v H' _ _ => bnd (put N τ d v) fun τ' => regV call M G stamp N g s (i + 1) r τ' H' := by
 show (match stepE call M G stamp τ H (g + 64 * i) (subS s i) ⟨d, op, gd⟩ with
  | some e => match put N τ d e.v with
   | some τ' => regV call M G stamp N g s (i + 1) r τ' e.H
   | none => none
  | none => none) = _
 generalize stepE call M G stamp τ H (g + 64 * i) (subS s i) ⟨d, op, gd⟩ = x; cases x with
 | none => rfl
 | some e =>
  show (match put N τ d e.v with | some τ' => regV call M G stamp N g s (i + 1) r τ' e.H | none => none) = bnd (put N τ d e.v) _
  generalize put N τ d e.v = y; cases y <;> rfl
theorem l_nil (i : Nat) (τ : Nat → V) (H : Nat → Box) : regL call M G stamp N g s i [] τ H = some (τ, H, []) := (rfl)
theorem l_cons (i : Nat) (d : Option Nat) (op : O) (gd : Option (Nat × Bool)) (r : List RO) (τ : Nat → V) (H : Nat → Box) : regL call M G stamp N g s i (⟨d, op, gd⟩ :: r) τ H =
 bndE (stepE call M G stamp τ H (g + 64 * i) (subS s i) ⟨d, op, gd⟩) fun v H' t w => bnd (put N τ d v) fun τ' => bnd3 (regL call M G stamp N g s (i + 1) r τ' H') fun a b l => some (a, b, (t, wOf op t w) :: l) := by
 show (match stepE call M G stamp τ H (g + 64 * i) (subS s i) ⟨d, op, gd⟩ with
  | some e => match put N τ d e.v with
   | some τ' => match regL call M G stamp N g s (i + 1) r τ' e.H with
    | some (τ'', H'', l) => some (τ'', H'', (e.touch, wOf op e.touch e.wr) :: l)
    | none => none
   | none => none
  | none => none) = _
 generalize stepE call M G stamp τ H (g + 64 * i) (subS s i) ⟨d, op, gd⟩ = x; cases x with
 | none => rfl
 | some e =>
  show (match put N τ d e.v with
   | some τ' => match regL call M G stamp N g s (i + 1) r τ' e.H with
    | some (τ'', H'', l) => some (τ'', H'', (e.touch, wOf op e.touch e.wr) :: l)
    | none => none
   | none => none) = bnd (put N τ d e.v) _
  generalize put N τ d e.v = y; cases y with
  | none => rfl
  | some τ' =>
   simp only [bnd_some]; generalize regL call M G stamp N g s (i + 1) r τ' e.H = z; cases z <;> rfl
section
variable (ev : X → V) (H : Nat → Box)
theorem o_mv (x : X) : opV call M G stamp ev H g s (.mv x) = some ⟨ev x, H, [], false⟩ := (rfl)
theorem o_pick (c a b : X) : opV call M G stamp ev H g s (.pick c a b) = pickF H (ev c) (ev a) (ev b) := (rfl)
theorem o_new (zero : List W) : opV call M G stamp ev H g s (.new zero) = some ⟨.w (.ptr g 0), upd H g (.cells zero), [], false⟩ := (rfl)
theorem o_box (sz : Nat) (x : X) : opV call M G stamp ev H g s (.box sz x) = boxF H g sz (ev x) := (rfl)
theorem o_bld (zero : List W) (parts : List (Nat × Nat × X)) : opV call M G stamp ev H g s (.bld zero parts) = bnd (setParts zero (parts.map fun p => (p.1, p.2.1, ev p.2.2))) fun cs => some ⟨.agg cs, H, [], false⟩ := by
 show ret0 H ((setParts zero (parts.map fun p => (p.1, p.2.1, ev p.2.2))).map .agg) = _
 cases setParts zero (parts.map fun p => (p.1, p.2.1, ev p.2.2)) <;> rfl
theorem o_bsl (sz n : Nat) (zero : List D) (parts : List (Nat × X)) : opV call M G stamp ev H g s (.bsl sz n zero parts) =
 bnd2 (rowParts stamp s sz (List.replicate n zero) ⟨H, 0, []⟩ (parts.map fun p => (p.1, ev p.2))) fun rows z => some ⟨.w (.own g 0 n (some n)), upd z.H g (.row none sz rows 0), z.touch, !z.touch.isEmpty⟩ := by
 show (match rowParts stamp s sz (List.replicate n zero) ⟨H, 0, []⟩ (parts.map fun p => (p.1, ev p.2)) with
  | some (rows, z) => some (⟨.w (.own g 0 n (some n)), upd z.H g (.row none sz rows 0), z.touch, !z.touch.isEmpty⟩ : Eff)
  | none => none) = _
 cases rowParts stamp s sz (List.replicate n zero) ⟨H, 0, []⟩ (parts.map fun p => (p.1, ev p.2)) <;> rfl
theorem o_ld (agg : Bool) (sz : Nat) (x : X) : opV call M G stamp ev H g s (.ld agg sz x) = ldF G H agg sz (ev x) := by
 simp only [opV]; generalize ev x = v; rcases v with ⟨w⟩ | _ | _
 · cases w with
   | rp b i off =>
    simp only [ldF_rp]; generalize H b = B; cases B with
    | row st z rows ro =>
     simp only [ldR_row]; generalize rows[i]? = q; cases q <;> rfl
    | _ => rfl
   | ptr b off =>
    simp only [ldF_ptr]; generalize H b = B; cases B <;> rfl
   | _ => rfl
 · rfl
 · rfl
theorem o_st (sz : Nat) (x y : X) : opV call M G stamp ev H g s (.st sz x y) = stV stamp s H sz (ev x) (ev y) := by
 simp only [opV]; generalize ev x = v; generalize ev y = w; unfold stV; cases w.cells? with
 | none => rfl
 | some cs =>
  simp only; split
  · rcases v with ⟨p⟩ | _ | _
    · cases p with
      | ptr b off =>
       simp only [stF_ptr]; generalize H b = B; cases B <;> rfl
      | rp b i off =>
       simp only [stF_rp]; generalize frzL stamp s ⟨H, 0, []⟩ cs = q; cases q with
       | none => rfl
       | some q =>
        obtain ⟨l, z⟩ := q; simp only [bnd2_some, stR]; generalize datas? l = d; cases d with
        | none => rfl
        | some ds =>
         simp only [bnd_some]; generalize z.H b = B; cases B <;> rfl
      | _ => rfl
    · rfl
    · rfl
  · rfl
theorem o_nc (x : X) : opV call M G stamp ev H g s (.nc x) = ncF H (ev x) := (rfl)
theorem o_bin (op : BinOp) (c : Cls) (x y : X) : opV call M G stamp ev H g s (.bin op c x y) = ofCells H [] (binV op c (ev x) (ev y)) := (rfl)
theorem o_un (op : UnOp) (x : X) : opV call M G stamp ev H g s (.un op x) = ofCells H [] (unV op (ev x)) := (rfl)
theorem o_cvi (k : IntKind) (x : X) : opV call M G stamp ev H g s (.cvi k x) = cviF H k (ev x) := (rfl)
theorem o_cbs (x : X) : opV call M G stamp ev H g s (.cbs x) = cbsF H (ev x) := by
 simp only [opV]; generalize ev x = v; unfold cbsF; rcases v with ⟨p⟩ | _ | _
 · simp only
   cases rowsOf H p with
   | none => rfl
   | some q =>
    obtain ⟨rows, t⟩ := q
    show _ = bnd (bytesOf rows) _
    simp only; cases bytesOf rows <;> rfl
 · rfl
 · rfl
theorem o_msl (sz bytes : Nat) (zero : List D) (l c : X) : opV call M G stamp ev H g s (.msl sz bytes zero l c) = mslF H g sz bytes zero (ev l) (ev c) := (rfl)
theorem o_sl (sz : Nat) (x : X) (lo hi mx : Option X) : opV call M G stamp ev H g s (.sl sz x lo hi mx) = bnd (optInt ev lo) fun lo => bnd (optInt ev hi) fun hi => bnd (optInt ev mx) fun mx => slF H sz (ev x) lo hi mx := by
 simp only [opV]; generalize ev x = v; cases optInt ev lo with
 | none => cases v <;> rfl
 | some lo =>
  cases optInt ev hi with
  | none => cases v <;> rfl
  | some hi =>
   cases optInt ev mx with
   | none => cases v <;> rfl
   | some mx =>
    rcases v with ⟨y⟩ | _ | _
    · simp only [bnd_some, slF]
      cases rowsOf H y with
      | none => rfl
      | some q =>
       obtain ⟨rows, t⟩ := q; simp only [bnd2_some]; split
       · cases y with
         | own b off len cap =>
          simp only [slW_own]; generalize H b = B; cases B <;> rfl
         | d d => cases d <;> rfl
         | _ => rfl
       · rfl
    · rfl
    · rfl
theorem o_fa (off : Nat) (x : X) : opV call M G stamp ev H g s (.fa off x) = faF H off (ev x) := (rfl)
theorem o_fld (agg : Bool) (off sz : Nat) (x : X) : opV call M G stamp ev H g s (.fld agg off sz x) = fldF H agg off sz (ev x) := (rfl)
theorem o_ia (sz : Nat) (x i : X) : opV call M G stamp ev H g s (.ia sz x i) = iaF H sz (ev x) (ev i) := by
 simp only [opV]; generalize ev x = v; generalize (ev i) = w; unfold iaF; cases w.int? with
 | none =>
  rcases v with ⟨y⟩ | _ | _
  · cases y with
    | d d => cases d <;> rfl
    | _ => rfl
  · rfl
  · rfl
 | some q =>
  obtain ⟨k, j⟩ := q; rcases v with ⟨y⟩ | _ | _
  · cases y with
    | d d => cases d <;> rfl
    | own b off len c =>
     simp only; generalize H b = B; cases B <;> rfl
    | _ => rfl
  · rfl
  · rfl
theorem o_ext (i : Nat) (x : X) : opV call M G stamp ev H g s (.ext i x) = extF H i (ev x) := (rfl)
theorem o_call (f : X) (args : List X) : opV call M G stamp ev H g s (.call f args) = callF call M stamp H g s (args.map ev) (ev f) := (rfl)
theorem o_lenl (x : X) : opV call M G stamp ev H g s (.lenl x) = lenF H (ev x) := (rfl)
theorem o_app (sz bytes : Nat) (zero : List D) (x y : X) : opV call M G stamp ev H g s (.app sz bytes zero x y) = appF H g sz bytes zero.length (ev x) (ev y) := by
 simp only [opV]; generalize ev x = v; generalize ev y = w; unfold appF; rcases w with ⟨y⟩ | _ | _
 · simp only
   cases rowsOf H y with
   | none => rfl
   | some q =>
    obtain ⟨ys, t⟩ := q; simp only [bnd2_some]; split
    · rename_i hc
      unfold appX appO; rcases v with ⟨p⟩ | _ | _
      · cases p <;> rfl
      · rfl
      · rfl
    · rfl
 · rfl
 · rfl
theorem o_mmx (isMax : Bool) (args : List X) : opV call M G stamp ev H g s (.mmx isMax args) = mmxF H isMax (args.map ev) := (rfl)
end
end
def endF (stamp move : Bool) (m : Nat) (rs : List RV) (st : St) : Option Res := bnd (resV st.τ st.H rs) fun res => finish stamp move m st res
theorem endF_at (stamp move : Bool) (m : Nat) (rs : List RV) (st : St) : endF stamp move m rs st = bnd (resV st.τ st.H rs) fun res => finish stamp move m st res := (rfl)
section
variable (call : CallT) (M : Nat → Mode) (G : Nat → Option (List D)) (stamp : Bool) (N n g : Nat) (s : Sup)
theorem runF_at (f : Nat) (F : Fn) (args : List V) (bs : List Box) : runF call M G n f F args bs s = if args.length ≤ F.ntmps then
 behindF (execC call M G (M f).stamp F.ntmps n F.code ⟨nth (.tup []) args, nth .dead bs, bs.length, s⟩) (endF (M f).stamp (M f).move bs.length F.res)
 else none := by
 rw [runF_eq]
 by_cases h : args.length ≤ F.ntmps
 · rw [if_pos h, if_pos h]
   generalize execC call M G (M f).stamp F.ntmps n F.code ⟨nth (.tup []) args, nth .dead bs, bs.length, s⟩ = x; cases x with
   | none => rfl
   | some p =>
    obtain ⟨e, st⟩ := p; cases e with
    | normal =>
     show (match resV st.τ st.H F.res with | some res => finish (M f).stamp (M f).move bs.length st res | none => none) = bnd (resV st.τ st.H F.res) _
     generalize resV st.τ st.H F.res = y; cases y <;> rfl
    | ret =>
     show (match resV st.τ st.H F.res with | some res => finish (M f).stamp (M f).move bs.length st res | none => none) = bnd (resV st.τ st.H F.res) _
     generalize resV st.τ st.H F.res = y; cases y <;> rfl
    | exit i => rfl
 · rw [if_neg h, if_neg h]
theorem callV_at (H : Nat → Box) (f : Nat) (args : List V) :
 callV call M stamp H g s f args = bnd2 (if (M f).inout then some (args, (⟨H, 0, []⟩ : Fz)) else frzA stamp (fun k => s (2 * k)) ⟨H, 0, []⟩ args) fun args z =>
  withL (reach z.H 4 (addAll [] (args.flatMap V.names))) fun ns =>
   bnd (call f (args.map (V.ren (idx ns))) (ns.map fun b => (z.H b).ren (idx ns)) (fun k => s (2 * k + 1))) (behindCall z g ns) := by
 rw [callV_eq]; unfold bnd2 bnd; split
 · rename_i h; rw [h]
 · rename_i a z h
   rw [h]; unfold withL; simp only; split <;> rename_i h2 <;> rw [h2]
theorem finish_at (move : Bool) (m : Nat) (st : St) (res : List (Bool × List W)) :
 finish stamp move m st res = bnd2 (if move then some (res, (⟨st.H, 0, []⟩ : Fz)) else frzP stamp st.s ⟨st.H, 0, []⟩ res) fun res z =>
  withL (reach z.H 4 (addAll (List.range m) ((res.flatMap fun q => wnames q.2) ++ (List.range m).flatMap fun b => (z.H b).names))) fun ns =>
   if m ≤ ns.length ∧ ns.take m = List.range m ∧ closed z.H ns = true then
    some ⟨(one? res).ren (idx ns), (List.range m).map (fun b => (z.H b).ren (idx ns)), (ns.drop m).map fun b => (z.H b).ren (idx ns)⟩
   else none := by
 rw [finish_eq]; unfold bnd2; split
 · rename_i h; rw [h]
 · rename_i a z h; rw [h]
end
@[simp] theorem idx_nil (x : Nat) : idx [] x = 0 := (rfl)
@[simp] theorem idx_cons (a : Nat) (l : List Nat) (x : Nat) : idx (a :: l) x = if a = x then 0 else idx l x + 1 := by
 unfold idx; rw [List.findIdx_cons]
 by_cases h : a = x
 · simp [h]
 · rw [if_neg h, beq_false_of_ne h]; rfl
@[simp] theorem range_2 : List.range 2 = [0, 1] := (rfl)
@[simp] theorem range_3 : List.range 3 = [0, 1, 2] := (rfl)
@[simp] theorem range_4 : List.range 4 = [0, 1, 2, 3] := (rfl)
@[simp] theorem range_5 : List.range 5 = [0, 1, 2, 3, 4] := (rfl)
@[simp] theorem range_6 : List.range 6 = [0, 1, 2, 3, 4, 5] := (rfl)
@[simp] theorem range_7 : List.range 7 = [0, 1, 2, 3, 4, 5, 6] := (rfl)
@[simp] theorem range_8 : List.range 8 = [0, 1, 2, 3, 4, 5, 6, 7] := (rfl)
theorem bit_at (x n : Nat) : x.testBit n = decide (x / 2 ^ n % 2 = 1) := Nat.testBit_eq_decide_div_mod_eq
theorem execC_loop (call : CallT) (M : Nat → Mode) (G : Nat → Option (List D)) (stamp : Bool) (N n : Nat) (c : C) (st : St) : execC call M G stamp N n (.loop c) st = iter (execC call M G stamp N n c) n st := (rfl)
def frzB (stamp : Bool) (s : Sup) (z : Fz) (b off len : Nat) (x : Box) : Option (W × Fz) := match x with
 | .row st sz rows ro =>
  if off + len ≤ rows.length then
   some (.d (.l (stampOf stamp s z.k st) ((rows.drop off).take len)),
    { H := upd z.H b (.row (some (stampOf stamp s z.k st)) sz rows (max ro (off + len))), k := z.k + 1, touch := z.touch ++ [b] })
  else none
 | _ => none
@[simp] theorem frzB_row (stamp : Bool) (s : Sup) (z : Fz) (b off len : Nat) (st : Option Nat) (sz : Nat) (rows : List (List D)) (ro : Nat) : frzB stamp s z b off len (.row st sz rows ro) = if off + len ≤ rows.length then
        some (.d (.l (stampOf stamp s z.k st) ((rows.drop off).take len)),
         { H := upd z.H b (.row (some (stampOf stamp s z.k st)) sz rows (max ro (off + len))), k := z.k + 1, touch := z.touch ++ [b] })
 else none := (rfl)
@[simp] theorem frzW_own (stamp : Bool) (s : Sup) (z : Fz) (b off len : Nat) (c : Option Nat) : frzW stamp s z (.own b off len c) = frzB stamp s z b off len (z.H b) := (rfl)
@[simp] theorem frzW_nil (stamp : Bool) (s : Sup) (z : Fz) : frzW stamp s z .nil = some (.d (.l 0 []), z) := (rfl)
@[simp] theorem frzW_ln (stamp : Bool) (s : Sup) (z : Fz) (st : Nat) (rows : List (List D)) : frzW stamp s z (.ln st rows) = some (.d (.l st rows), z) := (rfl)
@[simp] theorem frzW_d (stamp : Bool) (s : Sup) (z : Fz) (d : D) : frzW stamp s z (.d d) = some (.d d, z) := (rfl)
@[simp] theorem frzW_ptr (stamp : Bool) (s : Sup) (z : Fz) (b o : Nat) : frzW stamp s z (.ptr b o) = some (.ptr b o, z) := (rfl)
@[simp] theorem frzW_rp (stamp : Bool) (s : Sup) (z : Fz) (b i o : Nat) : frzW stamp s z (.rp b i o) = some (.rp b i o, z) := (rfl)
@[simp] theorem frzW_lp (stamp : Bool) (s : Sup) (z : Fz) (r : List D) (o : Nat) : frzW stamp s z (.lp r o) = some (.lp r o, z) := (rfl)
@[simp] theorem frzW_gp (stamp : Bool) (s : Sup) (z : Fz) (k o : Nat) : frzW stamp s z (.gp k o) = some (.gp k o, z) := (rfl)
@[simp] theorem frzW_fn (stamp : Bool) (s : Sup) (z : Fz) (f : Nat) (c : List Cap) : frzW stamp s z (.fn f c) = some (.fn f c, z) := (rfl)
def frzC (stamp : Bool) (s : Sup) (r : List W) (y : W) (z : Fz) : Option (List W × Fz) := bnd2 (frzL stamp s z r) fun l z' => some (y :: l, z')
@[simp] theorem frzL_nil (stamp : Bool) (s : Sup) (z : Fz) : frzL stamp s z [] = some ([], z) := (rfl)
@[simp] theorem frzL_cons (stamp : Bool) (s : Sup) (z : Fz) (x : W) (r : List W) : frzL stamp s z (x :: r) = bnd2 (frzW stamp s z x) (frzC stamp s r) := by
 rw [frzL]; cases frzW stamp s z x with
 | none => rfl
 | some p =>
  obtain ⟨y, z'⟩ := p; simp only [bnd2_some]; unfold frzC; cases frzL stamp s z' r with
  | none => rfl
  | some q => rfl
attribute [simp] frzC
@[simp] theorem frzV_w (stamp : Bool) (s : Sup) (z : Fz) (x : W) : frzV stamp s z (.w x) = bnd2 (frzW stamp s z x) fun y z' => some (.w y, z') := by
 show (match frzW stamp s z x with | some (y, z') => some (V.w y, z') | none => none) = _
 cases frzW stamp s z x <;> rfl
@[simp] theorem frzV_agg (stamp : Bool) (s : Sup) (z : Fz) (cs : List W) : frzV stamp s z (.agg cs) = bnd2 (frzL stamp s z cs) fun l z' => some (.agg l, z') := by
 show (match frzL stamp s z cs with | some (l, z') => some (V.agg l, z') | none => none) = _
 cases frzL stamp s z cs <;> rfl
@[simp] theorem frzP_nil (stamp : Bool) (s : Sup) (z : Fz) : frzP stamp s z [] = some ([], z) := (rfl)
@[simp] theorem frzP_cons (stamp : Bool) (s : Sup) (z : Fz) (a : Bool) (cs : List W) (r : List (Bool × List W)) : frzP stamp s z ((a, cs) :: r) = bnd2 (frzL stamp s z cs) fun y z' => bnd2 (frzP stamp s z' r) fun l z'' => some ((a, y) :: l, z'') := by
 rw [frzP]; cases frzL stamp s z cs with
 | none => rfl
 | some p =>
  obtain ⟨y, z'⟩ := p; simp only [bnd2_some]; cases frzP stamp s z' r with
  | none => rfl
  | some q => rfl
@[simp] theorem frzA_nil (stamp : Bool) (s : Sup) (z : Fz) : frzA stamp s z [] = some ([], z) := (rfl)
@[simp] theorem frzA_cons (stamp : Bool) (s : Sup) (z : Fz) (v : V) (r : List V) : frzA stamp s z (v :: r) = bnd2 (frzV stamp s z v) fun y z' => bnd2 (frzA stamp s z' r) fun l z'' => some (y :: l, z'') := by
 rw [frzA]; cases frzV stamp s z v with
 | none => rfl
 | some p =>
  obtain ⟨y, z'⟩ := p; simp only [bnd2_some]; cases frzA stamp s z' r with
  | none => rfl
  | some q => rfl
@[simp] theorem names_own (b off len : Nat) (c : Option Nat) : W.names (.own b off len c) = [b] := (rfl)
@[simp] theorem names_ptr (b off : Nat) : W.names (.ptr b off) = [b] := (rfl)
@[simp] theorem names_rp (b i off : Nat) : W.names (.rp b i off) = [b] := (rfl)
@[simp] theorem names_d (d : D) : W.names (.d d) = [] := (rfl)
@[simp] theorem names_nil : W.names .nil = [] := (rfl)
@[simp] theorem names_ln (st : Nat) (rows : List (List D)) : W.names (.ln st rows) = [] := (rfl)
@[simp] theorem names_lp (r : List D) (o : Nat) : W.names (.lp r o) = [] := (rfl)
@[simp] theorem names_gp (k o : Nat) : W.names (.gp k o) = [] := (rfl)
@[simp] theorem names_fn (f : Nat) (c : List Cap) : W.names (.fn f c) = c.flatMap Cap.names := (rfl)
@[simp] theorem bnames_cells (cs : List W) : Box.names (.cells cs) = wnames cs := (rfl)
@[simp] theorem bnames_row (st : Option Nat) (sz : Nat) (rows : List (List D)) (ro : Nat) : Box.names (.row st sz rows ro) = [] := (rfl)
@[simp] theorem bnames_dead : Box.names .dead = [] := (rfl)
@[simp] theorem data_d (d : D) : W.data? (.d d) = some d := (rfl)
@[simp] theorem data_nil : W.data? .nil = some (.l 0 []) := (rfl)
@[simp] theorem data_ln (st : Nat) (rows : List (List D)) : W.data? (.ln st rows) = some (.l st rows) := (rfl)
@[simp] theorem ren_own (ρ : Nat → Nat) (b off len : Nat) (c : Option Nat) : W.ren ρ (.own b off len c) = .own (ρ b) off len c := (rfl)
@[simp] theorem ren_ptr (ρ : Nat → Nat) (b off : Nat) : W.ren ρ (.ptr b off) = .ptr (ρ b) off := (rfl)
@[simp] theorem ren_rp (ρ : Nat → Nat) (b i off : Nat) : W.ren ρ (.rp b i off) = .rp (ρ b) i off := (rfl)
@[simp] theorem ren_fn (ρ : Nat → Nat) (f : Nat) (c : List Cap) : W.ren ρ (.fn f c) = .fn f (c.map (Cap.ren ρ)) := (rfl)
@[simp] theorem ren_d (ρ : Nat → Nat) (d : D) : W.ren ρ (.d d) = .d d := (rfl)
@[simp] theorem ren_nil (ρ : Nat → Nat) : W.ren ρ .nil = .nil := (rfl)
@[simp] theorem ren_ln (ρ : Nat → Nat) (st : Nat) (rows : List (List D)) : W.ren ρ (.ln st rows) = .ln st rows := (rfl)
@[simp] theorem ren_lp (ρ : Nat → Nat) (r : List D) (o : Nat) : W.ren ρ (.lp r o) = .lp r o := (rfl)
@[simp] theorem ren_gp (ρ : Nat → Nat) (k o : Nat) : W.ren ρ (.gp k o) = .gp k o := (rfl)
@[simp] theorem bren_cells (ρ : Nat → Nat) (cs : List W) : Box.ren ρ (.cells cs) = .cells (cs.map (W.ren ρ)) := (rfl)
@[simp] theorem bren_row (ρ : Nat → Nat) (st : Option Nat) (sz : Nat) (rows : List (List D)) (ro : Nat) : Box.ren ρ (.row st sz rows ro) = .row st sz rows ro := (rfl)
@[simp] theorem bren_dead (ρ : Nat → Nat) : Box.ren ρ .dead = .dead := (rfl)
@[simp] theorem stamp_none (s : Sup) (k : Nat) : stampOf false s k none = 0 := (rfl)
@[simp] theorem stamp_some (st : Bool) (s : Sup) (k t : Nat) : stampOf st s k (some t) = t := (rfl)
@[simp] theorem at_0 {α : Type} (a : α) (l : List α) : (a :: l)[0]? = some a := (rfl)
@[simp] theorem at_s {α : Type} (a : α) (l : List α) (i : Nat) : (a :: l)[i + 1]? = l[i]? := (rfl)
@[simp] theorem isNil_nil : isNil? .nil = some true := (rfl)
@[simp] theorem isNil_ln (st : Nat) (rows : List (List D)) : isNil? (.ln st rows) = some false := (rfl)
@[simp] theorem isNil_own (b off len : Nat) (c : Option Nat) : isNil? (.own b off len c) = if len = 0 then none else some false := (rfl)
@[simp] theorem isNil_d (st : Nat) (rows : List (List D)) : isNil? (.d (.l st rows)) = if rows.isEmpty then none else some false := (rfl)
@[simp] theorem ptrNil_nil : ptrNil? (.d (.s (.pointer none))) = some true := (rfl)
@[simp] theorem ptrNil_ptr (b off : Nat) : ptrNil? (.ptr b off) = some false := (rfl)
@[simp] theorem ptrNil_rp (b i off : Nat) : ptrNil? (.rp b i off) = some false := (rfl)
@[simp] theorem ptrNil_lp (r : List D) (off : Nat) : ptrNil? (.lp r off) = some false := (rfl)
@[simp] theorem ptrNil_gp (k off : Nat) : ptrNil? (.gp k off) = some false := (rfl)
attribute [simp] endF_at bit_at x_seq x_skip x_ret x_exit x_block x_cond x_reg x_dreg r_nil r_cons l_nil l_cons runF_at callV_at finish_at s_none s_some put_none put_some
 o_mv o_pick o_new o_box o_bld o_bsl o_ld o_st o_nc o_bin o_un o_cvi o_cbs o_msl o_sl o_fa o_fld o_ia o_ext o_call o_lenl o_app o_mmx
attribute [simp] evX ret0 binS mkV eqCells eq1 part? splice resV one? sV V.cells?
 datas? capOf capsOf Cap.v V.names wnames Cap.names V.ren Cap.ren calm calmWith ncW wOf addAll addN reach closed updL nth newCap taint bytesOf behindCall
end Go.VM
