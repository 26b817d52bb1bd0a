/- The value machine: words for reckoning a run. Conditions: none. -/
import Derived.Test.YthkednnfadhidaaVM25
namespace Go.VM
set_option linter.unusedVariables false

@[simp] theorem upd_at {α : Type} (f : Nat → α) (n : Nat) (x : α) (m : Nat) : upd f n x m = if m = n then x else f m := rfl

/-- What stands behind a list waits until the list is written out. -/
def withL {α : Type} (l : List Nat) (k : List Nat → α) : α := k l
@[congr] theorem withL_congr {α : Type} {l l' : List Nat} {k : List Nat → α} (h : l = l') : withL l k = withL l' k := by rw [h]
@[simp] theorem withL_nil {α : Type} (k : List Nat → α) : withL [] k = k [] := rfl
@[simp] theorem withL_1 {α : Type} (k : List Nat → α) (a : Nat) : withL [a] k = k [a] := rfl
@[simp] theorem withL_2 {α : Type} (k : List Nat → α) (a b : Nat) : withL [a, b] k = k [a, b] := rfl
@[simp] theorem withL_3 {α : Type} (k : List Nat → α) (a b c : Nat) : withL [a, b, c] k = k [a, b, c] := rfl
@[simp] theorem withL_4 {α : Type} (k : List Nat → α) (a b c d : Nat) : withL [a, b, c, d] k = k [a, b, c, d] := rfl
@[simp] theorem withL_5 {α : Type} (k : List Nat → α) (a b c d e : Nat) : withL [a, b, c, d, e] k = k [a, b, c, d, e] := rfl
@[simp] theorem withL_6 {α : Type} (k : List Nat → α) (a b c d e f : Nat) : withL [a, b, c, d, e, f] k = k [a, b, c, d, e, f] := rfl

def nth {α : Type} (d : α) : List α → Nat → α
  | [], _ => d
  | a :: _, 0 => a
  | _ :: l, n + 1 => nth d l n
theorem nth_eq {α : Type} (d : α) : ∀ (l : List α) (n : Nat), l.getD n d = nth d l n
  | [], n => by simp [nth]
  | a :: l, 0 => by simp [nth]
  | a :: l, n + 1 => by
    have := nth_eq d l n
    simp only [nth, ← this]
    simp
/-- What stands behind an answer waits until the answer is there. -/
def behindCall (z : Fz) (g : Nat) (ns : List Nat) (r : Res) : Option Eff :=
  if r.bs.length = ns.length ∧ r.news.length ≤ 64 ∧ closed z.H ns = true then
    let σ : Nat → Nat := fun k => if k < ns.length then nth 0 ns k else g + (k - ns.length)
    some ⟨r.v.ren σ, updL z.H ((ns.zip (r.bs.map (Box.ren σ))) ++ ((List.range r.news.length).map (g + ·)).zip (r.news.map (Box.ren σ))),
      z.touch ++ ns, !(z.touch ++ ns).isEmpty⟩
  else none

theorem callV_eq (call : CallT) (M : Nat → Mode) (stamp : Bool) (H : Nat → Box) (g : Nat) (s : Sup) (f : Nat) (args : List V) :
    callV call M stamp H g s f args = match (if (M f).inout then some (args, (⟨H, 0, []⟩ : Fz)) else frzA stamp (fun k => s (2 * k)) ⟨H, 0, []⟩ args) with
      | none => none
      | some (args, z) => withL (reach z.H 4 (addAll [] (args.flatMap V.names))) fun ns =>
        match call f (args.map (V.ren (idx ns))) (ns.map fun b => (z.H b).ren (idx ns)) (fun k => s (2 * k + 1)) with
        | none => none
        | some r => behindCall z g ns r := by
  unfold behindCall
  rw [show nth 0 = fun l k => l.getD k 0 from funext fun l => funext fun k => (nth_eq 0 l k).symm]
  rfl

theorem finish_eq (stamp move : Bool) (m : Nat) (st : St) (res : List (Bool × List W)) :
    finish stamp move m st res = match (if move then some (res, (⟨st.H, 0, []⟩ : Fz)) else frzP stamp st.s ⟨st.H, 0, []⟩ res) with
      | none => none
      | some (res, z) => withL (reach z.H 4 (addAll (List.range m) ((res.flatMap fun p => wnames p.2) ++ (List.range m).flatMap fun b => (z.H b).names))) fun ns =>
        if m ≤ ns.length ∧ ns.take m = List.range m ∧ closed z.H ns = true then
          some ⟨(one? res).ren (idx ns), (List.range m).map (fun b => (z.H b).ren (idx ns)), (ns.drop m).map fun b => (z.H b).ren (idx ns)⟩
        else none := rfl

theorem runF_eq (call : CallT) (M : Nat → Mode) (G : Nat → Option (List D)) (n : Nat) (f : Nat) (F : Fn) (args : List V) (bs : List Box) (s : Sup) :
    runF call M G n f F args bs s = if args.length ≤ F.ntmps then
    match execC call M G (M f).stamp F.ntmps n F.code ⟨nth (.tup []) args, nth .dead bs, bs.length, s⟩ with
    | some (.ret, st) | some (.normal, st) => match resV st.τ st.H F.res with
      | some res => finish (M f).stamp (M f).move bs.length st res
      | none => none
    | _ => none
  else none := by
  unfold runF
  rw [show (fun t => args.getD t (.tup [])) = nth (.tup []) args from funext (nth_eq _ _), show (fun b => bs.getD b .dead) = nth .dead bs from funext (nth_eq _ _)]
  rfl

/-- A loop, by a number that every round lowers. -/
theorem iter_rule {body : St → Option (Ex × St)} {Q : Ex → St → Prop} (I : Nat → St → Prop)
    (h : ∀ k st, I k st → ∃ e st', body st = some (e, st') ∧ (e = .normal → ∃ k', k' < k ∧ I k' st') ∧ (e ≠ .normal → Q e st')) :
    ∀ n k st, k < n → I k st → ∃ e st', iter body n st = some (e, st') ∧ e ≠ .normal ∧ Q e st'
  | 0, k, st, hk, hI => by omega
  | n + 1, k, st, hk, hI => by
    obtain ⟨e, st', h1, h2, h3⟩ := h k st hI
    cases e with
    | normal =>
      obtain ⟨k', hk', hI'⟩ := h2 rfl
      obtain ⟨e, st'', m1, m2, m3⟩ := iter_rule I h n k' st' (by omega) hI'
      exact ⟨e, st'', by simp only [iter, h1]; exact m1, m2, m3⟩
    | exit id => exact ⟨.exit id, st', by simp only [iter, h1], by simp, h3 (by simp)⟩
    | ret => exact ⟨.ret, st', by simp only [iter, h1], by simp, h3 (by simp)⟩

/-- The state behind a piece of code. -/
def behind (x : Option (Ex × St)) : St := match x with | some (_, st) => st | none => ⟨fun _ => .tup [], fun _ => .dead, 0, fun k => k⟩

theorem execC_skip (call : CallT) (M : Nat → Mode) (G : Nat → Option (List D)) (stamp : Bool) (N n : Nat) (st : St) : execC call M G stamp N n .skip st = some (.normal, st) := rfl
theorem execC_loop (call : CallT) (M : Nat → Mode) (G : Nat → Option (List D)) (stamp : Bool) (N n : Nat) (c : C) (st : St) : execC call M G stamp N n (.loop c) st = iter (execC call M G stamp N n c) n st := rfl

attribute [simp] execC regV regL stepE put evX ret0 opV binV unV binS V.s? V.int? V.bool? W.int? W.bool? V.cells? mkV isNil? ptrNil? eqCells eq1 setParts rowsOf optInt part? splice frzW frzL frzP frzV frzA resV one? sV
  stampOf datas? W.data? capOf capsOf Cap.v V.names W.names wnames Box.names Cap.names V.ren W.ren Box.ren Cap.ren calm calmWith ncW callV_eq finish_eq addAll addN reach idx closed updL runF_eq nth fold2 newCap taint bytesOf behindCall

end Go.VM
