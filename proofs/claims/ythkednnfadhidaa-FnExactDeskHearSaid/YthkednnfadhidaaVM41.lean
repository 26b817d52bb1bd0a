/- The value machine: results that stay one's own; only how arguments are passed matters within. Conditions: none. -/
import Derived.Test.YthkednnfadhidaaVM40

namespace Go.VM
set_option linter.unusedVariables false

section
variable {P : Program} {fid : Nat → FuncId} {cid : FuncId → Nat} {G : Nat → Option (List D)} {call : CallT} {M M' : Nat → Mode} {stamp : Bool}

theorem opV_mode (h : ∀ f, (M f).inout = (M' f).inout) (ev : X → V) (H : Nat → Box) (g : Nat) (s : Sup) (o : O) : opV call M G stamp ev H g s o = opV call M' G stamp ev H g s o := by
  cases o with
  | call f args =>
    have : ∀ f args, callV call M stamp H g s f args = callV call M' stamp H g s f args := fun f args => by simp only [callV, h]
    simp only [opV, this]
  | _ => rfl
theorem stepE_mode (h : ∀ f, (M f).inout = (M' f).inout) (τ : Nat → V) (H : Nat → Box) (g : Nat) (s : Sup) (o : RO) : stepE call M G stamp τ H g s o = stepE call M' G stamp τ H g s o := by
  simp only [stepE, opV_mode h]
theorem regV_mode (h : ∀ f, (M f).inout = (M' f).inout) (N g : Nat) (s : Sup) : ∀ (ops : List RO) (i : Nat) (τ : Nat → V) (H : Nat → Box), regV call M G stamp N g s i ops τ H = regV call M' G stamp N g s i ops τ H
  | [], i, τ, H => rfl
  | o :: r, i, τ, H => by
    simp only [regV, stepE_mode h, regV_mode h N g s r]
theorem regL_mode (h : ∀ f, (M f).inout = (M' f).inout) (N g : Nat) (s : Sup) : ∀ (ops : List RO) (i : Nat) (τ : Nat → V) (H : Nat → Box), regL call M G stamp N g s i ops τ H = regL call M' G stamp N g s i ops τ H
  | [], i, τ, H => rfl
  | o :: r, i, τ, H => by
    simp only [regL, stepE_mode h, regL_mode h N g s r]
theorem iter_congr {b b' : St → Option (Ex × St)} (h : ∀ st, b st = b' st) : ∀ n st, iter b n st = iter b' n st := by
  have : b = b' := funext h
  subst this
  intro n st; rfl
theorem execC_mode (h : ∀ f, (M f).inout = (M' f).inout) (N n : Nat) : ∀ (c : C) (st : St), execC call M G stamp N n c st = execC call M' G stamp N n c st
  | .skip, st => rfl
  | .reg ops, st => by simp only [execC, regV_mode h]
  | .dreg ops bf, st => by simp only [execC, regL_mode h]
  | .seq a b, st => by simp only [execC, execC_mode h N n a, execC_mode h N n b]
  | .cond x a b, st => by simp only [execC, execC_mode h N n a, execC_mode h N n b]
  | .block id c, st => by simp only [execC, execC_mode h N n c]
  | .loop c, st => by simp only [execC]; exact iter_congr (execC_mode h N n c) n st
  | .exit id, st => rfl
  | .ret, st => rfl
  | .bad, st => rfl

/-- A function whose results stay one's own. -/
def runMv (call : CallT) (M : Nat → Mode) (G : Nat → Option (List D)) (n : Nat) (F : Fn) (args : List V) (bs : List Box) (s : Sup) : Option Res :=
  if args.length ≤ F.ntmps then
    match execC call M G false F.ntmps n F.code ⟨fun t => args.getD t (.tup []), fun b => bs.getD b .dead, bs.length, s⟩ with
    | some (.ret, st) | some (.normal, st) => match resV st.τ st.H F.res with
      | some res => finish false true bs.length st res
      | none => none
    | _ => none
  else none

theorem runMv_ok (hcid : ∀ f, fid (cid f) = f) (hmix : P.follows .mixedOrders = true) (hcall : ∀ f args bs s r, call f args bs s = some r → CallOK P fid G f args bs s r) {n f : Nat} {fn : Func} {F : Fn} {args : List V} {bs : List Box} {s : Sup} {r : Res}
    (hfn : P.funcs[fid f]? = some fn) (hF : stripF P cid fn = some F) (h : runMv call M G n F args bs s = some r) : CallOK P fid G f args bs s r := by
  refine runF_ok (M := fun g => ⟨false, true, (M g).inout⟩) (n := n) hcid hmix hcall hfn hF ?_
  unfold runF
  unfold runMv at h
  simp only [← execC_mode (M := M) (M' := fun g => ⟨false, true, (M g).inout⟩) (fun _ => rfl)]
  exact h

end
end Go.VM
