/- Short words for printed code. Conditions: none. -/
import Derived.Test.YtcjdokngpmnkjaaGreatDoorVMC

namespace Go.VM
@[simp] def om (d t : Nat) : RO := ⟨some d, .mv (.t t), none⟩
@[simp] def oo (d : Nat) (o : O) : RO := ⟨some d, o, none⟩
@[simp] def on (o : O) : RO := ⟨none, o, none⟩
@[simp] def og (d : Nat) (o : O) (t : Nat) (b : Bool) : RO := ⟨some d, o, some (t, b)⟩
@[simp] def xi (n : Int) : X := .k (.w (.d (.s (.int .i64 n))))
@[simp] def xb (b : Bool) : X := .k (.w (.d (.s (.bool b))))
@[simp] def xf (f : Nat) : X := .k (.w (.fn f []))
@[simp] def wi (n : Int) : W := .d (.s (.int .i64 n))
end Go.VM
