/- Short words for printed code. Conditions: none. -/
import Derived.Test.YtcjdokngpmnkjaaGreatDoorVMC

namespace Go.VM
@[simp] def om (d t : Nat) : RO := ⟨some d, .mv (.t t), none⟩
@[simp] def oo (d : Nat) (o : O) : RO := ⟨some d, o, none⟩
@[simp] def on (o : O) : RO := ⟨none, o, none⟩
@[simp] def og (d : Nat) (o : O) (t : Nat) (b : Bool) : RO := ⟨some d, o, some (t, b)⟩
@[simp] def xi (n : Int) : X := .k (.w (.d (.s (.int .i64 n))))
@[simp] def xb (b : Bool) : X := .k (.w (.d (.s (.bool b))))
@[simp] def xf (f : Nat) : X := .k (.w (.fn f []))
@[simp] def wi (n : Int) : W := .d (.s (.int .i64 n))
@[simp] def z0 : D := .s (.int .i64 0)
@[simp] def zl : D := .l 0 []
@[simp] def zA : List D := [z0, z0, zl, zl, zl, zl]
@[simp] def zN : List D := [z0, z0, zl, zl]
@[simp] def zI : List D := [z0, z0, zl]
@[simp] def zE : List D := [z0, zl]
@[simp] def zP : List D := [z0, z0]
@[simp] def yA : List W := [wi 0, wi 0, .nil, .nil, .nil, .nil]
@[simp] def yN : List W := [wi 0, wi 0, .nil, .nil]
@[simp] def yI : List W := [wi 0, wi 0, .nil]
@[simp] def yE : List W := [wi 0, .nil]
@[simp] def yP : List W := [wi 0, wi 0]
@[simp] def xn : X := .k (.w .nil)
@[simp] def oL (d a : Nat) : RO := oo d (.ld false 1 (.t a))
@[simp] def oA (d n a : Nat) : RO := oo d (.ld true n (.t a))
@[simp] def oB (d : Nat) (o : BinOp) (a b : Nat) : RO := oo d (.bin o .one (.t a) (.t b))
@[simp] def oI (d : Nat) (o : BinOp) (a : Nat) (k : Int) : RO := oo d (.bin o .one (.t a) (xi k))
@[simp] def oF (d i a : Nat) : RO := oo d (.fa i (.t a))
@[simp] def oN (d a : Nat) : RO := oo d (.lenl (.t a))
@[simp] def oV (d : Nat) (k : Int) : RO := oo d (.mv (xi k))
@[simp] def oT (d : Nat) (b : Bool) : RO := oo d (.mv (xb b))
@[simp] def oC (d f : Nat) (l : List X) : RO := oo d (.call (xf f) l)
@[simp] def oX (d n a b : Nat) : RO := oo d (.ia n (.t a) (.t b))
@[simp] def oW (d : Nat) (l : List W) : RO := oo d (.new l)
@[simp] def oS (n a b : Nat) : RO := on (.st n (.t a) (.t b))
@[simp] def sR (l : List RO) (c : C) : C := .seq (.reg l) c
end Go.VM
