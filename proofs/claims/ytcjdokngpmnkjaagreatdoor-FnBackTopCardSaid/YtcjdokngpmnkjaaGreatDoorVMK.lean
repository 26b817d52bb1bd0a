/- Short words for printed code. Conditions: none. -/
import Derived.Test.YtcjdokngpmnkjaaGreatDoorVMC

namespace Go.VM
@[simp] def om (d t : Nat) : RO := ⟨some d, .mv (.t t), none⟩
@[simp] def oo (d : Nat) (o : O) : RO := ⟨some d, o, none⟩
@[simp] def on (o : O) : RO := ⟨none, o, none⟩
@[simp] def og (d : Nat) (o : O) (t : Nat) (b : Bool) : RO := ⟨some d, o, some (t, b)⟩
@[simp] def xi (n : Int) : X := .k (.w (.d (.s (.int .i64 n))))
@[simp] def xb (b : Bool) : X := .k (.w (.d (.s (.bool b))))
@[simp] def xf (f : Nat) : X := .k (.w (.fn f []))
@[simp] def wi (n : Int) : W := .d (.s (.int .i64 n))
@[simp] def z0 : D := .s (.int .i64 0)
@[simp] def zl : D := .l 0 []
@[simp] def zA : List D := [z0, z0, zl, zl, zl, zl]
@[simp] def zN : List D := [z0, z0, zl, zl]
@[simp] def zI : List D := [z0, z0, zl]
@[simp] def zE : List D := [z0, zl]
@[simp] def zP : List D := [z0, z0]
@[simp] def yA : List W := [wi 0, wi 0, .nil, .nil, .nil, .nil]
@[simp] def yN : List W := [wi 0, wi 0, .nil, .nil]
@[simp] def yI : List W := [wi 0, wi 0, .nil]
@[simp] def yE : List W := [wi 0, .nil]
@[simp] def yP : List W := [wi 0, wi 0]
@[simp] def xn : X := .k (.w .nil)
@[simp] def oL (d a : Nat) : RO := oo d (.ld false 1 (.t a))
@[simp] def oA (d n a : Nat) : RO := oo d (.ld true n (.t a))
@[simp] def oB (d : Nat) (o : BinOp) (a b : Nat) : RO := oo d (.bin o .one (.t a) (.t b))
@[simp] def oI (d : Nat) (o : BinOp) (a : Nat) (k : Int) : RO := oo d (.bin o .one (.t a) (xi k))
@[simp] def oF (d i a : Nat) : RO := oo d (.fa i (.t a))
@[simp] def oN (d a : Nat) : RO := oo d (.lenl (.t a))
@[simp] def oV (d : Nat) (k : Int) : RO := oo d (.mv (xi k))
@[simp] def oT (d : Nat) (b : Bool) : RO := oo d (.mv (xb b))
@[simp] def oC (d f : Nat) (l : List X) : RO := oo d (.call (xf f) l)
@[simp] def oX (d n a b : Nat) : RO := oo d (.ia n (.t a) (.t b))
@[simp] def oW (d : Nat) (l : List W) : RO := oo d (.new l)
@[simp] def oS (n a b : Nat) : RO := on (.st n (.t a) (.t b))
@[simp] def sR (l : List RO) (c : C) : C := .seq (.reg l) c
@[simp] def oK (d : Nat) : RO := oo d (.mv xn)
@[simp] def oU (d a : Nat) : RO := oo d (.un .not (.t a))
@[simp] def oE (d i a : Nat) : RO := oo d (.ext i (.t a))
@[simp] def oY (d a b : Nat) : RO := oo d (.pick (.t a) (xb true) (.t b))
@[simp] def oZ (d a b : Nat) : RO := oo d (.pick (.t a) (.t b) (xb false))
@[simp] def oD (d f : Nat) (l : List Nat) : RO := oo d (.call (xf f) (l.map .t))
@[simp] def oP (d n : Nat) (z : List D) (a : Nat) : RO := oo d (.bsl n 1 z [(0, .t a)])
@[simp] def oQ (d n b : Nat) (z : List D) (x y : Nat) : RO := oo d (.app n b z (.t x) (.t y))
@[simp] def gM (d a k : Nat) (v : Bool) : RO := og d (.mv (.t a)) k v
@[simp] def gL (d a k : Nat) (v : Bool) : RO := og d (.ld false 1 (.t a)) k v
@[simp] def gB (d : Nat) (o : BinOp) (a b k : Nat) (v : Bool) : RO := og d (.bin o .one (.t a) (.t b)) k v
@[simp] def gI (d : Nat) (o : BinOp) (a : Nat) (n : Int) (k : Nat) (v : Bool) : RO := og d (.bin o .one (.t a) (xi n)) k v
@[simp] def gF (d i a k : Nat) (v : Bool) : RO := og d (.fa i (.t a)) k v
@[simp] def gX (d n a b k : Nat) (v : Bool) : RO := og d (.ia n (.t a) (.t b)) k v
@[simp] def gY (d a b k : Nat) (v : Bool) : RO := og d (.pick (.t a) (xb true) (.t b)) k v
@[simp] def gZ (d a b k : Nat) (v : Bool) : RO := og d (.pick (.t a) (.t b) (xb false)) k v
@[simp] def gD (d f : Nat) (l : List Nat) (k : Nat) (v : Bool) : RO := og d (.call (xf f) (l.map .t)) k v
@[simp] def cS (t : Nat) (a : C) : C := .cond (.t t) a .skip
@[simp] def cC (t : Nat) (a b : C) : C := .cond (.t t) a b
@[simp] def cX (t k : Nat) : C := .cond (.t t) .skip (.exit k)
theorem ltT {a b : Nat} (h : a < b) : ((a : Int) < (b : Int)) = True := eq_true (by omega)
end Go.VM
