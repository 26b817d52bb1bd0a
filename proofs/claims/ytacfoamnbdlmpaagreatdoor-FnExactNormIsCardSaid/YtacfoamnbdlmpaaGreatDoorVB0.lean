/- Lists of bytes as rows; small words for reckoning. Conditions: none. -/
import Derived.Test.YtacfoamnbdlmpaaGreatDoorVM31
import Derived.Test.YtacfoamnbdlmpaaGreatDoorVNA

namespace Go.VM
set_option linter.unusedSimpArgs false
set_option linter.unusedVariables false

/-- Bytes as rows. -/
def byt (l : List Int) : List (List D) := l.map fun n => [.s (.int .u8 n)]
@[simp] theorem byt_length (l : List Int) : (byt l).length = l.length := by simp [byt]
@[simp] theorem take_byt (l : List Int) : List.take l.length (byt l) = byt l := by rw [← byt_length l, List.take_length]
theorem wrap_nat {i : Nat} (h : i < 2 ^ 62) : IntKind.wrap .i64 (i : Int) = i := by
  simp [IntKind.wrap, IntKind.bits]; omega
theorem wrap_succ {i : Nat} (h : i < 2 ^ 62) : IntKind.wrap .i64 ((i : Int) + 1) = ((i + 1 : Nat) : Int) := by
  simp [IntKind.wrap, IntKind.bits]; omega
theorem byt_get {l : List Int} {i : Nat} {a : Int} (h : l[i]? = some a) : (byt l)[i]? = some [.s (.int .u8 a)] := by simp [byt, h]
theorem wrap_id {x : Int} (h1 : -(2 ^ 63) ≤ x) (h2 : x < 2 ^ 63) : IntKind.wrap .i64 x = x := by
  simp [IntKind.wrap, IntKind.bits, IntKind.signed]; omega
abbrev iV (n : Int) : V := .w (.d (.s (.int .i64 n)))
abbrev iW (n : Int) : W := .d (.s (.int .i64 n))
abbrev bW (st : Nat) (l : List Int) : W := .d (.l st (byt l))
abbrev argW (a : Arg) : List W := [iW a.k, iW a.n, iW a.p]
abbrev argX (a : Arg) : V := .agg [iW a.k, iW a.n, iW a.p]

end Go.VM
