/- The functions of the seat as the value machine has them, written by a program of mine out of the translation. Conditions: none. -/
import Derived.Test.YtacfoamnbdlmpaaGreatDoorVMC

namespace Go.VM

/- loop.example/stile/laws.FnNormShape -/
def F203_B0 : C :=
  (.seq (.seq (.reg [⟨(some 21), .mv (.t 6), none⟩,
    ⟨(some 22), .mv (.t 3), none⟩,
    ⟨(some 23), .lenl (.t 22), none⟩,
    ⟨(some 24), .bin .lss .one (.t 21) (.t 23), none⟩])
  (.cond (.t 24)
    .skip
    (.exit 0)))
  (.seq (.block 1
    (.seq (.reg [⟨(some 27), .mv (.t 5), none⟩,
      ⟨(some 28), .mv (.t 27), none⟩,
      ⟨(some 29), .mv (.t 3), (some (28, true))⟩,
      ⟨(some 30), .mv (.t 6), (some (28, true))⟩,
      ⟨(some 31), .ia 6 (.t 29) (.t 30), (some (28, true))⟩,
      ⟨(some 32), .ld true 6 (.t 31), (some (28, true))⟩,
      ⟨(some 33), .call (.k (.w (.fn 207 []))) [(.t 32)], (some (28, true))⟩,
      ⟨(some 34), .pick (.t 28) (.t 33) (.k (.w (.d (.s (.bool false))))), none⟩,
      ⟨(some 5), .mv (.t 34), none⟩])
    (.seq (.reg [⟨(some 35), .mv (.t 6), none⟩,
      ⟨(some 36), .mv (.t 4), none⟩,
      ⟨(some 37), .lenl (.t 36), none⟩,
      ⟨(some 38), .bin .geq .one (.t 35) (.t 37), none⟩,
      ⟨(some 39), .mv (.t 38), none⟩,
      ⟨(some 40), .mv (.t 4), (some (39, false))⟩,
      ⟨(some 41), .mv (.t 6), (some (39, false))⟩,
      ⟨(some 42), .ia 6 (.t 40) (.t 41), (some (39, false))⟩,
      ⟨(some 43), .ld true 6 (.t 42), (some (39, false))⟩,
      ⟨(some 44), .call (.k (.w (.fn 207 []))) [(.t 43)], (some (39, false))⟩,
      ⟨(some 45), .un .not (.t 44), (some (39, false))⟩,
      ⟨(some 46), .pick (.t 39) (.k (.w (.d (.s (.bool true))))) (.t 45), none⟩])
    (.cond (.t 46)
      (.seq (.reg [⟨(some 2), .mv (.k (.w (.d (.s (.bool false))))), none⟩])
      .ret)
      .skip))))
  (.reg [⟨(some 25), .mv (.t 6), none⟩,
    ⟨(some 26), .bin .add .one (.t 25) (.k (.w (.d (.s (.int .i64 1))))), none⟩,
    ⟨(some 6), .mv (.t 26), none⟩])))
def F203_L0 : C := .loop F203_B0
def F203 : Fn := ⟨58, [.tmp 2],
  (.seq (.reg [⟨(some 2), .mv (.k (.w (.d (.s (.bool false))))), none⟩])
  (.seq (.seq (.reg [⟨(some 7), .mv (.t 0), none⟩,
    ⟨(some 8), .lenl (.t 7), none⟩,
    ⟨(some 9), .bin .gtr .one (.t 8) (.k (.w (.d (.s (.int .i64 1048576))))), none⟩])
  (.cond (.t 9)
    (.seq (.reg [⟨(some 2), .mv (.k (.w (.d (.s (.bool true))))), none⟩])
    .ret)
    .skip))
  (.seq (.reg [⟨(some 10), .mv (.t 0), none⟩,
    ⟨(some 11), .call (.k (.w (.fn 205 []))) [(.t 10)], none⟩,
    ⟨(some 3), .mv (.t 11), none⟩])
  (.seq (.seq (.reg [⟨(some 12), .mv (.t 3), none⟩,
    ⟨(some 13), .call (.k (.w (.fn 106 []))) [(.t 12)], none⟩,
    ⟨(some 14), .fld false 0 1 (.t 13), none⟩,
    ⟨(some 15), .bin .gtr .one (.t 14) (.k (.w (.d (.s (.int .i64 0))))), none⟩])
  (.cond (.t 15)
    (.seq (.reg [⟨(some 16), .mv (.t 3), none⟩,
      ⟨(some 17), .call (.k (.w (.fn 206 []))) [(.t 16)], none⟩,
      ⟨(some 18), .un .not (.t 17), none⟩,
      ⟨(some 2), .mv (.t 18), none⟩])
    .ret)
    .skip))
  (.seq (.reg [⟨(some 19), .mv (.t 3), none⟩,
    ⟨(some 20), .call (.k (.w (.fn 108 []))) [(.t 19)], none⟩,
    ⟨(some 4), .mv (.t 20), none⟩])
  (.seq (.reg [⟨(some 5), .mv (.k (.w (.d (.s (.bool true))))), none⟩])
  (.seq (.seq (.reg [⟨(some 6), .mv (.k (.w (.d (.s (.int .i64 0))))), none⟩])
  (.block 0
    F203_L0))
  (.seq (.reg [⟨(some 47), .mv (.t 3), none⟩,
    ⟨(some 48), .call (.k (.w (.fn 206 []))) [(.t 47)], none⟩,
    ⟨(some 49), .mv (.t 5), none⟩,
    ⟨(some 50), .bin .eql .b (.t 48) (.t 49), none⟩,
    ⟨(some 51), .mv (.t 50), none⟩,
    ⟨(some 52), .mv (.t 5), (some (51, true))⟩,
    ⟨(some 53), .mv (.t 4), (some (51, true))⟩,
    ⟨(some 54), .mv (.t 3), (some (51, true))⟩,
    ⟨(some 55), .call (.k (.w (.fn 109 []))) [(.t 53), (.t 54)], (some (51, true))⟩,
    ⟨(some 56), .bin .eql .b (.t 52) (.t 55), (some (51, true))⟩,
    ⟨(some 57), .pick (.t 51) (.t 56) (.k (.w (.d (.s (.bool false))))), none⟩,
    ⟨(some 2), .mv (.t 57), none⟩])
  .ret))))))))⟩

/- loop.example/stile/laws.FnNormOnce -/
def F204 : Fn := ⟨52, [.tmp 2],
  (.seq (.reg [⟨(some 2), .mv (.k (.w (.d (.s (.bool false))))), none⟩])
  (.seq (.seq (.reg [⟨(some 5), .mv (.t 0), none⟩,
    ⟨(some 6), .lenl (.t 5), none⟩,
    ⟨(some 7), .bin .gtr .one (.t 6) (.k (.w (.d (.s (.int .i64 1048576))))), none⟩])
  (.cond (.t 7)
    (.seq (.reg [⟨(some 2), .mv (.k (.w (.d (.s (.bool true))))), none⟩])
    .ret)
    .skip))
  (.seq (.reg [⟨(some 8), .mv (.t 0), none⟩,
    ⟨(some 9), .call (.k (.w (.fn 111 []))) [(.t 8)], none⟩,
    ⟨(some 3), .mv (.t 9), none⟩])
  (.seq (.reg [⟨(some 10), .mv (.t 3), none⟩,
    ⟨(some 11), .call (.k (.w (.fn 108 []))) [(.t 10)], none⟩,
    ⟨(some 4), .mv (.t 11), none⟩])
  (.seq (.seq (.reg [⟨(some 12), .mv (.t 4), none⟩,
    ⟨(some 13), .mv (.t 3), none⟩,
    ⟨(some 14), .call (.k (.w (.fn 208 []))) [(.t 13)], none⟩,
    ⟨(some 15), .call (.k (.w (.fn 209 []))) [(.t 12), (.t 14)], none⟩,
    ⟨(some 16), .un .not (.t 15), none⟩])
  (.cond (.t 16)
    (.seq (.reg [⟨(some 2), .mv (.k (.w (.d (.s (.bool false))))), none⟩])
    .ret)
    .skip))
  (.seq (.seq (.reg [⟨(some 17), .mv (.t 3), none⟩,
    ⟨(some 18), .call (.k (.w (.fn 106 []))) [(.t 17)], none⟩,
    ⟨(some 19), .fld false 0 1 (.t 18), none⟩,
    ⟨(some 20), .bin .gtr .one (.t 19) (.k (.w (.d (.s (.int .i64 0))))), none⟩])
  (.cond (.t 20)
    (.seq (.reg [⟨(some 21), .mv (.t 4), none⟩,
      ⟨(some 22), .lenl (.t 21), none⟩,
      ⟨(some 23), .bin .eql .one (.t 22) (.k (.w (.d (.s (.int .i64 0))))), none⟩,
      ⟨(some 2), .mv (.t 23), none⟩])
    .ret)
    .skip))
  (.seq (.reg [⟨(some 24), .mv (.t 4), none⟩,
    ⟨(some 25), .call (.k (.w (.fn 145 []))) [(.t 24)], none⟩,
    ⟨(some 26), .fld false 0 1 (.t 25), none⟩,
    ⟨(some 27), .bin .eql .one (.t 26) (.k (.w (.d (.s (.int .i64 0))))), none⟩,
    ⟨(some 28), .mv (.t 27), none⟩,
    ⟨(some 29), .mv (.t 4), (some (28, true))⟩,
    ⟨(some 30), .call (.k (.w (.fn 108 []))) [(.t 29)], (some (28, true))⟩,
    ⟨(some 31), .mv (.t 4), (some (28, true))⟩,
    ⟨(some 32), .call (.k (.w (.fn 109 []))) [(.t 30), (.t 31)], (some (28, true))⟩,
    ⟨(some 33), .pick (.t 28) (.t 32) (.k (.w (.d (.s (.bool false))))), none⟩,
    ⟨(some 34), .mv (.t 33), none⟩,
    ⟨(some 35), .mv (.t 4), (some (34, true))⟩,
    ⟨(some 36), .call (.k (.w (.fn 206 []))) [(.t 35)], (some (34, true))⟩,
    ⟨(some 37), .pick (.t 34) (.t 36) (.k (.w (.d (.s (.bool false))))), none⟩,
    ⟨(some 38), .mv (.t 37), none⟩,
    ⟨(some 39), .mv (.t 4), (some (38, true))⟩,
    ⟨(some 40), .call (.k (.w (.fn 171 []))) [(.t 39)], (some (38, true))⟩,
    ⟨(some 41), .mv (.t 3), (some (38, true))⟩,
    ⟨(some 42), .call (.k (.w (.fn 171 []))) [(.t 41)], (some (38, true))⟩,
    ⟨(some 43), .bin .leq .one (.t 40) (.t 42), (some (38, true))⟩,
    ⟨(some 44), .pick (.t 38) (.t 43) (.k (.w (.d (.s (.bool false))))), none⟩,
    ⟨(some 45), .mv (.t 44), none⟩,
    ⟨(some 46), .mv (.t 4), (some (45, true))⟩,
    ⟨(some 47), .lenl (.t 46), (some (45, true))⟩,
    ⟨(some 48), .mv (.t 3), (some (45, true))⟩,
    ⟨(some 49), .lenl (.t 48), (some (45, true))⟩,
    ⟨(some 50), .bin .eql .one (.t 47) (.t 49), (some (45, true))⟩,
    ⟨(some 51), .pick (.t 45) (.t 50) (.k (.w (.d (.s (.bool false))))), none⟩,
    ⟨(some 2), .mv (.t 51), none⟩])
  .ret)))))))⟩

/- loop.example/stile/laws.FnExactNormIs -/
def F243 : Fn := ⟨27, [.tmp 2],
  (.seq (.reg [⟨(some 2), .mv (.k (.w (.d (.s (.bool false))))), none⟩])
  (.seq (.reg [⟨(some 3), .mv (.k (.w (.d (.s (.int .i64 1048576))))), none⟩])
  (.seq (.reg [⟨(some 7), .mv (.t 0), none⟩,
    ⟨(some 8), .mv (.t 3), none⟩,
    ⟨(some 9), .call (.k (.w (.fn 244 []))) [(.t 7), (.t 8)], none⟩,
    ⟨(some 3), .mv (.t 9), none⟩])
  (.seq (.seq (.reg [⟨(some 10), .mv (.t 3), none⟩,
    ⟨(some 11), .bin .lss .one (.t 10) (.k (.w (.d (.s (.int .i64 0))))), none⟩])
  (.cond (.t 11)
    (.seq (.reg [⟨(some 2), .mv (.k (.w (.d (.s (.bool true))))), none⟩])
    .ret)
    .skip))
  (.seq (.reg [⟨(some 12), .mv (.t 0), none⟩,
    ⟨(some 13), .call (.k (.w (.fn 245 []))) [(.t 12)], none⟩,
    ⟨(some 14), .call (.k (.w (.fn 246 []))) [(.t 13)], none⟩,
    ⟨(some 4), .mv (.t 14), none⟩])
  (.seq (.reg [⟨(some 15), .mv (.t 0), none⟩,
    ⟨(some 16), .call (.k (.w (.fn 245 []))) [(.t 15)], none⟩,
    ⟨(some 5), .mv (.t 16), none⟩])
  (.seq (.reg [⟨(some 17), .mv (.t 5), none⟩,
    ⟨(some 18), .call (.k (.w (.fn 206 []))) [(.t 17)], none⟩,
    ⟨(some 6), .mv (.t 18), none⟩])
  (.seq (.seq (.reg [⟨(some 19), .mv (.t 6), none⟩,
    ⟨(some 20), .mv (.t 4), none⟩,
    ⟨(some 21), .bin .neq .b (.t 19) (.t 20), none⟩])
  (.cond (.t 21)
    (.seq (.reg [⟨(some 2), .mv (.k (.w (.d (.s (.bool false))))), none⟩])
    .ret)
    .skip))
  (.seq (.seq (.reg [⟨(some 22), .mv (.t 5), none⟩,
    ⟨(some 23), .mv (.t 0), none⟩,
    ⟨(some 24), .call (.k (.w (.fn 245 []))) [(.t 23)], none⟩,
    ⟨(some 25), .call (.k (.w (.fn 247 []))) [(.t 22), (.t 24)], none⟩,
    ⟨(some 26), .un .not (.t 25), none⟩])
  (.cond (.t 26)
    (.seq (.reg [⟨(some 2), .mv (.k (.w (.d (.s (.bool false))))), none⟩])
    .ret)
    .skip))
  (.seq (.reg [⟨(some 2), .mv (.k (.w (.d (.s (.bool true))))), none⟩])
  .ret))))))))))⟩

/- loop.example/stile/laws.FnExactNormMake -/
def F254 : Fn := ⟨69, [.tmp 2],
  (.seq (.reg [⟨(some 2), .mv (.k (.w (.d (.s (.bool false))))), none⟩])
  (.seq (.reg [⟨(some 3), .mv (.k (.w (.d (.s (.int .i64 1048576))))), none⟩])
  (.seq (.reg [⟨(some 11), .mv (.t 0), none⟩,
    ⟨(some 12), .mv (.t 3), none⟩,
    ⟨(some 13), .call (.k (.w (.fn 244 []))) [(.t 11), (.t 12)], none⟩,
    ⟨(some 3), .mv (.t 13), none⟩])
  (.seq (.seq (.reg [⟨(some 14), .mv (.t 3), none⟩,
    ⟨(some 15), .bin .lss .one (.t 14) (.k (.w (.d (.s (.int .i64 0))))), none⟩])
  (.cond (.t 15)
    (.seq (.reg [⟨(some 2), .mv (.k (.w (.d (.s (.bool true))))), none⟩])
    .ret)
    .skip))
  (.seq (.reg [⟨(some 16), .mv (.t 0), none⟩,
    ⟨(some 17), .call (.k (.w (.fn 245 []))) [(.t 16)], none⟩,
    ⟨(some 18), .call (.k (.w (.fn 208 []))) [(.t 17)], none⟩,
    ⟨(some 4), .mv (.t 18), none⟩])
  (.seq (.reg [⟨(some 19), .mv (.t 0), none⟩,
    ⟨(some 20), .call (.k (.w (.fn 245 []))) [(.t 19)], none⟩,
    ⟨(some 5), .mv (.t 20), none⟩])
  (.seq (.reg [⟨(some 21), .mv (.t 5), none⟩,
    ⟨(some 22), .call (.k (.w (.fn 108 []))) [(.t 21)], none⟩,
    ⟨(some 6), .mv (.t 22), none⟩])
  (.seq (.seq (.reg [⟨(some 23), .mv (.t 6), none⟩,
    ⟨(some 24), .mv (.t 4), none⟩,
    ⟨(some 25), .call (.k (.w (.fn 247 []))) [(.t 23), (.t 24)], none⟩,
    ⟨(some 26), .un .not (.t 25), none⟩])
  (.cond (.t 26)
    (.seq (.reg [⟨(some 2), .mv (.k (.w (.d (.s (.bool false))))), none⟩])
    .ret)
    .skip))
  (.seq (.seq (.reg [⟨(some 27), .mv (.t 5), none⟩,
    ⟨(some 28), .mv (.t 0), none⟩,
    ⟨(some 29), .call (.k (.w (.fn 245 []))) [(.t 28)], none⟩,
    ⟨(some 30), .call (.k (.w (.fn 247 []))) [(.t 27), (.t 29)], none⟩,
    ⟨(some 31), .un .not (.t 30), none⟩])
  (.cond (.t 31)
    (.seq (.reg [⟨(some 2), .mv (.k (.w (.d (.s (.bool false))))), none⟩])
    .ret)
    .skip))
  (.seq (.reg [⟨(some 7), .mv (.k (.w (.d (.s (.int .i64 1))))), none⟩])
  (.seq (.reg [⟨(some 32), .mv (.t 5), none⟩,
    ⟨(some 33), .mv (.t 7), none⟩,
    ⟨(some 34), .call (.k (.w (.fn 255 []))) [(.t 32), (.t 33)], none⟩,
    ⟨(some 7), .mv (.t 34), none⟩])
  (.seq (.seq (.reg [⟨(some 35), .mv (.t 7), none⟩,
    ⟨(some 36), .bin .lss .one (.t 35) (.k (.w (.d (.s (.int .i64 0))))), none⟩,
    ⟨(some 37), .mv (.t 36), none⟩,
    ⟨(some 38), .mv (.t 6), (some (37, false))⟩,
    ⟨(some 39), .mv (.t 4), (some (37, false))⟩,
    ⟨(some 40), .call (.k (.w (.fn 247 []))) [(.t 38), (.t 39)], (some (37, false))⟩,
    ⟨(some 41), .un .not (.t 40), (some (37, false))⟩,
    ⟨(some 42), .pick (.t 37) (.k (.w (.d (.s (.bool true))))) (.t 41), none⟩])
  (.cond (.t 42)
    (.seq (.reg [⟨(some 2), .mv (.k (.w (.d (.s (.bool false))))), none⟩])
    .ret)
    .skip))
  (.seq (.reg [⟨(some 8), .mv (.k (.w (.d (.s (.int .i64 1))))), none⟩])
  (.seq (.reg [⟨(some 43), .mv (.t 6), none⟩,
    ⟨(some 44), .mv (.t 8), none⟩,
    ⟨(some 45), .call (.k (.w (.fn 255 []))) [(.t 43), (.t 44)], none⟩,
    ⟨(some 8), .mv (.t 45), none⟩])
  (.seq (.reg [⟨(some 9), .mv (.k (.w (.d (.s (.int .i64 1))))), none⟩])
  (.seq (.reg [⟨(some 46), .mv (.t 6), none⟩,
    ⟨(some 47), .mv (.t 9), none⟩,
    ⟨(some 48), .call (.k (.w (.fn 256 []))) [(.t 46), (.t 47)], none⟩,
    ⟨(some 9), .mv (.t 48), none⟩])
  (.seq (.seq (.reg [⟨(some 49), .mv (.t 9), none⟩,
    ⟨(some 50), .bin .lss .one (.t 49) (.k (.w (.d (.s (.int .i64 0))))), none⟩])
  (.cond (.t 50)
    (.seq (.reg [⟨(some 2), .mv (.k (.w (.d (.s (.bool false))))), none⟩])
    .ret)
    .skip))
  (.seq (.seq (.reg [⟨(some 51), .mv (.t 9), none⟩,
    ⟨(some 52), .mv (.t 8), none⟩,
    ⟨(some 53), .bin .neq .one (.t 51) (.t 52), none⟩])
  (.cond (.t 53)
    (.seq (.reg [⟨(some 2), .mv (.k (.w (.d (.s (.bool false))))), none⟩])
    .ret)
    .skip))
  (.seq (.reg [⟨(some 54), .mv (.t 0), none⟩,
    ⟨(some 55), .call (.k (.w (.fn 245 []))) [(.t 54)], none⟩,
    ⟨(some 56), .call (.k (.w (.fn 108 []))) [(.t 55)], none⟩,
    ⟨(some 10), .mv (.t 56), none⟩])
  (.seq (.seq (.reg [⟨(some 57), .mv (.t 10), none⟩,
    ⟨(some 58), .mv (.t 4), none⟩,
    ⟨(some 59), .call (.k (.w (.fn 247 []))) [(.t 57), (.t 58)], none⟩,
    ⟨(some 60), .un .not (.t 59), none⟩])
  (.cond (.t 60)
    (.seq (.reg [⟨(some 2), .mv (.k (.w (.d (.s (.bool false))))), none⟩])
    .ret)
    .skip))
  (.seq (.reg [⟨(some 9), .mv (.k (.w (.d (.s (.int .i64 1))))), none⟩])
  (.seq (.reg [⟨(some 61), .mv (.t 6), none⟩,
    ⟨(some 62), .mv (.t 9), none⟩,
    ⟨(some 63), .call (.k (.w (.fn 256 []))) [(.t 61), (.t 62)], none⟩,
    ⟨(some 9), .mv (.t 63), none⟩])
  (.seq (.seq (.reg [⟨(some 64), .mv (.t 9), none⟩,
    ⟨(some 65), .bin .lss .one (.t 64) (.k (.w (.d (.s (.int .i64 0))))), none⟩])
  (.cond (.t 65)
    (.seq (.reg [⟨(some 2), .mv (.k (.w (.d (.s (.bool false))))), none⟩])
    .ret)
    .skip))
  (.seq (.seq (.reg [⟨(some 66), .mv (.t 9), none⟩,
    ⟨(some 67), .mv (.t 8), none⟩,
    ⟨(some 68), .bin .neq .one (.t 66) (.t 67), none⟩])
  (.cond (.t 68)
    (.seq (.reg [⟨(some 2), .mv (.k (.w (.d (.s (.bool false))))), none⟩])
    .ret)
    .skip))
  (.seq (.reg [⟨(some 2), .mv (.k (.w (.d (.s (.bool true))))), none⟩])
  .ret)))))))))))))))))))))))))⟩

/- loop.example/stile/spec.DrawNormIs -/
def F205 : Fn := ⟨22, [.tmp 2],
  (.seq (.reg [⟨(some 2), .mv (.k (.w .nil)), none⟩])
  (.seq (.reg [⟨(some 5), .mv (.t 0), none⟩,
    ⟨(some 6), .call (.k (.w (.fn 65 []))) [(.t 5)], none⟩,
    ⟨(some 3), .mv (.t 6), none⟩])
  (.seq (.reg [⟨(some 7), .mv (.t 3), none⟩,
    ⟨(some 8), .call (.k (.w (.fn 128 []))) [(.t 7)], none⟩,
    ⟨(some 4), .mv (.t 8), none⟩])
  (.seq (.seq (.reg [⟨(some 9), .mv (.t 3), none⟩,
    ⟨(some 10), .call (.k (.w (.fn 67 []))) [(.t 9), (.k (.w (.d (.s (.int .i64 4)))))], none⟩])
  (.block 0
    (.seq (.reg [⟨(some 12), .bin .eql .one (.t 10) (.k (.w (.d (.s (.int .i64 0))))), none⟩,
      ⟨(some 11), .mv (.t 12), none⟩])
    (.cond (.t 11)
      (.seq (.reg [⟨(some 13), .mv (.t 4), none⟩,
        ⟨(some 14), .call (.k (.w (.fn 208 []))) [(.t 13)], none⟩,
        ⟨(some 2), .mv (.t 14), none⟩])
      .ret)
      (.seq (.reg [⟨(some 16), .bin .eql .one (.t 10) (.k (.w (.d (.s (.int .i64 1))))), none⟩,
        ⟨(some 15), .mv (.t 16), none⟩])
      (.cond (.t 15)
        (.seq (.reg [⟨(some 17), .mv (.t 3), none⟩,
          ⟨(some 18), .mv (.t 4), none⟩,
          ⟨(some 19), .call (.k (.w (.fn 208 []))) [(.t 18)], none⟩,
          ⟨(some 20), .call (.k (.w (.fn 152 []))) [(.t 17), (.t 19)], none⟩,
          ⟨(some 2), .mv (.t 20), none⟩])
        .ret)
        .skip))))))
  (.seq (.reg [⟨(some 21), .mv (.t 4), none⟩,
    ⟨(some 2), .mv (.t 21), none⟩])
  .ret)))))⟩

/- loop.example/stile/spec.TreeCheck -/
def F106_B0 : C :=
  (.seq (.seq (.reg [⟨(some 14), .mv (.t 3), none⟩,
    ⟨(some 15), .mv (.t 0), none⟩,
    ⟨(some 16), .lenl (.t 15), none⟩,
    ⟨(some 17), .bin .lss .one (.t 14) (.t 16), none⟩])
  (.cond (.t 17)
    .skip
    (.exit 0)))
  (.seq (.block 1
    (.seq (.reg [⟨(some 20), .mv (.t 0), none⟩,
      ⟨(some 21), .mv (.t 3), none⟩,
      ⟨(some 22), .ia 6 (.t 20) (.t 21), none⟩,
      ⟨(some 23), .ld true 6 (.t 22), none⟩,
      ⟨(some 24), .call (.k (.w (.fn 121 []))) [(.t 23), (.k (.w (.d (.s (.bool true)))))], none⟩,
      ⟨(some 4), .mv (.t 24), none⟩])
    (.seq (.reg [⟨(some 25), .mv (.t 4), none⟩,
      ⟨(some 26), .bin .gtr .one (.t 25) (.k (.w (.d (.s (.int .i64 0))))), none⟩])
    (.cond (.t 26)
      (.seq (.reg [⟨(some 27), .mv (.t 4), none⟩,
        ⟨(some 28), .mv (.t 3), none⟩,
        ⟨(some 29), .bld [(.d (.s (.int .i64 0))), (.d (.s (.int .i64 0)))] [(0, 1, (.t 27)), (1, 1, (.t 28))], none⟩,
        ⟨none, .st 2 (.t 2) (.t 29), none⟩])
      .ret)
      .skip))))
  (.reg [⟨(some 18), .mv (.t 3), none⟩,
    ⟨(some 19), .bin .add .one (.t 18) (.k (.w (.d (.s (.int .i64 1))))), none⟩,
    ⟨(some 3), .mv (.t 19), none⟩])))
def F106_L0 : C := .loop F106_B0
def F106 : Fn := ⟨31, [.cell 2 true 2],
  (.seq (.reg [⟨(some 2), .new [(.d (.s (.int .i64 0))), (.d (.s (.int .i64 0)))], none⟩])
  (.seq (.seq (.reg [⟨(some 5), .mv (.t 0), none⟩,
    ⟨(some 6), .lenl (.t 5), none⟩,
    ⟨(some 7), .bin .gtr .one (.t 6) (.k (.w (.d (.s (.int .i64 40))))), none⟩,
    ⟨(some 8), .mv (.t 7), none⟩,
    ⟨(some 9), .mv (.t 0), (some (8, false))⟩,
    ⟨(some 10), .call (.k (.w (.fn 107 []))) [(.t 9)], (some (8, false))⟩,
    ⟨(some 11), .bin .gtr .one (.t 10) (.k (.w (.d (.s (.int .i64 400))))), (some (8, false))⟩,
    ⟨(some 12), .pick (.t 8) (.k (.w (.d (.s (.bool true))))) (.t 11), none⟩])
  (.cond (.t 12)
    (.seq (.reg [⟨(some 13), .bld [(.d (.s (.int .i64 0))), (.d (.s (.int .i64 0)))] [(0, 1, (.k (.w (.d (.s (.int .i64 1))))))], none⟩,
      ⟨none, .st 2 (.t 2) (.t 13), none⟩])
    .ret)
    .skip))
  (.seq (.seq (.reg [⟨(some 3), .mv (.k (.w (.d (.s (.int .i64 0))))), none⟩])
  (.block 0
    F106_L0))
  (.seq (.reg [⟨(some 30), .bld [(.d (.s (.int .i64 0))), (.d (.s (.int .i64 0)))] [], none⟩,
    ⟨none, .st 2 (.t 2) (.t 30), none⟩])
  .ret))))⟩

/- loop.example/stile/impl.NormIs -/
def F206 : Fn := ⟨11, [.tmp 2],
  (.seq (.reg [⟨(some 2), .mv (.k (.w (.d (.s (.bool false))))), none⟩])
  (.seq (.reg [⟨(some 3), .mv (.t 0), none⟩,
    ⟨(some 4), .call (.k (.w (.fn 123 []))) [(.t 3)], none⟩,
    ⟨(some 5), .mv (.t 4), none⟩,
    ⟨(some 6), .mv (.t 0), (some (5, true))⟩,
    ⟨(some 7), .mv (.t 0), (some (5, true))⟩,
    ⟨(some 8), .call (.k (.w (.fn 124 []))) [(.t 7)], (some (5, true))⟩,
    ⟨(some 9), .call (.k (.w (.fn 109 []))) [(.t 6), (.t 8)], (some (5, true))⟩,
    ⟨(some 10), .pick (.t 5) (.t 9) (.k (.w (.d (.s (.bool false))))), none⟩,
    ⟨(some 2), .mv (.t 10), none⟩])
  .ret))⟩

/- loop.example/stile/impl.NormMake -/
def F108 : Fn := ⟨9, [.tmp 2],
  (.seq (.reg [⟨(some 2), .mv (.k (.w .nil)), none⟩])
  (.seq (.seq (.reg [⟨(some 3), .mv (.t 0), none⟩,
    ⟨(some 4), .call (.k (.w (.fn 123 []))) [(.t 3)], none⟩,
    ⟨(some 5), .un .not (.t 4), none⟩])
  (.cond (.t 5)
    (.seq (.reg [⟨(some 2), .mv (.k (.w .nil)), none⟩])
    .ret)
    .skip))
  (.seq (.reg [⟨(some 6), .mv (.t 0), none⟩,
    ⟨(some 7), .call (.k (.w (.fn 124 []))) [(.t 6)], none⟩,
    ⟨(some 8), .call (.k (.w (.fn 125 []))) [(.t 7)], none⟩,
    ⟨(some 2), .mv (.t 8), none⟩])
  .ret)))⟩

/- loop.example/stile/laws.wnArm -/
def F207_B0 : C :=
  (.seq (.seq (.reg [⟨(some 14), .mv (.t 3), none⟩,
    ⟨(some 15), .fa 5 (.t 1), none⟩,
    ⟨(some 16), .ld false 1 (.t 15), none⟩,
    ⟨(some 17), .lenl (.t 16), none⟩,
    ⟨(some 18), .bin .lss .one (.t 14) (.t 17), none⟩])
  (.cond (.t 18)
    .skip
    (.exit 0)))
  (.seq (.block 1
    (.seq (.reg [⟨(some 21), .fa 5 (.t 1), none⟩,
      ⟨(some 22), .ld false 1 (.t 21), none⟩,
      ⟨(some 23), .mv (.t 3), none⟩,
      ⟨(some 24), .ia 6 (.t 22) (.t 23), none⟩,
      ⟨(some 25), .ld true 6 (.t 24), none⟩,
      ⟨(some 26), .call (.k (.w (.fn 207 []))) [(.t 25)], none⟩,
      ⟨(some 27), .un .not (.t 26), none⟩])
    (.cond (.t 27)
      (.seq (.reg [⟨(some 2), .mv (.k (.w (.d (.s (.bool false))))), none⟩])
      .ret)
      .skip)))
  (.reg [⟨(some 19), .mv (.t 3), none⟩,
    ⟨(some 20), .bin .add .one (.t 19) (.k (.w (.d (.s (.int .i64 1))))), none⟩,
    ⟨(some 3), .mv (.t 20), none⟩])))
def F207_L0 : C := .loop F207_B0
def F207 : Fn := ⟨47, [.tmp 2],
  (.seq (.reg [⟨(some 1), .box 6 (.t 0), none⟩,
    ⟨(some 2), .mv (.k (.w (.d (.s (.bool false))))), none⟩])
  (.seq (.seq (.reg [⟨(some 4), .fa 0 (.t 1), none⟩,
    ⟨(some 5), .ld true 4 (.t 4), none⟩,
    ⟨(some 6), .call (.k (.w (.fn 210 []))) [(.t 5)], none⟩,
    ⟨(some 7), .un .not (.t 6), none⟩,
    ⟨(some 8), .mv (.t 7), none⟩,
    ⟨(some 9), .fa 0 (.t 1), (some (8, true))⟩,
    ⟨(some 10), .ld true 4 (.t 9), (some (8, true))⟩,
    ⟨(some 11), .call (.k (.w (.fn 110 []))) [(.t 10)], (some (8, true))⟩,
    ⟨(some 12), .un .not (.t 11), (some (8, true))⟩,
    ⟨(some 13), .pick (.t 8) (.t 12) (.k (.w (.d (.s (.bool false))))), none⟩])
  (.cond (.t 13)
    (.seq (.reg [⟨(some 2), .mv (.k (.w (.d (.s (.bool false))))), none⟩])
    .ret)
    .skip))
  (.seq (.seq (.reg [⟨(some 3), .mv (.k (.w (.d (.s (.int .i64 0))))), none⟩])
  (.block 0
    F207_L0))
  (.seq (.reg [⟨(some 28), .fa 5 (.t 1), none⟩,
    ⟨(some 29), .ld false 1 (.t 28), none⟩,
    ⟨(some 30), .lenl (.t 29), none⟩,
    ⟨(some 31), .bin .neq .one (.t 30) (.k (.w (.d (.s (.int .i64 1))))), none⟩,
    ⟨(some 32), .mv (.t 31), none⟩,
    ⟨(some 33), .fa 4 (.t 1), (some (32, false))⟩,
    ⟨(some 34), .ld false 1 (.t 33), (some (32, false))⟩,
    ⟨(some 35), .lenl (.t 34), (some (32, false))⟩,
    ⟨(some 36), .bin .gtr .one (.t 35) (.k (.w (.d (.s (.int .i64 0))))), (some (32, false))⟩,
    ⟨(some 37), .mv (.t 36), (some (32, false))⟩,
    ⟨(some 38), .fa 5 (.t 1), (some (37, true))⟩,
    ⟨(some 39), .ld false 1 (.t 38), (some (37, true))⟩,
    ⟨(some 40), .ia 6 (.t 39) (.k (.w (.d (.s (.int .i64 0))))), (some (37, true))⟩,
    ⟨(some 41), .fa 0 (.t 40), (some (37, true))⟩,
    ⟨(some 42), .ld true 4 (.t 41), (some (37, true))⟩,
    ⟨(some 43), .call (.k (.w (.fn 210 []))) [(.t 42)], (some (37, true))⟩,
    ⟨(some 44), .un .not (.t 43), (some (37, true))⟩,
    ⟨(some 45), .pick (.t 37) (.t 44) (.k (.w (.d (.s (.bool false))))), (some (32, false))⟩,
    ⟨(some 46), .pick (.t 32) (.k (.w (.d (.s (.bool true))))) (.t 45), none⟩,
    ⟨(some 2), .mv (.t 46), none⟩])
  .ret))))⟩

/- loop.example/stile/impl.TreeSame -/
def F109 : Fn := ⟨8, [.tmp 4],
  (.seq (.reg [⟨(some 4), .mv (.k (.w (.d (.s (.bool false))))), none⟩])
  (.seq (.reg [⟨(some 5), .mv (.t 0), none⟩,
    ⟨(some 6), .mv (.t 1), none⟩,
    ⟨(some 7), .call (.k (.w (.fn 126 []))) [(.t 5), (.t 6), (.k (.w (.fn 127 [])))], none⟩,
    ⟨(some 4), .mv (.t 7), none⟩])
  .ret))⟩

/- loop.example/stile/spec.DrawNormMake -/
def F111 : Fn := ⟨6, [.tmp 2],
  (.seq (.reg [⟨(some 2), .mv (.k (.w .nil)), none⟩])
  (.seq (.reg [⟨(some 3), .mv (.t 0), none⟩,
    ⟨(some 4), .call (.k (.w (.fn 65 []))) [(.t 3)], none⟩,
    ⟨(some 5), .call (.k (.w (.fn 128 []))) [(.t 4)], none⟩,
    ⟨(some 2), .mv (.t 5), none⟩])
  .ret))⟩

/- loop.example/stile/spec.NormMake -/
def F208_B0 : C :=
  (.seq (.seq (.reg [⟨(some 10), .mv (.t 4), none⟩,
    ⟨(some 11), .mv (.t 0), none⟩,
    ⟨(some 12), .lenl (.t 11), none⟩,
    ⟨(some 13), .bin .lss .one (.t 10) (.t 12), none⟩])
  (.cond (.t 13)
    .skip
    (.exit 0)))
  (.seq (.block 1
    (.reg [⟨(some 16), .mv (.t 3), none⟩,
      ⟨(some 17), .mv (.t 0), none⟩,
      ⟨(some 18), .mv (.t 4), none⟩,
      ⟨(some 19), .ia 6 (.t 17) (.t 18), none⟩,
      ⟨(some 20), .ld true 6 (.t 19), none⟩,
      ⟨(some 21), .call (.k (.w (.fn 211 []))) [(.t 20)], none⟩,
      ⟨(some 22), .bsl 6 1 [(.s (.int .i64 0)), (.s (.int .i64 0)), (.l 0 []), (.l 0 []), (.l 0 []), (.l 0 [])] [(0, (.t 21))], none⟩,
      ⟨(some 23), .app 6 112 [(.s (.int .i64 0)), (.s (.int .i64 0)), (.l 0 []), (.l 0 []), (.l 0 []), (.l 0 [])] (.t 16) (.t 22), none⟩,
      ⟨(some 3), .mv (.t 23), none⟩]))
  (.reg [⟨(some 14), .mv (.t 4), none⟩,
    ⟨(some 15), .bin .add .one (.t 14) (.k (.w (.d (.s (.int .i64 1))))), none⟩,
    ⟨(some 4), .mv (.t 15), none⟩])))
def F208_L0 : C := .loop F208_B0
def F208 : Fn := ⟨25, [.tmp 2],
  (.seq (.reg [⟨(some 2), .mv (.k (.w .nil)), none⟩])
  (.seq (.seq (.reg [⟨(some 5), .mv (.t 0), none⟩,
    ⟨(some 6), .call (.k (.w (.fn 106 []))) [(.t 5)], none⟩,
    ⟨(some 7), .fld false 0 1 (.t 6), none⟩,
    ⟨(some 8), .bin .gtr .one (.t 7) (.k (.w (.d (.s (.int .i64 0))))), none⟩])
  (.cond (.t 8)
    (.seq (.reg [⟨(some 2), .mv (.k (.w .nil)), none⟩])
    .ret)
    .skip))
  (.seq (.reg [⟨(some 9), .bsl 6 0 [(.s (.int .i64 0)), (.s (.int .i64 0)), (.l 0 []), (.l 0 []), (.l 0 []), (.l 0 [])] [], none⟩,
    ⟨(some 3), .mv (.t 9), none⟩])
  (.seq (.seq (.reg [⟨(some 4), .mv (.k (.w (.d (.s (.int .i64 0))))), none⟩])
  (.block 0
    F208_L0))
  (.seq (.reg [⟨(some 24), .mv (.t 3), none⟩,
    ⟨(some 2), .mv (.t 24), none⟩])
  .ret)))))⟩

/- loop.example/stile/spec.TreeSame -/
def F209_B0 : C :=
  (.seq (.seq (.reg [⟨(some 11), .mv (.t 5), none⟩,
    ⟨(some 12), .mv (.t 0), none⟩,
    ⟨(some 13), .lenl (.t 12), none⟩,
    ⟨(some 14), .bin .lss .one (.t 11) (.t 13), none⟩])
  (.cond (.t 14)
    .skip
    (.exit 0)))
  (.seq (.block 1
    (.seq (.dreg [⟨(some 17), .mv (.t 0), none⟩,
      ⟨(some 18), .mv (.t 5), none⟩,
      ⟨(some 19), .ia 6 (.t 17) (.t 18), none⟩,
      ⟨(some 20), .ld true 6 (.t 19), none⟩,
      ⟨(some 21), .mv (.t 1), none⟩,
      ⟨(some 22), .mv (.t 5), none⟩,
      ⟨(some 23), .ia 6 (.t 21) (.t 22), none⟩,
      ⟨(some 24), .ld true 6 (.t 23), none⟩,
      ⟨(some 25), .call (.k (.w (.fn 212 []))) [(.t 20), (.t 24)], none⟩,
      ⟨(some 26), .un .not (.t 25), none⟩] [0, 0, 3, 7, 0, 0, 48, 112, 255, 511])
    (.cond (.t 26)
      (.seq (.reg [⟨(some 4), .mv (.k (.w (.d (.s (.bool false))))), none⟩])
      .ret)
      .skip)))
  (.reg [⟨(some 15), .mv (.t 5), none⟩,
    ⟨(some 16), .bin .add .one (.t 15) (.k (.w (.d (.s (.int .i64 1))))), none⟩,
    ⟨(some 5), .mv (.t 16), none⟩])))
def F209_L0 : C := .loop F209_B0
def F209 : Fn := ⟨27, [.tmp 4],
  (.seq (.reg [⟨(some 4), .mv (.k (.w (.d (.s (.bool false))))), none⟩])
  (.seq (.seq (.reg [⟨(some 6), .mv (.t 0), none⟩,
    ⟨(some 7), .lenl (.t 6), none⟩,
    ⟨(some 8), .mv (.t 1), none⟩,
    ⟨(some 9), .lenl (.t 8), none⟩,
    ⟨(some 10), .bin .neq .one (.t 7) (.t 9), none⟩])
  (.cond (.t 10)
    (.seq (.reg [⟨(some 4), .mv (.k (.w (.d (.s (.bool false))))), none⟩])
    .ret)
    .skip))
  (.seq (.seq (.reg [⟨(some 5), .mv (.k (.w (.d (.s (.int .i64 0))))), none⟩])
  (.block 0
    F209_L0))
  (.seq (.reg [⟨(some 4), .mv (.k (.w (.d (.s (.bool true))))), none⟩])
  .ret))))⟩

/- loop.example/stile/impl.TreeCheck -/
def F145_B0 : C :=
  (.seq (.reg [⟨(some 18), .bin .lss .one (.t 17) (.t 16), none⟩])
  (.seq (.cond (.t 18)
    .skip
    (.exit 0))
  (.seq (.block 1
    (.seq (.reg [⟨(some 19), .mv (.t 17), none⟩,
      ⟨(some 20), .ia 6 (.t 15) (.t 17), none⟩,
      ⟨(some 21), .ld true 6 (.t 20), none⟩,
      ⟨(some 4), .new [(.d (.s (.int .i64 0))), (.d (.s (.int .i64 0))), .nil, .nil, .nil, .nil], none⟩,
      ⟨(some 3), .mv (.t 19), none⟩,
      ⟨none, .st 6 (.t 4) (.t 21), none⟩])
    (.seq (.reg [⟨(some 22), .ld true 6 (.t 4), none⟩,
      ⟨(some 23), .call (.k (.w (.fn 172 []))) [(.t 22), (.k (.w (.d (.s (.bool true)))))], none⟩,
      ⟨(some 5), .mv (.t 23), none⟩])
    (.seq (.reg [⟨(some 24), .mv (.t 5), none⟩,
      ⟨(some 25), .bin .neq .one (.t 24) (.k (.w (.d (.s (.int .i64 0))))), none⟩])
    (.cond (.t 25)
      (.seq (.reg [⟨(some 26), .mv (.t 5), none⟩,
        ⟨(some 27), .mv (.t 3), none⟩,
        ⟨(some 28), .bld [(.d (.s (.int .i64 0))), (.d (.s (.int .i64 0)))] [(0, 1, (.t 26)), (1, 1, (.t 27))], none⟩,
        ⟨none, .st 2 (.t 2) (.t 28), none⟩])
      .ret)
      .skip)))))
  (.reg [⟨(some 29), .bin .add .one (.t 17) (.k (.w (.d (.s (.int .i64 1))))), none⟩,
    ⟨(some 17), .mv (.t 29), none⟩]))))
def F145_L0 : C := .loop F145_B0
def F145 : Fn := ⟨31, [.cell 2 true 2],
  (.seq (.reg [⟨(some 2), .new [(.d (.s (.int .i64 0))), (.d (.s (.int .i64 0)))], none⟩])
  (.seq (.seq (.reg [⟨(some 6), .mv (.t 0), none⟩,
    ⟨(some 7), .lenl (.t 6), none⟩,
    ⟨(some 8), .bin .gtr .one (.t 7) (.k (.w (.d (.s (.int .i64 40))))), none⟩,
    ⟨(some 9), .mv (.t 8), none⟩,
    ⟨(some 10), .mv (.t 0), (some (9, false))⟩,
    ⟨(some 11), .call (.k (.w (.fn 171 []))) [(.t 10)], (some (9, false))⟩,
    ⟨(some 12), .bin .gtr .one (.t 11) (.k (.w (.d (.s (.int .i64 400))))), (some (9, false))⟩,
    ⟨(some 13), .pick (.t 9) (.k (.w (.d (.s (.bool true))))) (.t 12), none⟩])
  (.cond (.t 13)
    (.seq (.reg [⟨(some 14), .bld [(.d (.s (.int .i64 0))), (.d (.s (.int .i64 0)))] [(0, 1, (.k (.w (.d (.s (.int .i64 1))))))], none⟩,
      ⟨none, .st 2 (.t 2) (.t 14), none⟩])
    .ret)
    .skip))
  (.seq (.seq (.reg [⟨(some 15), .mv (.t 0), none⟩,
    ⟨(some 16), .lenl (.t 15), none⟩,
    ⟨(some 17), .mv (.k (.w (.d (.s (.int .i64 0))))), none⟩])
  (.block 0
    F145_L0))
  (.seq (.reg [⟨(some 30), .bld [(.d (.s (.int .i64 0))), (.d (.s (.int .i64 0)))] [], none⟩,
    ⟨none, .st 2 (.t 2) (.t 30), none⟩])
  .ret))))⟩

/- loop.example/stile/impl.TreeSize -/
def F171_B0 : C :=
  (.seq (.reg [⟨(some 9), .bin .lss .one (.t 8) (.t 7), none⟩])
  (.seq (.cond (.t 9)
    .skip
    (.exit 0))
  (.seq (.block 1
    (.seq (.reg [⟨(some 10), .ia 6 (.t 6) (.t 8), none⟩,
      ⟨(some 11), .ld true 6 (.t 10), none⟩,
      ⟨(some 5), .new [(.d (.s (.int .i64 0))), (.d (.s (.int .i64 0))), .nil, .nil, .nil, .nil], none⟩,
      ⟨none, .st 6 (.t 5) (.t 11), none⟩])
    (.seq (.dreg [⟨(some 12), .mv (.t 3), none⟩,
      ⟨(some 13), .fa 4 (.t 5), none⟩,
      ⟨(some 14), .ld false 1 (.t 13), none⟩,
      ⟨(some 15), .lenl (.t 14), none⟩,
      ⟨(some 16), .bin .add .one (.k (.w (.d (.s (.int .i64 1))))) (.t 15), none⟩,
      ⟨(some 17), .fa 5 (.t 5), none⟩,
      ⟨(some 18), .ld false 1 (.t 17), none⟩,
      ⟨(some 19), .call (.k (.w (.fn 171 []))) [(.t 18)], none⟩,
      ⟨(some 20), .bin .add .one (.t 16) (.t 19), none⟩,
      ⟨(some 21), .bin .add .one (.t 12) (.t 20), none⟩,
      ⟨(some 3), .mv (.t 21), none⟩] [0, 0, 2, 6, 14, 0, 32, 96, 254, 511, 1023])
    (.seq (.reg [⟨(some 22), .fa 0 (.t 5), none⟩,
      ⟨(some 23), .ld true 4 (.t 22), none⟩,
      ⟨(some 24), .call (.k (.w (.fn 173 []))) [(.t 23)], none⟩,
      ⟨(some 25), .un .not (.t 24), none⟩])
    (.cond (.t 25)
      (.reg [⟨(some 26), .mv (.t 3), none⟩,
        ⟨(some 27), .fa 0 (.t 5), none⟩,
        ⟨(some 28), .ld true 4 (.t 27), none⟩,
        ⟨(some 29), .call (.k (.w (.fn 118 []))) [(.t 28)], none⟩,
        ⟨(some 30), .bin .add .one (.t 26) (.t 29), none⟩,
        ⟨(some 3), .mv (.t 30), none⟩])
      .skip)))))
  (.reg [⟨(some 31), .bin .add .one (.t 8) (.k (.w (.d (.s (.int .i64 1))))), none⟩,
    ⟨(some 8), .mv (.t 31), none⟩]))))
def F171_L0 : C := .loop F171_B0
def F171 : Fn := ⟨33, [.tmp 2],
  (.seq (.reg [⟨(some 2), .mv (.k (.w (.d (.s (.int .i64 0))))), none⟩])
  (.seq (.reg [⟨(some 3), .mv (.k (.w (.d (.s (.int .i64 0))))), none⟩])
  (.seq (.seq (.reg [⟨(some 6), .mv (.t 0), none⟩,
    ⟨(some 7), .lenl (.t 6), none⟩,
    ⟨(some 8), .mv (.k (.w (.d (.s (.int .i64 0))))), none⟩])
  (.block 0
    F171_L0))
  (.seq (.reg [⟨(some 32), .mv (.t 3), none⟩,
    ⟨(some 2), .mv (.t 32), none⟩])
  .ret))))⟩

/- loop.example/stile/laws.szArmS -/
def F244_B0 : C :=
  (.seq (.seq (.reg [⟨(some 12), .mv (.t 5), none⟩,
    ⟨(some 13), .mv (.t 0), none⟩,
    ⟨(some 14), .lenl (.t 13), none⟩,
    ⟨(some 15), .bin .lss .one (.t 12) (.t 14), none⟩])
  (.cond (.t 15)
    .skip
    (.exit 0)))
  (.seq (.block 1
    (.seq (.reg [⟨(some 18), .mv (.t 0), none⟩,
      ⟨(some 19), .mv (.t 5), none⟩,
      ⟨(some 20), .ia 6 (.t 18) (.t 19), none⟩,
      ⟨(some 21), .ld true 6 (.t 20), none⟩,
      ⟨(some 22), .mv (.t 1), none⟩,
      ⟨(some 23), .call (.k (.w (.fn 248 []))) [(.t 21), (.t 22)], none⟩,
      ⟨(some 1), .mv (.t 23), none⟩])
    (.seq (.reg [⟨(some 24), .mv (.t 1), none⟩,
      ⟨(some 25), .bin .lss .one (.t 24) (.k (.w (.d (.s (.int .i64 0))))), none⟩])
    (.cond (.t 25)
      (.seq (.reg [⟨(some 4), .mv (.k (.w (.d (.s (.int .i64 (-1)))))), none⟩])
      .ret)
      .skip))))
  (.reg [⟨(some 16), .mv (.t 5), none⟩,
    ⟨(some 17), .bin .add .one (.t 16) (.k (.w (.d (.s (.int .i64 1))))), none⟩,
    ⟨(some 5), .mv (.t 17), none⟩])))
def F244_L0 : C := .loop F244_B0
def F244 : Fn := ⟨27, [.tmp 4],
  (.seq (.reg [⟨(some 4), .mv (.k (.w (.d (.s (.int .i64 0))))), none⟩])
  (.seq (.reg [⟨(some 6), .mv (.t 1), none⟩,
    ⟨(some 7), .mv (.t 0), none⟩,
    ⟨(some 8), .lenl (.t 7), none⟩,
    ⟨(some 9), .bin .sub .one (.t 6) (.t 8), none⟩,
    ⟨(some 1), .mv (.t 9), none⟩])
  (.seq (.seq (.reg [⟨(some 10), .mv (.t 1), none⟩,
    ⟨(some 11), .bin .lss .one (.t 10) (.k (.w (.d (.s (.int .i64 0))))), none⟩])
  (.cond (.t 11)
    (.seq (.reg [⟨(some 4), .mv (.k (.w (.d (.s (.int .i64 (-1)))))), none⟩])
    .ret)
    .skip))
  (.seq (.seq (.reg [⟨(some 5), .mv (.k (.w (.d (.s (.int .i64 0))))), none⟩])
  (.block 0
    F244_L0))
  (.seq (.reg [⟨(some 26), .mv (.t 1), none⟩,
    ⟨(some 4), .mv (.t 26), none⟩])
  .ret)))))⟩

/- loop.example/stile/laws.toArmS -/
def F245_B0 : C :=
  (.seq (.seq (.reg [⟨(some 8), .mv (.t 4), none⟩,
    ⟨(some 9), .mv (.t 0), none⟩,
    ⟨(some 10), .lenl (.t 9), none⟩,
    ⟨(some 11), .bin .lss .one (.t 8) (.t 10), none⟩])
  (.cond (.t 11)
    .skip
    (.exit 0)))
  (.seq (.block 1
    (.reg [⟨(some 14), .mv (.t 3), none⟩,
      ⟨(some 15), .mv (.t 4), none⟩,
      ⟨(some 16), .mv (.t 0), none⟩,
      ⟨(some 17), .mv (.t 4), none⟩,
      ⟨(some 18), .ia 6 (.t 16) (.t 17), none⟩,
      ⟨(some 19), .ld true 6 (.t 18), none⟩,
      ⟨(some 20), .call (.k (.w (.fn 249 []))) [(.t 19)], none⟩,
      ⟨(some 21), .ia 6 (.t 14) (.t 15), none⟩,
      ⟨none, .st 6 (.t 21) (.t 20), none⟩]))
  (.reg [⟨(some 12), .mv (.t 4), none⟩,
    ⟨(some 13), .bin .add .one (.t 12) (.k (.w (.d (.s (.int .i64 1))))), none⟩,
    ⟨(some 4), .mv (.t 13), none⟩])))
def F245_L0 : C := .loop F245_B0
def F245 : Fn := ⟨23, [.tmp 2],
  (.seq (.reg [⟨(some 2), .mv (.k (.w .nil)), none⟩])
  (.seq (.reg [⟨(some 5), .mv (.t 0), none⟩,
    ⟨(some 6), .lenl (.t 5), none⟩,
    ⟨(some 7), .msl 6 112 [(.s (.int .i64 0)), (.s (.int .i64 0)), (.l 0 []), (.l 0 []), (.l 0 []), (.l 0 [])] (.t 6) (.t 6), none⟩,
    ⟨(some 3), .mv (.t 7), none⟩])
  (.seq (.seq (.reg [⟨(some 4), .mv (.k (.w (.d (.s (.int .i64 0))))), none⟩])
  (.block 0
    F245_L0))
  (.seq (.reg [⟨(some 22), .mv (.t 3), none⟩,
    ⟨(some 2), .mv (.t 22), none⟩])
  .ret))))⟩

/- loop.example/stile/spec.NormIs -/
def F246 : Fn := ⟨13, [.tmp 2],
  (.seq (.reg [⟨(some 2), .mv (.k (.w (.d (.s (.bool false))))), none⟩])
  (.seq (.reg [⟨(some 3), .mv (.t 0), none⟩,
    ⟨(some 4), .call (.k (.w (.fn 106 []))) [(.t 3)], none⟩,
    ⟨(some 5), .fld false 0 1 (.t 4), none⟩,
    ⟨(some 6), .bin .eql .one (.t 5) (.k (.w (.d (.s (.int .i64 0))))), none⟩,
    ⟨(some 7), .mv (.t 6), none⟩,
    ⟨(some 8), .mv (.t 0), (some (7, true))⟩,
    ⟨(some 9), .call (.k (.w (.fn 208 []))) [(.t 8)], (some (7, true))⟩,
    ⟨(some 10), .mv (.t 0), (some (7, true))⟩,
    ⟨(some 11), .call (.k (.w (.fn 209 []))) [(.t 9), (.t 10)], (some (7, true))⟩,
    ⟨(some 12), .pick (.t 7) (.t 11) (.k (.w (.d (.s (.bool false))))), none⟩,
    ⟨(some 2), .mv (.t 12), none⟩])
  .ret))⟩

/- loop.example/stile/laws.eqArmS -/
def F247_B0 : C :=
  (.seq (.seq (.reg [⟨(some 11), .mv (.t 5), none⟩,
    ⟨(some 12), .mv (.t 0), none⟩,
    ⟨(some 13), .lenl (.t 12), none⟩,
    ⟨(some 14), .bin .lss .one (.t 11) (.t 13), none⟩])
  (.cond (.t 14)
    .skip
    (.exit 0)))
  (.seq (.block 1
    (.seq (.dreg [⟨(some 17), .mv (.t 0), none⟩,
      ⟨(some 18), .mv (.t 5), none⟩,
      ⟨(some 19), .ia 6 (.t 17) (.t 18), none⟩,
      ⟨(some 20), .ld true 6 (.t 19), none⟩,
      ⟨(some 21), .mv (.t 1), none⟩,
      ⟨(some 22), .mv (.t 5), none⟩,
      ⟨(some 23), .ia 6 (.t 21) (.t 22), none⟩,
      ⟨(some 24), .ld true 6 (.t 23), none⟩,
      ⟨(some 25), .call (.k (.w (.fn 250 []))) [(.t 20), (.t 24)], none⟩,
      ⟨(some 26), .un .not (.t 25), none⟩] [0, 0, 3, 7, 0, 0, 48, 112, 255, 511])
    (.cond (.t 26)
      (.seq (.reg [⟨(some 4), .mv (.k (.w (.d (.s (.bool false))))), none⟩])
      .ret)
      .skip)))
  (.reg [⟨(some 15), .mv (.t 5), none⟩,
    ⟨(some 16), .bin .add .one (.t 15) (.k (.w (.d (.s (.int .i64 1))))), none⟩,
    ⟨(some 5), .mv (.t 16), none⟩])))
def F247_L0 : C := .loop F247_B0
def F247 : Fn := ⟨27, [.tmp 4],
  (.seq (.reg [⟨(some 4), .mv (.k (.w (.d (.s (.bool false))))), none⟩])
  (.seq (.seq (.reg [⟨(some 6), .mv (.t 0), none⟩,
    ⟨(some 7), .lenl (.t 6), none⟩,
    ⟨(some 8), .mv (.t 1), none⟩,
    ⟨(some 9), .lenl (.t 8), none⟩,
    ⟨(some 10), .bin .neq .one (.t 7) (.t 9), none⟩])
  (.cond (.t 10)
    (.seq (.reg [⟨(some 4), .mv (.k (.w (.d (.s (.bool false))))), none⟩])
    .ret)
    .skip))
  (.seq (.seq (.reg [⟨(some 5), .mv (.k (.w (.d (.s (.int .i64 0))))), none⟩])
  (.block 0
    F247_L0))
  (.seq (.reg [⟨(some 4), .mv (.k (.w (.d (.s (.bool true))))), none⟩])
  .ret))))⟩

/- loop.example/stile/laws.markArmS -/
def F255_B0 : C :=
  (.seq (.seq (.reg [⟨(some 6), .mv (.t 5), none⟩,
    ⟨(some 7), .mv (.t 0), none⟩,
    ⟨(some 8), .lenl (.t 7), none⟩,
    ⟨(some 9), .bin .lss .one (.t 6) (.t 8), none⟩])
  (.cond (.t 9)
    .skip
    (.exit 0)))
  (.seq (.block 1
    (.seq (.reg [⟨(some 12), .mv (.t 0), none⟩,
      ⟨(some 13), .mv (.t 5), none⟩,
      ⟨(some 14), .mv (.t 1), none⟩,
      ⟨(some 15), .ia 6 (.t 12) (.t 13), none⟩,
      ⟨(some 16), .fa 0 (.t 15), none⟩,
      ⟨(some 17), .fa 0 (.t 16), none⟩,
      ⟨none, .st 1 (.t 17) (.t 14), none⟩])
    (.seq (.reg [⟨(some 18), .mv (.t 1), none⟩,
      ⟨(some 19), .bin .add .one (.t 18) (.k (.w (.d (.s (.int .i64 1))))), none⟩,
      ⟨(some 1), .mv (.t 19), none⟩])
    (.seq (.reg [⟨(some 20), .mv (.t 0), none⟩,
      ⟨(some 21), .mv (.t 5), none⟩,
      ⟨(some 22), .mv (.t 1), none⟩,
      ⟨(some 23), .ia 6 (.t 20) (.t 21), none⟩,
      ⟨(some 24), .fa 0 (.t 23), none⟩,
      ⟨(some 25), .fa 1 (.t 24), none⟩,
      ⟨(some 26), .fa 0 (.t 25), none⟩,
      ⟨none, .st 1 (.t 26) (.t 22), none⟩])
    (.seq (.reg [⟨(some 27), .mv (.t 1), none⟩,
      ⟨(some 28), .bin .add .one (.t 27) (.k (.w (.d (.s (.int .i64 1))))), none⟩,
      ⟨(some 1), .mv (.t 28), none⟩])
    (.seq (.reg [⟨(some 29), .mv (.t 0), none⟩,
      ⟨(some 30), .mv (.t 5), none⟩,
      ⟨(some 31), .ia 6 (.t 29) (.t 30), none⟩,
      ⟨(some 32), .fa 0 (.t 31), none⟩,
      ⟨(some 33), .fa 1 (.t 32), none⟩,
      ⟨(some 34), .fa 1 (.t 33), none⟩,
      ⟨(some 35), .ld false 1 (.t 34), none⟩,
      ⟨(some 36), .mv (.t 1), none⟩,
      ⟨(some 37), .call (.k (.w (.fn 239 []))) [(.t 35), (.t 36)], none⟩,
      ⟨(some 1), .mv (.t 37), none⟩])
    (.seq (.reg [⟨(some 38), .mv (.t 0), none⟩,
      ⟨(some 39), .mv (.t 5), none⟩,
      ⟨(some 40), .ia 6 (.t 38) (.t 39), none⟩,
      ⟨(some 41), .fa 0 (.t 40), none⟩,
      ⟨(some 42), .fa 3 (.t 41), none⟩,
      ⟨(some 43), .ld false 1 (.t 42), none⟩,
      ⟨(some 44), .mv (.t 1), none⟩,
      ⟨(some 45), .call (.k (.w (.fn 233 []))) [(.t 43), (.t 44)], none⟩,
      ⟨(some 1), .mv (.t 45), none⟩])
    (.seq (.reg [⟨(some 46), .mv (.t 0), none⟩,
      ⟨(some 47), .mv (.t 5), none⟩,
      ⟨(some 48), .ia 6 (.t 46) (.t 47), none⟩,
      ⟨(some 49), .fa 4 (.t 48), none⟩,
      ⟨(some 50), .ld false 1 (.t 49), none⟩,
      ⟨(some 51), .mv (.t 1), none⟩,
      ⟨(some 52), .call (.k (.w (.fn 257 []))) [(.t 50), (.t 51)], none⟩,
      ⟨(some 1), .mv (.t 52), none⟩])
    (.reg [⟨(some 53), .mv (.t 0), none⟩,
      ⟨(some 54), .mv (.t 5), none⟩,
      ⟨(some 55), .ia 6 (.t 53) (.t 54), none⟩,
      ⟨(some 56), .fa 5 (.t 55), none⟩,
      ⟨(some 57), .ld false 1 (.t 56), none⟩,
      ⟨(some 58), .mv (.t 1), none⟩,
      ⟨(some 59), .call (.k (.w (.fn 255 []))) [(.t 57), (.t 58)], none⟩,
      ⟨(some 1), .mv (.t 59), none⟩])))))))))
  (.reg [⟨(some 10), .mv (.t 5), none⟩,
    ⟨(some 11), .bin .add .one (.t 10) (.k (.w (.d (.s (.int .i64 1))))), none⟩,
    ⟨(some 5), .mv (.t 11), none⟩])))
def F255_L0 : C := .loop F255_B0
def F255 : Fn := ⟨61, [.tmp 4],
  (.seq (.reg [⟨(some 4), .mv (.k (.w (.d (.s (.int .i64 0))))), none⟩])
  (.seq (.seq (.reg [⟨(some 5), .mv (.k (.w (.d (.s (.int .i64 0))))), none⟩])
  (.block 0
    F255_L0))
  (.seq (.reg [⟨(some 60), .mv (.t 1), none⟩,
    ⟨(some 4), .mv (.t 60), none⟩])
  .ret)))⟩

/- loop.example/stile/laws.heldArmS -/
def F256_B0 : C :=
  (.seq (.seq (.reg [⟨(some 6), .mv (.t 5), none⟩,
    ⟨(some 7), .mv (.t 0), none⟩,
    ⟨(some 8), .lenl (.t 7), none⟩,
    ⟨(some 9), .bin .lss .one (.t 6) (.t 8), none⟩])
  (.cond (.t 9)
    .skip
    (.exit 0)))
  (.seq (.block 1
    (.seq (.seq (.reg [⟨(some 12), .mv (.t 0), none⟩,
      ⟨(some 13), .mv (.t 5), none⟩,
      ⟨(some 14), .ia 6 (.t 12) (.t 13), none⟩,
      ⟨(some 15), .fa 0 (.t 14), none⟩,
      ⟨(some 16), .fa 0 (.t 15), none⟩,
      ⟨(some 17), .ld false 1 (.t 16), none⟩,
      ⟨(some 18), .mv (.t 1), none⟩,
      ⟨(some 19), .bin .neq .one (.t 17) (.t 18), none⟩])
    (.cond (.t 19)
      (.seq (.reg [⟨(some 4), .mv (.k (.w (.d (.s (.int .i64 (-1)))))), none⟩])
      .ret)
      .skip))
    (.seq (.reg [⟨(some 20), .mv (.t 1), none⟩,
      ⟨(some 21), .bin .add .one (.t 20) (.k (.w (.d (.s (.int .i64 1))))), none⟩,
      ⟨(some 1), .mv (.t 21), none⟩])
    (.seq (.seq (.reg [⟨(some 22), .mv (.t 0), none⟩,
      ⟨(some 23), .mv (.t 5), none⟩,
      ⟨(some 24), .ia 6 (.t 22) (.t 23), none⟩,
      ⟨(some 25), .fa 0 (.t 24), none⟩,
      ⟨(some 26), .fa 1 (.t 25), none⟩,
      ⟨(some 27), .fa 0 (.t 26), none⟩,
      ⟨(some 28), .ld false 1 (.t 27), none⟩,
      ⟨(some 29), .mv (.t 1), none⟩,
      ⟨(some 30), .bin .neq .one (.t 28) (.t 29), none⟩])
    (.cond (.t 30)
      (.seq (.reg [⟨(some 4), .mv (.k (.w (.d (.s (.int .i64 (-1)))))), none⟩])
      .ret)
      .skip))
    (.seq (.reg [⟨(some 31), .mv (.t 1), none⟩,
      ⟨(some 32), .bin .add .one (.t 31) (.k (.w (.d (.s (.int .i64 1))))), none⟩,
      ⟨(some 1), .mv (.t 32), none⟩])
    (.seq (.reg [⟨(some 33), .mv (.t 0), none⟩,
      ⟨(some 34), .mv (.t 5), none⟩,
      ⟨(some 35), .ia 6 (.t 33) (.t 34), none⟩,
      ⟨(some 36), .fa 0 (.t 35), none⟩,
      ⟨(some 37), .fa 1 (.t 36), none⟩,
      ⟨(some 38), .fa 1 (.t 37), none⟩,
      ⟨(some 39), .ld false 1 (.t 38), none⟩,
      ⟨(some 40), .mv (.t 1), none⟩,
      ⟨(some 41), .call (.k (.w (.fn 240 []))) [(.t 39), (.t 40)], none⟩,
      ⟨(some 1), .mv (.t 41), none⟩])
    (.seq (.seq (.reg [⟨(some 42), .mv (.t 1), none⟩,
      ⟨(some 43), .bin .lss .one (.t 42) (.k (.w (.d (.s (.int .i64 0))))), none⟩])
    (.cond (.t 43)
      (.seq (.reg [⟨(some 4), .mv (.k (.w (.d (.s (.int .i64 (-1)))))), none⟩])
      .ret)
      .skip))
    (.seq (.reg [⟨(some 44), .mv (.t 0), none⟩,
      ⟨(some 45), .mv (.t 5), none⟩,
      ⟨(some 46), .ia 6 (.t 44) (.t 45), none⟩,
      ⟨(some 47), .fa 0 (.t 46), none⟩,
      ⟨(some 48), .fa 3 (.t 47), none⟩,
      ⟨(some 49), .ld false 1 (.t 48), none⟩,
      ⟨(some 50), .mv (.t 1), none⟩,
      ⟨(some 51), .call (.k (.w (.fn 235 []))) [(.t 49), (.t 50)], none⟩,
      ⟨(some 1), .mv (.t 51), none⟩])
    (.seq (.seq (.reg [⟨(some 52), .mv (.t 1), none⟩,
      ⟨(some 53), .bin .lss .one (.t 52) (.k (.w (.d (.s (.int .i64 0))))), none⟩])
    (.cond (.t 53)
      (.seq (.reg [⟨(some 4), .mv (.k (.w (.d (.s (.int .i64 (-1)))))), none⟩])
      .ret)
      .skip))
    (.seq (.reg [⟨(some 54), .mv (.t 0), none⟩,
      ⟨(some 55), .mv (.t 5), none⟩,
      ⟨(some 56), .ia 6 (.t 54) (.t 55), none⟩,
      ⟨(some 57), .fa 4 (.t 56), none⟩,
      ⟨(some 58), .ld false 1 (.t 57), none⟩,
      ⟨(some 59), .mv (.t 1), none⟩,
      ⟨(some 60), .call (.k (.w (.fn 258 []))) [(.t 58), (.t 59)], none⟩,
      ⟨(some 1), .mv (.t 60), none⟩])
    (.seq (.seq (.reg [⟨(some 61), .mv (.t 1), none⟩,
      ⟨(some 62), .bin .lss .one (.t 61) (.k (.w (.d (.s (.int .i64 0))))), none⟩])
    (.cond (.t 62)
      (.seq (.reg [⟨(some 4), .mv (.k (.w (.d (.s (.int .i64 (-1)))))), none⟩])
      .ret)
      .skip))
    (.seq (.reg [⟨(some 63), .mv (.t 0), none⟩,
      ⟨(some 64), .mv (.t 5), none⟩,
      ⟨(some 65), .ia 6 (.t 63) (.t 64), none⟩,
      ⟨(some 66), .fa 5 (.t 65), none⟩,
      ⟨(some 67), .ld false 1 (.t 66), none⟩,
      ⟨(some 68), .mv (.t 1), none⟩,
      ⟨(some 69), .call (.k (.w (.fn 256 []))) [(.t 67), (.t 68)], none⟩,
      ⟨(some 1), .mv (.t 69), none⟩])
    (.seq (.reg [⟨(some 70), .mv (.t 1), none⟩,
      ⟨(some 71), .bin .lss .one (.t 70) (.k (.w (.d (.s (.int .i64 0))))), none⟩])
    (.cond (.t 71)
      (.seq (.reg [⟨(some 4), .mv (.k (.w (.d (.s (.int .i64 (-1)))))), none⟩])
      .ret)
      .skip))))))))))))))
  (.reg [⟨(some 10), .mv (.t 5), none⟩,
    ⟨(some 11), .bin .add .one (.t 10) (.k (.w (.d (.s (.int .i64 1))))), none⟩,
    ⟨(some 5), .mv (.t 11), none⟩])))
def F256_L0 : C := .loop F256_B0
def F256 : Fn := ⟨73, [.tmp 4],
  (.seq (.reg [⟨(some 4), .mv (.k (.w (.d (.s (.int .i64 0))))), none⟩])
  (.seq (.seq (.reg [⟨(some 5), .mv (.k (.w (.d (.s (.int .i64 0))))), none⟩])
  (.block 0
    F256_L0))
  (.seq (.reg [⟨(some 72), .mv (.t 1), none⟩,
    ⟨(some 4), .mv (.t 72), none⟩])
  .ret)))⟩

/- loop.example/stile/spec.l26Open -/
def F65 : Fn := ⟨11, [.tmp 2],
  (.seq (.reg [⟨(some 2), .mv (.k (.w (.d (.s (.pointer none))))), none⟩])
  (.seq (.seq (.reg [⟨(some 3), .mv (.t 0), none⟩,
    ⟨(some 4), .lenl (.t 3), none⟩,
    ⟨(some 5), .bin .gtr .one (.t 4) (.k (.w (.d (.s (.int .i64 2000))))), none⟩])
  (.cond (.t 5)
    (.reg [⟨(some 6), .mv (.t 0), none⟩,
      ⟨(some 7), .sl 1 (.t 6) none (some (.k (.w (.d (.s (.int .i64 2000)))))) none, none⟩,
      ⟨(some 0), .mv (.t 7), none⟩])
    .skip))
  (.seq (.reg [⟨(some 8), .mv (.t 0), none⟩,
    ⟨(some 9), .bld [.nil, (.d (.s (.int .i64 0)))] [(0, 1, (.t 8))], none⟩,
    ⟨(some 10), .box 2 (.t 9), none⟩,
    ⟨(some 2), .mv (.t 10), none⟩])
  .ret)))⟩

/- loop.example/stile/spec.l7Any -/
def F128 : Fn := ⟨13, [.tmp 2],
  (.seq (.reg [⟨(some 2), .mv (.k (.w .nil)), none⟩])
  (.seq (.reg [⟨(some 4), .mv (.t 0), none⟩,
    ⟨(some 5), .call (.k (.w (.fn 151 []))) [(.t 4)], none⟩,
    ⟨(some 3), .mv (.t 5), none⟩])
  (.seq (.seq (.reg [⟨(some 6), .mv (.t 0), none⟩,
    ⟨(some 7), .call (.k (.w (.fn 67 []))) [(.t 6), (.k (.w (.d (.s (.int .i64 16)))))], none⟩,
    ⟨(some 8), .bin .eql .one (.t 7) (.k (.w (.d (.s (.int .i64 0))))), none⟩])
  (.cond (.t 8)
    (.seq (.reg [⟨(some 9), .mv (.t 0), none⟩,
      ⟨(some 10), .mv (.t 3), none⟩,
      ⟨(some 11), .call (.k (.w (.fn 152 []))) [(.t 9), (.t 10)], none⟩,
      ⟨(some 2), .mv (.t 11), none⟩])
    .ret)
    .skip))
  (.seq (.reg [⟨(some 12), .mv (.t 3), none⟩,
    ⟨(some 2), .mv (.t 12), none⟩])
  .ret))))⟩

/- (*loop.example/stile/spec.l26Rd).pick -/
def F67 : Fn := ⟨99, [.tmp 4],
  (.seq (.reg [⟨(some 4), .mv (.k (.w (.d (.s (.int .i64 0))))), none⟩])
  (.seq (.reg [⟨(some 7), .mv (.t 0), none⟩,
    ⟨(some 8), .mv (.t 0), none⟩,
    ⟨(some 9), .nc (.t 8), none⟩,
    ⟨(some 10), .fa 1 (.t 9), none⟩,
    ⟨(some 11), .ld false 1 (.t 10), none⟩,
    ⟨(some 12), .bin .add .one (.t 11) (.k (.w (.d (.s (.int .i64 1))))), none⟩,
    ⟨(some 13), .nc (.t 7), none⟩,
    ⟨(some 14), .fa 1 (.t 13), none⟩,
    ⟨none, .st 1 (.t 14) (.t 12), none⟩])
  (.seq (.seq (.reg [⟨(some 15), .mv (.t 1), none⟩,
    ⟨(some 16), .bin .lss .one (.t 15) (.k (.w (.d (.s (.int .i64 1))))), none⟩,
    ⟨(some 17), .mv (.t 16), none⟩,
    ⟨(some 18), .mv (.t 0), (some (17, false))⟩,
    ⟨(some 19), .nc (.t 18), (some (17, false))⟩,
    ⟨(some 20), .fa 0 (.t 19), (some (17, false))⟩,
    ⟨(some 21), .ld false 1 (.t 20), (some (17, false))⟩,
    ⟨(some 22), .lenl (.t 21), (some (17, false))⟩,
    ⟨(some 23), .bin .eql .one (.t 22) (.k (.w (.d (.s (.int .i64 0))))), (some (17, false))⟩,
    ⟨(some 24), .pick (.t 17) (.k (.w (.d (.s (.bool true))))) (.t 23), none⟩])
  (.cond (.t 24)
    (.seq (.reg [⟨(some 4), .mv (.k (.w (.d (.s (.int .i64 0))))), none⟩])
    .ret)
    .skip))
  (.seq (.reg [⟨(some 25), .mv (.t 0), none⟩,
    ⟨(some 26), .nc (.t 25), none⟩,
    ⟨(some 27), .fa 1 (.t 26), none⟩,
    ⟨(some 28), .ld false 1 (.t 27), none⟩,
    ⟨(some 29), .bin .sub .one (.t 28) (.k (.w (.d (.s (.int .i64 1))))), none⟩,
    ⟨(some 5), .mv (.t 29), none⟩])
  (.seq (.seq (.reg [⟨(some 30), .mv (.t 5), none⟩,
    ⟨(some 31), .mv (.t 0), none⟩,
    ⟨(some 32), .nc (.t 31), none⟩,
    ⟨(some 33), .fa 0 (.t 32), none⟩,
    ⟨(some 34), .ld false 1 (.t 33), none⟩,
    ⟨(some 35), .lenl (.t 34), none⟩,
    ⟨(some 36), .bin .lss .one (.t 30) (.t 35), none⟩])
  (.cond (.t 36)
    (.seq (.reg [⟨(some 37), .mv (.t 0), none⟩,
      ⟨(some 38), .nc (.t 37), none⟩,
      ⟨(some 39), .fa 0 (.t 38), none⟩,
      ⟨(some 40), .ld false 1 (.t 39), none⟩,
      ⟨(some 41), .mv (.t 5), none⟩,
      ⟨(some 42), .ia 1 (.t 40) (.t 41), none⟩,
      ⟨(some 43), .ld false 1 (.t 42), none⟩,
      ⟨(some 44), .cvi .i64 (.t 43), none⟩,
      ⟨(some 45), .mv (.t 1), none⟩,
      ⟨(some 46), .bin .rem .one (.t 44) (.t 45), none⟩,
      ⟨(some 4), .mv (.t 46), none⟩])
    .ret)
    .skip))
  (.seq (.dreg [⟨(some 47), .mv (.t 0), none⟩,
    ⟨(some 48), .nc (.t 47), none⟩,
    ⟨(some 49), .fa 0 (.t 48), none⟩,
    ⟨(some 50), .ld false 1 (.t 49), none⟩,
    ⟨(some 51), .mv (.t 5), none⟩,
    ⟨(some 52), .mv (.t 0), none⟩,
    ⟨(some 53), .nc (.t 52), none⟩,
    ⟨(some 54), .fa 0 (.t 53), none⟩,
    ⟨(some 55), .ld false 1 (.t 54), none⟩,
    ⟨(some 56), .lenl (.t 55), none⟩,
    ⟨(some 57), .bin .rem .one (.t 51) (.t 56), none⟩,
    ⟨(some 58), .ia 1 (.t 50) (.t 57), none⟩,
    ⟨(some 59), .ld false 1 (.t 58), none⟩,
    ⟨(some 60), .cvi .i64 (.t 59), none⟩,
    ⟨(some 61), .bin .mul .one (.t 60) (.k (.w (.d (.s (.int .i64 131))))), none⟩,
    ⟨(some 62), .mv (.t 0), none⟩,
    ⟨(some 63), .nc (.t 62), none⟩,
    ⟨(some 64), .fa 0 (.t 63), none⟩,
    ⟨(some 65), .ld false 1 (.t 64), none⟩,
    ⟨(some 66), .mv (.t 5), none⟩,
    ⟨(some 67), .bin .mul .one (.t 66) (.k (.w (.d (.s (.int .i64 7))))), none⟩,
    ⟨(some 68), .bin .add .one (.t 67) (.k (.w (.d (.s (.int .i64 3))))), none⟩,
    ⟨(some 69), .mv (.t 0), none⟩,
    ⟨(some 70), .nc (.t 69), none⟩,
    ⟨(some 71), .fa 0 (.t 70), none⟩,
    ⟨(some 72), .ld false 1 (.t 71), none⟩,
    ⟨(some 73), .lenl (.t 72), none⟩,
    ⟨(some 74), .bin .rem .one (.t 68) (.t 73), none⟩,
    ⟨(some 75), .ia 1 (.t 65) (.t 74), none⟩,
    ⟨(some 76), .ld false 1 (.t 75), none⟩,
    ⟨(some 77), .cvi .i64 (.t 76), none⟩,
    ⟨(some 78), .bin .mul .one (.t 77) (.k (.w (.d (.s (.int .i64 1117))))), none⟩,
    ⟨(some 79), .bin .add .one (.t 61) (.t 78), none⟩,
    ⟨(some 80), .mv (.t 5), none⟩,
    ⟨(some 81), .bin .mul .one (.t 80) (.k (.w (.d (.s (.int .i64 29))))), none⟩,
    ⟨(some 82), .bin .add .one (.t 79) (.t 81), none⟩,
    ⟨(some 83), .mv (.t 5), none⟩,
    ⟨(some 84), .mv (.t 0), none⟩,
    ⟨(some 85), .nc (.t 84), none⟩,
    ⟨(some 86), .fa 0 (.t 85), none⟩,
    ⟨(some 87), .ld false 1 (.t 86), none⟩,
    ⟨(some 88), .lenl (.t 87), none⟩,
    ⟨(some 89), .bin .quo .one (.t 83) (.t 88), none⟩,
    ⟨(some 90), .bin .mul .one (.t 89) (.k (.w (.d (.s (.int .i64 53))))), none⟩,
    ⟨(some 91), .bin .add .one (.t 82) (.t 90), none⟩,
    ⟨(some 6), .mv (.t 91), none⟩] [0, 1, 3, 7, 0, 0, 32, 96, 224, 480, 1008, 2047, 4095, 8191, 16383, 0, 32768, 98304, 229376, 0, 524288, 1572864, 0, 4194304, 12582912, 29360128, 62914560, 133693440, 268402688, 536838144, 1073709056, 2147450880, 4294967295, 0, 8589934592, 34359738367, 0, 0, 137438953472, 412316860416, 962072674304, 2061584302080, 4329327034368, 8727373545472, 17592186044415, 35184372088831])
  (.seq (.reg [⟨(some 92), .mv (.t 6), none⟩,
    ⟨(some 93), .mv (.t 6), none⟩,
    ⟨(some 94), .bin .quo .one (.t 93) (.k (.w (.d (.s (.int .i64 64))))), none⟩,
    ⟨(some 95), .bin .xor .one (.t 92) (.t 94), none⟩,
    ⟨(some 6), .mv (.t 95), none⟩])
  (.seq (.reg [⟨(some 96), .mv (.t 6), none⟩,
    ⟨(some 97), .mv (.t 1), none⟩,
    ⟨(some 98), .bin .rem .one (.t 96) (.t 97), none⟩,
    ⟨(some 4), .mv (.t 98), none⟩])
  .ret))))))))⟩

/- loop.example/stile/spec.l7Spoil -/
def F152_B0 : C :=
  (.seq (.seq (.reg [⟨(some 34), .mv (.t 5), none⟩,
    ⟨(some 35), .lenl (.t 34), none⟩,
    ⟨(some 36), .mv (.t 0), none⟩,
    ⟨(some 37), .call (.k (.w (.fn 67 []))) [(.t 36), (.k (.w (.d (.s (.int .i64 2)))))], none⟩,
    ⟨(some 38), .bin .add .one (.k (.w (.d (.s (.int .i64 40))))) (.t 37), none⟩,
    ⟨(some 39), .bin .lss .one (.t 35) (.t 38), none⟩])
  (.cond (.t 39)
    .skip
    (.exit 1)))
  (.block 2
    (.reg [⟨(some 40), .mv (.t 5), none⟩,
      ⟨(some 41), .ld true 6 (.t 6), none⟩,
      ⟨(some 42), .bsl 6 1 [(.s (.int .i64 0)), (.s (.int .i64 0)), (.l 0 []), (.l 0 []), (.l 0 []), (.l 0 [])] [(0, (.t 41))], none⟩,
      ⟨(some 43), .app 6 112 [(.s (.int .i64 0)), (.s (.int .i64 0)), (.l 0 []), (.l 0 []), (.l 0 []), (.l 0 [])] (.t 40) (.t 42), none⟩,
      ⟨(some 5), .mv (.t 43), none⟩])))
def F152_L0 : C := .loop F152_B0
def F152_B1 : C :=
  (.seq (.seq (.reg [⟨(some 66), .mv (.t 11), none⟩,
    ⟨(some 67), .mv (.t 8), none⟩,
    ⟨(some 68), .bin .lss .one (.t 66) (.t 67), none⟩])
  (.cond (.t 68)
    .skip
    (.exit 3)))
  (.seq (.block 4
    (.reg [⟨(some 71), .mv (.t 9), none⟩,
      ⟨(some 72), .ld true 2 (.t 10), none⟩,
      ⟨(some 73), .bsl 2 1 [(.s (.int .i64 0)), (.l 0 [])] [(0, (.t 72))], none⟩,
      ⟨(some 74), .app 2 32 [(.s (.int .i64 0)), (.l 0 [])] (.t 71) (.t 73), none⟩,
      ⟨(some 9), .mv (.t 74), none⟩]))
  (.reg [⟨(some 69), .mv (.t 11), none⟩,
    ⟨(some 70), .bin .add .one (.t 69) (.k (.w (.d (.s (.int .i64 1))))), none⟩,
    ⟨(some 11), .mv (.t 70), none⟩])))
def F152_L1 : C := .loop F152_B1
def F152 : Fn := ⟨95, [.tmp 4],
  (.seq (.reg [⟨(some 4), .mv (.k (.w .nil)), none⟩])
  (.seq (.reg [⟨(some 13), .bsl 6 0 [(.s (.int .i64 0)), (.s (.int .i64 0)), (.l 0 []), (.l 0 []), (.l 0 []), (.l 0 [])] [], none⟩,
    ⟨(some 14), .mv (.t 1), none⟩,
    ⟨(some 15), .app 6 112 [(.s (.int .i64 0)), (.s (.int .i64 0)), (.l 0 []), (.l 0 []), (.l 0 []), (.l 0 [])] (.t 13) (.t 14), none⟩,
    ⟨(some 5), .mv (.t 15), none⟩])
  (.seq (.seq (.reg [⟨(some 16), .mv (.t 5), none⟩,
    ⟨(some 17), .lenl (.t 16), none⟩,
    ⟨(some 18), .bin .eql .one (.t 17) (.k (.w (.d (.s (.int .i64 0))))), none⟩])
  (.cond (.t 18)
    (.seq (.reg [⟨(some 19), .mv (.t 5), none⟩,
      ⟨(some 20), .bld [(.d (.s (.int .i64 0))), (.d (.s (.int .i64 0))), .nil, .nil, .nil, .nil] [], none⟩,
      ⟨(some 21), .bsl 6 1 [(.s (.int .i64 0)), (.s (.int .i64 0)), (.l 0 []), (.l 0 []), (.l 0 []), (.l 0 [])] [(0, (.t 20))], none⟩,
      ⟨(some 22), .app 6 112 [(.s (.int .i64 0)), (.s (.int .i64 0)), (.l 0 []), (.l 0 []), (.l 0 []), (.l 0 [])] (.t 19) (.t 21), none⟩,
      ⟨(some 4), .mv (.t 22), none⟩])
    .ret)
    .skip))
  (.seq (.seq (.reg [⟨(some 23), .mv (.t 0), none⟩,
    ⟨(some 24), .call (.k (.w (.fn 67 []))) [(.t 23), (.k (.w (.d (.s (.int .i64 10)))))], none⟩])
  (.block 0
    (.seq (.reg [⟨(some 26), .bin .eql .one (.t 24) (.k (.w (.d (.s (.int .i64 0))))), none⟩,
      ⟨(some 25), .mv (.t 26), none⟩])
    (.cond (.t 25)
      (.seq (.reg [⟨(some 27), .mv (.t 0), none⟩,
        ⟨(some 28), .call (.k (.w (.fn 134 []))) [(.t 27)], none⟩,
        ⟨(some 29), .bld [(.d (.s (.int .i64 0))), (.d (.s (.int .i64 0))), .nil, .nil] [(0, 1, (.k (.w (.d (.s (.int .i64 1)))))), (1, 2, (.t 28))], none⟩,
        ⟨(some 30), .mv (.t 0), none⟩,
        ⟨(some 31), .call (.k (.w (.fn 135 []))) [(.t 30)], none⟩,
        ⟨(some 32), .bsl 2 1 [(.s (.int .i64 0)), (.l 0 [])] [(0, (.t 31))], none⟩,
        ⟨(some 33), .bld [(.d (.s (.int .i64 0))), (.d (.s (.int .i64 0))), .nil, .nil, .nil, .nil] [(0, 4, (.t 29)), (4, 1, (.t 32))], none⟩,
        ⟨(some 6), .new [(.d (.s (.int .i64 0))), (.d (.s (.int .i64 0))), .nil, .nil, .nil, .nil], none⟩,
        ⟨none, .st 6 (.t 6) (.t 33), none⟩])
      (.seq (.block 1
        F152_L0)
      (.seq (.reg [⟨(some 44), .mv (.t 5), none⟩,
        ⟨(some 4), .mv (.t 44), none⟩])
      .ret)))
      (.seq (.reg [⟨(some 46), .bin .eql .one (.t 24) (.k (.w (.d (.s (.int .i64 1))))), none⟩,
        ⟨(some 45), .mv (.t 46), none⟩])
      (.cond (.t 45)
        (.seq (.reg [⟨(some 47), .mv (.t 0), none⟩,
          ⟨(some 48), .mv (.t 5), none⟩,
          ⟨(some 49), .lenl (.t 48), none⟩,
          ⟨(some 50), .call (.k (.w (.fn 67 []))) [(.t 47), (.t 49)], none⟩,
          ⟨(some 7), .mv (.t 50), none⟩])
        (.seq (.reg [⟨(some 51), .mv (.t 5), none⟩,
          ⟨(some 52), .call (.k (.w (.fn 107 []))) [(.t 51)], none⟩,
          ⟨(some 53), .bin .sub .one (.k (.w (.d (.s (.int .i64 400))))) (.t 52), none⟩,
          ⟨(some 54), .mv (.t 0), none⟩,
          ⟨(some 55), .call (.k (.w (.fn 67 []))) [(.t 54), (.k (.w (.d (.s (.int .i64 2)))))], none⟩,
          ⟨(some 56), .bin .add .one (.t 53) (.t 55), none⟩,
          ⟨(some 8), .mv (.t 56), none⟩])
        (.seq (.reg [⟨(some 57), .bsl 2 0 [(.s (.int .i64 0)), (.l 0 [])] [], none⟩,
          ⟨(some 58), .mv (.t 5), none⟩,
          ⟨(some 59), .mv (.t 7), none⟩,
          ⟨(some 60), .ia 6 (.t 58) (.t 59), none⟩,
          ⟨(some 61), .fa 4 (.t 60), none⟩,
          ⟨(some 62), .ld false 1 (.t 61), none⟩,
          ⟨(some 63), .app 2 32 [(.s (.int .i64 0)), (.l 0 [])] (.t 57) (.t 62), none⟩,
          ⟨(some 9), .mv (.t 63), none⟩])
        (.seq (.reg [⟨(some 64), .mv (.t 0), none⟩,
          ⟨(some 65), .call (.k (.w (.fn 135 []))) [(.t 64)], none⟩,
          ⟨(some 10), .new [(.d (.s (.int .i64 0))), .nil], none⟩,
          ⟨none, .st 2 (.t 10) (.t 65), none⟩])
        (.seq (.seq (.reg [⟨(some 11), .mv (.k (.w (.d (.s (.int .i64 0))))), none⟩])
        (.block 3
          F152_L1))
        (.seq (.reg [⟨(some 75), .mv (.t 5), none⟩,
          ⟨(some 76), .mv (.t 7), none⟩,
          ⟨(some 77), .mv (.t 9), none⟩,
          ⟨(some 78), .ia 6 (.t 75) (.t 76), none⟩,
          ⟨(some 79), .fa 4 (.t 78), none⟩,
          ⟨none, .st 1 (.t 79) (.t 77), none⟩])
        (.seq (.reg [⟨(some 80), .mv (.t 5), none⟩,
          ⟨(some 4), .mv (.t 80), none⟩])
        .ret)))))))
        .skip))))))
  (.seq (.reg [⟨(some 81), .mv (.t 0), none⟩,
    ⟨(some 82), .mv (.t 5), none⟩,
    ⟨(some 83), .lenl (.t 82), none⟩,
    ⟨(some 84), .call (.k (.w (.fn 67 []))) [(.t 81), (.t 83)], none⟩,
    ⟨(some 12), .mv (.t 84), none⟩])
  (.seq (.reg [⟨(some 85), .mv (.t 5), none⟩,
    ⟨(some 86), .mv (.t 12), none⟩,
    ⟨(some 87), .mv (.t 0), none⟩,
    ⟨(some 88), .mv (.t 5), none⟩,
    ⟨(some 89), .mv (.t 12), none⟩,
    ⟨(some 90), .ia 6 (.t 88) (.t 89), none⟩,
    ⟨(some 91), .ld true 6 (.t 90), none⟩,
    ⟨(some 92), .call (.k (.w (.fn 179 []))) [(.t 87), (.t 91)], none⟩,
    ⟨(some 93), .ia 6 (.t 85) (.t 86), none⟩,
    ⟨none, .st 6 (.t 93) (.t 92), none⟩])
  (.seq (.reg [⟨(some 94), .mv (.t 5), none⟩,
    ⟨(some 4), .mv (.t 94), none⟩])
  .ret)))))))⟩

/- loop.example/stile/spec.TreeSize -/
def F107_B0 : C :=
  (.seq (.seq (.reg [⟨(some 5), .mv (.t 4), none⟩,
    ⟨(some 6), .mv (.t 0), none⟩,
    ⟨(some 7), .lenl (.t 6), none⟩,
    ⟨(some 8), .bin .lss .one (.t 5) (.t 7), none⟩])
  (.cond (.t 8)
    .skip
    (.exit 0)))
  (.seq (.block 1
    (.reg [⟨(some 11), .mv (.t 3), none⟩,
      ⟨(some 12), .mv (.t 0), none⟩,
      ⟨(some 13), .mv (.t 4), none⟩,
      ⟨(some 14), .ia 6 (.t 12) (.t 13), none⟩,
      ⟨(some 15), .ld true 6 (.t 14), none⟩,
      ⟨(some 16), .call (.k (.w (.fn 122 []))) [(.t 15)], none⟩,
      ⟨(some 17), .bin .add .one (.t 11) (.t 16), none⟩,
      ⟨(some 3), .mv (.t 17), none⟩]))
  (.reg [⟨(some 9), .mv (.t 4), none⟩,
    ⟨(some 10), .bin .add .one (.t 9) (.k (.w (.d (.s (.int .i64 1))))), none⟩,
    ⟨(some 4), .mv (.t 10), none⟩])))
def F107_L0 : C := .loop F107_B0
def F107 : Fn := ⟨19, [.tmp 2],
  (.seq (.reg [⟨(some 2), .mv (.k (.w (.d (.s (.int .i64 0))))), none⟩])
  (.seq (.reg [⟨(some 3), .mv (.k (.w (.d (.s (.int .i64 0))))), none⟩])
  (.seq (.seq (.reg [⟨(some 4), .mv (.k (.w (.d (.s (.int .i64 0))))), none⟩])
  (.block 0
    F107_L0))
  (.seq (.reg [⟨(some 18), .mv (.t 3), none⟩,
    ⟨(some 2), .mv (.t 18), none⟩])
  .ret))))⟩

/- loop.example/stile/spec.l7ArmWrong -/
def F121_B0 : C :=
  (.seq (.seq (.reg [⟨(some 25), .mv (.t 6), none⟩,
    ⟨(some 26), .fa 4 (.t 2), none⟩,
    ⟨(some 27), .ld false 1 (.t 26), none⟩,
    ⟨(some 28), .lenl (.t 27), none⟩,
    ⟨(some 29), .bin .lss .one (.t 25) (.t 28), none⟩])
  (.cond (.t 29)
    .skip
    (.exit 0)))
  (.seq (.block 1
    (.seq (.reg [⟨(some 32), .fa 4 (.t 2), none⟩,
      ⟨(some 33), .ld false 1 (.t 32), none⟩,
      ⟨(some 34), .mv (.t 6), none⟩,
      ⟨(some 35), .ia 2 (.t 33) (.t 34), none⟩,
      ⟨(some 36), .ld true 2 (.t 35), none⟩,
      ⟨(some 37), .call (.k (.w (.fn 143 []))) [(.t 36)], none⟩,
      ⟨(some 38), .un .not (.t 37), none⟩])
    (.cond (.t 38)
      (.seq (.reg [⟨(some 4), .mv (.k (.w (.d (.s (.int .i64 3))))), none⟩])
      .ret)
      .skip)))
  (.reg [⟨(some 30), .mv (.t 6), none⟩,
    ⟨(some 31), .bin .add .one (.t 30) (.k (.w (.d (.s (.int .i64 1))))), none⟩,
    ⟨(some 6), .mv (.t 31), none⟩])))
def F121_L0 : C := .loop F121_B0
def F121_B1 : C :=
  (.seq (.seq (.reg [⟨(some 49), .mv (.t 7), none⟩,
    ⟨(some 50), .fa 5 (.t 2), none⟩,
    ⟨(some 51), .ld false 1 (.t 50), none⟩,
    ⟨(some 52), .lenl (.t 51), none⟩,
    ⟨(some 53), .bin .lss .one (.t 49) (.t 52), none⟩])
  (.cond (.t 53)
    .skip
    (.exit 2)))
  (.seq (.block 3
    (.seq (.reg [⟨(some 56), .fa 5 (.t 2), none⟩,
      ⟨(some 57), .ld false 1 (.t 56), none⟩,
      ⟨(some 58), .mv (.t 7), none⟩,
      ⟨(some 59), .ia 6 (.t 57) (.t 58), none⟩,
      ⟨(some 60), .ld true 6 (.t 59), none⟩,
      ⟨(some 61), .call (.k (.w (.fn 121 []))) [(.t 60), (.k (.w (.d (.s (.bool false)))))], none⟩,
      ⟨(some 8), .mv (.t 61), none⟩])
    (.seq (.reg [⟨(some 62), .mv (.t 8), none⟩,
      ⟨(some 63), .bin .gtr .one (.t 62) (.k (.w (.d (.s (.int .i64 0))))), none⟩])
    (.cond (.t 63)
      (.seq (.reg [⟨(some 64), .mv (.t 8), none⟩,
        ⟨(some 4), .mv (.t 64), none⟩])
      .ret)
      .skip))))
  (.reg [⟨(some 54), .mv (.t 7), none⟩,
    ⟨(some 55), .bin .add .one (.t 54) (.k (.w (.d (.s (.int .i64 1))))), none⟩,
    ⟨(some 7), .mv (.t 55), none⟩])))
def F121_L1 : C := .loop F121_B1
def F121 : Fn := ⟨65, [.tmp 4],
  (.seq (.reg [⟨(some 2), .box 6 (.t 0), none⟩,
    ⟨(some 4), .mv (.k (.w (.d (.s (.int .i64 0))))), none⟩])
  (.seq (.seq (.reg [⟨(some 9), .mv (.t 1), none⟩,
    ⟨(some 10), .mv (.t 9), none⟩,
    ⟨(some 11), .fa 0 (.t 2), (some (10, true))⟩,
    ⟨(some 12), .ld true 4 (.t 11), (some (10, true))⟩,
    ⟨(some 13), .call (.k (.w (.fn 141 []))) [(.t 12)], (some (10, true))⟩,
    ⟨(some 14), .pick (.t 10) (.t 13) (.k (.w (.d (.s (.bool false))))), none⟩])
  (.cond (.t 14)
    (.seq (.reg [⟨(some 4), .mv (.k (.w (.d (.s (.int .i64 4))))), none⟩])
    .ret)
    .skip))
  (.seq (.seq (.reg [⟨(some 15), .fa 0 (.t 2), none⟩,
    ⟨(some 16), .ld true 4 (.t 15), none⟩,
    ⟨(some 17), .call (.k (.w (.fn 141 []))) [(.t 16)], none⟩,
    ⟨(some 18), .un .not (.t 17), none⟩])
  (.cond (.t 18)
    (.seq (.reg [⟨(some 19), .fa 0 (.t 2), none⟩,
      ⟨(some 20), .ld true 4 (.t 19), none⟩,
      ⟨(some 21), .call (.k (.w (.fn 142 []))) [(.t 20)], none⟩,
      ⟨(some 5), .mv (.t 21), none⟩])
    (.seq (.reg [⟨(some 22), .mv (.t 5), none⟩,
      ⟨(some 23), .bin .gtr .one (.t 22) (.k (.w (.d (.s (.int .i64 0))))), none⟩])
    (.cond (.t 23)
      (.seq (.reg [⟨(some 24), .mv (.t 5), none⟩,
        ⟨(some 4), .mv (.t 24), none⟩])
      .ret)
      .skip)))
    .skip))
  (.seq (.seq (.reg [⟨(some 6), .mv (.k (.w (.d (.s (.int .i64 0))))), none⟩])
  (.block 0
    F121_L0))
  (.seq (.seq (.reg [⟨(some 39), .fa 4 (.t 2), none⟩,
    ⟨(some 40), .ld false 1 (.t 39), none⟩,
    ⟨(some 41), .lenl (.t 40), none⟩,
    ⟨(some 42), .bin .eql .one (.t 41) (.k (.w (.d (.s (.int .i64 0))))), none⟩,
    ⟨(some 43), .mv (.t 42), none⟩,
    ⟨(some 44), .fa 5 (.t 2), (some (43, true))⟩,
    ⟨(some 45), .ld false 1 (.t 44), (some (43, true))⟩,
    ⟨(some 46), .lenl (.t 45), (some (43, true))⟩,
    ⟨(some 47), .bin .eql .one (.t 46) (.k (.w (.d (.s (.int .i64 0))))), (some (43, true))⟩,
    ⟨(some 48), .pick (.t 43) (.t 47) (.k (.w (.d (.s (.bool false))))), none⟩])
  (.cond (.t 48)
    (.seq (.reg [⟨(some 4), .mv (.k (.w (.d (.s (.int .i64 5))))), none⟩])
    .ret)
    .skip))
  (.seq (.seq (.reg [⟨(some 7), .mv (.k (.w (.d (.s (.int .i64 0))))), none⟩])
  (.block 2
    F121_L1))
  (.seq (.reg [⟨(some 4), .mv (.k (.w (.d (.s (.int .i64 0))))), none⟩])
  .ret)))))))⟩

/- loop.example/stile/impl.accepted -/
def F123 : Fn := ⟨7, [.tmp 2],
  (.seq (.reg [⟨(some 2), .mv (.k (.w (.d (.s (.bool false))))), none⟩])
  (.seq (.reg [⟨(some 3), .mv (.t 0), none⟩,
    ⟨(some 4), .call (.k (.w (.fn 145 []))) [(.t 3)], none⟩,
    ⟨(some 5), .bld [(.d (.s (.int .i64 0))), (.d (.s (.int .i64 0)))] [], none⟩,
    ⟨(some 6), .bin .eql (.agg [1, 1]) (.t 4) (.t 5), none⟩,
    ⟨(some 2), .mv (.t 6), none⟩])
  .ret))⟩

/- loop.example/stile/impl.normed -/
def F124_B0 : C :=
  (.seq (.reg [⟨(some 12), .bin .lss .one (.t 11) (.t 10), none⟩])
  (.seq (.cond (.t 12)
    .skip
    (.exit 0))
  (.seq (.block 1
    (.seq (.reg [⟨(some 13), .mv (.t 11), none⟩,
      ⟨(some 14), .ia 6 (.t 9) (.t 11), none⟩,
      ⟨(some 15), .ld true 6 (.t 14), none⟩,
      ⟨(some 5), .new [(.d (.s (.int .i64 0))), (.d (.s (.int .i64 0))), .nil, .nil, .nil, .nil], none⟩,
      ⟨(some 4), .mv (.t 13), none⟩,
      ⟨none, .st 6 (.t 5) (.t 15), none⟩])
    (.reg [⟨(some 16), .mv (.t 3), none⟩,
      ⟨(some 17), .mv (.t 4), none⟩,
      ⟨(some 18), .ld true 6 (.t 5), none⟩,
      ⟨(some 19), .call (.k (.w (.fn 146 []))) [(.t 18)], none⟩,
      ⟨(some 20), .ia 6 (.t 16) (.t 17), none⟩,
      ⟨none, .st 6 (.t 20) (.t 19), none⟩])))
  (.reg [⟨(some 21), .bin .add .one (.t 11) (.k (.w (.d (.s (.int .i64 1))))), none⟩,
    ⟨(some 11), .mv (.t 21), none⟩]))))
def F124_L0 : C := .loop F124_B0
def F124 : Fn := ⟨23, [.tmp 2],
  (.seq (.reg [⟨(some 2), .mv (.k (.w .nil)), none⟩])
  (.seq (.reg [⟨(some 6), .mv (.t 0), none⟩,
    ⟨(some 7), .lenl (.t 6), none⟩,
    ⟨(some 8), .msl 6 112 [(.s (.int .i64 0)), (.s (.int .i64 0)), (.l 0 []), (.l 0 []), (.l 0 []), (.l 0 [])] (.t 7) (.t 7), none⟩,
    ⟨(some 3), .mv (.t 8), none⟩])
  (.seq (.seq (.reg [⟨(some 9), .mv (.t 0), none⟩,
    ⟨(some 10), .lenl (.t 9), none⟩,
    ⟨(some 11), .mv (.k (.w (.d (.s (.int .i64 0))))), none⟩])
  (.block 0
    F124_L0))
  (.seq (.reg [⟨(some 22), .mv (.t 3), none⟩,
    ⟨(some 2), .mv (.t 22), none⟩])
  .ret))))⟩

/- loop.example/stile/impl.copyArms -/
def F125_B0 : C :=
  (.seq (.reg [⟨(some 12), .bin .lss .one (.t 11) (.t 10), none⟩])
  (.seq (.cond (.t 12)
    .skip
    (.exit 0))
  (.seq (.block 1
    (.seq (.reg [⟨(some 13), .mv (.t 11), none⟩,
      ⟨(some 14), .ia 6 (.t 9) (.t 11), none⟩,
      ⟨(some 15), .ld true 6 (.t 14), none⟩,
      ⟨(some 5), .new [(.d (.s (.int .i64 0))), (.d (.s (.int .i64 0))), .nil, .nil, .nil, .nil], none⟩,
      ⟨(some 4), .mv (.t 13), none⟩,
      ⟨none, .st 6 (.t 5) (.t 15), none⟩])
    (.dreg [⟨(some 16), .mv (.t 3), none⟩,
      ⟨(some 17), .mv (.t 4), none⟩,
      ⟨(some 18), .fa 0 (.t 5), none⟩,
      ⟨(some 19), .ld true 4 (.t 18), none⟩,
      ⟨(some 20), .call (.k (.w (.fn 139 []))) [(.t 19)], none⟩,
      ⟨(some 21), .fa 4 (.t 5), none⟩,
      ⟨(some 22), .ld false 1 (.t 21), none⟩,
      ⟨(some 23), .call (.k (.w (.fn 147 []))) [(.t 22)], none⟩,
      ⟨(some 24), .fa 5 (.t 5), none⟩,
      ⟨(some 25), .ld false 1 (.t 24), none⟩,
      ⟨(some 26), .call (.k (.w (.fn 125 []))) [(.t 25)], none⟩,
      ⟨(some 27), .bld [(.d (.s (.int .i64 0))), (.d (.s (.int .i64 0))), .nil, .nil, .nil, .nil] [(0, 4, (.t 20)), (4, 1, (.t 23)), (5, 1, (.t 26))], none⟩,
      ⟨(some 28), .ia 6 (.t 16) (.t 17), none⟩,
      ⟨none, .st 6 (.t 28) (.t 27), none⟩] [0, 0, 0, 4, 12, 0, 32, 124, 0, 256, 1020, 2044, 4095, 8191])))
  (.reg [⟨(some 29), .bin .add .one (.t 11) (.k (.w (.d (.s (.int .i64 1))))), none⟩,
    ⟨(some 11), .mv (.t 29), none⟩]))))
def F125_L0 : C := .loop F125_B0
def F125 : Fn := ⟨31, [.tmp 2],
  (.seq (.reg [⟨(some 2), .mv (.k (.w .nil)), none⟩])
  (.seq (.reg [⟨(some 6), .mv (.t 0), none⟩,
    ⟨(some 7), .lenl (.t 6), none⟩,
    ⟨(some 8), .msl 6 112 [(.s (.int .i64 0)), (.s (.int .i64 0)), (.l 0 []), (.l 0 []), (.l 0 []), (.l 0 [])] (.t 7) (.t 7), none⟩,
    ⟨(some 3), .mv (.t 8), none⟩])
  (.seq (.seq (.reg [⟨(some 9), .mv (.t 0), none⟩,
    ⟨(some 10), .lenl (.t 9), none⟩,
    ⟨(some 11), .mv (.k (.w (.d (.s (.int .i64 0))))), none⟩])
  (.block 0
    F125_L0))
  (.seq (.reg [⟨(some 30), .mv (.t 3), none⟩,
    ⟨(some 2), .mv (.t 30), none⟩])
  .ret))))⟩

/- loop.example/stile/laws.wnNone -/
def F210 : Fn := ⟨6, [.tmp 2],
  (.seq (.reg [⟨(some 1), .box 4 (.t 0), none⟩,
    ⟨(some 2), .mv (.k (.w (.d (.s (.bool false))))), none⟩])
  (.seq (.reg [⟨(some 3), .fa 0 (.t 1), none⟩,
    ⟨(some 4), .ld false 1 (.t 3), none⟩,
    ⟨(some 5), .bin .eql .one (.t 4) (.k (.w (.d (.s (.int .i64 0))))), none⟩,
    ⟨(some 2), .mv (.t 5), none⟩])
  .ret))⟩

/- loop.example/stile/laws.wnNet -/
def F110_B0 : C :=
  (.seq (.seq (.reg [⟨(some 4), .mv (.t 3), none⟩,
    ⟨(some 5), .fa 3 (.t 1), none⟩,
    ⟨(some 6), .ld false 1 (.t 5), none⟩,
    ⟨(some 7), .lenl (.t 6), none⟩,
    ⟨(some 8), .bin .lss .one (.t 4) (.t 7), none⟩])
  (.cond (.t 8)
    .skip
    (.exit 0)))
  (.seq (.block 1
    (.seq (.dreg [⟨(some 11), .fa 3 (.t 1), none⟩,
      ⟨(some 12), .ld false 1 (.t 11), none⟩,
      ⟨(some 13), .mv (.t 3), none⟩,
      ⟨(some 14), .ia 4 (.t 12) (.t 13), none⟩,
      ⟨(some 15), .fa 0 (.t 14), none⟩,
      ⟨(some 16), .ld false 1 (.t 15), none⟩,
      ⟨(some 17), .fa 0 (.t 1), none⟩,
      ⟨(some 18), .ld false 1 (.t 17), none⟩,
      ⟨(some 19), .bin .eql .one (.t 16) (.t 18), none⟩,
      ⟨(some 20), .mv (.t 19), none⟩,
      ⟨(some 21), .fa 0 (.t 1), (some (20, true))⟩,
      ⟨(some 22), .ld false 1 (.t 21), (some (20, true))⟩,
      ⟨(some 23), .bin .neq .one (.t 22) (.k (.w (.d (.s (.int .i64 4))))), (some (20, true))⟩,
      ⟨(some 24), .pick (.t 20) (.t 23) (.k (.w (.d (.s (.bool false))))), none⟩,
      ⟨(some 25), .mv (.t 24), none⟩,
      ⟨(some 26), .fa 3 (.t 1), (some (25, false))⟩,
      ⟨(some 27), .ld false 1 (.t 26), (some (25, false))⟩,
      ⟨(some 28), .mv (.t 3), (some (25, false))⟩,
      ⟨(some 29), .ia 4 (.t 27) (.t 28), (some (25, false))⟩,
      ⟨(some 30), .ld true 4 (.t 29), (some (25, false))⟩,
      ⟨(some 31), .call (.k (.w (.fn 110 []))) [(.t 30)], (some (25, false))⟩,
      ⟨(some 32), .un .not (.t 31), (some (25, false))⟩,
      ⟨(some 33), .pick (.t 25) (.k (.w (.d (.s (.bool true))))) (.t 32), none⟩] [0, 1, 0, 7, 15, 31, 0, 64, 255, 511, 1023, 2047, 4095, 8191, 16383, 32767, 65535, 32767, 262143, 524287, 1048575, 2097151, 4194303])
    (.cond (.t 33)
      (.seq (.reg [⟨(some 2), .mv (.k (.w (.d (.s (.bool false))))), none⟩])
      .ret)
      .skip)))
  (.reg [⟨(some 9), .mv (.t 3), none⟩,
    ⟨(some 10), .bin .add .one (.t 9) (.k (.w (.d (.s (.int .i64 1))))), none⟩,
    ⟨(some 3), .mv (.t 10), none⟩])))
def F110_L0 : C := .loop F110_B0
def F110 : Fn := ⟨48, [.tmp 2],
  (.seq (.reg [⟨(some 1), .box 4 (.t 0), none⟩,
    ⟨(some 2), .mv (.k (.w (.d (.s (.bool false))))), none⟩])
  (.seq (.seq (.reg [⟨(some 3), .mv (.k (.w (.d (.s (.int .i64 0))))), none⟩])
  (.block 0
    F110_L0))
  (.seq (.reg [⟨(some 34), .fa 0 (.t 1), none⟩,
    ⟨(some 35), .ld false 1 (.t 34), none⟩,
    ⟨(some 36), .bin .eql .one (.t 35) (.k (.w (.d (.s (.int .i64 1))))), none⟩,
    ⟨(some 37), .mv (.t 36), none⟩,
    ⟨(some 38), .fa 0 (.t 1), (some (37, false))⟩,
    ⟨(some 39), .ld false 1 (.t 38), (some (37, false))⟩,
    ⟨(some 40), .bin .eql .one (.t 39) (.k (.w (.d (.s (.int .i64 4))))), (some (37, false))⟩,
    ⟨(some 41), .pick (.t 37) (.k (.w (.d (.s (.bool true))))) (.t 40), none⟩,
    ⟨(some 42), .mv (.t 41), none⟩,
    ⟨(some 43), .fa 3 (.t 1), (some (42, false))⟩,
    ⟨(some 44), .ld false 1 (.t 43), (some (42, false))⟩,
    ⟨(some 45), .lenl (.t 44), (some (42, false))⟩,
    ⟨(some 46), .bin .gtr .one (.t 45) (.k (.w (.d (.s (.int .i64 1))))), (some (42, false))⟩,
    ⟨(some 47), .pick (.t 42) (.k (.w (.d (.s (.bool true))))) (.t 46), none⟩,
    ⟨(some 2), .mv (.t 47), none⟩])
  .ret)))⟩

/- slices.EqualFunc[[]loop.example/stile/impl.Arm,[]loop.example/stile/impl.Arm,loop.example/stile/impl.Arm,loop.example/stile/impl.Arm] -/
def F126_B0 : C :=
  (.seq (.reg [⟨(some 18), .bin .lss .one (.t 17) (.t 16), none⟩])
  (.seq (.cond (.t 18)
    .skip
    (.exit 0))
  (.seq (.block 1
    (.seq (.reg [⟨(some 19), .mv (.t 17), none⟩,
      ⟨(some 20), .ia 6 (.t 15) (.t 17), none⟩,
      ⟨(some 21), .ld true 6 (.t 20), none⟩,
      ⟨(some 8), .new [(.d (.s (.int .i64 0))), (.d (.s (.int .i64 0))), .nil, .nil, .nil, .nil], none⟩,
      ⟨(some 7), .mv (.t 19), none⟩,
      ⟨none, .st 6 (.t 8) (.t 21), none⟩])
    (.seq (.reg [⟨(some 22), .mv (.t 1), none⟩,
      ⟨(some 23), .mv (.t 7), none⟩,
      ⟨(some 24), .ia 6 (.t 22) (.t 23), none⟩,
      ⟨(some 25), .ld true 6 (.t 24), none⟩,
      ⟨(some 9), .new [(.d (.s (.int .i64 0))), (.d (.s (.int .i64 0))), .nil, .nil, .nil, .nil], none⟩,
      ⟨none, .st 6 (.t 9) (.t 25), none⟩])
    (.seq (.reg [⟨(some 26), .mv (.t 2), none⟩,
      ⟨(some 27), .ld true 6 (.t 8), none⟩,
      ⟨(some 28), .ld true 6 (.t 9), none⟩,
      ⟨(some 29), .call (.t 26) [(.t 27), (.t 28)], none⟩,
      ⟨(some 30), .un .not (.t 29), none⟩])
    (.cond (.t 30)
      (.seq (.reg [⟨(some 6), .mv (.k (.w (.d (.s (.bool false))))), none⟩])
      .ret)
      .skip)))))
  (.reg [⟨(some 31), .bin .add .one (.t 17) (.k (.w (.d (.s (.int .i64 1))))), none⟩,
    ⟨(some 17), .mv (.t 31), none⟩]))))
def F126_L0 : C := .loop F126_B0
def F126 : Fn := ⟨32, [.tmp 6],
  (.seq (.reg [⟨(some 6), .mv (.k (.w (.d (.s (.bool false))))), none⟩])
  (.seq (.seq (.reg [⟨(some 10), .mv (.t 0), none⟩,
    ⟨(some 11), .lenl (.t 10), none⟩,
    ⟨(some 12), .mv (.t 1), none⟩,
    ⟨(some 13), .lenl (.t 12), none⟩,
    ⟨(some 14), .bin .neq .one (.t 11) (.t 13), none⟩])
  (.cond (.t 14)
    (.seq (.reg [⟨(some 6), .mv (.k (.w (.d (.s (.bool false))))), none⟩])
    .ret)
    .skip))
  (.seq (.seq (.reg [⟨(some 15), .mv (.t 0), none⟩,
    ⟨(some 16), .lenl (.t 15), none⟩,
    ⟨(some 17), .mv (.k (.w (.d (.s (.int .i64 0))))), none⟩])
  (.block 0
    F126_L0))
  (.seq (.reg [⟨(some 6), .mv (.k (.w (.d (.s (.bool true))))), none⟩])
  .ret))))⟩

/- loop.example/stile/impl.TreeSame$1 -/
def F127 : Fn := ⟨24, [.tmp 4],
  (.seq (.reg [⟨(some 2), .box 6 (.t 0), none⟩,
    ⟨(some 3), .box 6 (.t 1), none⟩,
    ⟨(some 4), .mv (.k (.w (.d (.s (.bool false))))), none⟩])
  (.seq (.reg [⟨(some 5), .fa 0 (.t 2), none⟩,
    ⟨(some 6), .ld true 4 (.t 5), none⟩,
    ⟨(some 7), .fa 0 (.t 3), none⟩,
    ⟨(some 8), .ld true 4 (.t 7), none⟩,
    ⟨(some 9), .call (.k (.w (.fn 148 []))) [(.t 6), (.t 8)], none⟩,
    ⟨(some 10), .mv (.t 9), none⟩,
    ⟨(some 11), .fa 4 (.t 2), (some (10, true))⟩,
    ⟨(some 12), .ld false 1 (.t 11), (some (10, true))⟩,
    ⟨(some 13), .fa 4 (.t 3), (some (10, true))⟩,
    ⟨(some 14), .ld false 1 (.t 13), (some (10, true))⟩,
    ⟨(some 15), .call (.k (.w (.fn 149 []))) [(.t 12), (.t 14), (.k (.w (.fn 150 [])))], (some (10, true))⟩,
    ⟨(some 16), .pick (.t 10) (.t 15) (.k (.w (.d (.s (.bool false))))), none⟩,
    ⟨(some 17), .mv (.t 16), none⟩,
    ⟨(some 18), .fa 5 (.t 2), (some (17, true))⟩,
    ⟨(some 19), .ld false 1 (.t 18), (some (17, true))⟩,
    ⟨(some 20), .fa 5 (.t 3), (some (17, true))⟩,
    ⟨(some 21), .ld false 1 (.t 20), (some (17, true))⟩,
    ⟨(some 22), .call (.k (.w (.fn 109 []))) [(.t 19), (.t 21)], (some (17, true))⟩,
    ⟨(some 23), .pick (.t 17) (.t 22) (.k (.w (.d (.s (.bool false))))), none⟩,
    ⟨(some 4), .mv (.t 23), none⟩])
  .ret))⟩

/- loop.example/stile/spec.l9Arm -/
def F211_B0 : C :=
  (.seq (.seq (.reg [⟨(some 18), .mv (.t 4), none⟩,
    ⟨(some 19), .fa 5 (.t 1), none⟩,
    ⟨(some 20), .ld false 1 (.t 19), none⟩,
    ⟨(some 21), .lenl (.t 20), none⟩,
    ⟨(some 22), .bin .lss .one (.t 18) (.t 21), none⟩])
  (.cond (.t 22)
    .skip
    (.exit 0)))
  (.seq (.block 1
    (.dreg [⟨(some 25), .fa 5 (.t 3), none⟩,
      ⟨(some 26), .ld false 1 (.t 25), none⟩,
      ⟨(some 27), .fa 5 (.t 1), none⟩,
      ⟨(some 28), .ld false 1 (.t 27), none⟩,
      ⟨(some 29), .mv (.t 4), none⟩,
      ⟨(some 30), .ia 6 (.t 28) (.t 29), none⟩,
      ⟨(some 31), .ld true 6 (.t 30), none⟩,
      ⟨(some 32), .call (.k (.w (.fn 211 []))) [(.t 31)], none⟩,
      ⟨(some 33), .bsl 6 1 [(.s (.int .i64 0)), (.s (.int .i64 0)), (.l 0 []), (.l 0 []), (.l 0 []), (.l 0 [])] [(0, (.t 32))], none⟩,
      ⟨(some 34), .app 6 112 [(.s (.int .i64 0)), (.s (.int .i64 0)), (.l 0 []), (.l 0 []), (.l 0 []), (.l 0 [])] (.t 26) (.t 33), none⟩,
      ⟨(some 35), .fa 5 (.t 3), none⟩,
      ⟨none, .st 1 (.t 35) (.t 34), none⟩] [0, 1, 0, 4, 0, 28, 60, 124, 252, 511, 1023, 2047]))
  (.reg [⟨(some 23), .mv (.t 4), none⟩,
    ⟨(some 24), .bin .add .one (.t 23) (.k (.w (.d (.s (.int .i64 1))))), none⟩,
    ⟨(some 4), .mv (.t 24), none⟩])))
def F211_L0 : C := .loop F211_B0
def F211_B1 : C :=
  (.seq (.seq (.reg [⟨(some 36), .fa 5 (.t 3), none⟩,
    ⟨(some 37), .ld false 1 (.t 36), none⟩,
    ⟨(some 38), .lenl (.t 37), none⟩,
    ⟨(some 39), .bin .eql .one (.t 38) (.k (.w (.d (.s (.int .i64 1))))), none⟩,
    ⟨(some 40), .mv (.t 39), none⟩,
    ⟨(some 41), .fa 4 (.t 3), (some (40, true))⟩,
    ⟨(some 42), .ld false 1 (.t 41), (some (40, true))⟩,
    ⟨(some 43), .lenl (.t 42), (some (40, true))⟩,
    ⟨(some 44), .bin .eql .one (.t 43) (.k (.w (.d (.s (.int .i64 0))))), (some (40, true))⟩,
    ⟨(some 45), .mv (.t 44), (some (40, true))⟩,
    ⟨(some 46), .fa 5 (.t 3), (some (45, false))⟩,
    ⟨(some 47), .ld false 1 (.t 46), (some (45, false))⟩,
    ⟨(some 48), .ia 6 (.t 47) (.k (.w (.d (.s (.int .i64 0))))), (some (45, false))⟩,
    ⟨(some 49), .fa 0 (.t 48), (some (45, false))⟩,
    ⟨(some 50), .ld true 4 (.t 49), (some (45, false))⟩,
    ⟨(some 51), .call (.k (.w (.fn 141 []))) [(.t 50)], (some (45, false))⟩,
    ⟨(some 52), .pick (.t 45) (.k (.w (.d (.s (.bool true))))) (.t 51), (some (40, true))⟩,
    ⟨(some 53), .pick (.t 40) (.t 52) (.k (.w (.d (.s (.bool false))))), none⟩])
  (.cond (.t 53)
    .skip
    (.exit 2)))
  (.block 3
    (.seq (.reg [⟨(some 54), .fa 5 (.t 3), none⟩,
      ⟨(some 55), .ld false 1 (.t 54), none⟩,
      ⟨(some 56), .ia 6 (.t 55) (.k (.w (.d (.s (.int .i64 0))))), none⟩,
      ⟨(some 57), .ld true 6 (.t 56), none⟩,
      ⟨(some 5), .new [(.d (.s (.int .i64 0))), (.d (.s (.int .i64 0))), .nil, .nil, .nil, .nil], none⟩,
      ⟨none, .st 6 (.t 5) (.t 57), none⟩])
    (.seq (.reg [⟨(some 58), .fa 0 (.t 3), none⟩,
      ⟨(some 59), .ld true 4 (.t 58), none⟩,
      ⟨(some 60), .fa 0 (.t 5), none⟩,
      ⟨(some 61), .ld true 4 (.t 60), none⟩,
      ⟨(some 62), .call (.k (.w (.fn 215 []))) [(.t 59), (.t 61)], none⟩,
      ⟨(some 63), .fa 0 (.t 3), none⟩,
      ⟨none, .st 4 (.t 63) (.t 62), none⟩])
    (.seq (.reg [⟨(some 64), .fa 4 (.t 3), none⟩,
      ⟨(some 65), .ld false 1 (.t 64), none⟩,
      ⟨(some 66), .fa 4 (.t 5), none⟩,
      ⟨(some 67), .ld false 1 (.t 66), none⟩,
      ⟨(some 68), .app 2 32 [(.s (.int .i64 0)), (.l 0 [])] (.t 65) (.t 67), none⟩,
      ⟨(some 69), .fa 4 (.t 3), none⟩,
      ⟨none, .st 1 (.t 69) (.t 68), none⟩])
    (.reg [⟨(some 70), .fa 5 (.t 5), none⟩,
      ⟨(some 71), .ld false 1 (.t 70), none⟩,
      ⟨(some 72), .fa 5 (.t 3), none⟩,
      ⟨none, .st 1 (.t 72) (.t 71), none⟩]))))))
def F211_L1 : C := .loop F211_B1
def F211 : Fn := ⟨74, [.cell 2 true 6],
  (.seq (.reg [⟨(some 1), .box 6 (.t 0), none⟩,
    ⟨(some 2), .new [(.d (.s (.int .i64 0))), (.d (.s (.int .i64 0))), .nil, .nil, .nil, .nil], none⟩])
  (.seq (.reg [⟨(some 6), .fa 4 (.t 1), none⟩,
    ⟨(some 7), .ld false 1 (.t 6), none⟩,
    ⟨(some 8), .call (.k (.w (.fn 213 []))) [(.t 7)], none⟩,
    ⟨(some 9), .bld [(.d (.s (.int .i64 0))), (.d (.s (.int .i64 0))), .nil, .nil, .nil, .nil] [(4, 1, (.t 8))], none⟩,
    ⟨(some 3), .new [(.d (.s (.int .i64 0))), (.d (.s (.int .i64 0))), .nil, .nil, .nil, .nil], none⟩,
    ⟨none, .st 6 (.t 3) (.t 9), none⟩])
  (.seq (.seq (.reg [⟨(some 10), .fa 0 (.t 1), none⟩,
    ⟨(some 11), .ld true 4 (.t 10), none⟩,
    ⟨(some 12), .call (.k (.w (.fn 141 []))) [(.t 11)], none⟩,
    ⟨(some 13), .un .not (.t 12), none⟩])
  (.cond (.t 13)
    (.reg [⟨(some 14), .fa 0 (.t 1), none⟩,
      ⟨(some 15), .ld true 4 (.t 14), none⟩,
      ⟨(some 16), .call (.k (.w (.fn 214 []))) [(.t 15)], none⟩,
      ⟨(some 17), .fa 0 (.t 3), none⟩,
      ⟨none, .st 4 (.t 17) (.t 16), none⟩])
    .skip))
  (.seq (.seq (.reg [⟨(some 4), .mv (.k (.w (.d (.s (.int .i64 0))))), none⟩])
  (.block 0
    F211_L0))
  (.seq (.block 2
    F211_L1)
  (.seq (.reg [⟨(some 73), .ld true 6 (.t 3), none⟩,
    ⟨none, .st 6 (.t 2) (.t 73), none⟩])
  .ret))))))⟩

/- loop.example/stile/spec.l7ArmSame -/
def F212_B0 : C :=
  (.seq (.seq (.reg [⟨(some 21), .mv (.t 5), none⟩,
    ⟨(some 22), .fa 4 (.t 2), none⟩,
    ⟨(some 23), .ld false 1 (.t 22), none⟩,
    ⟨(some 24), .lenl (.t 23), none⟩,
    ⟨(some 25), .bin .lss .one (.t 21) (.t 24), none⟩])
  (.cond (.t 25)
    .skip
    (.exit 0)))
  (.seq (.block 1
    (.seq (.dreg [⟨(some 28), .fa 4 (.t 2), none⟩,
      ⟨(some 29), .ld false 1 (.t 28), none⟩,
      ⟨(some 30), .mv (.t 5), none⟩,
      ⟨(some 31), .ia 2 (.t 29) (.t 30), none⟩,
      ⟨(some 32), .ld true 2 (.t 31), none⟩,
      ⟨(some 33), .fa 4 (.t 3), none⟩,
      ⟨(some 34), .ld false 1 (.t 33), none⟩,
      ⟨(some 35), .mv (.t 5), none⟩,
      ⟨(some 36), .ia 2 (.t 34) (.t 35), none⟩,
      ⟨(some 37), .ld true 2 (.t 36), none⟩,
      ⟨(some 38), .call (.k (.w (.fn 217 []))) [(.t 32), (.t 37)], none⟩,
      ⟨(some 39), .un .not (.t 38), none⟩] [0, 1, 0, 7, 15, 0, 32, 0, 224, 480, 1023, 2047])
    (.cond (.t 39)
      (.seq (.reg [⟨(some 4), .mv (.k (.w (.d (.s (.bool false))))), none⟩])
      .ret)
      .skip)))
  (.reg [⟨(some 26), .mv (.t 5), none⟩,
    ⟨(some 27), .bin .add .one (.t 26) (.k (.w (.d (.s (.int .i64 1))))), none⟩,
    ⟨(some 5), .mv (.t 27), none⟩])))
def F212_L0 : C := .loop F212_B0
def F212 : Fn := ⟨45, [.tmp 4],
  (.seq (.reg [⟨(some 2), .box 6 (.t 0), none⟩,
    ⟨(some 3), .box 6 (.t 1), none⟩,
    ⟨(some 4), .mv (.k (.w (.d (.s (.bool false))))), none⟩])
  (.seq (.seq (.reg [⟨(some 6), .fa 0 (.t 2), none⟩,
    ⟨(some 7), .ld true 4 (.t 6), none⟩,
    ⟨(some 8), .fa 0 (.t 3), none⟩,
    ⟨(some 9), .ld true 4 (.t 8), none⟩,
    ⟨(some 10), .call (.k (.w (.fn 216 []))) [(.t 7), (.t 9)], none⟩,
    ⟨(some 11), .un .not (.t 10), none⟩,
    ⟨(some 12), .mv (.t 11), none⟩,
    ⟨(some 13), .fa 4 (.t 2), (some (12, false))⟩,
    ⟨(some 14), .ld false 1 (.t 13), (some (12, false))⟩,
    ⟨(some 15), .lenl (.t 14), (some (12, false))⟩,
    ⟨(some 16), .fa 4 (.t 3), (some (12, false))⟩,
    ⟨(some 17), .ld false 1 (.t 16), (some (12, false))⟩,
    ⟨(some 18), .lenl (.t 17), (some (12, false))⟩,
    ⟨(some 19), .bin .neq .one (.t 15) (.t 18), (some (12, false))⟩,
    ⟨(some 20), .pick (.t 12) (.k (.w (.d (.s (.bool true))))) (.t 19), none⟩])
  (.cond (.t 20)
    (.seq (.reg [⟨(some 4), .mv (.k (.w (.d (.s (.bool false))))), none⟩])
    .ret)
    .skip))
  (.seq (.seq (.reg [⟨(some 5), .mv (.k (.w (.d (.s (.int .i64 0))))), none⟩])
  (.block 0
    F212_L0))
  (.seq (.reg [⟨(some 40), .fa 5 (.t 2), none⟩,
    ⟨(some 41), .ld false 1 (.t 40), none⟩,
    ⟨(some 42), .fa 5 (.t 3), none⟩,
    ⟨(some 43), .ld false 1 (.t 42), none⟩,
    ⟨(some 44), .call (.k (.w (.fn 209 []))) [(.t 41), (.t 43)], none⟩,
    ⟨(some 4), .mv (.t 44), none⟩])
  .ret))))⟩

/- (loop.example/stile/impl.Arm).wrong -/
def F172_B0 : C :=
  (.seq (.reg [⟨(some 42), .bin .lss .one (.t 41) (.t 40), none⟩])
  (.seq (.cond (.t 42)
    .skip
    (.exit 0))
  (.seq (.block 1
    (.seq (.reg [⟨(some 43), .ia 6 (.t 39) (.t 41), none⟩,
      ⟨(some 44), .ld true 6 (.t 43), none⟩,
      ⟨(some 7), .new [(.d (.s (.int .i64 0))), (.d (.s (.int .i64 0))), .nil, .nil, .nil, .nil], none⟩,
      ⟨none, .st 6 (.t 7) (.t 44), none⟩])
    (.seq (.reg [⟨(some 45), .ld true 6 (.t 7), none⟩,
      ⟨(some 46), .call (.k (.w (.fn 172 []))) [(.t 45), (.k (.w (.d (.s (.bool false)))))], none⟩,
      ⟨(some 8), .mv (.t 46), none⟩])
    (.seq (.reg [⟨(some 47), .mv (.t 8), none⟩,
      ⟨(some 48), .bin .neq .one (.t 47) (.k (.w (.d (.s (.int .i64 0))))), none⟩])
    (.cond (.t 48)
      (.seq (.reg [⟨(some 49), .mv (.t 8), none⟩,
        ⟨(some 4), .mv (.t 49), none⟩])
      .ret)
      .skip)))))
  (.reg [⟨(some 50), .bin .add .one (.t 41) (.k (.w (.d (.s (.int .i64 1))))), none⟩,
    ⟨(some 41), .mv (.t 50), none⟩]))))
def F172_L0 : C := .loop F172_B0
def F172 : Fn := ⟨51, [.tmp 4],
  (.seq (.reg [⟨(some 2), .box 6 (.t 0), none⟩,
    ⟨(some 4), .mv (.k (.w (.d (.s (.int .i64 0))))), none⟩])
  (.seq (.seq (.reg [⟨(some 9), .mv (.t 1), none⟩,
    ⟨(some 10), .mv (.t 9), none⟩,
    ⟨(some 11), .fa 0 (.t 2), (some (10, true))⟩,
    ⟨(some 12), .ld true 4 (.t 11), (some (10, true))⟩,
    ⟨(some 13), .call (.k (.w (.fn 173 []))) [(.t 12)], (some (10, true))⟩,
    ⟨(some 14), .pick (.t 10) (.t 13) (.k (.w (.d (.s (.bool false))))), none⟩])
  (.cond (.t 14)
    (.seq (.reg [⟨(some 4), .mv (.k (.w (.d (.s (.int .i64 4))))), none⟩])
    .ret)
    .skip))
  (.seq (.seq (.reg [⟨(some 15), .fa 0 (.t 2), none⟩,
    ⟨(some 16), .ld true 4 (.t 15), none⟩,
    ⟨(some 17), .call (.k (.w (.fn 173 []))) [(.t 16)], none⟩,
    ⟨(some 18), .un .not (.t 17), none⟩])
  (.cond (.t 18)
    (.seq (.reg [⟨(some 19), .fa 0 (.t 2), none⟩,
      ⟨(some 20), .ld true 4 (.t 19), none⟩,
      ⟨(some 21), .call (.k (.w (.fn 119 []))) [(.t 20)], none⟩,
      ⟨(some 5), .mv (.t 21), none⟩])
    (.seq (.reg [⟨(some 22), .mv (.t 5), none⟩,
      ⟨(some 23), .bin .neq .one (.t 22) (.k (.w (.d (.s (.int .i64 0))))), none⟩])
    (.cond (.t 23)
      (.seq (.reg [⟨(some 24), .mv (.t 5), none⟩,
        ⟨(some 4), .mv (.t 24), none⟩])
      .ret)
      .skip)))
    .skip))
  (.seq (.seq (.reg [⟨(some 25), .fa 4 (.t 2), none⟩,
    ⟨(some 26), .ld false 1 (.t 25), none⟩,
    ⟨(some 27), .call (.k (.w (.fn 189 []))) [(.t 26), (.k (.w (.fn 190 [])))], none⟩])
  (.cond (.t 27)
    (.seq (.reg [⟨(some 4), .mv (.k (.w (.d (.s (.int .i64 3))))), none⟩])
    .ret)
    .skip))
  (.seq (.seq (.reg [⟨(some 28), .fa 4 (.t 2), none⟩,
    ⟨(some 29), .ld false 1 (.t 28), none⟩,
    ⟨(some 30), .lenl (.t 29), none⟩,
    ⟨(some 31), .bin .eql .one (.t 30) (.k (.w (.d (.s (.int .i64 0))))), none⟩,
    ⟨(some 32), .mv (.t 31), none⟩,
    ⟨(some 33), .fa 5 (.t 2), (some (32, true))⟩,
    ⟨(some 34), .ld false 1 (.t 33), (some (32, true))⟩,
    ⟨(some 35), .lenl (.t 34), (some (32, true))⟩,
    ⟨(some 36), .bin .eql .one (.t 35) (.k (.w (.d (.s (.int .i64 0))))), (some (32, true))⟩,
    ⟨(some 37), .pick (.t 32) (.t 36) (.k (.w (.d (.s (.bool false))))), none⟩])
  (.cond (.t 37)
    (.seq (.reg [⟨(some 4), .mv (.k (.w (.d (.s (.int .i64 5))))), none⟩])
    .ret)
    .skip))
  (.seq (.seq (.reg [⟨(some 38), .fa 5 (.t 2), none⟩,
    ⟨(some 39), .ld false 1 (.t 38), none⟩,
    ⟨(some 40), .lenl (.t 39), none⟩,
    ⟨(some 41), .mv (.k (.w (.d (.s (.int .i64 0))))), none⟩])
  (.block 0
    F172_L0))
  (.seq (.reg [⟨(some 4), .mv (.k (.w (.d (.s (.int .i64 0))))), none⟩])
  .ret)))))))⟩

/- (loop.example/stile/impl.Net).none -/
def F173 : Fn := ⟨17, [.tmp 2],
  (.seq (.reg [⟨(some 1), .box 4 (.t 0), none⟩,
    ⟨(some 2), .mv (.k (.w (.d (.s (.bool false))))), none⟩])
  (.seq (.reg [⟨(some 3), .fa 0 (.t 1), none⟩,
    ⟨(some 4), .ld false 1 (.t 3), none⟩,
    ⟨(some 5), .bin .eql .one (.t 4) (.k (.w (.d (.s (.int .i64 0))))), none⟩,
    ⟨(some 6), .mv (.t 5), none⟩,
    ⟨(some 7), .fa 1 (.t 1), (some (6, true))⟩,
    ⟨(some 8), .ld true 2 (.t 7), (some (6, true))⟩,
    ⟨(some 9), .call (.k (.w (.fn 138 []))) [(.t 8)], (some (6, true))⟩,
    ⟨(some 10), .pick (.t 6) (.t 9) (.k (.w (.d (.s (.bool false))))), none⟩,
    ⟨(some 11), .mv (.t 10), none⟩,
    ⟨(some 12), .fa 3 (.t 1), (some (11, true))⟩,
    ⟨(some 13), .ld false 1 (.t 12), (some (11, true))⟩,
    ⟨(some 14), .lenl (.t 13), (some (11, true))⟩,
    ⟨(some 15), .bin .eql .one (.t 14) (.k (.w (.d (.s (.int .i64 0))))), (some (11, true))⟩,
    ⟨(some 16), .pick (.t 11) (.t 15) (.k (.w (.d (.s (.bool false))))), none⟩,
    ⟨(some 2), .mv (.t 16), none⟩])
  .ret))⟩

/- (loop.example/stile/impl.Net).size -/
def F118_B0 : C :=
  (.seq (.reg [⟨(some 10), .bin .lss .one (.t 9) (.t 8), none⟩])
  (.seq (.cond (.t 10)
    .skip
    (.exit 0))
  (.seq (.block 1
    (.seq (.reg [⟨(some 11), .ia 4 (.t 7) (.t 9), none⟩,
      ⟨(some 12), .ld true 4 (.t 11), none⟩,
      ⟨(some 5), .new [(.d (.s (.int .i64 0))), (.d (.s (.int .i64 0))), .nil, .nil], none⟩,
      ⟨none, .st 4 (.t 5) (.t 12), none⟩])
    (.reg [⟨(some 13), .mv (.t 3), none⟩,
      ⟨(some 14), .ld true 4 (.t 5), none⟩,
      ⟨(some 15), .call (.k (.w (.fn 118 []))) [(.t 14)], none⟩,
      ⟨(some 16), .bin .add .one (.t 13) (.t 15), none⟩,
      ⟨(some 3), .mv (.t 16), none⟩])))
  (.reg [⟨(some 17), .bin .add .one (.t 9) (.k (.w (.d (.s (.int .i64 1))))), none⟩,
    ⟨(some 9), .mv (.t 17), none⟩]))))
def F118_L0 : C := .loop F118_B0
def F118 : Fn := ⟨19, [.tmp 2],
  (.seq (.reg [⟨(some 1), .box 4 (.t 0), none⟩,
    ⟨(some 2), .mv (.k (.w (.d (.s (.int .i64 0))))), none⟩])
  (.seq (.reg [⟨(some 3), .mv (.k (.w (.d (.s (.int .i64 1))))), none⟩])
  (.seq (.seq (.reg [⟨(some 6), .fa 3 (.t 1), none⟩,
    ⟨(some 7), .ld false 1 (.t 6), none⟩,
    ⟨(some 8), .lenl (.t 7), none⟩,
    ⟨(some 9), .mv (.k (.w (.d (.s (.int .i64 0))))), none⟩])
  (.block 0
    F118_L0))
  (.seq (.reg [⟨(some 18), .mv (.t 3), none⟩,
    ⟨(some 2), .mv (.t 18), none⟩])
  .ret))))⟩

/- loop.example/stile/laws.szArm -/
def F248 : Fn := ⟨24, [.tmp 4],
  (.seq (.reg [⟨(some 2), .box 6 (.t 0), none⟩,
    ⟨(some 4), .mv (.k (.w (.d (.s (.int .i64 0))))), none⟩])
  (.seq (.reg [⟨(some 5), .fa 0 (.t 2), none⟩,
    ⟨(some 6), .ld true 4 (.t 5), none⟩,
    ⟨(some 7), .mv (.t 1), none⟩,
    ⟨(some 8), .call (.k (.w (.fn 220 []))) [(.t 6), (.t 7)], none⟩,
    ⟨(some 1), .mv (.t 8), none⟩])
  (.seq (.seq (.reg [⟨(some 9), .mv (.t 1), none⟩,
    ⟨(some 10), .bin .lss .one (.t 9) (.k (.w (.d (.s (.int .i64 0))))), none⟩])
  (.cond (.t 10)
    (.seq (.reg [⟨(some 4), .mv (.k (.w (.d (.s (.int .i64 (-1)))))), none⟩])
    .ret)
    .skip))
  (.seq (.reg [⟨(some 11), .fa 4 (.t 2), none⟩,
    ⟨(some 12), .ld false 1 (.t 11), none⟩,
    ⟨(some 13), .mv (.t 1), none⟩,
    ⟨(some 14), .call (.k (.w (.fn 251 []))) [(.t 12), (.t 13)], none⟩,
    ⟨(some 1), .mv (.t 14), none⟩])
  (.seq (.seq (.reg [⟨(some 15), .mv (.t 1), none⟩,
    ⟨(some 16), .bin .lss .one (.t 15) (.k (.w (.d (.s (.int .i64 0))))), none⟩])
  (.cond (.t 16)
    (.seq (.reg [⟨(some 4), .mv (.k (.w (.d (.s (.int .i64 (-1)))))), none⟩])
    .ret)
    .skip))
  (.seq (.reg [⟨(some 17), .fa 5 (.t 2), none⟩,
    ⟨(some 18), .ld false 1 (.t 17), none⟩,
    ⟨(some 19), .mv (.t 1), none⟩,
    ⟨(some 20), .call (.k (.w (.fn 244 []))) [(.t 18), (.t 19)], none⟩,
    ⟨(some 1), .mv (.t 20), none⟩])
  (.seq (.seq (.reg [⟨(some 21), .mv (.t 1), none⟩,
    ⟨(some 22), .bin .lss .one (.t 21) (.k (.w (.d (.s (.int .i64 0))))), none⟩])
  (.cond (.t 22)
    (.seq (.reg [⟨(some 4), .mv (.k (.w (.d (.s (.int .i64 (-1)))))), none⟩])
    .ret)
    .skip))
  (.seq (.reg [⟨(some 23), .mv (.t 1), none⟩,
    ⟨(some 4), .mv (.t 23), none⟩])
  .ret))))))))⟩

/- loop.example/stile/laws.toArm -/
def F249 : Fn := ⟨17, [.cell 2 true 6],
  (.seq (.reg [⟨(some 1), .box 6 (.t 0), none⟩,
    ⟨(some 2), .new [(.d (.s (.int .i64 0))), (.d (.s (.int .i64 0))), .nil, .nil, .nil, .nil], none⟩])
  (.seq (.reg [⟨(some 3), .new [(.d (.s (.int .i64 0))), (.d (.s (.int .i64 0))), .nil, .nil, .nil, .nil], none⟩])
  (.seq (.reg [⟨(some 4), .fa 0 (.t 1), none⟩,
    ⟨(some 5), .ld true 4 (.t 4), none⟩,
    ⟨(some 6), .call (.k (.w (.fn 221 []))) [(.t 5)], none⟩,
    ⟨(some 7), .fa 0 (.t 3), none⟩,
    ⟨none, .st 4 (.t 7) (.t 6), none⟩])
  (.seq (.reg [⟨(some 8), .fa 4 (.t 1), none⟩,
    ⟨(some 9), .ld false 1 (.t 8), none⟩,
    ⟨(some 10), .call (.k (.w (.fn 252 []))) [(.t 9)], none⟩,
    ⟨(some 11), .fa 4 (.t 3), none⟩,
    ⟨none, .st 1 (.t 11) (.t 10), none⟩])
  (.seq (.reg [⟨(some 12), .fa 5 (.t 1), none⟩,
    ⟨(some 13), .ld false 1 (.t 12), none⟩,
    ⟨(some 14), .call (.k (.w (.fn 245 []))) [(.t 13)], none⟩,
    ⟨(some 15), .fa 5 (.t 3), none⟩,
    ⟨none, .st 1 (.t 15) (.t 14), none⟩])
  (.seq (.reg [⟨(some 16), .ld true 6 (.t 3), none⟩,
    ⟨none, .st 6 (.t 2) (.t 16), none⟩])
  .ret))))))⟩

/- loop.example/stile/laws.eqArm -/
def F250 : Fn := ⟨23, [.tmp 4],
  (.seq (.reg [⟨(some 2), .box 6 (.t 0), none⟩,
    ⟨(some 3), .box 6 (.t 1), none⟩,
    ⟨(some 4), .mv (.k (.w (.d (.s (.bool false))))), none⟩])
  (.seq (.seq (.reg [⟨(some 5), .fa 0 (.t 2), none⟩,
    ⟨(some 6), .ld true 4 (.t 5), none⟩,
    ⟨(some 7), .fa 0 (.t 3), none⟩,
    ⟨(some 8), .ld true 4 (.t 7), none⟩,
    ⟨(some 9), .call (.k (.w (.fn 223 []))) [(.t 6), (.t 8)], none⟩,
    ⟨(some 10), .un .not (.t 9), none⟩])
  (.cond (.t 10)
    (.seq (.reg [⟨(some 4), .mv (.k (.w (.d (.s (.bool false))))), none⟩])
    .ret)
    .skip))
  (.seq (.seq (.reg [⟨(some 11), .fa 4 (.t 2), none⟩,
    ⟨(some 12), .ld false 1 (.t 11), none⟩,
    ⟨(some 13), .fa 4 (.t 3), none⟩,
    ⟨(some 14), .ld false 1 (.t 13), none⟩,
    ⟨(some 15), .call (.k (.w (.fn 253 []))) [(.t 12), (.t 14)], none⟩,
    ⟨(some 16), .un .not (.t 15), none⟩])
  (.cond (.t 16)
    (.seq (.reg [⟨(some 4), .mv (.k (.w (.d (.s (.bool false))))), none⟩])
    .ret)
    .skip))
  (.seq (.seq (.reg [⟨(some 17), .fa 5 (.t 2), none⟩,
    ⟨(some 18), .ld false 1 (.t 17), none⟩,
    ⟨(some 19), .fa 5 (.t 3), none⟩,
    ⟨(some 20), .ld false 1 (.t 19), none⟩,
    ⟨(some 21), .call (.k (.w (.fn 247 []))) [(.t 18), (.t 20)], none⟩,
    ⟨(some 22), .un .not (.t 21), none⟩])
  (.cond (.t 22)
    (.seq (.reg [⟨(some 4), .mv (.k (.w (.d (.s (.bool false))))), none⟩])
    .ret)
    .skip))
  (.seq (.reg [⟨(some 4), .mv (.k (.w (.d (.s (.bool true))))), none⟩])
  .ret)))))⟩

/- loop.example/stile/laws.markDevArgS -/
def F239_B0 : C :=
  (.seq (.seq (.reg [⟨(some 6), .mv (.t 5), none⟩,
    ⟨(some 7), .mv (.t 0), none⟩,
    ⟨(some 8), .lenl (.t 7), none⟩,
    ⟨(some 9), .bin .lss .one (.t 6) (.t 8), none⟩])
  (.cond (.t 9)
    .skip
    (.exit 0)))
  (.seq (.block 1
    (.seq (.reg [⟨(some 12), .mv (.t 0), none⟩,
      ⟨(some 13), .mv (.t 5), none⟩,
      ⟨(some 14), .mv (.t 1), none⟩,
      ⟨(some 15), .ia 3 (.t 12) (.t 13), none⟩,
      ⟨(some 16), .fa 0 (.t 15), none⟩,
      ⟨none, .st 1 (.t 16) (.t 14), none⟩])
    (.seq (.reg [⟨(some 17), .mv (.t 1), none⟩,
      ⟨(some 18), .bin .add .one (.t 17) (.k (.w (.d (.s (.int .i64 1))))), none⟩,
      ⟨(some 1), .mv (.t 18), none⟩])
    (.seq (.reg [⟨(some 19), .mv (.t 0), none⟩,
      ⟨(some 20), .mv (.t 5), none⟩,
      ⟨(some 21), .mv (.t 1), none⟩,
      ⟨(some 22), .ia 3 (.t 19) (.t 20), none⟩,
      ⟨(some 23), .fa 1 (.t 22), none⟩,
      ⟨none, .st 1 (.t 23) (.t 21), none⟩])
    (.seq (.reg [⟨(some 24), .mv (.t 1), none⟩,
      ⟨(some 25), .bin .add .one (.t 24) (.k (.w (.d (.s (.int .i64 1))))), none⟩,
      ⟨(some 1), .mv (.t 25), none⟩])
    (.seq (.reg [⟨(some 26), .mv (.t 0), none⟩,
      ⟨(some 27), .mv (.t 5), none⟩,
      ⟨(some 28), .mv (.t 1), none⟩,
      ⟨(some 29), .ia 3 (.t 26) (.t 27), none⟩,
      ⟨(some 30), .fa 2 (.t 29), none⟩,
      ⟨none, .st 1 (.t 30) (.t 28), none⟩])
    (.reg [⟨(some 31), .mv (.t 1), none⟩,
      ⟨(some 32), .bin .add .one (.t 31) (.k (.w (.d (.s (.int .i64 1))))), none⟩,
      ⟨(some 1), .mv (.t 32), none⟩])))))))
  (.reg [⟨(some 10), .mv (.t 5), none⟩,
    ⟨(some 11), .bin .add .one (.t 10) (.k (.w (.d (.s (.int .i64 1))))), none⟩,
    ⟨(some 5), .mv (.t 11), none⟩])))
def F239_L0 : C := .loop F239_B0
def F239 : Fn := ⟨34, [.tmp 4],
  (.seq (.reg [⟨(some 4), .mv (.k (.w (.d (.s (.int .i64 0))))), none⟩])
  (.seq (.seq (.reg [⟨(some 5), .mv (.k (.w (.d (.s (.int .i64 0))))), none⟩])
  (.block 0
    F239_L0))
  (.seq (.reg [⟨(some 33), .mv (.t 1), none⟩,
    ⟨(some 4), .mv (.t 33), none⟩])
  .ret)))⟩

/- loop.example/stile/laws.markNetS -/
def F233_B0 : C :=
  (.seq (.seq (.reg [⟨(some 6), .mv (.t 5), none⟩,
    ⟨(some 7), .mv (.t 0), none⟩,
    ⟨(some 8), .lenl (.t 7), none⟩,
    ⟨(some 9), .bin .lss .one (.t 6) (.t 8), none⟩])
  (.cond (.t 9)
    .skip
    (.exit 0)))
  (.seq (.block 1
    (.seq (.reg [⟨(some 12), .mv (.t 0), none⟩,
      ⟨(some 13), .mv (.t 5), none⟩,
      ⟨(some 14), .mv (.t 1), none⟩,
      ⟨(some 15), .ia 4 (.t 12) (.t 13), none⟩,
      ⟨(some 16), .fa 0 (.t 15), none⟩,
      ⟨none, .st 1 (.t 16) (.t 14), none⟩])
    (.seq (.reg [⟨(some 17), .mv (.t 1), none⟩,
      ⟨(some 18), .bin .add .one (.t 17) (.k (.w (.d (.s (.int .i64 1))))), none⟩,
      ⟨(some 1), .mv (.t 18), none⟩])
    (.seq (.reg [⟨(some 19), .mv (.t 0), none⟩,
      ⟨(some 20), .mv (.t 5), none⟩,
      ⟨(some 21), .mv (.t 1), none⟩,
      ⟨(some 22), .ia 4 (.t 19) (.t 20), none⟩,
      ⟨(some 23), .fa 1 (.t 22), none⟩,
      ⟨(some 24), .fa 0 (.t 23), none⟩,
      ⟨none, .st 1 (.t 24) (.t 21), none⟩])
    (.seq (.reg [⟨(some 25), .mv (.t 1), none⟩,
      ⟨(some 26), .bin .add .one (.t 25) (.k (.w (.d (.s (.int .i64 1))))), none⟩,
      ⟨(some 1), .mv (.t 26), none⟩])
    (.seq (.reg [⟨(some 27), .mv (.t 0), none⟩,
      ⟨(some 28), .mv (.t 5), none⟩,
      ⟨(some 29), .ia 4 (.t 27) (.t 28), none⟩,
      ⟨(some 30), .fa 1 (.t 29), none⟩,
      ⟨(some 31), .fa 1 (.t 30), none⟩,
      ⟨(some 32), .ld false 1 (.t 31), none⟩,
      ⟨(some 33), .mv (.t 1), none⟩,
      ⟨(some 34), .call (.k (.w (.fn 239 []))) [(.t 32), (.t 33)], none⟩,
      ⟨(some 1), .mv (.t 34), none⟩])
    (.reg [⟨(some 35), .mv (.t 0), none⟩,
      ⟨(some 36), .mv (.t 5), none⟩,
      ⟨(some 37), .ia 4 (.t 35) (.t 36), none⟩,
      ⟨(some 38), .fa 3 (.t 37), none⟩,
      ⟨(some 39), .ld false 1 (.t 38), none⟩,
      ⟨(some 40), .mv (.t 1), none⟩,
      ⟨(some 41), .call (.k (.w (.fn 233 []))) [(.t 39), (.t 40)], none⟩,
      ⟨(some 1), .mv (.t 41), none⟩])))))))
  (.reg [⟨(some 10), .mv (.t 5), none⟩,
    ⟨(some 11), .bin .add .one (.t 10) (.k (.w (.d (.s (.int .i64 1))))), none⟩,
    ⟨(some 5), .mv (.t 11), none⟩])))
def F233_L0 : C := .loop F233_B0
def F233 : Fn := ⟨43, [.tmp 4],
  (.seq (.reg [⟨(some 4), .mv (.k (.w (.d (.s (.int .i64 0))))), none⟩])
  (.seq (.seq (.reg [⟨(some 5), .mv (.k (.w (.d (.s (.int .i64 0))))), none⟩])
  (.block 0
    F233_L0))
  (.seq (.reg [⟨(some 42), .mv (.t 1), none⟩,
    ⟨(some 4), .mv (.t 42), none⟩])
  .ret)))⟩

/- loop.example/stile/laws.markElemS -/
def F257_B0 : C :=
  (.seq (.seq (.reg [⟨(some 6), .mv (.t 5), none⟩,
    ⟨(some 7), .mv (.t 0), none⟩,
    ⟨(some 8), .lenl (.t 7), none⟩,
    ⟨(some 9), .bin .lss .one (.t 6) (.t 8), none⟩])
  (.cond (.t 9)
    .skip
    (.exit 0)))
  (.seq (.block 1
    (.seq (.reg [⟨(some 12), .mv (.t 0), none⟩,
      ⟨(some 13), .mv (.t 5), none⟩,
      ⟨(some 14), .mv (.t 1), none⟩,
      ⟨(some 15), .ia 2 (.t 12) (.t 13), none⟩,
      ⟨(some 16), .fa 0 (.t 15), none⟩,
      ⟨none, .st 1 (.t 16) (.t 14), none⟩])
    (.seq (.reg [⟨(some 17), .mv (.t 1), none⟩,
      ⟨(some 18), .bin .add .one (.t 17) (.k (.w (.d (.s (.int .i64 1))))), none⟩,
      ⟨(some 1), .mv (.t 18), none⟩])
    (.reg [⟨(some 19), .mv (.t 0), none⟩,
      ⟨(some 20), .mv (.t 5), none⟩,
      ⟨(some 21), .ia 2 (.t 19) (.t 20), none⟩,
      ⟨(some 22), .fa 1 (.t 21), none⟩,
      ⟨(some 23), .ld false 1 (.t 22), none⟩,
      ⟨(some 24), .mv (.t 1), none⟩,
      ⟨(some 25), .call (.k (.w (.fn 239 []))) [(.t 23), (.t 24)], none⟩,
      ⟨(some 1), .mv (.t 25), none⟩]))))
  (.reg [⟨(some 10), .mv (.t 5), none⟩,
    ⟨(some 11), .bin .add .one (.t 10) (.k (.w (.d (.s (.int .i64 1))))), none⟩,
    ⟨(some 5), .mv (.t 11), none⟩])))
def F257_L0 : C := .loop F257_B0
def F257 : Fn := ⟨27, [.tmp 4],
  (.seq (.reg [⟨(some 4), .mv (.k (.w (.d (.s (.int .i64 0))))), none⟩])
  (.seq (.seq (.reg [⟨(some 5), .mv (.k (.w (.d (.s (.int .i64 0))))), none⟩])
  (.block 0
    F257_L0))
  (.seq (.reg [⟨(some 26), .mv (.t 1), none⟩,
    ⟨(some 4), .mv (.t 26), none⟩])
  .ret)))⟩

/- loop.example/stile/laws.heldDevArgS -/
def F240_B0 : C :=
  (.seq (.seq (.reg [⟨(some 6), .mv (.t 5), none⟩,
    ⟨(some 7), .mv (.t 0), none⟩,
    ⟨(some 8), .lenl (.t 7), none⟩,
    ⟨(some 9), .bin .lss .one (.t 6) (.t 8), none⟩])
  (.cond (.t 9)
    .skip
    (.exit 0)))
  (.seq (.block 1
    (.seq (.seq (.reg [⟨(some 12), .mv (.t 0), none⟩,
      ⟨(some 13), .mv (.t 5), none⟩,
      ⟨(some 14), .ia 3 (.t 12) (.t 13), none⟩,
      ⟨(some 15), .fa 0 (.t 14), none⟩,
      ⟨(some 16), .ld false 1 (.t 15), none⟩,
      ⟨(some 17), .mv (.t 1), none⟩,
      ⟨(some 18), .bin .neq .one (.t 16) (.t 17), none⟩])
    (.cond (.t 18)
      (.seq (.reg [⟨(some 4), .mv (.k (.w (.d (.s (.int .i64 (-1)))))), none⟩])
      .ret)
      .skip))
    (.seq (.reg [⟨(some 19), .mv (.t 1), none⟩,
      ⟨(some 20), .bin .add .one (.t 19) (.k (.w (.d (.s (.int .i64 1))))), none⟩,
      ⟨(some 1), .mv (.t 20), none⟩])
    (.seq (.seq (.reg [⟨(some 21), .mv (.t 0), none⟩,
      ⟨(some 22), .mv (.t 5), none⟩,
      ⟨(some 23), .ia 3 (.t 21) (.t 22), none⟩,
      ⟨(some 24), .fa 1 (.t 23), none⟩,
      ⟨(some 25), .ld false 1 (.t 24), none⟩,
      ⟨(some 26), .mv (.t 1), none⟩,
      ⟨(some 27), .bin .neq .one (.t 25) (.t 26), none⟩])
    (.cond (.t 27)
      (.seq (.reg [⟨(some 4), .mv (.k (.w (.d (.s (.int .i64 (-1)))))), none⟩])
      .ret)
      .skip))
    (.seq (.reg [⟨(some 28), .mv (.t 1), none⟩,
      ⟨(some 29), .bin .add .one (.t 28) (.k (.w (.d (.s (.int .i64 1))))), none⟩,
      ⟨(some 1), .mv (.t 29), none⟩])
    (.seq (.seq (.reg [⟨(some 30), .mv (.t 0), none⟩,
      ⟨(some 31), .mv (.t 5), none⟩,
      ⟨(some 32), .ia 3 (.t 30) (.t 31), none⟩,
      ⟨(some 33), .fa 2 (.t 32), none⟩,
      ⟨(some 34), .ld false 1 (.t 33), none⟩,
      ⟨(some 35), .mv (.t 1), none⟩,
      ⟨(some 36), .bin .neq .one (.t 34) (.t 35), none⟩])
    (.cond (.t 36)
      (.seq (.reg [⟨(some 4), .mv (.k (.w (.d (.s (.int .i64 (-1)))))), none⟩])
      .ret)
      .skip))
    (.reg [⟨(some 37), .mv (.t 1), none⟩,
      ⟨(some 38), .bin .add .one (.t 37) (.k (.w (.d (.s (.int .i64 1))))), none⟩,
      ⟨(some 1), .mv (.t 38), none⟩])))))))
  (.reg [⟨(some 10), .mv (.t 5), none⟩,
    ⟨(some 11), .bin .add .one (.t 10) (.k (.w (.d (.s (.int .i64 1))))), none⟩,
    ⟨(some 5), .mv (.t 11), none⟩])))
def F240_L0 : C := .loop F240_B0
def F240 : Fn := ⟨40, [.tmp 4],
  (.seq (.reg [⟨(some 4), .mv (.k (.w (.d (.s (.int .i64 0))))), none⟩])
  (.seq (.seq (.reg [⟨(some 5), .mv (.k (.w (.d (.s (.int .i64 0))))), none⟩])
  (.block 0
    F240_L0))
  (.seq (.reg [⟨(some 39), .mv (.t 1), none⟩,
    ⟨(some 4), .mv (.t 39), none⟩])
  .ret)))⟩

/- loop.example/stile/laws.heldNetS -/
def F235_B0 : C :=
  (.seq (.seq (.reg [⟨(some 6), .mv (.t 5), none⟩,
    ⟨(some 7), .mv (.t 0), none⟩,
    ⟨(some 8), .lenl (.t 7), none⟩,
    ⟨(some 9), .bin .lss .one (.t 6) (.t 8), none⟩])
  (.cond (.t 9)
    .skip
    (.exit 0)))
  (.seq (.block 1
    (.seq (.seq (.reg [⟨(some 12), .mv (.t 0), none⟩,
      ⟨(some 13), .mv (.t 5), none⟩,
      ⟨(some 14), .ia 4 (.t 12) (.t 13), none⟩,
      ⟨(some 15), .fa 0 (.t 14), none⟩,
      ⟨(some 16), .ld false 1 (.t 15), none⟩,
      ⟨(some 17), .mv (.t 1), none⟩,
      ⟨(some 18), .bin .neq .one (.t 16) (.t 17), none⟩])
    (.cond (.t 18)
      (.seq (.reg [⟨(some 4), .mv (.k (.w (.d (.s (.int .i64 (-1)))))), none⟩])
      .ret)
      .skip))
    (.seq (.reg [⟨(some 19), .mv (.t 1), none⟩,
      ⟨(some 20), .bin .add .one (.t 19) (.k (.w (.d (.s (.int .i64 1))))), none⟩,
      ⟨(some 1), .mv (.t 20), none⟩])
    (.seq (.seq (.reg [⟨(some 21), .mv (.t 0), none⟩,
      ⟨(some 22), .mv (.t 5), none⟩,
      ⟨(some 23), .ia 4 (.t 21) (.t 22), none⟩,
      ⟨(some 24), .fa 1 (.t 23), none⟩,
      ⟨(some 25), .fa 0 (.t 24), none⟩,
      ⟨(some 26), .ld false 1 (.t 25), none⟩,
      ⟨(some 27), .mv (.t 1), none⟩,
      ⟨(some 28), .bin .neq .one (.t 26) (.t 27), none⟩])
    (.cond (.t 28)
      (.seq (.reg [⟨(some 4), .mv (.k (.w (.d (.s (.int .i64 (-1)))))), none⟩])
      .ret)
      .skip))
    (.seq (.reg [⟨(some 29), .mv (.t 1), none⟩,
      ⟨(some 30), .bin .add .one (.t 29) (.k (.w (.d (.s (.int .i64 1))))), none⟩,
      ⟨(some 1), .mv (.t 30), none⟩])
    (.seq (.reg [⟨(some 31), .mv (.t 0), none⟩,
      ⟨(some 32), .mv (.t 5), none⟩,
      ⟨(some 33), .ia 4 (.t 31) (.t 32), none⟩,
      ⟨(some 34), .fa 1 (.t 33), none⟩,
      ⟨(some 35), .fa 1 (.t 34), none⟩,
      ⟨(some 36), .ld false 1 (.t 35), none⟩,
      ⟨(some 37), .mv (.t 1), none⟩,
      ⟨(some 38), .call (.k (.w (.fn 240 []))) [(.t 36), (.t 37)], none⟩,
      ⟨(some 1), .mv (.t 38), none⟩])
    (.seq (.seq (.reg [⟨(some 39), .mv (.t 1), none⟩,
      ⟨(some 40), .bin .lss .one (.t 39) (.k (.w (.d (.s (.int .i64 0))))), none⟩])
    (.cond (.t 40)
      (.seq (.reg [⟨(some 4), .mv (.k (.w (.d (.s (.int .i64 (-1)))))), none⟩])
      .ret)
      .skip))
    (.seq (.reg [⟨(some 41), .mv (.t 0), none⟩,
      ⟨(some 42), .mv (.t 5), none⟩,
      ⟨(some 43), .ia 4 (.t 41) (.t 42), none⟩,
      ⟨(some 44), .fa 3 (.t 43), none⟩,
      ⟨(some 45), .ld false 1 (.t 44), none⟩,
      ⟨(some 46), .mv (.t 1), none⟩,
      ⟨(some 47), .call (.k (.w (.fn 235 []))) [(.t 45), (.t 46)], none⟩,
      ⟨(some 1), .mv (.t 47), none⟩])
    (.seq (.reg [⟨(some 48), .mv (.t 1), none⟩,
      ⟨(some 49), .bin .lss .one (.t 48) (.k (.w (.d (.s (.int .i64 0))))), none⟩])
    (.cond (.t 49)
      (.seq (.reg [⟨(some 4), .mv (.k (.w (.d (.s (.int .i64 (-1)))))), none⟩])
      .ret)
      .skip))))))))))
  (.reg [⟨(some 10), .mv (.t 5), none⟩,
    ⟨(some 11), .bin .add .one (.t 10) (.k (.w (.d (.s (.int .i64 1))))), none⟩,
    ⟨(some 5), .mv (.t 11), none⟩])))
def F235_L0 : C := .loop F235_B0
def F235 : Fn := ⟨51, [.tmp 4],
  (.seq (.reg [⟨(some 4), .mv (.k (.w (.d (.s (.int .i64 0))))), none⟩])
  (.seq (.seq (.reg [⟨(some 5), .mv (.k (.w (.d (.s (.int .i64 0))))), none⟩])
  (.block 0
    F235_L0))
  (.seq (.reg [⟨(some 50), .mv (.t 1), none⟩,
    ⟨(some 4), .mv (.t 50), none⟩])
  .ret)))⟩

/- loop.example/stile/laws.heldElemS -/
def F258_B0 : C :=
  (.seq (.seq (.reg [⟨(some 6), .mv (.t 5), none⟩,
    ⟨(some 7), .mv (.t 0), none⟩,
    ⟨(some 8), .lenl (.t 7), none⟩,
    ⟨(some 9), .bin .lss .one (.t 6) (.t 8), none⟩])
  (.cond (.t 9)
    .skip
    (.exit 0)))
  (.seq (.block 1
    (.seq (.seq (.reg [⟨(some 12), .mv (.t 0), none⟩,
      ⟨(some 13), .mv (.t 5), none⟩,
      ⟨(some 14), .ia 2 (.t 12) (.t 13), none⟩,
      ⟨(some 15), .fa 0 (.t 14), none⟩,
      ⟨(some 16), .ld false 1 (.t 15), none⟩,
      ⟨(some 17), .mv (.t 1), none⟩,
      ⟨(some 18), .bin .neq .one (.t 16) (.t 17), none⟩])
    (.cond (.t 18)
      (.seq (.reg [⟨(some 4), .mv (.k (.w (.d (.s (.int .i64 (-1)))))), none⟩])
      .ret)
      .skip))
    (.seq (.reg [⟨(some 19), .mv (.t 1), none⟩,
      ⟨(some 20), .bin .add .one (.t 19) (.k (.w (.d (.s (.int .i64 1))))), none⟩,
      ⟨(some 1), .mv (.t 20), none⟩])
    (.seq (.reg [⟨(some 21), .mv (.t 0), none⟩,
      ⟨(some 22), .mv (.t 5), none⟩,
      ⟨(some 23), .ia 2 (.t 21) (.t 22), none⟩,
      ⟨(some 24), .fa 1 (.t 23), none⟩,
      ⟨(some 25), .ld false 1 (.t 24), none⟩,
      ⟨(some 26), .mv (.t 1), none⟩,
      ⟨(some 27), .call (.k (.w (.fn 240 []))) [(.t 25), (.t 26)], none⟩,
      ⟨(some 1), .mv (.t 27), none⟩])
    (.seq (.reg [⟨(some 28), .mv (.t 1), none⟩,
      ⟨(some 29), .bin .lss .one (.t 28) (.k (.w (.d (.s (.int .i64 0))))), none⟩])
    (.cond (.t 29)
      (.seq (.reg [⟨(some 4), .mv (.k (.w (.d (.s (.int .i64 (-1)))))), none⟩])
      .ret)
      .skip))))))
  (.reg [⟨(some 10), .mv (.t 5), none⟩,
    ⟨(some 11), .bin .add .one (.t 10) (.k (.w (.d (.s (.int .i64 1))))), none⟩,
    ⟨(some 5), .mv (.t 11), none⟩])))
def F258_L0 : C := .loop F258_B0
def F258 : Fn := ⟨31, [.tmp 4],
  (.seq (.reg [⟨(some 4), .mv (.k (.w (.d (.s (.int .i64 0))))), none⟩])
  (.seq (.seq (.reg [⟨(some 5), .mv (.k (.w (.d (.s (.int .i64 0))))), none⟩])
  (.block 0
    F258_L0))
  (.seq (.reg [⟨(some 30), .mv (.t 1), none⟩,
    ⟨(some 4), .mv (.t 30), none⟩])
  .ret)))⟩

/- loop.example/stile/spec.l7Ladder -/
def F151_B0 : C :=
  (.seq (.seq (.reg [⟨(some 38), .mv (.t 4), none⟩,
    ⟨(some 39), .bin .gtr .one (.t 38) (.k (.w (.d (.s (.int .i64 0))))), none⟩])
  (.cond (.t 39)
    .skip
    (.exit 1)))
  (.seq (.block 2
    (.reg [⟨(some 42), .mv (.t 3), none⟩,
      ⟨(some 43), .mv (.t 0), none⟩,
      ⟨(some 44), .call (.k (.w (.fn 178 []))) [(.t 43), (.k (.w (.d (.s (.int .i64 2))))), (.k (.w (.d (.s (.bool true)))))], none⟩,
      ⟨(some 45), .bsl 6 1 [(.s (.int .i64 0)), (.s (.int .i64 0)), (.l 0 []), (.l 0 []), (.l 0 []), (.l 0 [])] [(0, (.t 44))], none⟩,
      ⟨(some 46), .app 6 112 [(.s (.int .i64 0)), (.s (.int .i64 0)), (.l 0 []), (.l 0 []), (.l 0 []), (.l 0 [])] (.t 42) (.t 45), none⟩,
      ⟨(some 3), .mv (.t 46), none⟩]))
  (.reg [⟨(some 40), .mv (.t 4), none⟩,
    ⟨(some 41), .bin .sub .one (.t 40) (.k (.w (.d (.s (.int .i64 1))))), none⟩,
    ⟨(some 4), .mv (.t 41), none⟩])))
def F151_L0 : C := .loop F151_B0
def F151_B1 : C :=
  (.seq (.seq (.reg [⟨(some 47), .mv (.t 3), none⟩,
    ⟨(some 48), .lenl (.t 47), none⟩,
    ⟨(some 49), .bin .gtr .one (.t 48) (.k (.w (.d (.s (.int .i64 0))))), none⟩,
    ⟨(some 50), .mv (.t 49), none⟩,
    ⟨(some 51), .mv (.t 3), (some (50, true))⟩,
    ⟨(some 52), .call (.k (.w (.fn 107 []))) [(.t 51)], (some (50, true))⟩,
    ⟨(some 53), .bin .gtr .one (.t 52) (.k (.w (.d (.s (.int .i64 400))))), (some (50, true))⟩,
    ⟨(some 54), .pick (.t 50) (.t 53) (.k (.w (.d (.s (.bool false))))), none⟩])
  (.cond (.t 54)
    .skip
    (.exit 3)))
  (.block 4
    (.reg [⟨(some 55), .mv (.t 3), none⟩,
      ⟨(some 56), .mv (.t 3), none⟩,
      ⟨(some 57), .lenl (.t 56), none⟩,
      ⟨(some 58), .bin .sub .one (.t 57) (.k (.w (.d (.s (.int .i64 1))))), none⟩,
      ⟨(some 59), .sl 6 (.t 55) none (some (.t 58)) none, none⟩,
      ⟨(some 3), .mv (.t 59), none⟩])))
def F151_L1 : C := .loop F151_B1
def F151 : Fn := ⟨61, [.tmp 2],
  (.seq (.reg [⟨(some 2), .mv (.k (.w .nil)), none⟩])
  (.seq (.reg [⟨(some 5), .bsl 6 0 [(.s (.int .i64 0)), (.s (.int .i64 0)), (.l 0 []), (.l 0 []), (.l 0 []), (.l 0 [])] [], none⟩,
    ⟨(some 3), .mv (.t 5), none⟩])
  (.seq (.seq (.reg [⟨(some 6), .mv (.t 0), none⟩,
    ⟨(some 7), .call (.k (.w (.fn 67 []))) [(.t 6), (.k (.w (.d (.s (.int .i64 24)))))], none⟩])
  (.block 0
    (.seq (.reg [⟨(some 9), .bin .eql .one (.t 7) (.k (.w (.d (.s (.int .i64 0))))), none⟩,
      ⟨(some 8), .mv (.t 9), none⟩])
    (.cond (.t 8)
      (.seq (.reg [⟨(some 10), .mv (.t 3), none⟩,
        ⟨(some 11), .mv (.t 0), none⟩,
        ⟨(some 12), .mv (.t 0), none⟩,
        ⟨(some 13), .bsl 1 6 [(.s (.int .i64 0))] [(0, (.k (.w (.d (.s (.int .i64 9)))))), (1, (.k (.w (.d (.s (.int .i64 15)))))), (2, (.k (.w (.d (.s (.int .i64 16)))))), (3, (.k (.w (.d (.s (.int .i64 17)))))), (4, (.k (.w (.d (.s (.int .i64 18)))))), (5, (.k (.w (.d (.s (.int .i64 30))))))], none⟩,
        ⟨(some 14), .call (.k (.w (.fn 96 []))) [(.t 12), (.t 13)], none⟩,
        ⟨(some 15), .call (.k (.w (.fn 117 []))) [(.t 11), (.t 14)], none⟩,
        ⟨(some 16), .mv (.t 0), none⟩,
        ⟨(some 17), .call (.k (.w (.fn 135 []))) [(.t 16)], none⟩,
        ⟨(some 18), .bsl 2 1 [(.s (.int .i64 0)), (.l 0 [])] [(0, (.t 17))], none⟩,
        ⟨(some 19), .bld [(.d (.s (.int .i64 0))), (.d (.s (.int .i64 0))), .nil, .nil, .nil, .nil] [(0, 4, (.t 15)), (4, 1, (.t 18))], none⟩,
        ⟨(some 20), .bsl 6 1 [(.s (.int .i64 0)), (.s (.int .i64 0)), (.l 0 []), (.l 0 []), (.l 0 []), (.l 0 [])] [(0, (.t 19))], none⟩,
        ⟨(some 21), .app 6 112 [(.s (.int .i64 0)), (.s (.int .i64 0)), (.l 0 []), (.l 0 []), (.l 0 []), (.l 0 [])] (.t 10) (.t 20), none⟩,
        ⟨(some 2), .mv (.t 21), none⟩])
      .ret)
      (.seq (.reg [⟨(some 23), .bin .eql .one (.t 7) (.k (.w (.d (.s (.int .i64 1))))), none⟩,
        ⟨(some 22), .mv (.t 23), none⟩])
      (.cond (.t 22)
        (.seq (.reg [⟨(some 24), .mv (.t 3), none⟩,
          ⟨(some 25), .mv (.t 0), none⟩,
          ⟨(some 26), .mv (.t 0), none⟩,
          ⟨(some 27), .bsl 1 5 [(.s (.int .i64 0))] [(0, (.k (.w (.d (.s (.int .i64 5)))))), (1, (.k (.w (.d (.s (.int .i64 7)))))), (2, (.k (.w (.d (.s (.int .i64 8)))))), (3, (.k (.w (.d (.s (.int .i64 9)))))), (4, (.k (.w (.d (.s (.int .i64 12))))))], none⟩,
          ⟨(some 28), .call (.k (.w (.fn 96 []))) [(.t 26), (.t 27)], none⟩,
          ⟨(some 29), .call (.k (.w (.fn 177 []))) [(.t 25), (.t 28)], none⟩,
          ⟨(some 30), .bsl 6 1 [(.s (.int .i64 0)), (.s (.int .i64 0)), (.l 0 []), (.l 0 []), (.l 0 []), (.l 0 [])] [(0, (.t 29))], none⟩,
          ⟨(some 31), .app 6 112 [(.s (.int .i64 0)), (.s (.int .i64 0)), (.l 0 []), (.l 0 []), (.l 0 []), (.l 0 [])] (.t 24) (.t 30), none⟩,
          ⟨(some 2), .mv (.t 31), none⟩])
        .ret)
        (.seq (.reg [⟨(some 33), .bin .eql .one (.t 7) (.k (.w (.d (.s (.int .i64 2))))), none⟩,
          ⟨(some 32), .mv (.t 33), none⟩])
        (.cond (.t 32)
          (.seq (.reg [⟨(some 34), .mv (.t 3), none⟩,
            ⟨(some 2), .mv (.t 34), none⟩])
          .ret)
          .skip))))))))
  (.seq (.seq (.reg [⟨(some 35), .mv (.t 0), none⟩,
    ⟨(some 36), .call (.k (.w (.fn 67 []))) [(.t 35), (.k (.w (.d (.s (.int .i64 4)))))], none⟩,
    ⟨(some 37), .bin .add .one (.k (.w (.d (.s (.int .i64 1))))) (.t 36), none⟩,
    ⟨(some 4), .mv (.t 37), none⟩])
  (.block 1
    F151_L0))
  (.seq (.block 3
    F151_L1)
  (.seq (.reg [⟨(some 60), .mv (.t 3), none⟩,
    ⟨(some 2), .mv (.t 60), none⟩])
  .ret))))))⟩

/- loop.example/stile/spec.l4Contact -/
def F134 : Fn := ⟨55, [.cell 2 true 2],
  (.seq (.reg [⟨(some 2), .new [(.d (.s (.int .i64 0))), .nil], none⟩])
  (.seq (.seq (.reg [⟨(some 5), .mv (.t 0), none⟩,
    ⟨(some 6), .call (.k (.w (.fn 67 []))) [(.t 5), (.k (.w (.d (.s (.int .i64 8)))))], none⟩])
  (.block 0
    (.seq (.seq (.reg [⟨(some 8), .bin .eql .one (.t 6) (.k (.w (.d (.s (.int .i64 0))))), none⟩,
      ⟨(some 7), .mv (.t 8), none⟩])
    (.cond (.t 7)
      .skip
      (.seq (.reg [⟨(some 9), .bin .eql .one (.t 6) (.k (.w (.d (.s (.int .i64 1))))), none⟩,
        ⟨(some 7), .mv (.t 9), none⟩])
      (.cond (.t 7)
        .skip
        (.reg [⟨(some 10), .bin .eql .one (.t 6) (.k (.w (.d (.s (.int .i64 2))))), none⟩,
          ⟨(some 7), .mv (.t 10), none⟩])))))
    (.cond (.t 7)
      (.seq (.reg [⟨(some 11), .mv (.t 0), none⟩,
        ⟨(some 12), .call (.k (.w (.fn 155 []))) [(.t 11)], none⟩,
        ⟨(some 13), .bsl 3 1 [(.s (.int .i64 0)), (.s (.int .i64 0)), (.s (.int .i64 0))] [(0, (.t 12))], none⟩,
        ⟨(some 14), .bld [(.d (.s (.int .i64 0))), .nil] [(0, 1, (.k (.w (.d (.s (.int .i64 1)))))), (1, 1, (.t 13))], none⟩,
        ⟨none, .st 2 (.t 2) (.t 14), none⟩])
      .ret)
      (.seq (.seq (.reg [⟨(some 16), .bin .eql .one (.t 6) (.k (.w (.d (.s (.int .i64 3))))), none⟩,
        ⟨(some 15), .mv (.t 16), none⟩])
      (.cond (.t 15)
        .skip
        (.reg [⟨(some 17), .bin .eql .one (.t 6) (.k (.w (.d (.s (.int .i64 4))))), none⟩,
          ⟨(some 15), .mv (.t 17), none⟩])))
      (.cond (.t 15)
        (.seq (.reg [⟨(some 18), .mv (.t 0), none⟩,
          ⟨(some 19), .call (.k (.w (.fn 155 []))) [(.t 18)], none⟩,
          ⟨(some 20), .bsl 3 1 [(.s (.int .i64 0)), (.s (.int .i64 0)), (.s (.int .i64 0))] [(0, (.t 19))], none⟩,
          ⟨(some 21), .bld [(.d (.s (.int .i64 0))), .nil] [(0, 1, (.k (.w (.d (.s (.int .i64 2)))))), (1, 1, (.t 20))], none⟩,
          ⟨none, .st 2 (.t 2) (.t 21), none⟩])
        .ret)
        (.seq (.reg [⟨(some 23), .bin .eql .one (.t 6) (.k (.w (.d (.s (.int .i64 5))))), none⟩,
          ⟨(some 22), .mv (.t 23), none⟩])
        (.cond (.t 22)
          (.seq (.reg [⟨(some 24), .mv (.t 0), none⟩,
            ⟨(some 25), .call (.k (.w (.fn 67 []))) [(.t 24), (.k (.w (.d (.s (.int .i64 2)))))], none⟩,
            ⟨(some 26), .bin .add .one (.k (.w (.d (.s (.int .i64 3))))) (.t 25), none⟩,
            ⟨(some 27), .mv (.t 0), none⟩,
            ⟨(some 28), .call (.k (.w (.fn 155 []))) [(.t 27)], none⟩,
            ⟨(some 29), .mv (.t 0), none⟩,
            ⟨(some 30), .call (.k (.w (.fn 153 []))) [(.t 29), (.k (.w (.d (.s (.int .i64 5)))))], none⟩,
            ⟨(some 31), .bsl 3 2 [(.s (.int .i64 0)), (.s (.int .i64 0)), (.s (.int .i64 0))] [(0, (.t 28)), (1, (.t 30))], none⟩,
            ⟨(some 32), .bld [(.d (.s (.int .i64 0))), .nil] [(0, 1, (.t 26)), (1, 1, (.t 31))], none⟩,
            ⟨none, .st 2 (.t 2) (.t 32), none⟩])
          .ret)
          .skip))))))))
  (.seq (.reg [⟨(some 33), .mv (.t 0), none⟩,
    ⟨(some 34), .call (.k (.w (.fn 156 []))) [(.t 33)], none⟩,
    ⟨(some 3), .new [(.d (.s (.int .i64 0))), (.d (.s (.int .i64 0))), (.d (.s (.int .i64 0)))], none⟩,
    ⟨none, .st 3 (.t 3) (.t 34), none⟩])
  (.seq (.reg [⟨(some 35), .mv (.t 0), none⟩,
    ⟨(some 36), .call (.k (.w (.fn 156 []))) [(.t 35)], none⟩,
    ⟨(some 4), .new [(.d (.s (.int .i64 0))), (.d (.s (.int .i64 0))), (.d (.s (.int .i64 0)))], none⟩,
    ⟨none, .st 3 (.t 4) (.t 36), none⟩])
  (.seq (.seq (.reg [⟨(some 37), .mv (.t 0), none⟩,
    ⟨(some 38), .call (.k (.w (.fn 67 []))) [(.t 37), (.k (.w (.d (.s (.int .i64 2)))))], none⟩,
    ⟨(some 39), .bin .eql .one (.t 38) (.k (.w (.d (.s (.int .i64 0))))), none⟩])
  (.cond (.t 39)
    (.seq (.reg [⟨(some 40), .mv (.t 0), none⟩,
      ⟨(some 41), .call (.k (.w (.fn 157 []))) [(.t 40)], none⟩,
      ⟨none, .st 3 (.t 3) (.t 41), none⟩])
    (.reg [⟨(some 42), .mv (.t 0), none⟩,
      ⟨(some 43), .call (.k (.w (.fn 157 []))) [(.t 42)], none⟩,
      ⟨none, .st 3 (.t 4) (.t 43), none⟩]))
    .skip))
  (.seq (.seq (.reg [⟨(some 44), .mv (.t 0), none⟩,
    ⟨(some 45), .call (.k (.w (.fn 67 []))) [(.t 44), (.k (.w (.d (.s (.int .i64 4)))))], none⟩,
    ⟨(some 46), .bin .eql .one (.t 45) (.k (.w (.d (.s (.int .i64 0))))), none⟩])
  (.cond (.t 46)
    (.reg [⟨(some 47), .ld true 3 (.t 3), none⟩,
      ⟨none, .st 3 (.t 4) (.t 47), none⟩])
    .skip))
  (.seq (.dreg [⟨(some 48), .mv (.t 0), none⟩,
    ⟨(some 49), .call (.k (.w (.fn 67 []))) [(.t 48), (.k (.w (.d (.s (.int .i64 6)))))], none⟩,
    ⟨(some 50), .bin .add .one (.k (.w (.d (.s (.int .i64 5))))) (.t 49), none⟩,
    ⟨(some 51), .ld true 3 (.t 3), none⟩,
    ⟨(some 52), .ld true 3 (.t 4), none⟩,
    ⟨(some 53), .bsl 3 2 [(.s (.int .i64 0)), (.s (.int .i64 0)), (.s (.int .i64 0))] [(0, (.t 51)), (1, (.t 52))], none⟩,
    ⟨(some 54), .bld [(.d (.s (.int .i64 0))), .nil] [(0, 1, (.t 50)), (1, 1, (.t 53))], none⟩,
    ⟨none, .st 2 (.t 2) (.t 54), none⟩] [0, 1, 3, 0, 0, 24, 63, 127])
  .ret)))))))⟩

/- loop.example/stile/spec.l4Coil -/
def F135 : Fn := ⟨135, [.cell 2 true 2],
  (.seq (.reg [⟨(some 2), .new [(.d (.s (.int .i64 0))), .nil], none⟩])
  (.seq (.reg [⟨(some 8), .mv (.t 0), none⟩,
    ⟨(some 9), .bsl 1 22 [(.s (.int .i64 0))] [(0, (.k (.w (.d (.s (.int .i64 21)))))), (1, (.k (.w (.d (.s (.int .i64 21)))))), (2, (.k (.w (.d (.s (.int .i64 21)))))), (3, (.k (.w (.d (.s (.int .i64 22)))))), (4, (.k (.w (.d (.s (.int .i64 23)))))), (5, (.k (.w (.d (.s (.int .i64 24)))))), (6, (.k (.w (.d (.s (.int .i64 25)))))), (7, (.k (.w (.d (.s (.int .i64 26)))))), (8, (.k (.w (.d (.s (.int .i64 26)))))), (9, (.k (.w (.d (.s (.int .i64 27)))))), (10, (.k (.w (.d (.s (.int .i64 28)))))), (11, (.k (.w (.d (.s (.int .i64 29)))))), (12, (.k (.w (.d (.s (.int .i64 29)))))), (13, (.k (.w (.d (.s (.int .i64 30)))))), (14, (.k (.w (.d (.s (.int .i64 31)))))), (15, (.k (.w (.d (.s (.int .i64 31)))))), (16, (.k (.w (.d (.s (.int .i64 32)))))), (17, (.k (.w (.d (.s (.int .i64 33)))))), (18, (.k (.w (.d (.s (.int .i64 34)))))), (19, (.k (.w (.d (.s (.int .i64 35)))))), (20, (.k (.w (.d (.s (.int .i64 36)))))), (21, (.k (.w (.d (.s (.int .i64 37))))))], none⟩,
    ⟨(some 10), .call (.k (.w (.fn 96 []))) [(.t 8), (.t 9)], none⟩,
    ⟨(some 3), .mv (.t 10), none⟩])
  (.seq (.reg [⟨(some 11), .mv (.t 0), none⟩,
    ⟨(some 12), .mv (.t 0), none⟩,
    ⟨(some 13), .call (.k (.w (.fn 67 []))) [(.t 12), (.k (.w (.d (.s (.int .i64 2)))))], none⟩,
    ⟨(some 14), .bin .add .one (.k (.w (.d (.s (.int .i64 2))))) (.t 13), none⟩,
    ⟨(some 15), .call (.k (.w (.fn 153 []))) [(.t 11), (.t 14)], none⟩,
    ⟨(some 4), .new [(.d (.s (.int .i64 0))), (.d (.s (.int .i64 0))), (.d (.s (.int .i64 0)))], none⟩,
    ⟨none, .st 3 (.t 4) (.t 15), none⟩])
  (.seq (.reg [⟨(some 16), .mv (.t 0), none⟩,
    ⟨(some 17), .call (.k (.w (.fn 153 []))) [(.t 16), (.k (.w (.d (.s (.int .i64 11)))))], none⟩,
    ⟨(some 5), .new [(.d (.s (.int .i64 0))), (.d (.s (.int .i64 0))), (.d (.s (.int .i64 0)))], none⟩,
    ⟨none, .st 3 (.t 5) (.t 17), none⟩])
  (.seq (.seq (.reg [⟨(some 18), .fa 1 (.t 5), none⟩,
    ⟨(some 19), .ld false 1 (.t 18), none⟩,
    ⟨(some 20), .bin .lss .one (.t 19) (.k (.w (.d (.s (.int .i64 0))))), none⟩])
  (.cond (.t 20)
    (.reg [⟨(some 21), .mv (.t 0), none⟩,
      ⟨(some 22), .call (.k (.w (.fn 67 []))) [(.t 21), (.k (.w (.d (.s (.int .i64 9)))))], none⟩,
      ⟨(some 23), .fa 1 (.t 5), none⟩,
      ⟨none, .st 1 (.t 23) (.t 22), none⟩])
    .skip))
  (.seq (.seq (.reg [⟨(some 24), .mv (.t 3), none⟩])
  (.block 0
    (.seq (.reg [⟨(some 26), .bin .eql .one (.t 24) (.k (.w (.d (.s (.int .i64 21))))), none⟩,
      ⟨(some 25), .mv (.t 26), none⟩])
    (.cond (.t 25)
      (.seq (.reg [⟨(some 27), .mv (.t 3), none⟩,
        ⟨(some 28), .ld true 3 (.t 4), none⟩,
        ⟨(some 29), .bsl 3 1 [(.s (.int .i64 0)), (.s (.int .i64 0)), (.s (.int .i64 0))] [(0, (.t 28))], none⟩,
        ⟨(some 30), .bld [(.d (.s (.int .i64 0))), .nil] [(0, 1, (.t 27)), (1, 1, (.t 29))], none⟩,
        ⟨none, .st 2 (.t 2) (.t 30), none⟩])
      .ret)
      (.seq (.reg [⟨(some 32), .bin .eql .one (.t 24) (.k (.w (.d (.s (.int .i64 22))))), none⟩,
        ⟨(some 31), .mv (.t 32), none⟩])
      (.cond (.t 31)
        (.seq (.reg [⟨(some 33), .mv (.t 3), none⟩,
          ⟨(some 34), .mv (.t 0), none⟩,
          ⟨(some 35), .mv (.t 0), none⟩,
          ⟨(some 36), .call (.k (.w (.fn 67 []))) [(.t 35), (.k (.w (.d (.s (.int .i64 3)))))], none⟩,
          ⟨(some 37), .bin .add .one (.k (.w (.d (.s (.int .i64 2))))) (.t 36), none⟩,
          ⟨(some 38), .call (.k (.w (.fn 153 []))) [(.t 34), (.t 37)], none⟩,
          ⟨(some 39), .bsl 3 1 [(.s (.int .i64 0)), (.s (.int .i64 0)), (.s (.int .i64 0))] [(0, (.t 38))], none⟩,
          ⟨(some 40), .bld [(.d (.s (.int .i64 0))), .nil] [(0, 1, (.t 33)), (1, 1, (.t 39))], none⟩,
          ⟨none, .st 2 (.t 2) (.t 40), none⟩])
        .ret)
        (.seq (.reg [⟨(some 42), .bin .eql .one (.t 24) (.k (.w (.d (.s (.int .i64 23))))), none⟩,
          ⟨(some 41), .mv (.t 42), none⟩])
        (.cond (.t 41)
          (.seq (.reg [⟨(some 43), .mv (.t 3), none⟩,
            ⟨(some 44), .mv (.t 0), none⟩,
            ⟨(some 45), .mv (.t 0), none⟩,
            ⟨(some 46), .bsl 1 5 [(.s (.int .i64 0))] [(0, (.k (.w (.d (.s (.int .i64 2)))))), (1, (.k (.w (.d (.s (.int .i64 3)))))), (2, (.k (.w (.d (.s (.int .i64 4)))))), (3, (.k (.w (.d (.s (.int .i64 7)))))), (4, (.k (.w (.d (.s (.int .i64 8))))))], none⟩,
            ⟨(some 47), .call (.k (.w (.fn 96 []))) [(.t 45), (.t 46)], none⟩,
            ⟨(some 48), .call (.k (.w (.fn 153 []))) [(.t 44), (.t 47)], none⟩,
            ⟨(some 49), .bsl 3 1 [(.s (.int .i64 0)), (.s (.int .i64 0)), (.s (.int .i64 0))] [(0, (.t 48))], none⟩,
            ⟨(some 50), .bld [(.d (.s (.int .i64 0))), .nil] [(0, 1, (.t 43)), (1, 1, (.t 49))], none⟩,
            ⟨none, .st 2 (.t 2) (.t 50), none⟩])
          .ret)
          (.seq (.reg [⟨(some 52), .bin .eql .one (.t 24) (.k (.w (.d (.s (.int .i64 24))))), none⟩,
            ⟨(some 51), .mv (.t 52), none⟩])
          (.cond (.t 51)
            (.seq (.dreg [⟨(some 53), .mv (.t 3), none⟩,
              ⟨(some 54), .ld true 3 (.t 4), none⟩,
              ⟨(some 55), .mv (.t 0), none⟩,
              ⟨(some 56), .call (.k (.w (.fn 153 []))) [(.t 55), (.k (.w (.d (.s (.int .i64 5)))))], none⟩,
              ⟨(some 57), .bsl 3 2 [(.s (.int .i64 0)), (.s (.int .i64 0)), (.s (.int .i64 0))] [(0, (.t 54)), (1, (.t 56))], none⟩,
              ⟨(some 58), .bld [(.d (.s (.int .i64 0))), .nil] [(0, 1, (.t 53)), (1, 1, (.t 57))], none⟩,
              ⟨none, .st 2 (.t 2) (.t 58), none⟩] [0, 0, 0, 4, 14, 31, 63])
            .ret)
            (.seq (.reg [⟨(some 60), .bin .eql .one (.t 24) (.k (.w (.d (.s (.int .i64 25))))), none⟩,
              ⟨(some 59), .mv (.t 60), none⟩])
            (.cond (.t 59)
              (.seq (.reg [⟨(some 61), .mv (.t 3), none⟩,
                ⟨(some 62), .mv (.t 0), none⟩,
                ⟨(some 63), .call (.k (.w (.fn 153 []))) [(.t 62), (.k (.w (.d (.s (.int .i64 4)))))], none⟩,
                ⟨(some 64), .bsl 3 1 [(.s (.int .i64 0)), (.s (.int .i64 0)), (.s (.int .i64 0))] [(0, (.t 63))], none⟩,
                ⟨(some 65), .bld [(.d (.s (.int .i64 0))), .nil] [(0, 1, (.t 61)), (1, 1, (.t 64))], none⟩,
                ⟨none, .st 2 (.t 2) (.t 65), none⟩])
              .ret)
              (.seq (.seq (.reg [⟨(some 67), .bin .eql .one (.t 24) (.k (.w (.d (.s (.int .i64 26))))), none⟩,
                ⟨(some 66), .mv (.t 67), none⟩])
              (.cond (.t 66)
                .skip
                (.seq (.reg [⟨(some 68), .bin .eql .one (.t 24) (.k (.w (.d (.s (.int .i64 27))))), none⟩,
                  ⟨(some 66), .mv (.t 68), none⟩])
                (.cond (.t 66)
                  .skip
                  (.reg [⟨(some 69), .bin .eql .one (.t 24) (.k (.w (.d (.s (.int .i64 28))))), none⟩,
                    ⟨(some 66), .mv (.t 69), none⟩])))))
              (.cond (.t 66)
                (.seq (.dreg [⟨(some 70), .mv (.t 3), none⟩,
                  ⟨(some 71), .mv (.t 0), none⟩,
                  ⟨(some 72), .call (.k (.w (.fn 153 []))) [(.t 71), (.k (.w (.d (.s (.int .i64 7)))))], none⟩,
                  ⟨(some 73), .ld true 3 (.t 5), none⟩,
                  ⟨(some 74), .bsl 3 2 [(.s (.int .i64 0)), (.s (.int .i64 0)), (.s (.int .i64 0))] [(0, (.t 72)), (1, (.t 73))], none⟩,
                  ⟨(some 75), .bld [(.d (.s (.int .i64 0))), .nil] [(0, 1, (.t 70)), (1, 1, (.t 74))], none⟩,
                  ⟨none, .st 2 (.t 2) (.t 75), none⟩] [0, 0, 2, 0, 14, 31, 63])
                .ret)
                (.seq (.reg [⟨(some 77), .bin .eql .one (.t 24) (.k (.w (.d (.s (.int .i64 29))))), none⟩,
                  ⟨(some 76), .mv (.t 77), none⟩])
                (.cond (.t 76)
                  (.seq (.dreg [⟨(some 78), .mv (.t 3), none⟩,
                    ⟨(some 79), .mv (.t 0), none⟩,
                    ⟨(some 80), .call (.k (.w (.fn 153 []))) [(.t 79), (.k (.w (.d (.s (.int .i64 8)))))], none⟩,
                    ⟨(some 81), .ld true 3 (.t 5), none⟩,
                    ⟨(some 82), .bsl 3 2 [(.s (.int .i64 0)), (.s (.int .i64 0)), (.s (.int .i64 0))] [(0, (.t 80)), (1, (.t 81))], none⟩,
                    ⟨(some 83), .bld [(.d (.s (.int .i64 0))), .nil] [(0, 1, (.t 78)), (1, 1, (.t 82))], none⟩,
                    ⟨none, .st 2 (.t 2) (.t 83), none⟩] [0, 0, 2, 0, 14, 31, 63])
                  .ret)
                  (.seq (.reg [⟨(some 85), .bin .eql .one (.t 24) (.k (.w (.d (.s (.int .i64 36))))), none⟩,
                    ⟨(some 84), .mv (.t 85), none⟩])
                  (.cond (.t 84)
                    (.seq (.reg [⟨(some 86), .mv (.t 3), none⟩,
                      ⟨(some 87), .mv (.t 0), none⟩,
                      ⟨(some 88), .call (.k (.w (.fn 153 []))) [(.t 87), (.k (.w (.d (.s (.int .i64 10)))))], none⟩,
                      ⟨(some 89), .mv (.t 0), none⟩,
                      ⟨(some 90), .call (.k (.w (.fn 156 []))) [(.t 89)], none⟩,
                      ⟨(some 91), .bsl 3 2 [(.s (.int .i64 0)), (.s (.int .i64 0)), (.s (.int .i64 0))] [(0, (.t 88)), (1, (.t 90))], none⟩,
                      ⟨(some 92), .bld [(.d (.s (.int .i64 0))), .nil] [(0, 1, (.t 86)), (1, 1, (.t 91))], none⟩,
                      ⟨none, .st 2 (.t 2) (.t 92), none⟩])
                    .ret)
                    (.seq (.reg [⟨(some 94), .bin .eql .one (.t 24) (.k (.w (.d (.s (.int .i64 37))))), none⟩,
                      ⟨(some 93), .mv (.t 94), none⟩])
                    (.cond (.t 93)
                      (.seq (.reg [⟨(some 95), .mv (.t 3), none⟩,
                        ⟨(some 96), .mv (.t 0), none⟩,
                        ⟨(some 97), .call (.k (.w (.fn 153 []))) [(.t 96), (.k (.w (.d (.s (.int .i64 9)))))], none⟩,
                        ⟨(some 98), .mv (.t 0), none⟩,
                        ⟨(some 99), .call (.k (.w (.fn 157 []))) [(.t 98)], none⟩,
                        ⟨(some 100), .bsl 3 2 [(.s (.int .i64 0)), (.s (.int .i64 0)), (.s (.int .i64 0))] [(0, (.t 97)), (1, (.t 99))], none⟩,
                        ⟨(some 101), .bld [(.d (.s (.int .i64 0))), .nil] [(0, 1, (.t 95)), (1, 1, (.t 100))], none⟩,
                        ⟨none, .st 2 (.t 2) (.t 101), none⟩])
                      .ret)
                      .skip))))))))))))))))))))
  (.seq (.seq (.reg [⟨(some 102), .mv (.t 3), none⟩,
    ⟨(some 103), .bin .eql .one (.t 102) (.k (.w (.d (.s (.int .i64 35))))), none⟩,
    ⟨(some 104), .mv (.t 103), none⟩,
    ⟨(some 105), .mv (.t 0), (some (104, false))⟩,
    ⟨(some 106), .call (.k (.w (.fn 67 []))) [(.t 105), (.k (.w (.d (.s (.int .i64 2)))))], (some (104, false))⟩,
    ⟨(some 107), .bin .eql .one (.t 106) (.k (.w (.d (.s (.int .i64 0))))), (some (104, false))⟩,
    ⟨(some 108), .pick (.t 104) (.k (.w (.d (.s (.bool true))))) (.t 107), none⟩])
  (.cond (.t 108)
    (.seq (.reg [⟨(some 109), .mv (.t 0), none⟩,
      ⟨(some 110), .call (.k (.w (.fn 153 []))) [(.t 109), (.k (.w (.d (.s (.int .i64 9)))))], none⟩,
      ⟨(some 111), .mv (.t 0), none⟩,
      ⟨(some 112), .call (.k (.w (.fn 156 []))) [(.t 111)], none⟩,
      ⟨(some 113), .mv (.t 0), none⟩,
      ⟨(some 114), .call (.k (.w (.fn 156 []))) [(.t 113)], none⟩,
      ⟨(some 115), .bsl 3 3 [(.s (.int .i64 0)), (.s (.int .i64 0)), (.s (.int .i64 0))] [(0, (.t 110)), (1, (.t 112)), (2, (.t 114))], none⟩,
      ⟨(some 6), .mv (.t 115), none⟩])
    (.seq (.reg [⟨(some 116), .mv (.t 3), none⟩,
      ⟨(some 117), .mv (.t 6), none⟩,
      ⟨(some 118), .mv (.t 3), none⟩,
      ⟨(some 119), .call (.k (.w (.fn 158 []))) [(.t 118)], none⟩,
      ⟨(some 120), .sl 3 (.t 117) none (some (.t 119)) none, none⟩,
      ⟨(some 121), .bld [(.d (.s (.int .i64 0))), .nil] [(0, 1, (.t 116)), (1, 1, (.t 120))], none⟩,
      ⟨none, .st 2 (.t 2) (.t 121), none⟩])
    .ret))
    .skip))
  (.seq (.reg [⟨(some 122), .mv (.t 0), none⟩,
    ⟨(some 123), .call (.k (.w (.fn 153 []))) [(.t 122), (.k (.w (.d (.s (.int .i64 10)))))], none⟩,
    ⟨(some 124), .mv (.t 0), none⟩,
    ⟨(some 125), .call (.k (.w (.fn 157 []))) [(.t 124)], none⟩,
    ⟨(some 126), .mv (.t 0), none⟩,
    ⟨(some 127), .call (.k (.w (.fn 157 []))) [(.t 126)], none⟩,
    ⟨(some 128), .bsl 3 3 [(.s (.int .i64 0)), (.s (.int .i64 0)), (.s (.int .i64 0))] [(0, (.t 123)), (1, (.t 125)), (2, (.t 127))], none⟩,
    ⟨(some 7), .mv (.t 128), none⟩])
  (.seq (.reg [⟨(some 129), .mv (.t 3), none⟩,
    ⟨(some 130), .mv (.t 7), none⟩,
    ⟨(some 131), .mv (.t 3), none⟩,
    ⟨(some 132), .call (.k (.w (.fn 158 []))) [(.t 131)], none⟩,
    ⟨(some 133), .sl 3 (.t 130) none (some (.t 132)) none, none⟩,
    ⟨(some 134), .bld [(.d (.s (.int .i64 0))), .nil] [(0, 1, (.t 129)), (1, 1, (.t 133))], none⟩,
    ⟨none, .st 2 (.t 2) (.t 134), none⟩])
  .ret)))))))))⟩

/- loop.example/stile/spec.l7SpoilArm -/
def F179 : Fn := ⟨89, [.cell 4 true 6],
  (.seq (.reg [⟨(some 3), .box 6 (.t 1), none⟩,
    ⟨(some 4), .new [(.d (.s (.int .i64 0))), (.d (.s (.int .i64 0))), .nil, .nil, .nil, .nil], none⟩])
  (.seq (.seq (.reg [⟨(some 7), .fa 5 (.t 3), none⟩,
    ⟨(some 8), .ld false 1 (.t 7), none⟩,
    ⟨(some 9), .lenl (.t 8), none⟩,
    ⟨(some 10), .bin .gtr .one (.t 9) (.k (.w (.d (.s (.int .i64 0))))), none⟩,
    ⟨(some 11), .mv (.t 10), none⟩,
    ⟨(some 12), .mv (.t 0), (some (11, true))⟩,
    ⟨(some 13), .call (.k (.w (.fn 67 []))) [(.t 12), (.k (.w (.d (.s (.int .i64 3)))))], (some (11, true))⟩,
    ⟨(some 14), .bin .gtr .one (.t 13) (.k (.w (.d (.s (.int .i64 0))))), (some (11, true))⟩,
    ⟨(some 15), .pick (.t 11) (.t 14) (.k (.w (.d (.s (.bool false))))), none⟩])
  (.cond (.t 15)
    (.seq (.reg [⟨(some 16), .bsl 6 0 [(.s (.int .i64 0)), (.s (.int .i64 0)), (.l 0 []), (.l 0 []), (.l 0 []), (.l 0 [])] [], none⟩,
      ⟨(some 17), .fa 5 (.t 3), none⟩,
      ⟨(some 18), .ld false 1 (.t 17), none⟩,
      ⟨(some 19), .app 6 112 [(.s (.int .i64 0)), (.s (.int .i64 0)), (.l 0 []), (.l 0 []), (.l 0 []), (.l 0 [])] (.t 16) (.t 18), none⟩,
      ⟨(some 5), .mv (.t 19), none⟩])
    (.seq (.reg [⟨(some 20), .mv (.t 0), none⟩,
      ⟨(some 21), .mv (.t 5), none⟩,
      ⟨(some 22), .lenl (.t 21), none⟩,
      ⟨(some 23), .call (.k (.w (.fn 67 []))) [(.t 20), (.t 22)], none⟩,
      ⟨(some 6), .mv (.t 23), none⟩])
    (.seq (.reg [⟨(some 24), .mv (.t 5), none⟩,
      ⟨(some 25), .mv (.t 6), none⟩,
      ⟨(some 26), .mv (.t 0), none⟩,
      ⟨(some 27), .mv (.t 5), none⟩,
      ⟨(some 28), .mv (.t 6), none⟩,
      ⟨(some 29), .ia 6 (.t 27) (.t 28), none⟩,
      ⟨(some 30), .ld true 6 (.t 29), none⟩,
      ⟨(some 31), .call (.k (.w (.fn 179 []))) [(.t 26), (.t 30)], none⟩,
      ⟨(some 32), .ia 6 (.t 24) (.t 25), none⟩,
      ⟨none, .st 6 (.t 32) (.t 31), none⟩])
    (.seq (.reg [⟨(some 33), .mv (.t 5), none⟩,
      ⟨(some 34), .fa 5 (.t 3), none⟩,
      ⟨none, .st 1 (.t 34) (.t 33), none⟩])
    (.seq (.reg [⟨(some 35), .ld true 6 (.t 3), none⟩,
      ⟨none, .st 6 (.t 4) (.t 35), none⟩])
    .ret)))))
    .skip))
  (.seq (.seq (.reg [⟨(some 36), .mv (.t 0), none⟩,
    ⟨(some 37), .call (.k (.w (.fn 67 []))) [(.t 36), (.k (.w (.d (.s (.int .i64 6)))))], none⟩])
  (.block 0
    (.seq (.reg [⟨(some 44), .bin .eql .one (.t 37) (.k (.w (.d (.s (.int .i64 0))))), none⟩,
      ⟨(some 43), .mv (.t 44), none⟩])
    (.cond (.t 43)
      (.reg [⟨(some 45), .bld [(.d (.s (.int .i64 0))), (.d (.s (.int .i64 0))), .nil, .nil] [], none⟩,
        ⟨(some 46), .fa 0 (.t 3), none⟩,
        ⟨none, .st 4 (.t 46) (.t 45), none⟩])
      (.seq (.reg [⟨(some 48), .bin .eql .one (.t 37) (.k (.w (.d (.s (.int .i64 1))))), none⟩,
        ⟨(some 47), .mv (.t 48), none⟩])
      (.cond (.t 47)
        (.seq (.reg [⟨(some 49), .fa 4 (.t 3), none⟩,
          ⟨none, .st 1 (.t 49) (.k (.w .nil)), none⟩])
        (.seq (.reg [⟨(some 50), .mv (.t 0), none⟩,
          ⟨(some 51), .call (.k (.w (.fn 67 []))) [(.t 50), (.k (.w (.d (.s (.int .i64 2)))))], none⟩,
          ⟨(some 52), .bin .eql .one (.t 51) (.k (.w (.d (.s (.int .i64 0))))), none⟩])
        (.cond (.t 52)
          (.reg [⟨(some 53), .fa 5 (.t 3), none⟩,
            ⟨none, .st 1 (.t 53) (.k (.w .nil)), none⟩])
          .skip)))
        (.seq (.reg [⟨(some 55), .bin .eql .one (.t 37) (.k (.w (.d (.s (.int .i64 2))))), none⟩,
          ⟨(some 54), .mv (.t 55), none⟩])
        (.cond (.t 54)
          (.reg [⟨(some 56), .bsl 2 0 [(.s (.int .i64 0)), (.l 0 [])] [], none⟩,
            ⟨(some 57), .fa 4 (.t 3), none⟩,
            ⟨(some 58), .ld false 1 (.t 57), none⟩,
            ⟨(some 59), .app 2 32 [(.s (.int .i64 0)), (.l 0 [])] (.t 56) (.t 58), none⟩,
            ⟨(some 60), .mv (.t 0), none⟩,
            ⟨(some 61), .call (.k (.w (.fn 134 []))) [(.t 60)], none⟩,
            ⟨(some 62), .bsl 2 1 [(.s (.int .i64 0)), (.l 0 [])] [(0, (.t 61))], none⟩,
            ⟨(some 63), .app 2 32 [(.s (.int .i64 0)), (.l 0 [])] (.t 59) (.t 62), none⟩,
            ⟨(some 64), .fa 4 (.t 3), none⟩,
            ⟨none, .st 1 (.t 64) (.t 63), none⟩])
          (.seq (.reg [⟨(some 66), .bin .eql .one (.t 37) (.k (.w (.d (.s (.int .i64 3))))), none⟩,
            ⟨(some 65), .mv (.t 66), none⟩])
          (.cond (.t 65)
            (.reg [⟨(some 67), .bsl 2 0 [(.s (.int .i64 0)), (.l 0 [])] [], none⟩,
              ⟨(some 68), .fa 4 (.t 3), none⟩,
              ⟨(some 69), .ld false 1 (.t 68), none⟩,
              ⟨(some 70), .app 2 32 [(.s (.int .i64 0)), (.l 0 [])] (.t 67) (.t 69), none⟩,
              ⟨(some 71), .mv (.t 0), none⟩,
              ⟨(some 72), .mv (.t 0), none⟩,
              ⟨(some 73), .call (.k (.w (.fn 135 []))) [(.t 72)], none⟩,
              ⟨(some 74), .call (.k (.w (.fn 136 []))) [(.t 71), (.t 73)], none⟩,
              ⟨(some 75), .bsl 2 1 [(.s (.int .i64 0)), (.l 0 [])] [(0, (.t 74))], none⟩,
              ⟨(some 76), .app 2 32 [(.s (.int .i64 0)), (.l 0 [])] (.t 70) (.t 75), none⟩,
              ⟨(some 77), .fa 4 (.t 3), none⟩,
              ⟨none, .st 1 (.t 77) (.t 76), none⟩])
            (.seq (.reg [⟨(some 79), .bin .eql .one (.t 37) (.k (.w (.d (.s (.int .i64 4))))), none⟩,
              ⟨(some 78), .mv (.t 79), none⟩])
            (.cond (.t 78)
              (.reg [⟨(some 80), .bsl 6 0 [(.s (.int .i64 0)), (.s (.int .i64 0)), (.l 0 []), (.l 0 []), (.l 0 []), (.l 0 [])] [], none⟩,
                ⟨(some 81), .fa 5 (.t 3), none⟩,
                ⟨(some 82), .ld false 1 (.t 81), none⟩,
                ⟨(some 83), .app 6 112 [(.s (.int .i64 0)), (.s (.int .i64 0)), (.l 0 []), (.l 0 []), (.l 0 []), (.l 0 [])] (.t 80) (.t 82), none⟩,
                ⟨(some 84), .bld [(.d (.s (.int .i64 0))), (.d (.s (.int .i64 0))), .nil, .nil, .nil, .nil] [], none⟩,
                ⟨(some 85), .bsl 6 1 [(.s (.int .i64 0)), (.s (.int .i64 0)), (.l 0 []), (.l 0 []), (.l 0 []), (.l 0 [])] [(0, (.t 84))], none⟩,
                ⟨(some 86), .app 6 112 [(.s (.int .i64 0)), (.s (.int .i64 0)), (.l 0 []), (.l 0 []), (.l 0 []), (.l 0 [])] (.t 83) (.t 85), none⟩,
                ⟨(some 87), .fa 5 (.t 3), none⟩,
                ⟨none, .st 1 (.t 87) (.t 86), none⟩])
              (.reg [⟨(some 38), .mv (.t 0), none⟩,
                ⟨(some 39), .fa 0 (.t 3), none⟩,
                ⟨(some 40), .ld true 4 (.t 39), none⟩,
                ⟨(some 41), .call (.k (.w (.fn 116 []))) [(.t 38), (.t 40)], none⟩,
                ⟨(some 42), .fa 0 (.t 3), none⟩,
                ⟨none, .st 4 (.t 42) (.t 41), none⟩])))))))))))))
  (.seq (.reg [⟨(some 88), .ld true 6 (.t 3), none⟩,
    ⟨none, .st 6 (.t 4) (.t 88), none⟩])
  .ret))))⟩

/- loop.example/stile/spec.l7ArmSize -/
def F122_B0 : C :=
  (.seq (.seq (.reg [⟨(some 18), .mv (.t 4), none⟩,
    ⟨(some 19), .fa 5 (.t 1), none⟩,
    ⟨(some 20), .ld false 1 (.t 19), none⟩,
    ⟨(some 21), .lenl (.t 20), none⟩,
    ⟨(some 22), .bin .lss .one (.t 18) (.t 21), none⟩])
  (.cond (.t 22)
    .skip
    (.exit 0)))
  (.seq (.block 1
    (.reg [⟨(some 25), .mv (.t 3), none⟩,
      ⟨(some 26), .fa 5 (.t 1), none⟩,
      ⟨(some 27), .ld false 1 (.t 26), none⟩,
      ⟨(some 28), .mv (.t 4), none⟩,
      ⟨(some 29), .ia 6 (.t 27) (.t 28), none⟩,
      ⟨(some 30), .ld true 6 (.t 29), none⟩,
      ⟨(some 31), .call (.k (.w (.fn 122 []))) [(.t 30)], none⟩,
      ⟨(some 32), .bin .add .one (.t 25) (.t 31), none⟩,
      ⟨(some 3), .mv (.t 32), none⟩]))
  (.reg [⟨(some 23), .mv (.t 4), none⟩,
    ⟨(some 24), .bin .add .one (.t 23) (.k (.w (.d (.s (.int .i64 1))))), none⟩,
    ⟨(some 4), .mv (.t 24), none⟩])))
def F122_L0 : C := .loop F122_B0
def F122 : Fn := ⟨34, [.tmp 2],
  (.seq (.reg [⟨(some 1), .box 6 (.t 0), none⟩,
    ⟨(some 2), .mv (.k (.w (.d (.s (.int .i64 0))))), none⟩])
  (.seq (.reg [⟨(some 5), .fa 4 (.t 1), none⟩,
    ⟨(some 6), .ld false 1 (.t 5), none⟩,
    ⟨(some 7), .lenl (.t 6), none⟩,
    ⟨(some 8), .bin .add .one (.k (.w (.d (.s (.int .i64 1))))) (.t 7), none⟩,
    ⟨(some 3), .mv (.t 8), none⟩])
  (.seq (.seq (.reg [⟨(some 9), .fa 0 (.t 1), none⟩,
    ⟨(some 10), .ld true 4 (.t 9), none⟩,
    ⟨(some 11), .call (.k (.w (.fn 141 []))) [(.t 10)], none⟩,
    ⟨(some 12), .un .not (.t 11), none⟩])
  (.cond (.t 12)
    (.reg [⟨(some 13), .mv (.t 3), none⟩,
      ⟨(some 14), .fa 0 (.t 1), none⟩,
      ⟨(some 15), .ld true 4 (.t 14), none⟩,
      ⟨(some 16), .call (.k (.w (.fn 144 []))) [(.t 15)], none⟩,
      ⟨(some 17), .bin .add .one (.t 13) (.t 16), none⟩,
      ⟨(some 3), .mv (.t 17), none⟩])
    .skip))
  (.seq (.seq (.reg [⟨(some 4), .mv (.k (.w (.d (.s (.int .i64 0))))), none⟩])
  (.block 0
    F122_L0))
  (.seq (.reg [⟨(some 33), .mv (.t 3), none⟩,
    ⟨(some 2), .mv (.t 33), none⟩])
  .ret)))))⟩

/- loop.example/stile/spec.l7None -/
def F141 : Fn := ⟨25, [.tmp 2],
  (.seq (.reg [⟨(some 1), .box 4 (.t 0), none⟩,
    ⟨(some 2), .mv (.k (.w (.d (.s (.bool false))))), none⟩])
  (.seq (.reg [⟨(some 3), .fa 0 (.t 1), none⟩,
    ⟨(some 4), .ld false 1 (.t 3), none⟩,
    ⟨(some 5), .bin .eql .one (.t 4) (.k (.w (.d (.s (.int .i64 0))))), none⟩,
    ⟨(some 6), .mv (.t 5), none⟩,
    ⟨(some 7), .fa 1 (.t 1), (some (6, true))⟩,
    ⟨(some 8), .fa 0 (.t 7), (some (6, true))⟩,
    ⟨(some 9), .ld false 1 (.t 8), (some (6, true))⟩,
    ⟨(some 10), .bin .eql .one (.t 9) (.k (.w (.d (.s (.int .i64 0))))), (some (6, true))⟩,
    ⟨(some 11), .pick (.t 6) (.t 10) (.k (.w (.d (.s (.bool false))))), none⟩,
    ⟨(some 12), .mv (.t 11), none⟩,
    ⟨(some 13), .fa 1 (.t 1), (some (12, true))⟩,
    ⟨(some 14), .fa 1 (.t 13), (some (12, true))⟩,
    ⟨(some 15), .ld false 1 (.t 14), (some (12, true))⟩,
    ⟨(some 16), .lenl (.t 15), (some (12, true))⟩,
    ⟨(some 17), .bin .eql .one (.t 16) (.k (.w (.d (.s (.int .i64 0))))), (some (12, true))⟩,
    ⟨(some 18), .pick (.t 12) (.t 17) (.k (.w (.d (.s (.bool false))))), none⟩,
    ⟨(some 19), .mv (.t 18), none⟩,
    ⟨(some 20), .fa 3 (.t 1), (some (19, true))⟩,
    ⟨(some 21), .ld false 1 (.t 20), (some (19, true))⟩,
    ⟨(some 22), .lenl (.t 21), (some (19, true))⟩,
    ⟨(some 23), .bin .eql .one (.t 22) (.k (.w (.d (.s (.int .i64 0))))), (some (19, true))⟩,
    ⟨(some 24), .pick (.t 19) (.t 23) (.k (.w (.d (.s (.bool false))))), none⟩,
    ⟨(some 2), .mv (.t 24), none⟩])
  .ret))⟩

/- loop.example/stile/spec.l7NetWrong -/
def F142_B0 : C :=
  (.seq (.seq (.reg [⟨(some 54), .mv (.t 3), none⟩,
    ⟨(some 55), .fa 3 (.t 1), none⟩,
    ⟨(some 56), .ld false 1 (.t 55), none⟩,
    ⟨(some 57), .lenl (.t 56), none⟩,
    ⟨(some 58), .bin .lss .one (.t 54) (.t 57), none⟩])
  (.cond (.t 58)
    .skip
    (.exit 0)))
  (.seq (.block 1
    (.seq (.reg [⟨(some 61), .fa 3 (.t 1), none⟩,
      ⟨(some 62), .ld false 1 (.t 61), none⟩,
      ⟨(some 63), .mv (.t 3), none⟩,
      ⟨(some 64), .ia 4 (.t 62) (.t 63), none⟩,
      ⟨(some 65), .ld true 4 (.t 64), none⟩,
      ⟨(some 66), .call (.k (.w (.fn 142 []))) [(.t 65)], none⟩,
      ⟨(some 4), .mv (.t 66), none⟩])
    (.seq (.reg [⟨(some 67), .mv (.t 4), none⟩,
      ⟨(some 68), .bin .gtr .one (.t 67) (.k (.w (.d (.s (.int .i64 0))))), none⟩])
    (.cond (.t 68)
      (.seq (.reg [⟨(some 69), .mv (.t 4), none⟩,
        ⟨(some 2), .mv (.t 69), none⟩])
      .ret)
      .skip))))
  (.reg [⟨(some 59), .mv (.t 3), none⟩,
    ⟨(some 60), .bin .add .one (.t 59) (.k (.w (.d (.s (.int .i64 1))))), none⟩,
    ⟨(some 3), .mv (.t 60), none⟩])))
def F142_L0 : C := .loop F142_B0
def F142 : Fn := ⟨70, [.tmp 2],
  (.seq (.reg [⟨(some 1), .box 4 (.t 0), none⟩,
    ⟨(some 2), .mv (.k (.w (.d (.s (.int .i64 0))))), none⟩])
  (.seq (.seq (.reg [⟨(some 5), .fa 0 (.t 1), none⟩,
    ⟨(some 6), .ld false 1 (.t 5), none⟩,
    ⟨(some 7), .bin .eql .one (.t 6) (.k (.w (.d (.s (.int .i64 1))))), none⟩])
  (.cond (.t 7)
    (.seq (.seq (.reg [⟨(some 8), .fa 3 (.t 1), none⟩,
      ⟨(some 9), .ld false 1 (.t 8), none⟩,
      ⟨(some 10), .lenl (.t 9), none⟩,
      ⟨(some 11), .bin .gtr .one (.t 10) (.k (.w (.d (.s (.int .i64 0))))), none⟩])
    (.cond (.t 11)
      (.seq (.reg [⟨(some 2), .mv (.k (.w (.d (.s (.int .i64 2))))), none⟩])
      .ret)
      .skip))
    (.seq (.seq (.reg [⟨(some 12), .fa 1 (.t 1), none⟩,
      ⟨(some 13), .ld true 2 (.t 12), none⟩,
      ⟨(some 14), .call (.k (.w (.fn 166 []))) [(.t 13)], none⟩,
      ⟨(some 15), .un .not (.t 14), none⟩])
    (.cond (.t 15)
      (.seq (.reg [⟨(some 2), .mv (.k (.w (.d (.s (.int .i64 3))))), none⟩])
      .ret)
      .skip))
    (.seq (.reg [⟨(some 2), .mv (.k (.w (.d (.s (.int .i64 0))))), none⟩])
    .ret)))
    .skip))
  (.seq (.seq (.reg [⟨(some 16), .fa 0 (.t 1), none⟩,
    ⟨(some 17), .ld false 1 (.t 16), none⟩,
    ⟨(some 18), .bin .lss .one (.t 17) (.k (.w (.d (.s (.int .i64 2))))), none⟩,
    ⟨(some 19), .mv (.t 18), none⟩,
    ⟨(some 20), .fa 0 (.t 1), (some (19, false))⟩,
    ⟨(some 21), .ld false 1 (.t 20), (some (19, false))⟩,
    ⟨(some 22), .bin .gtr .one (.t 21) (.k (.w (.d (.s (.int .i64 4))))), (some (19, false))⟩,
    ⟨(some 23), .pick (.t 19) (.k (.w (.d (.s (.bool true))))) (.t 22), none⟩,
    ⟨(some 24), .mv (.t 23), none⟩,
    ⟨(some 25), .fa 1 (.t 1), (some (24, false))⟩,
    ⟨(some 26), .fa 0 (.t 25), (some (24, false))⟩,
    ⟨(some 27), .ld false 1 (.t 26), (some (24, false))⟩,
    ⟨(some 28), .bin .neq .one (.t 27) (.k (.w (.d (.s (.int .i64 0))))), (some (24, false))⟩,
    ⟨(some 29), .pick (.t 24) (.k (.w (.d (.s (.bool true))))) (.t 28), none⟩,
    ⟨(some 30), .mv (.t 29), none⟩,
    ⟨(some 31), .fa 1 (.t 1), (some (30, false))⟩,
    ⟨(some 32), .fa 1 (.t 31), (some (30, false))⟩,
    ⟨(some 33), .ld false 1 (.t 32), (some (30, false))⟩,
    ⟨(some 34), .lenl (.t 33), (some (30, false))⟩,
    ⟨(some 35), .bin .gtr .one (.t 34) (.k (.w (.d (.s (.int .i64 0))))), (some (30, false))⟩,
    ⟨(some 36), .pick (.t 30) (.k (.w (.d (.s (.bool true))))) (.t 35), none⟩,
    ⟨(some 37), .mv (.t 36), none⟩,
    ⟨(some 38), .fa 3 (.t 1), (some (37, false))⟩,
    ⟨(some 39), .ld false 1 (.t 38), (some (37, false))⟩,
    ⟨(some 40), .lenl (.t 39), (some (37, false))⟩,
    ⟨(some 41), .bin .eql .one (.t 40) (.k (.w (.d (.s (.int .i64 0))))), (some (37, false))⟩,
    ⟨(some 42), .pick (.t 37) (.k (.w (.d (.s (.bool true))))) (.t 41), none⟩,
    ⟨(some 43), .mv (.t 42), none⟩,
    ⟨(some 44), .fa 0 (.t 1), (some (43, false))⟩,
    ⟨(some 45), .ld false 1 (.t 44), (some (43, false))⟩,
    ⟨(some 46), .bin .eql .one (.t 45) (.k (.w (.d (.s (.int .i64 4))))), (some (43, false))⟩,
    ⟨(some 47), .mv (.t 46), (some (43, false))⟩,
    ⟨(some 48), .fa 3 (.t 1), (some (47, true))⟩,
    ⟨(some 49), .ld false 1 (.t 48), (some (47, true))⟩,
    ⟨(some 50), .lenl (.t 49), (some (47, true))⟩,
    ⟨(some 51), .bin .neq .one (.t 50) (.k (.w (.d (.s (.int .i64 1))))), (some (47, true))⟩,
    ⟨(some 52), .pick (.t 47) (.t 51) (.k (.w (.d (.s (.bool false))))), (some (43, false))⟩,
    ⟨(some 53), .pick (.t 43) (.k (.w (.d (.s (.bool true))))) (.t 52), none⟩])
  (.cond (.t 53)
    (.seq (.reg [⟨(some 2), .mv (.k (.w (.d (.s (.int .i64 2))))), none⟩])
    .ret)
    .skip))
  (.seq (.seq (.reg [⟨(some 3), .mv (.k (.w (.d (.s (.int .i64 0))))), none⟩])
  (.block 0
    F142_L0))
  (.seq (.reg [⟨(some 2), .mv (.k (.w (.d (.s (.int .i64 0))))), none⟩])
  .ret)))))⟩

/- loop.example/stile/spec.ElemIsCoil -/
def F143 : Fn := ⟨130, [.tmp 2],
  (.seq (.reg [⟨(some 1), .box 2 (.t 0), none⟩,
    ⟨(some 2), .mv (.k (.w (.d (.s (.bool false))))), none⟩])
  (.seq (.seq (.dreg [⟨(some 4), .fa 0 (.t 1), none⟩,
    ⟨(some 5), .ld false 1 (.t 4), none⟩,
    ⟨(some 6), .bin .lss .one (.t 5) (.k (.w (.d (.s (.int .i64 21))))), none⟩,
    ⟨(some 7), .mv (.t 6), none⟩,
    ⟨(some 8), .fa 0 (.t 1), (some (7, false))⟩,
    ⟨(some 9), .ld false 1 (.t 8), (some (7, false))⟩,
    ⟨(some 10), .bin .gtr .one (.t 9) (.k (.w (.d (.s (.int .i64 37))))), (some (7, false))⟩,
    ⟨(some 11), .pick (.t 7) (.k (.w (.d (.s (.bool true))))) (.t 10), none⟩,
    ⟨(some 12), .mv (.t 11), none⟩,
    ⟨(some 13), .fa 1 (.t 1), (some (12, false))⟩,
    ⟨(some 14), .ld false 1 (.t 13), (some (12, false))⟩,
    ⟨(some 15), .lenl (.t 14), (some (12, false))⟩,
    ⟨(some 16), .fa 0 (.t 1), (some (12, false))⟩,
    ⟨(some 17), .ld false 1 (.t 16), (some (12, false))⟩,
    ⟨(some 18), .call (.k (.w (.fn 158 []))) [(.t 17)], (some (12, false))⟩,
    ⟨(some 19), .bin .neq .one (.t 15) (.t 18), (some (12, false))⟩,
    ⟨(some 20), .pick (.t 12) (.k (.w (.d (.s (.bool true))))) (.t 19), none⟩] [0, 1, 3, 7, 15, 31, 63, 127, 255, 511, 1023, 2047, 511, 4607, 12799, 32767, 65535])
  (.cond (.t 20)
    (.seq (.reg [⟨(some 2), .mv (.k (.w (.d (.s (.bool false))))), none⟩])
    .ret)
    .skip))
  (.seq (.reg [⟨(some 21), .fa 1 (.t 1), none⟩,
    ⟨(some 22), .ld false 1 (.t 21), none⟩,
    ⟨(some 23), .ia 3 (.t 22) (.k (.w (.d (.s (.int .i64 0))))), none⟩,
    ⟨(some 24), .ld true 3 (.t 23), none⟩,
    ⟨(some 3), .new [(.d (.s (.int .i64 0))), (.d (.s (.int .i64 0))), (.d (.s (.int .i64 0)))], none⟩,
    ⟨none, .st 3 (.t 3) (.t 24), none⟩])
  (.seq (.seq (.reg [⟨(some 25), .fa 0 (.t 1), none⟩,
    ⟨(some 26), .ld false 1 (.t 25), none⟩])
  (.block 0
    (.seq (.reg [⟨(some 28), .bin .eql .one (.t 26) (.k (.w (.d (.s (.int .i64 21))))), none⟩,
      ⟨(some 27), .mv (.t 28), none⟩])
    (.cond (.t 27)
      (.seq (.reg [⟨(some 29), .ld true 3 (.t 3), none⟩,
        ⟨(some 30), .call (.k (.w (.fn 167 []))) [(.t 29), (.k (.w (.d (.s (.int .i64 2))))), (.k (.w (.d (.s (.int .i64 3)))))], none⟩,
        ⟨(some 2), .mv (.t 30), none⟩])
      .ret)
      (.seq (.reg [⟨(some 32), .bin .eql .one (.t 26) (.k (.w (.d (.s (.int .i64 22))))), none⟩,
        ⟨(some 31), .mv (.t 32), none⟩])
      (.cond (.t 31)
        (.seq (.reg [⟨(some 33), .ld true 3 (.t 3), none⟩,
          ⟨(some 34), .call (.k (.w (.fn 167 []))) [(.t 33), (.k (.w (.d (.s (.int .i64 2))))), (.k (.w (.d (.s (.int .i64 3)))))], none⟩,
          ⟨(some 35), .mv (.t 34), none⟩,
          ⟨(some 36), .ld true 3 (.t 3), (some (35, false))⟩,
          ⟨(some 37), .call (.k (.w (.fn 167 []))) [(.t 36), (.k (.w (.d (.s (.int .i64 4))))), (.k (.w (.d (.s (.int .i64 4)))))], (some (35, false))⟩,
          ⟨(some 38), .pick (.t 35) (.k (.w (.d (.s (.bool true))))) (.t 37), none⟩,
          ⟨(some 2), .mv (.t 38), none⟩])
        .ret)
        (.seq (.reg [⟨(some 40), .bin .eql .one (.t 26) (.k (.w (.d (.s (.int .i64 23))))), none⟩,
          ⟨(some 39), .mv (.t 40), none⟩])
        (.cond (.t 39)
          (.seq (.reg [⟨(some 41), .ld true 3 (.t 3), none⟩,
            ⟨(some 42), .call (.k (.w (.fn 167 []))) [(.t 41), (.k (.w (.d (.s (.int .i64 2))))), (.k (.w (.d (.s (.int .i64 3)))))], none⟩,
            ⟨(some 43), .mv (.t 42), none⟩,
            ⟨(some 44), .ld true 3 (.t 3), (some (43, false))⟩,
            ⟨(some 45), .call (.k (.w (.fn 167 []))) [(.t 44), (.k (.w (.d (.s (.int .i64 4))))), (.k (.w (.d (.s (.int .i64 7)))))], (some (43, false))⟩,
            ⟨(some 46), .pick (.t 43) (.k (.w (.d (.s (.bool true))))) (.t 45), none⟩,
            ⟨(some 47), .mv (.t 46), none⟩,
            ⟨(some 48), .ld true 3 (.t 3), (some (47, false))⟩,
            ⟨(some 49), .call (.k (.w (.fn 167 []))) [(.t 48), (.k (.w (.d (.s (.int .i64 8))))), (.k (.w (.d (.s (.int .i64 8)))))], (some (47, false))⟩,
            ⟨(some 50), .pick (.t 47) (.k (.w (.d (.s (.bool true))))) (.t 49), none⟩,
            ⟨(some 2), .mv (.t 50), none⟩])
          .ret)
          (.seq (.reg [⟨(some 52), .bin .eql .one (.t 26) (.k (.w (.d (.s (.int .i64 24))))), none⟩,
            ⟨(some 51), .mv (.t 52), none⟩])
          (.cond (.t 51)
            (.seq (.reg [⟨(some 53), .ld true 3 (.t 3), none⟩,
              ⟨(some 54), .call (.k (.w (.fn 167 []))) [(.t 53), (.k (.w (.d (.s (.int .i64 2))))), (.k (.w (.d (.s (.int .i64 3)))))], none⟩,
              ⟨(some 55), .mv (.t 54), none⟩,
              ⟨(some 56), .fa 1 (.t 1), (some (55, true))⟩,
              ⟨(some 57), .ld false 1 (.t 56), (some (55, true))⟩,
              ⟨(some 58), .ia 3 (.t 57) (.k (.w (.d (.s (.int .i64 1))))), (some (55, true))⟩,
              ⟨(some 59), .ld true 3 (.t 58), (some (55, true))⟩,
              ⟨(some 60), .call (.k (.w (.fn 167 []))) [(.t 59), (.k (.w (.d (.s (.int .i64 5))))), (.k (.w (.d (.s (.int .i64 5)))))], (some (55, true))⟩,
              ⟨(some 61), .pick (.t 55) (.t 60) (.k (.w (.d (.s (.bool false))))), none⟩,
              ⟨(some 2), .mv (.t 61), none⟩])
            .ret)
            (.seq (.reg [⟨(some 63), .bin .eql .one (.t 26) (.k (.w (.d (.s (.int .i64 25))))), none⟩,
              ⟨(some 62), .mv (.t 63), none⟩])
            (.cond (.t 62)
              (.seq (.reg [⟨(some 64), .ld true 3 (.t 3), none⟩,
                ⟨(some 65), .call (.k (.w (.fn 167 []))) [(.t 64), (.k (.w (.d (.s (.int .i64 4))))), (.k (.w (.d (.s (.int .i64 4)))))], none⟩,
                ⟨(some 2), .mv (.t 65), none⟩])
              .ret)
              (.seq (.seq (.reg [⟨(some 67), .bin .eql .one (.t 26) (.k (.w (.d (.s (.int .i64 26))))), none⟩,
                ⟨(some 66), .mv (.t 67), none⟩])
              (.cond (.t 66)
                .skip
                (.seq (.reg [⟨(some 68), .bin .eql .one (.t 26) (.k (.w (.d (.s (.int .i64 27))))), none⟩,
                  ⟨(some 66), .mv (.t 68), none⟩])
                (.cond (.t 66)
                  .skip
                  (.reg [⟨(some 69), .bin .eql .one (.t 26) (.k (.w (.d (.s (.int .i64 28))))), none⟩,
                    ⟨(some 66), .mv (.t 69), none⟩])))))
              (.cond (.t 66)
                (.seq (.reg [⟨(some 70), .ld true 3 (.t 3), none⟩,
                  ⟨(some 71), .call (.k (.w (.fn 167 []))) [(.t 70), (.k (.w (.d (.s (.int .i64 7))))), (.k (.w (.d (.s (.int .i64 7)))))], none⟩,
                  ⟨(some 72), .mv (.t 71), none⟩,
                  ⟨(some 73), .fa 1 (.t 1), (some (72, true))⟩,
                  ⟨(some 74), .ld false 1 (.t 73), (some (72, true))⟩,
                  ⟨(some 75), .ia 3 (.t 74) (.k (.w (.d (.s (.int .i64 1))))), (some (72, true))⟩,
                  ⟨(some 76), .ld true 3 (.t 75), (some (72, true))⟩,
                  ⟨(some 77), .call (.k (.w (.fn 167 []))) [(.t 76), (.k (.w (.d (.s (.int .i64 11))))), (.k (.w (.d (.s (.int .i64 11)))))], (some (72, true))⟩,
                  ⟨(some 78), .pick (.t 72) (.t 77) (.k (.w (.d (.s (.bool false))))), none⟩,
                  ⟨(some 79), .mv (.t 78), none⟩,
                  ⟨(some 80), .fa 1 (.t 1), (some (79, true))⟩,
                  ⟨(some 81), .ld false 1 (.t 80), (some (79, true))⟩,
                  ⟨(some 82), .ia 3 (.t 81) (.k (.w (.d (.s (.int .i64 1))))), (some (79, true))⟩,
                  ⟨(some 83), .fa 1 (.t 82), (some (79, true))⟩,
                  ⟨(some 84), .ld false 1 (.t 83), (some (79, true))⟩,
                  ⟨(some 85), .bin .geq .one (.t 84) (.k (.w (.d (.s (.int .i64 0))))), (some (79, true))⟩,
                  ⟨(some 86), .pick (.t 79) (.t 85) (.k (.w (.d (.s (.bool false))))), none⟩,
                  ⟨(some 2), .mv (.t 86), none⟩])
                .ret)
                (.seq (.reg [⟨(some 88), .bin .eql .one (.t 26) (.k (.w (.d (.s (.int .i64 29))))), none⟩,
                  ⟨(some 87), .mv (.t 88), none⟩])
                (.cond (.t 87)
                  (.seq (.reg [⟨(some 89), .ld true 3 (.t 3), none⟩,
                    ⟨(some 90), .call (.k (.w (.fn 167 []))) [(.t 89), (.k (.w (.d (.s (.int .i64 8))))), (.k (.w (.d (.s (.int .i64 8)))))], none⟩,
                    ⟨(some 91), .mv (.t 90), none⟩,
                    ⟨(some 92), .fa 1 (.t 1), (some (91, true))⟩,
                    ⟨(some 93), .ld false 1 (.t 92), (some (91, true))⟩,
                    ⟨(some 94), .ia 3 (.t 93) (.k (.w (.d (.s (.int .i64 1))))), (some (91, true))⟩,
                    ⟨(some 95), .ld true 3 (.t 94), (some (91, true))⟩,
                    ⟨(some 96), .call (.k (.w (.fn 167 []))) [(.t 95), (.k (.w (.d (.s (.int .i64 11))))), (.k (.w (.d (.s (.int .i64 11)))))], (some (91, true))⟩,
                    ⟨(some 97), .pick (.t 91) (.t 96) (.k (.w (.d (.s (.bool false))))), none⟩,
                    ⟨(some 98), .mv (.t 97), none⟩,
                    ⟨(some 99), .fa 1 (.t 1), (some (98, true))⟩,
                    ⟨(some 100), .ld false 1 (.t 99), (some (98, true))⟩,
                    ⟨(some 101), .ia 3 (.t 100) (.k (.w (.d (.s (.int .i64 1))))), (some (98, true))⟩,
                    ⟨(some 102), .fa 1 (.t 101), (some (98, true))⟩,
                    ⟨(some 103), .ld false 1 (.t 102), (some (98, true))⟩,
                    ⟨(some 104), .bin .geq .one (.t 103) (.k (.w (.d (.s (.int .i64 0))))), (some (98, true))⟩,
                    ⟨(some 105), .pick (.t 98) (.t 104) (.k (.w (.d (.s (.bool false))))), none⟩,
                    ⟨(some 2), .mv (.t 105), none⟩])
                  .ret)
                  (.seq (.reg [⟨(some 107), .bin .eql .one (.t 26) (.k (.w (.d (.s (.int .i64 36))))), none⟩,
                    ⟨(some 106), .mv (.t 107), none⟩])
                  (.cond (.t 106)
                    (.seq (.reg [⟨(some 108), .ld true 3 (.t 3), none⟩,
                      ⟨(some 109), .call (.k (.w (.fn 167 []))) [(.t 108), (.k (.w (.d (.s (.int .i64 10))))), (.k (.w (.d (.s (.int .i64 10)))))], none⟩,
                      ⟨(some 110), .mv (.t 109), none⟩,
                      ⟨(some 111), .fa 1 (.t 1), (some (110, true))⟩,
                      ⟨(some 112), .ld false 1 (.t 111), (some (110, true))⟩,
                      ⟨(some 113), .ia 3 (.t 112) (.k (.w (.d (.s (.int .i64 1))))), (some (110, true))⟩,
                      ⟨(some 114), .ld true 3 (.t 113), (some (110, true))⟩,
                      ⟨(some 115), .call (.k (.w (.fn 168 []))) [(.t 114)], (some (110, true))⟩,
                      ⟨(some 116), .pick (.t 110) (.t 115) (.k (.w (.d (.s (.bool false))))), none⟩,
                      ⟨(some 2), .mv (.t 116), none⟩])
                    .ret)
                    (.seq (.reg [⟨(some 118), .bin .eql .one (.t 26) (.k (.w (.d (.s (.int .i64 37))))), none⟩,
                      ⟨(some 117), .mv (.t 118), none⟩])
                    (.cond (.t 117)
                      (.seq (.reg [⟨(some 119), .ld true 3 (.t 3), none⟩,
                        ⟨(some 120), .call (.k (.w (.fn 167 []))) [(.t 119), (.k (.w (.d (.s (.int .i64 9))))), (.k (.w (.d (.s (.int .i64 9)))))], none⟩,
                        ⟨(some 121), .mv (.t 120), none⟩,
                        ⟨(some 122), .fa 1 (.t 1), (some (121, true))⟩,
                        ⟨(some 123), .ld false 1 (.t 122), (some (121, true))⟩,
                        ⟨(some 124), .ia 3 (.t 123) (.k (.w (.d (.s (.int .i64 1))))), (some (121, true))⟩,
                        ⟨(some 125), .ld true 3 (.t 124), (some (121, true))⟩,
                        ⟨(some 126), .call (.k (.w (.fn 169 []))) [(.t 125)], (some (121, true))⟩,
                        ⟨(some 127), .pick (.t 121) (.t 126) (.k (.w (.d (.s (.bool false))))), none⟩,
                        ⟨(some 2), .mv (.t 127), none⟩])
                      .ret)
                      .skip))))))))))))))))))))
  (.seq (.reg [⟨(some 128), .ld true 2 (.t 1), none⟩,
    ⟨(some 129), .call (.k (.w (.fn 170 []))) [(.t 128)], none⟩,
    ⟨(some 2), .mv (.t 129), none⟩])
  .ret)))))⟩

/- (loop.example/stile/impl.Arm).norm -/
def F146_B0 : C :=
  (.seq (.reg [⟨(some 27), .bin .lss .one (.t 26) (.t 25), none⟩])
  (.seq (.cond (.t 27)
    .skip
    (.exit 0))
  (.seq (.block 1
    (.seq (.reg [⟨(some 28), .mv (.t 26), none⟩,
      ⟨(some 29), .ia 6 (.t 24) (.t 26), none⟩,
      ⟨(some 30), .ld true 6 (.t 29), none⟩,
      ⟨(some 5), .new [(.d (.s (.int .i64 0))), (.d (.s (.int .i64 0))), .nil, .nil, .nil, .nil], none⟩,
      ⟨(some 4), .mv (.t 28), none⟩,
      ⟨none, .st 6 (.t 5) (.t 30), none⟩])
    (.dreg [⟨(some 31), .fa 5 (.t 3), none⟩,
      ⟨(some 32), .ld false 1 (.t 31), none⟩,
      ⟨(some 33), .mv (.t 4), none⟩,
      ⟨(some 34), .ld true 6 (.t 5), none⟩,
      ⟨(some 35), .call (.k (.w (.fn 146 []))) [(.t 34)], none⟩,
      ⟨(some 36), .ia 6 (.t 32) (.t 33), none⟩,
      ⟨none, .st 6 (.t 36) (.t 35), none⟩] [0, 1, 0, 0, 8, 31, 63])))
  (.reg [⟨(some 37), .bin .add .one (.t 26) (.k (.w (.d (.s (.int .i64 1))))), none⟩,
    ⟨(some 26), .mv (.t 37), none⟩]))))
def F146_L0 : C := .loop F146_B0
def F146_B1 : C :=
  (.seq (.seq (.reg [⟨(some 38), .fa 5 (.t 3), none⟩,
    ⟨(some 39), .ld false 1 (.t 38), none⟩,
    ⟨(some 40), .lenl (.t 39), none⟩,
    ⟨(some 41), .bin .eql .one (.t 40) (.k (.w (.d (.s (.int .i64 1))))), none⟩,
    ⟨(some 42), .mv (.t 41), none⟩,
    ⟨(some 43), .fa 4 (.t 3), (some (42, true))⟩,
    ⟨(some 44), .ld false 1 (.t 43), (some (42, true))⟩,
    ⟨(some 45), .lenl (.t 44), (some (42, true))⟩,
    ⟨(some 46), .bin .eql .one (.t 45) (.k (.w (.d (.s (.int .i64 0))))), (some (42, true))⟩,
    ⟨(some 47), .mv (.t 46), (some (42, true))⟩,
    ⟨(some 48), .fa 5 (.t 3), (some (47, false))⟩,
    ⟨(some 49), .ld false 1 (.t 48), (some (47, false))⟩,
    ⟨(some 50), .ia 6 (.t 49) (.k (.w (.d (.s (.int .i64 0))))), (some (47, false))⟩,
    ⟨(some 51), .fa 0 (.t 50), (some (47, false))⟩,
    ⟨(some 52), .ld true 4 (.t 51), (some (47, false))⟩,
    ⟨(some 53), .call (.k (.w (.fn 173 []))) [(.t 52)], (some (47, false))⟩,
    ⟨(some 54), .pick (.t 47) (.k (.w (.d (.s (.bool true))))) (.t 53), (some (42, true))⟩,
    ⟨(some 55), .pick (.t 42) (.t 54) (.k (.w (.d (.s (.bool false))))), none⟩])
  (.cond (.t 55)
    .skip
    (.exit 2)))
  (.block 3
    (.seq (.reg [⟨(some 56), .fa 5 (.t 3), none⟩,
      ⟨(some 57), .ld false 1 (.t 56), none⟩,
      ⟨(some 58), .ia 6 (.t 57) (.k (.w (.d (.s (.int .i64 0))))), none⟩,
      ⟨(some 59), .ld true 6 (.t 58), none⟩,
      ⟨(some 6), .new [(.d (.s (.int .i64 0))), (.d (.s (.int .i64 0))), .nil, .nil, .nil, .nil], none⟩,
      ⟨none, .st 6 (.t 6) (.t 59), none⟩])
    (.seq (.block 4
      (.seq (.reg [⟨(some 61), .fa 0 (.t 3), none⟩,
        ⟨(some 62), .ld true 4 (.t 61), none⟩,
        ⟨(some 63), .call (.k (.w (.fn 173 []))) [(.t 62)], none⟩,
        ⟨(some 60), .mv (.t 63), none⟩])
      (.cond (.t 60)
        (.reg [⟨(some 64), .fa 0 (.t 6), none⟩,
          ⟨(some 65), .ld true 4 (.t 64), none⟩,
          ⟨(some 66), .fa 0 (.t 3), none⟩,
          ⟨none, .st 4 (.t 66) (.t 65), none⟩])
        (.seq (.reg [⟨(some 68), .fa 0 (.t 6), none⟩,
          ⟨(some 69), .ld true 4 (.t 68), none⟩,
          ⟨(some 70), .call (.k (.w (.fn 173 []))) [(.t 69)], none⟩,
          ⟨(some 71), .un .not (.t 70), none⟩,
          ⟨(some 67), .mv (.t 71), none⟩])
        (.cond (.t 67)
          (.reg [⟨(some 72), .fa 0 (.t 3), none⟩,
            ⟨(some 73), .ld true 4 (.t 72), none⟩,
            ⟨(some 74), .fa 0 (.t 6), none⟩,
            ⟨(some 75), .ld true 4 (.t 74), none⟩,
            ⟨(some 76), .bsl 4 2 [(.s (.int .i64 0)), (.s (.int .i64 0)), (.l 0 []), (.l 0 [])] [(0, (.t 73)), (1, (.t 75))], none⟩,
            ⟨(some 77), .bld [(.d (.s (.int .i64 0))), (.d (.s (.int .i64 0))), .nil, .nil] [(0, 1, (.k (.w (.d (.s (.int .i64 2)))))), (3, 1, (.t 76))], none⟩,
            ⟨(some 78), .call (.k (.w (.fn 120 []))) [(.t 77)], none⟩,
            ⟨(some 79), .fa 0 (.t 3), none⟩,
            ⟨none, .st 4 (.t 79) (.t 78), none⟩])
          .skip)))))
    (.seq (.reg [⟨(some 80), .fa 4 (.t 3), none⟩,
      ⟨(some 81), .ld false 1 (.t 80), none⟩,
      ⟨(some 82), .fa 4 (.t 6), none⟩,
      ⟨(some 83), .ld false 1 (.t 82), none⟩,
      ⟨(some 84), .app 2 32 [(.s (.int .i64 0)), (.l 0 [])] (.t 81) (.t 83), none⟩,
      ⟨(some 85), .call (.k (.w (.fn 174 []))) [(.t 84)], none⟩,
      ⟨(some 86), .fa 4 (.t 3), none⟩,
      ⟨none, .st 1 (.t 86) (.t 85), none⟩])
    (.reg [⟨(some 87), .fa 5 (.t 6), none⟩,
      ⟨(some 88), .ld false 1 (.t 87), none⟩,
      ⟨(some 89), .fa 5 (.t 3), none⟩,
      ⟨none, .st 1 (.t 89) (.t 88), none⟩]))))))
def F146_L1 : C := .loop F146_B1
def F146 : Fn := ⟨91, [.cell 2 true 6],
  (.seq (.reg [⟨(some 1), .box 6 (.t 0), none⟩,
    ⟨(some 2), .new [(.d (.s (.int .i64 0))), (.d (.s (.int .i64 0))), .nil, .nil, .nil, .nil], none⟩])
  (.seq (.dreg [⟨(some 7), .fa 4 (.t 1), none⟩,
    ⟨(some 8), .ld false 1 (.t 7), none⟩,
    ⟨(some 9), .call (.k (.w (.fn 147 []))) [(.t 8)], none⟩,
    ⟨(some 10), .fa 5 (.t 1), none⟩,
    ⟨(some 11), .ld false 1 (.t 10), none⟩,
    ⟨(some 12), .lenl (.t 11), none⟩,
    ⟨(some 13), .msl 6 112 [(.s (.int .i64 0)), (.s (.int .i64 0)), (.l 0 []), (.l 0 []), (.l 0 []), (.l 0 [])] (.t 12) (.t 12), none⟩,
    ⟨(some 14), .bld [(.d (.s (.int .i64 0))), (.d (.s (.int .i64 0))), .nil, .nil, .nil, .nil] [(4, 1, (.t 9)), (5, 1, (.t 13))], none⟩,
    ⟨(some 3), .new [(.d (.s (.int .i64 0))), (.d (.s (.int .i64 0))), .nil, .nil, .nil, .nil], none⟩,
    ⟨none, .st 6 (.t 3) (.t 14), none⟩] [0, 1, 3, 0, 8, 24, 56, 127, 0, 511])
  (.seq (.seq (.reg [⟨(some 15), .fa 0 (.t 1), none⟩,
    ⟨(some 16), .ld true 4 (.t 15), none⟩,
    ⟨(some 17), .call (.k (.w (.fn 173 []))) [(.t 16)], none⟩,
    ⟨(some 18), .un .not (.t 17), none⟩])
  (.cond (.t 18)
    (.reg [⟨(some 19), .fa 0 (.t 1), none⟩,
      ⟨(some 20), .ld true 4 (.t 19), none⟩,
      ⟨(some 21), .call (.k (.w (.fn 120 []))) [(.t 20)], none⟩,
      ⟨(some 22), .fa 0 (.t 3), none⟩,
      ⟨none, .st 4 (.t 22) (.t 21), none⟩])
    .skip))
  (.seq (.seq (.reg [⟨(some 23), .fa 5 (.t 1), none⟩,
    ⟨(some 24), .ld false 1 (.t 23), none⟩,
    ⟨(some 25), .lenl (.t 24), none⟩,
    ⟨(some 26), .mv (.k (.w (.d (.s (.int .i64 0))))), none⟩])
  (.block 0
    F146_L0))
  (.seq (.block 2
    F146_L1)
  (.seq (.reg [⟨(some 90), .ld true 6 (.t 3), none⟩,
    ⟨none, .st 6 (.t 2) (.t 90), none⟩])
  .ret))))))⟩

end Go.VM
