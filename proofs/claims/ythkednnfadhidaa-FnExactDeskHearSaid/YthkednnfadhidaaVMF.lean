/- The functions of the seat as the value machine has them, written by a program of mine out of the translation. Conditions: none. -/
import Derived.Test.YthkednnfadhidaaVMC

namespace Go.VM

/- loop.example/stile/laws.FnHoldFalls -/
def F1_B0 : C :=
  (.seq (.seq (.reg [⟨(some 31), .mv (.t 8), none⟩,
    ⟨(some 32), .mv (.t 0), none⟩,
    ⟨(some 33), .mv (.t 6), none⟩,
    ⟨(some 34), .ia 1 (.t 32) (.t 33), none⟩,
    ⟨(some 35), .ld false 1 (.t 34), none⟩,
    ⟨(some 36), .cvi .i64 (.t 35), none⟩,
    ⟨(some 37), .bin .rem .one (.t 36) (.k (.w (.d (.s (.int .i64 9))))), none⟩,
    ⟨(some 38), .bin .lss .one (.t 31) (.t 37), none⟩])
  (.cond (.t 38)
    .skip
    (.exit 2)))
  (.seq (.block 3
    (.dreg [⟨(some 41), .mv (.t 7), none⟩,
      ⟨(some 42), .mv (.t 0), none⟩,
      ⟨(some 43), .mv (.t 6), none⟩,
      ⟨(some 44), .ia 1 (.t 42) (.t 43), none⟩,
      ⟨(some 45), .ld false 1 (.t 44), none⟩,
      ⟨(some 46), .cvi .i64 (.t 45), none⟩,
      ⟨(some 47), .mv (.t 8), none⟩,
      ⟨(some 48), .mv (.t 0), none⟩,
      ⟨(some 49), .mv (.t 6), none⟩,
      ⟨(some 50), .bin .add .one (.t 49) (.k (.w (.d (.s (.int .i64 1))))), none⟩,
      ⟨(some 51), .ia 1 (.t 48) (.t 50), none⟩,
      ⟨(some 52), .ld false 1 (.t 51), none⟩,
      ⟨(some 53), .cvi .i64 (.t 52), none⟩,
      ⟨(some 54), .bin .mul .one (.t 47) (.t 53), none⟩,
      ⟨(some 55), .bin .add .one (.t 46) (.t 54), none⟩,
      ⟨(some 56), .cvi .u8 (.t 55), none⟩,
      ⟨(some 57), .bsl 1 1 [(.s (.int .u8 0))] [(0, (.t 56))], none⟩,
      ⟨(some 58), .app 1 1 [(.s (.int .u8 0))] (.t 41) (.t 57), none⟩,
      ⟨(some 7), .mv (.t 58), none⟩] [0, 0, 0, 6, 14, 30, 0, 0, 0, 256, 896, 1920, 3968, 8128, 16382, 32766, 65534, 131071, 262143]))
  (.reg [⟨(some 39), .mv (.t 8), none⟩,
    ⟨(some 40), .bin .add .one (.t 39) (.k (.w (.d (.s (.int .i64 1))))), none⟩,
    ⟨(some 8), .mv (.t 40), none⟩])))
def F1_L0 : C := .loop F1_B0
def F1_B1 : C :=
  (.seq (.seq (.reg [⟨(some 19), .mv (.t 6), none⟩,
    ⟨(some 20), .bin .add .one (.t 19) (.k (.w (.d (.s (.int .i64 1))))), none⟩,
    ⟨(some 21), .mv (.t 0), none⟩,
    ⟨(some 22), .lenl (.t 21), none⟩,
    ⟨(some 23), .bin .lss .one (.t 20) (.t 22), none⟩,
    ⟨(some 24), .mv (.t 23), none⟩,
    ⟨(some 25), .mv (.t 6), (some (24, true))⟩,
    ⟨(some 26), .bin .lss .one (.t 25) (.k (.w (.d (.s (.int .i64 120))))), (some (24, true))⟩,
    ⟨(some 27), .pick (.t 24) (.t 26) (.k (.w (.d (.s (.bool false))))), none⟩])
  (.cond (.t 27)
    .skip
    (.exit 0)))
  (.seq (.block 1
    (.seq (.reg [⟨(some 30), .bsl 1 0 [(.s (.int .u8 0))] [], none⟩,
      ⟨(some 7), .mv (.t 30), none⟩])
    (.seq (.seq (.reg [⟨(some 8), .mv (.k (.w (.d (.s (.int .i64 0))))), none⟩])
    (.block 2
      F1_L0))
    (.seq (.reg [⟨(some 60), .ld true 6 (.t 3), none⟩,
      ⟨(some 61), .mv (.t 7), none⟩,
      ⟨(some 62), .call (.k (.w (.fn 11 []))) [(.t 60), (.t 61)], none⟩,
      ⟨(some 59), .mv (.t 62), none⟩,
      ⟨(some 63), .ext 0 (.t 59), none⟩,
      ⟨(some 64), .ext 1 (.t 59), none⟩,
      ⟨(some 9), .mv (.t 63), none⟩,
      ⟨(some 10), .mv (.t 64), none⟩])
    (.seq (.seq (.reg [⟨(some 65), .mv (.t 10), none⟩,
      ⟨(some 66), .un .not (.t 65), none⟩])
    (.cond (.t 66)
      (.seq (.reg [⟨(some 2), .mv (.k (.w (.d (.s (.bool false))))), none⟩])
      .ret)
      .skip))
    (.seq (.reg [⟨(some 67), .mv (.t 0), none⟩,
      ⟨(some 68), .mv (.t 6), none⟩,
      ⟨(some 69), .bin .add .one (.t 68) (.k (.w (.d (.s (.int .i64 1))))), none⟩,
      ⟨(some 70), .ia 1 (.t 67) (.t 69), none⟩,
      ⟨(some 71), .ld false 1 (.t 70), none⟩,
      ⟨(some 72), .cvi .i64 (.t 71), none⟩,
      ⟨(some 73), .bin .rem .one (.t 72) (.k (.w (.d (.s (.int .i64 18))))), none⟩,
      ⟨(some 11), .mv (.t 73), none⟩])
    (.seq (.reg [⟨(some 74), .ld true 6 (.t 3), none⟩,
      ⟨(some 75), .mv (.t 9), none⟩,
      ⟨(some 76), .mv (.t 11), none⟩,
      ⟨(some 77), .call (.k (.w (.fn 12 []))) [(.t 74), (.t 75), (.t 76)], none⟩,
      ⟨none, .st 6 (.t 3) (.t 77), none⟩])
    (.seq (.seq (.reg [⟨(some 78), .mv (.t 11), none⟩,
      ⟨(some 79), .mv (.t 7), none⟩,
      ⟨(some 80), .lenl (.t 79), none⟩,
      ⟨(some 81), .bin .add .one (.t 80) (.k (.w (.d (.s (.int .i64 4))))), none⟩,
      ⟨(some 82), .bin .geq .one (.t 78) (.t 81), none⟩])
    (.cond (.t 82)
      (.seq (.reg [⟨(some 83), .mv (.t 7), none⟩,
        ⟨(some 4), .mv (.t 83), none⟩])
      (.reg [⟨(some 5), .mv (.k (.w (.d (.s (.bool true))))), none⟩]))
      .skip))
    (.seq (.reg [⟨(some 85), .ld true 6 (.t 3), none⟩,
      ⟨(some 86), .call (.k (.w (.fn 13 []))) [(.t 85)], none⟩,
      ⟨(some 84), .mv (.t 86), none⟩,
      ⟨(some 87), .ext 0 (.t 84), none⟩,
      ⟨(some 88), .ext 1 (.t 84), none⟩,
      ⟨(some 12), .mv (.t 87), none⟩,
      ⟨(some 13), .mv (.t 88), none⟩])
    (.seq (.reg [⟨(some 89), .mv (.t 12), none⟩,
      ⟨(some 90), .mv (.t 13), none⟩,
      ⟨(some 91), .mv (.t 4), none⟩,
      ⟨(some 92), .mv (.t 5), none⟩,
      ⟨(some 93), .call (.k (.w (.fn 14 []))) [(.t 89), (.t 90), (.t 91), (.t 92)], none⟩,
      ⟨(some 94), .un .not (.t 93), none⟩])
    (.cond (.t 94)
      (.seq (.reg [⟨(some 2), .mv (.k (.w (.d (.s (.bool false))))), none⟩])
      .ret)
      .skip)))))))))))
  (.reg [⟨(some 28), .mv (.t 6), none⟩,
    ⟨(some 29), .bin .add .one (.t 28) (.k (.w (.d (.s (.int .i64 2))))), none⟩,
    ⟨(some 6), .mv (.t 29), none⟩])))
def F1_L1 : C := .loop F1_B1
def F1 : Fn := ⟨95, [.tmp 2],
  (.seq (.reg [⟨(some 2), .mv (.k (.w (.d (.s (.bool false))))), none⟩])
  (.seq (.seq (.reg [⟨(some 14), .mv (.t 0), none⟩,
    ⟨(some 15), .lenl (.t 14), none⟩,
    ⟨(some 16), .bin .gtr .one (.t 15) (.k (.w (.d (.s (.int .i64 1048576))))), none⟩])
  (.cond (.t 16)
    (.seq (.reg [⟨(some 2), .mv (.k (.w (.d (.s (.bool true))))), none⟩])
    .ret)
    .skip))
  (.seq (.reg [⟨(some 17), .bld [(.d (.s (.int .u8 0))), (.d (.s (.int .u8 0))), .nil, (.d (.s (.int .u8 0))), (.d (.s (.int .u8 0))), .nil] [], none⟩,
    ⟨(some 3), .new [(.d (.s (.int .u8 0))), (.d (.s (.int .u8 0))), .nil, (.d (.s (.int .u8 0))), (.d (.s (.int .u8 0))), .nil], none⟩,
    ⟨none, .st 6 (.t 3) (.t 17), none⟩])
  (.seq (.reg [⟨(some 18), .bsl 1 0 [(.s (.int .u8 0))] [], none⟩,
    ⟨(some 4), .mv (.t 18), none⟩])
  (.seq (.reg [⟨(some 5), .mv (.k (.w (.d (.s (.bool false))))), none⟩])
  (.seq (.seq (.reg [⟨(some 6), .mv (.k (.w (.d (.s (.int .i64 0))))), none⟩])
  (.block 0
    F1_L1))
  (.seq (.reg [⟨(some 2), .mv (.k (.w (.d (.s (.bool true))))), none⟩])
  .ret)))))))⟩

/- loop.example/stile/laws.FnExactDeskOk -/
def F2 : Fn := ⟨27, [.tmp 2],
  (.seq (.reg [⟨(some 1), .box 5 (.t 0), none⟩,
    ⟨(some 2), .mv (.k (.w (.d (.s (.bool false))))), none⟩])
  (.seq (.reg [⟨(some 3), .mv (.k (.w (.d (.s (.int .i64 1048576))))), none⟩])
  (.seq (.reg [⟨(some 7), .ld true 5 (.t 1), none⟩,
    ⟨(some 8), .mv (.t 3), none⟩,
    ⟨(some 9), .call (.k (.w (.fn 15 []))) [(.t 7), (.t 8)], none⟩,
    ⟨(some 3), .mv (.t 9), none⟩])
  (.seq (.seq (.reg [⟨(some 10), .mv (.t 3), none⟩,
    ⟨(some 11), .bin .lss .one (.t 10) (.k (.w (.d (.s (.int .i64 0))))), none⟩])
  (.cond (.t 11)
    (.seq (.reg [⟨(some 2), .mv (.k (.w (.d (.s (.bool true))))), none⟩])
    .ret)
    .skip))
  (.seq (.reg [⟨(some 12), .ld true 5 (.t 1), none⟩,
    ⟨(some 13), .call (.k (.w (.fn 16 []))) [(.t 12)], none⟩,
    ⟨(some 14), .call (.k (.w (.fn 17 []))) [(.t 13)], none⟩,
    ⟨(some 4), .mv (.t 14), none⟩])
  (.seq (.reg [⟨(some 15), .ld true 5 (.t 1), none⟩,
    ⟨(some 16), .call (.k (.w (.fn 16 []))) [(.t 15)], none⟩,
    ⟨(some 5), .new [(.d (.s (.int .i64 0))), (.d (.s (.int .i64 0))), .nil, (.d (.s (.int .i64 0))), (.d (.s (.int .i64 0)))], none⟩,
    ⟨none, .st 5 (.t 5) (.t 16), none⟩])
  (.seq (.reg [⟨(some 17), .ld true 5 (.t 5), none⟩,
    ⟨(some 18), .call (.k (.w (.fn 18 []))) [(.t 17)], none⟩,
    ⟨(some 6), .mv (.t 18), none⟩])
  (.seq (.seq (.reg [⟨(some 19), .mv (.t 6), none⟩,
    ⟨(some 20), .mv (.t 4), none⟩,
    ⟨(some 21), .bin .neq .b (.t 19) (.t 20), none⟩])
  (.cond (.t 21)
    (.seq (.reg [⟨(some 2), .mv (.k (.w (.d (.s (.bool false))))), none⟩])
    .ret)
    .skip))
  (.seq (.seq (.dreg [⟨(some 22), .ld true 5 (.t 5), none⟩,
    ⟨(some 23), .ld true 5 (.t 1), none⟩,
    ⟨(some 24), .call (.k (.w (.fn 16 []))) [(.t 23)], none⟩,
    ⟨(some 25), .call (.k (.w (.fn 19 []))) [(.t 22), (.t 24)], none⟩,
    ⟨(some 26), .un .not (.t 25), none⟩] [0, 0, 2, 7, 15])
  (.cond (.t 26)
    (.seq (.reg [⟨(some 2), .mv (.k (.w (.d (.s (.bool false))))), none⟩])
    .ret)
    .skip))
  (.seq (.reg [⟨(some 2), .mv (.k (.w (.d (.s (.bool true))))), none⟩])
  .ret))))))))))⟩

/- loop.example/stile/laws.FnExactDeskFall -/
def F3 : Fn := ⟨69, [.tmp 2],
  (.seq (.reg [⟨(some 1), .box 5 (.t 0), none⟩,
    ⟨(some 2), .mv (.k (.w (.d (.s (.bool false))))), none⟩])
  (.seq (.reg [⟨(some 3), .mv (.k (.w (.d (.s (.int .i64 1048576))))), none⟩])
  (.seq (.reg [⟨(some 11), .ld true 5 (.t 1), none⟩,
    ⟨(some 12), .mv (.t 3), none⟩,
    ⟨(some 13), .call (.k (.w (.fn 15 []))) [(.t 11), (.t 12)], none⟩,
    ⟨(some 3), .mv (.t 13), none⟩])
  (.seq (.seq (.reg [⟨(some 14), .mv (.t 3), none⟩,
    ⟨(some 15), .bin .lss .one (.t 14) (.k (.w (.d (.s (.int .i64 0))))), none⟩])
  (.cond (.t 15)
    (.seq (.reg [⟨(some 2), .mv (.k (.w (.d (.s (.bool true))))), none⟩])
    .ret)
    .skip))
  (.seq (.reg [⟨(some 16), .ld true 5 (.t 1), none⟩,
    ⟨(some 17), .call (.k (.w (.fn 16 []))) [(.t 16)], none⟩,
    ⟨(some 18), .call (.k (.w (.fn 20 []))) [(.t 17)], none⟩,
    ⟨(some 4), .new [(.d (.s (.int .i64 0))), (.d (.s (.int .i64 0))), .nil, (.d (.s (.int .i64 0))), (.d (.s (.int .i64 0)))], none⟩,
    ⟨none, .st 5 (.t 4) (.t 18), none⟩])
  (.seq (.reg [⟨(some 19), .ld true 5 (.t 1), none⟩,
    ⟨(some 20), .call (.k (.w (.fn 16 []))) [(.t 19)], none⟩,
    ⟨(some 5), .new [(.d (.s (.int .i64 0))), (.d (.s (.int .i64 0))), .nil, (.d (.s (.int .i64 0))), (.d (.s (.int .i64 0)))], none⟩,
    ⟨none, .st 5 (.t 5) (.t 20), none⟩])
  (.seq (.reg [⟨(some 21), .ld true 5 (.t 5), none⟩,
    ⟨(some 22), .call (.k (.w (.fn 21 []))) [(.t 21)], none⟩,
    ⟨(some 6), .new [(.d (.s (.int .i64 0))), (.d (.s (.int .i64 0))), .nil, (.d (.s (.int .i64 0))), (.d (.s (.int .i64 0)))], none⟩,
    ⟨none, .st 5 (.t 6) (.t 22), none⟩])
  (.seq (.seq (.reg [⟨(some 23), .ld true 5 (.t 6), none⟩,
    ⟨(some 24), .ld true 5 (.t 4), none⟩,
    ⟨(some 25), .call (.k (.w (.fn 19 []))) [(.t 23), (.t 24)], none⟩,
    ⟨(some 26), .un .not (.t 25), none⟩])
  (.cond (.t 26)
    (.seq (.reg [⟨(some 2), .mv (.k (.w (.d (.s (.bool false))))), none⟩])
    .ret)
    .skip))
  (.seq (.seq (.dreg [⟨(some 27), .ld true 5 (.t 5), none⟩,
    ⟨(some 28), .ld true 5 (.t 1), none⟩,
    ⟨(some 29), .call (.k (.w (.fn 16 []))) [(.t 28)], none⟩,
    ⟨(some 30), .call (.k (.w (.fn 19 []))) [(.t 27), (.t 29)], none⟩,
    ⟨(some 31), .un .not (.t 30), none⟩] [0, 0, 2, 7, 15])
  (.cond (.t 31)
    (.seq (.reg [⟨(some 2), .mv (.k (.w (.d (.s (.bool false))))), none⟩])
    .ret)
    .skip))
  (.seq (.reg [⟨(some 7), .mv (.k (.w (.d (.s (.int .i64 1))))), none⟩])
  (.seq (.reg [⟨(some 32), .ld true 5 (.t 5), none⟩,
    ⟨(some 33), .mv (.t 7), none⟩,
    ⟨(some 34), .call (.k (.w (.fn 22 []))) [(.t 32), (.t 33)], none⟩,
    ⟨(some 7), .mv (.t 34), none⟩])
  (.seq (.seq (.reg [⟨(some 35), .mv (.t 7), none⟩,
    ⟨(some 36), .bin .lss .one (.t 35) (.k (.w (.d (.s (.int .i64 0))))), none⟩,
    ⟨(some 37), .mv (.t 36), none⟩,
    ⟨(some 38), .ld true 5 (.t 6), (some (37, false))⟩,
    ⟨(some 39), .ld true 5 (.t 4), (some (37, false))⟩,
    ⟨(some 40), .call (.k (.w (.fn 19 []))) [(.t 38), (.t 39)], (some (37, false))⟩,
    ⟨(some 41), .un .not (.t 40), (some (37, false))⟩,
    ⟨(some 42), .pick (.t 37) (.k (.w (.d (.s (.bool true))))) (.t 41), none⟩])
  (.cond (.t 42)
    (.seq (.reg [⟨(some 2), .mv (.k (.w (.d (.s (.bool false))))), none⟩])
    .ret)
    .skip))
  (.seq (.reg [⟨(some 8), .mv (.k (.w (.d (.s (.int .i64 1))))), none⟩])
  (.seq (.reg [⟨(some 43), .ld true 5 (.t 6), none⟩,
    ⟨(some 44), .mv (.t 8), none⟩,
    ⟨(some 45), .call (.k (.w (.fn 22 []))) [(.t 43), (.t 44)], none⟩,
    ⟨(some 8), .mv (.t 45), none⟩])
  (.seq (.reg [⟨(some 9), .mv (.k (.w (.d (.s (.int .i64 1))))), none⟩])
  (.seq (.reg [⟨(some 46), .ld true 5 (.t 6), none⟩,
    ⟨(some 47), .mv (.t 9), none⟩,
    ⟨(some 48), .call (.k (.w (.fn 23 []))) [(.t 46), (.t 47)], none⟩,
    ⟨(some 9), .mv (.t 48), none⟩])
  (.seq (.seq (.reg [⟨(some 49), .mv (.t 9), none⟩,
    ⟨(some 50), .bin .lss .one (.t 49) (.k (.w (.d (.s (.int .i64 0))))), none⟩])
  (.cond (.t 50)
    (.seq (.reg [⟨(some 2), .mv (.k (.w (.d (.s (.bool false))))), none⟩])
    .ret)
    .skip))
  (.seq (.seq (.reg [⟨(some 51), .mv (.t 9), none⟩,
    ⟨(some 52), .mv (.t 8), none⟩,
    ⟨(some 53), .bin .neq .one (.t 51) (.t 52), none⟩])
  (.cond (.t 53)
    (.seq (.reg [⟨(some 2), .mv (.k (.w (.d (.s (.bool false))))), none⟩])
    .ret)
    .skip))
  (.seq (.reg [⟨(some 54), .ld true 5 (.t 1), none⟩,
    ⟨(some 55), .call (.k (.w (.fn 16 []))) [(.t 54)], none⟩,
    ⟨(some 56), .call (.k (.w (.fn 21 []))) [(.t 55)], none⟩,
    ⟨(some 10), .new [(.d (.s (.int .i64 0))), (.d (.s (.int .i64 0))), .nil, (.d (.s (.int .i64 0))), (.d (.s (.int .i64 0)))], none⟩,
    ⟨none, .st 5 (.t 10) (.t 56), none⟩])
  (.seq (.seq (.reg [⟨(some 57), .ld true 5 (.t 10), none⟩,
    ⟨(some 58), .ld true 5 (.t 4), none⟩,
    ⟨(some 59), .call (.k (.w (.fn 19 []))) [(.t 57), (.t 58)], none⟩,
    ⟨(some 60), .un .not (.t 59), none⟩])
  (.cond (.t 60)
    (.seq (.reg [⟨(some 2), .mv (.k (.w (.d (.s (.bool false))))), none⟩])
    .ret)
    .skip))
  (.seq (.reg [⟨(some 9), .mv (.k (.w (.d (.s (.int .i64 1))))), none⟩])
  (.seq (.reg [⟨(some 61), .ld true 5 (.t 6), none⟩,
    ⟨(some 62), .mv (.t 9), none⟩,
    ⟨(some 63), .call (.k (.w (.fn 23 []))) [(.t 61), (.t 62)], none⟩,
    ⟨(some 9), .mv (.t 63), none⟩])
  (.seq (.seq (.reg [⟨(some 64), .mv (.t 9), none⟩,
    ⟨(some 65), .bin .lss .one (.t 64) (.k (.w (.d (.s (.int .i64 0))))), none⟩])
  (.cond (.t 65)
    (.seq (.reg [⟨(some 2), .mv (.k (.w (.d (.s (.bool false))))), none⟩])
    .ret)
    .skip))
  (.seq (.seq (.reg [⟨(some 66), .mv (.t 9), none⟩,
    ⟨(some 67), .mv (.t 8), none⟩,
    ⟨(some 68), .bin .neq .one (.t 66) (.t 67), none⟩])
  (.cond (.t 68)
    (.seq (.reg [⟨(some 2), .mv (.k (.w (.d (.s (.bool false))))), none⟩])
    .ret)
    .skip))
  (.seq (.reg [⟨(some 2), .mv (.k (.w (.d (.s (.bool true))))), none⟩])
  .ret)))))))))))))))))))))))))⟩

/- loop.example/stile/laws.FnHoldFold -/
def F4_B0 : C :=
  (.seq (.seq (.reg [⟨(some 22), .mv (.t 7), none⟩,
    ⟨(some 23), .mv (.t 5), none⟩,
    ⟨(some 24), .bin .lss .one (.t 22) (.t 23), none⟩,
    ⟨(some 25), .mv (.t 24), none⟩,
    ⟨(some 26), .mv (.t 7), (some (25, true))⟩,
    ⟨(some 27), .mv (.t 4), (some (25, true))⟩,
    ⟨(some 28), .lenl (.t 27), (some (25, true))⟩,
    ⟨(some 29), .bin .lss .one (.t 26) (.t 28), (some (25, true))⟩,
    ⟨(some 30), .pick (.t 25) (.t 29) (.k (.w (.d (.s (.bool false))))), none⟩])
  (.cond (.t 30)
    .skip
    (.exit 0)))
  (.seq (.block 1
    (.dreg [⟨(some 33), .ld true 6 (.t 6), none⟩,
      ⟨(some 34), .mv (.t 4), none⟩,
      ⟨(some 35), .mv (.t 7), none⟩,
      ⟨(some 36), .ia 3 (.t 34) (.t 35), none⟩,
      ⟨(some 37), .ld true 3 (.t 36), none⟩,
      ⟨(some 38), .call (.k (.w (.fn 25 []))) [(.t 33), (.t 37)], none⟩,
      ⟨none, .st 6 (.t 6) (.t 38), none⟩] [0, 0, 0, 6, 14, 31, 63]))
  (.reg [⟨(some 31), .mv (.t 7), none⟩,
    ⟨(some 32), .bin .add .one (.t 31) (.k (.w (.d (.s (.int .i64 1))))), none⟩,
    ⟨(some 7), .mv (.t 32), none⟩])))
def F4_L0 : C := .loop F4_B0
def F4 : Fn := ⟨113, [.tmp 2],
  (.seq (.reg [⟨(some 2), .mv (.k (.w (.d (.s (.bool false))))), none⟩])
  (.seq (.seq (.reg [⟨(some 9), .mv (.t 0), none⟩,
    ⟨(some 10), .lenl (.t 9), none⟩,
    ⟨(some 11), .bin .gtr .one (.t 10) (.k (.w (.d (.s (.int .i64 1048576))))), none⟩])
  (.cond (.t 11)
    (.seq (.reg [⟨(some 2), .mv (.k (.w (.d (.s (.bool true))))), none⟩])
    .ret)
    .skip))
  (.seq (.reg [⟨(some 13), .mv (.t 0), none⟩,
    ⟨(some 14), .call (.k (.w (.fn 24 []))) [(.t 13)], none⟩,
    ⟨(some 12), .mv (.t 14), none⟩,
    ⟨(some 15), .ext 0 (.t 12), none⟩,
    ⟨(some 16), .ext 1 (.t 12), none⟩,
    ⟨(some 17), .ext 2 (.t 12), none⟩,
    ⟨(some 3), .new [(.d (.s (.int .u8 0))), (.d (.s (.int .u8 0))), .nil, (.d (.s (.int .u8 0))), (.d (.s (.int .u8 0))), .nil], none⟩,
    ⟨none, .st 6 (.t 3) (.t 15), none⟩,
    ⟨(some 4), .mv (.t 16), none⟩,
    ⟨(some 5), .mv (.t 17), none⟩])
  (.seq (.seq (.reg [⟨(some 18), .mv (.t 4), none⟩,
    ⟨(some 19), .lenl (.t 18), none⟩,
    ⟨(some 20), .bin .gtr .one (.t 19) (.k (.w (.d (.s (.int .i64 400))))), none⟩])
  (.cond (.t 20)
    (.seq (.reg [⟨(some 2), .mv (.k (.w (.d (.s (.bool true))))), none⟩])
    .ret)
    .skip))
  (.seq (.reg [⟨(some 21), .ld true 6 (.t 3), none⟩,
    ⟨(some 6), .new [(.d (.s (.int .u8 0))), (.d (.s (.int .u8 0))), .nil, (.d (.s (.int .u8 0))), (.d (.s (.int .u8 0))), .nil], none⟩,
    ⟨none, .st 6 (.t 6) (.t 21), none⟩])
  (.seq (.seq (.reg [⟨(some 7), .mv (.k (.w (.d (.s (.int .i64 0))))), none⟩])
  (.block 0
    F4_L0))
  (.seq (.reg [⟨(some 39), .ld true 6 (.t 3), none⟩,
    ⟨(some 40), .mv (.t 4), none⟩,
    ⟨(some 41), .mv (.t 5), none⟩,
    ⟨(some 42), .call (.k (.w (.fn 12 []))) [(.t 39), (.t 40), (.t 41)], none⟩,
    ⟨(some 8), .new [(.d (.s (.int .u8 0))), (.d (.s (.int .u8 0))), .nil, (.d (.s (.int .u8 0))), (.d (.s (.int .u8 0))), .nil], none⟩,
    ⟨none, .st 6 (.t 8) (.t 42), none⟩])
  (.seq (.dreg [⟨(some 43), .fa 0 (.t 6), none⟩,
    ⟨(some 44), .fa 0 (.t 43), none⟩,
    ⟨(some 45), .ld false 1 (.t 44), none⟩,
    ⟨(some 46), .fa 0 (.t 8), none⟩,
    ⟨(some 47), .fa 0 (.t 46), none⟩,
    ⟨(some 48), .ld false 1 (.t 47), none⟩,
    ⟨(some 49), .bin .eql .one (.t 45) (.t 48), none⟩,
    ⟨(some 50), .mv (.t 49), none⟩,
    ⟨(some 51), .fa 3 (.t 6), (some (50, true))⟩,
    ⟨(some 52), .fa 0 (.t 51), (some (50, true))⟩,
    ⟨(some 53), .ld false 1 (.t 52), (some (50, true))⟩,
    ⟨(some 54), .fa 3 (.t 8), (some (50, true))⟩,
    ⟨(some 55), .fa 0 (.t 54), (some (50, true))⟩,
    ⟨(some 56), .ld false 1 (.t 55), (some (50, true))⟩,
    ⟨(some 57), .bin .eql .one (.t 53) (.t 56), (some (50, true))⟩,
    ⟨(some 58), .pick (.t 50) (.t 57) (.k (.w (.d (.s (.bool false))))), none⟩,
    ⟨(some 59), .mv (.t 58), none⟩,
    ⟨(some 60), .fa 0 (.t 6), (some (59, true))⟩,
    ⟨(some 61), .fa 1 (.t 60), (some (59, true))⟩,
    ⟨(some 62), .ld false 1 (.t 61), (some (59, true))⟩,
    ⟨(some 63), .fa 0 (.t 8), (some (59, true))⟩,
    ⟨(some 64), .fa 1 (.t 63), (some (59, true))⟩,
    ⟨(some 65), .ld false 1 (.t 64), (some (59, true))⟩,
    ⟨(some 66), .bin .eql .one (.t 62) (.t 65), (some (59, true))⟩,
    ⟨(some 67), .pick (.t 59) (.t 66) (.k (.w (.d (.s (.bool false))))), none⟩,
    ⟨(some 68), .mv (.t 67), none⟩,
    ⟨(some 69), .fa 3 (.t 6), (some (68, true))⟩,
    ⟨(some 70), .fa 1 (.t 69), (some (68, true))⟩,
    ⟨(some 71), .ld false 1 (.t 70), (some (68, true))⟩,
    ⟨(some 72), .fa 3 (.t 8), (some (68, true))⟩,
    ⟨(some 73), .fa 1 (.t 72), (some (68, true))⟩,
    ⟨(some 74), .ld false 1 (.t 73), (some (68, true))⟩,
    ⟨(some 75), .bin .eql .one (.t 71) (.t 74), (some (68, true))⟩,
    ⟨(some 76), .pick (.t 68) (.t 75) (.k (.w (.d (.s (.bool false))))), none⟩,
    ⟨(some 77), .mv (.t 76), none⟩,
    ⟨(some 78), .fa 0 (.t 6), (some (77, true))⟩,
    ⟨(some 79), .fa 2 (.t 78), (some (77, true))⟩,
    ⟨(some 80), .ld false 1 (.t 79), (some (77, true))⟩,
    ⟨(some 81), .cbs (.t 80), (some (77, true))⟩,
    ⟨(some 82), .fa 0 (.t 8), (some (77, true))⟩,
    ⟨(some 83), .fa 2 (.t 82), (some (77, true))⟩,
    ⟨(some 84), .ld false 1 (.t 83), (some (77, true))⟩,
    ⟨(some 85), .cbs (.t 84), (some (77, true))⟩,
    ⟨(some 86), .bin .eql .one (.t 81) (.t 85), (some (77, true))⟩,
    ⟨(some 87), .pick (.t 77) (.t 86) (.k (.w (.d (.s (.bool false))))), none⟩,
    ⟨(some 88), .mv (.t 87), none⟩,
    ⟨(some 89), .fa 3 (.t 6), (some (88, true))⟩,
    ⟨(some 90), .fa 2 (.t 89), (some (88, true))⟩,
    ⟨(some 91), .ld false 1 (.t 90), (some (88, true))⟩,
    ⟨(some 92), .cbs (.t 91), (some (88, true))⟩,
    ⟨(some 93), .fa 3 (.t 8), (some (88, true))⟩,
    ⟨(some 94), .fa 2 (.t 93), (some (88, true))⟩,
    ⟨(some 95), .ld false 1 (.t 94), (some (88, true))⟩,
    ⟨(some 96), .cbs (.t 95), (some (88, true))⟩,
    ⟨(some 97), .bin .eql .one (.t 92) (.t 96), (some (88, true))⟩,
    ⟨(some 98), .pick (.t 88) (.t 97) (.k (.w (.d (.s (.bool false))))), none⟩,
    ⟨(some 99), .mv (.t 98), none⟩,
    ⟨(some 100), .fa 0 (.t 8), (some (99, true))⟩,
    ⟨(some 101), .fa 2 (.t 100), (some (99, true))⟩,
    ⟨(some 102), .ld false 1 (.t 101), (some (99, true))⟩,
    ⟨(some 103), .cbs (.t 102), (some (99, true))⟩,
    ⟨(some 104), .ld true 6 (.t 3), (some (99, true))⟩,
    ⟨(some 105), .mv (.t 4), (some (99, true))⟩,
    ⟨(some 106), .mv (.t 5), (some (99, true))⟩,
    ⟨(some 107), .call (.k (.w (.fn 26 []))) [(.t 104), (.t 105), (.t 106)], (some (99, true))⟩,
    ⟨(some 108), .fld true 0 3 (.t 107), (some (99, true))⟩,
    ⟨(some 109), .fld false 2 1 (.t 108), (some (99, true))⟩,
    ⟨(some 110), .cbs (.t 109), (some (99, true))⟩,
    ⟨(some 111), .bin .eql .one (.t 103) (.t 110), (some (99, true))⟩,
    ⟨(some 112), .pick (.t 99) (.t 111) (.k (.w (.d (.s (.bool false))))), none⟩,
    ⟨(some 2), .mv (.t 112), none⟩] [0, 1, 3, 0, 8, 24, 63, 127, 255, 511, 1023, 255, 2303, 6399, 16383, 32767, 65535, 131071, 262143, 524287, 131071, 1179647, 3276799, 8388607, 16777215, 33554431, 67108863, 134217727, 268435455, 67108863, 603979775, 1677721599, 4294967295, 8589934591, 17179869183, 34359738367, 68719476735, 137438953471, 274877906943, 34359738367, 584115552255, 1683627180031, 3882650435583, 8796093022207, 17592186044415, 35184372088831, 70368744177663, 140737488355327, 281474976710655, 562949953421311, 70368744177663, 1196268651020287, 3448068464705535, 7951668092076031, 18014398509481983, 36028797018963967, 72057594037927935, 144115188075855871, 288230376151711743, 576460752303423487, 1152921504606846975, 144115188075855871, 144115188075855871, 144115188075855871, 16285016252571713535, 34731760326281265151, 71625248473700368383, 145412224768538574847, 295147905179352825855, 590295810358705651711, 1180591620717411303423])
  .ret))))))))⟩

/- loop.example/stile/laws.FnExactHoldDo -/
def F5 : Fn := ⟨77, [.tmp 4],
  (.seq (.reg [⟨(some 2), .box 6 (.t 0), none⟩,
    ⟨(some 3), .box 3 (.t 1), none⟩,
    ⟨(some 4), .mv (.k (.w (.d (.s (.bool false))))), none⟩])
  (.seq (.reg [⟨(some 5), .mv (.k (.w (.d (.s (.int .i64 1048576))))), none⟩])
  (.seq (.reg [⟨(some 13), .ld true 6 (.t 2), none⟩,
    ⟨(some 14), .mv (.t 5), none⟩,
    ⟨(some 15), .call (.k (.w (.fn 27 []))) [(.t 13), (.t 14)], none⟩,
    ⟨(some 5), .mv (.t 15), none⟩])
  (.seq (.seq (.reg [⟨(some 16), .mv (.t 5), none⟩,
    ⟨(some 17), .bin .lss .one (.t 16) (.k (.w (.d (.s (.int .i64 0))))), none⟩])
  (.cond (.t 17)
    (.seq (.reg [⟨(some 4), .mv (.k (.w (.d (.s (.bool true))))), none⟩])
    .ret)
    .skip))
  (.seq (.dreg [⟨(some 18), .ld true 6 (.t 2), none⟩,
    ⟨(some 19), .call (.k (.w (.fn 28 []))) [(.t 18)], none⟩,
    ⟨(some 20), .ld true 3 (.t 3), none⟩,
    ⟨(some 21), .call (.k (.w (.fn 29 []))) [(.t 20)], none⟩,
    ⟨(some 22), .call (.k (.w (.fn 30 []))) [(.t 19), (.t 21)], none⟩,
    ⟨(some 6), .new [(.d (.s (.int .u8 0))), (.d (.s (.int .u8 0))), .nil, (.d (.s (.int .u8 0))), (.d (.s (.int .u8 0))), .nil], none⟩,
    ⟨none, .st 6 (.t 6) (.t 22), none⟩] [0, 1, 0, 7, 15, 0, 63])
  (.seq (.reg [⟨(some 23), .ld true 6 (.t 2), none⟩,
    ⟨(some 24), .call (.k (.w (.fn 28 []))) [(.t 23)], none⟩,
    ⟨(some 7), .new [(.d (.s (.int .u8 0))), (.d (.s (.int .u8 0))), .nil, (.d (.s (.int .u8 0))), (.d (.s (.int .u8 0))), .nil], none⟩,
    ⟨none, .st 6 (.t 7) (.t 24), none⟩])
  (.seq (.dreg [⟨(some 25), .ld true 6 (.t 7), none⟩,
    ⟨(some 26), .ld true 3 (.t 3), none⟩,
    ⟨(some 27), .call (.k (.w (.fn 29 []))) [(.t 26)], none⟩,
    ⟨(some 28), .call (.k (.w (.fn 25 []))) [(.t 25), (.t 27)], none⟩,
    ⟨(some 8), .new [(.d (.s (.int .u8 0))), (.d (.s (.int .u8 0))), .nil, (.d (.s (.int .u8 0))), (.d (.s (.int .u8 0))), .nil], none⟩,
    ⟨none, .st 6 (.t 8) (.t 28), none⟩] [0, 0, 2, 7, 0, 31])
  (.seq (.seq (.reg [⟨(some 29), .ld true 6 (.t 8), none⟩,
    ⟨(some 30), .ld true 6 (.t 6), none⟩,
    ⟨(some 31), .call (.k (.w (.fn 31 []))) [(.t 29), (.t 30)], none⟩,
    ⟨(some 32), .un .not (.t 31), none⟩])
  (.cond (.t 32)
    (.seq (.reg [⟨(some 4), .mv (.k (.w (.d (.s (.bool false))))), none⟩])
    .ret)
    .skip))
  (.seq (.seq (.dreg [⟨(some 33), .ld true 6 (.t 7), none⟩,
    ⟨(some 34), .ld true 6 (.t 2), none⟩,
    ⟨(some 35), .call (.k (.w (.fn 28 []))) [(.t 34)], none⟩,
    ⟨(some 36), .call (.k (.w (.fn 31 []))) [(.t 33), (.t 35)], none⟩,
    ⟨(some 37), .un .not (.t 36), none⟩] [0, 0, 2, 7, 15])
  (.cond (.t 37)
    (.seq (.reg [⟨(some 4), .mv (.k (.w (.d (.s (.bool false))))), none⟩])
    .ret)
    .skip))
  (.seq (.reg [⟨(some 9), .mv (.k (.w (.d (.s (.int .i64 1))))), none⟩])
  (.seq (.reg [⟨(some 38), .ld true 6 (.t 7), none⟩,
    ⟨(some 39), .mv (.t 9), none⟩,
    ⟨(some 40), .call (.k (.w (.fn 32 []))) [(.t 38), (.t 39)], none⟩,
    ⟨(some 9), .mv (.t 40), none⟩])
  (.seq (.seq (.reg [⟨(some 41), .mv (.t 9), none⟩,
    ⟨(some 42), .bin .lss .one (.t 41) (.k (.w (.d (.s (.int .i64 0))))), none⟩,
    ⟨(some 43), .mv (.t 42), none⟩,
    ⟨(some 44), .ld true 6 (.t 8), (some (43, false))⟩,
    ⟨(some 45), .ld true 6 (.t 6), (some (43, false))⟩,
    ⟨(some 46), .call (.k (.w (.fn 31 []))) [(.t 44), (.t 45)], (some (43, false))⟩,
    ⟨(some 47), .un .not (.t 46), (some (43, false))⟩,
    ⟨(some 48), .pick (.t 43) (.k (.w (.d (.s (.bool true))))) (.t 47), none⟩])
  (.cond (.t 48)
    (.seq (.reg [⟨(some 4), .mv (.k (.w (.d (.s (.bool false))))), none⟩])
    .ret)
    .skip))
  (.seq (.reg [⟨(some 10), .mv (.k (.w (.d (.s (.int .i64 1))))), none⟩])
  (.seq (.reg [⟨(some 49), .ld true 6 (.t 8), none⟩,
    ⟨(some 50), .mv (.t 10), none⟩,
    ⟨(some 51), .call (.k (.w (.fn 32 []))) [(.t 49), (.t 50)], none⟩,
    ⟨(some 10), .mv (.t 51), none⟩])
  (.seq (.reg [⟨(some 11), .mv (.k (.w (.d (.s (.int .i64 1))))), none⟩])
  (.seq (.reg [⟨(some 52), .ld true 6 (.t 8), none⟩,
    ⟨(some 53), .mv (.t 11), none⟩,
    ⟨(some 54), .call (.k (.w (.fn 33 []))) [(.t 52), (.t 53)], none⟩,
    ⟨(some 11), .mv (.t 54), none⟩])
  (.seq (.seq (.reg [⟨(some 55), .mv (.t 11), none⟩,
    ⟨(some 56), .bin .lss .one (.t 55) (.k (.w (.d (.s (.int .i64 0))))), none⟩])
  (.cond (.t 56)
    (.seq (.reg [⟨(some 4), .mv (.k (.w (.d (.s (.bool false))))), none⟩])
    .ret)
    .skip))
  (.seq (.seq (.reg [⟨(some 57), .mv (.t 11), none⟩,
    ⟨(some 58), .mv (.t 10), none⟩,
    ⟨(some 59), .bin .neq .one (.t 57) (.t 58), none⟩])
  (.cond (.t 59)
    (.seq (.reg [⟨(some 4), .mv (.k (.w (.d (.s (.bool false))))), none⟩])
    .ret)
    .skip))
  (.seq (.dreg [⟨(some 60), .ld true 6 (.t 2), none⟩,
    ⟨(some 61), .call (.k (.w (.fn 28 []))) [(.t 60)], none⟩,
    ⟨(some 62), .ld true 3 (.t 3), none⟩,
    ⟨(some 63), .call (.k (.w (.fn 29 []))) [(.t 62)], none⟩,
    ⟨(some 64), .call (.k (.w (.fn 25 []))) [(.t 61), (.t 63)], none⟩,
    ⟨(some 12), .new [(.d (.s (.int .u8 0))), (.d (.s (.int .u8 0))), .nil, (.d (.s (.int .u8 0))), (.d (.s (.int .u8 0))), .nil], none⟩,
    ⟨none, .st 6 (.t 12) (.t 64), none⟩] [0, 1, 0, 7, 15, 0, 63])
  (.seq (.seq (.reg [⟨(some 65), .ld true 6 (.t 12), none⟩,
    ⟨(some 66), .ld true 6 (.t 6), none⟩,
    ⟨(some 67), .call (.k (.w (.fn 31 []))) [(.t 65), (.t 66)], none⟩,
    ⟨(some 68), .un .not (.t 67), none⟩])
  (.cond (.t 68)
    (.seq (.reg [⟨(some 4), .mv (.k (.w (.d (.s (.bool false))))), none⟩])
    .ret)
    .skip))
  (.seq (.reg [⟨(some 11), .mv (.k (.w (.d (.s (.int .i64 1))))), none⟩])
  (.seq (.reg [⟨(some 69), .ld true 6 (.t 8), none⟩,
    ⟨(some 70), .mv (.t 11), none⟩,
    ⟨(some 71), .call (.k (.w (.fn 33 []))) [(.t 69), (.t 70)], none⟩,
    ⟨(some 11), .mv (.t 71), none⟩])
  (.seq (.seq (.reg [⟨(some 72), .mv (.t 11), none⟩,
    ⟨(some 73), .bin .lss .one (.t 72) (.k (.w (.d (.s (.int .i64 0))))), none⟩])
  (.cond (.t 73)
    (.seq (.reg [⟨(some 4), .mv (.k (.w (.d (.s (.bool false))))), none⟩])
    .ret)
    .skip))
  (.seq (.seq (.reg [⟨(some 74), .mv (.t 11), none⟩,
    ⟨(some 75), .mv (.t 10), none⟩,
    ⟨(some 76), .bin .neq .one (.t 74) (.t 75), none⟩])
  (.cond (.t 76)
    (.seq (.reg [⟨(some 4), .mv (.k (.w (.d (.s (.bool false))))), none⟩])
    .ret)
    .skip))
  (.seq (.reg [⟨(some 4), .mv (.k (.w (.d (.s (.bool true))))), none⟩])
  .ret)))))))))))))))))))))))))⟩

/- loop.example/stile/laws.FnExactDeskSay -/
def F6 : Fn := ⟨96, [.tmp 2],
  (.seq (.reg [⟨(some 1), .box 5 (.t 0), none⟩,
    ⟨(some 2), .mv (.k (.w (.d (.s (.bool false))))), none⟩])
  (.seq (.reg [⟨(some 3), .mv (.k (.w (.d (.s (.int .i64 1048576))))), none⟩])
  (.seq (.reg [⟨(some 14), .ld true 5 (.t 1), none⟩,
    ⟨(some 15), .mv (.t 3), none⟩,
    ⟨(some 16), .call (.k (.w (.fn 15 []))) [(.t 14), (.t 15)], none⟩,
    ⟨(some 3), .mv (.t 16), none⟩])
  (.seq (.seq (.reg [⟨(some 17), .mv (.t 3), none⟩,
    ⟨(some 18), .bin .lss .one (.t 17) (.k (.w (.d (.s (.int .i64 0))))), none⟩])
  (.cond (.t 18)
    (.seq (.reg [⟨(some 2), .mv (.k (.w (.d (.s (.bool true))))), none⟩])
    .ret)
    .skip))
  (.seq (.reg [⟨(some 20), .ld true 5 (.t 1), none⟩,
    ⟨(some 21), .call (.k (.w (.fn 16 []))) [(.t 20)], none⟩,
    ⟨(some 22), .call (.k (.w (.fn 34 []))) [(.t 21)], none⟩,
    ⟨(some 19), .mv (.t 22), none⟩,
    ⟨(some 23), .ext 0 (.t 19), none⟩,
    ⟨(some 24), .ext 1 (.t 19), none⟩,
    ⟨(some 4), .new [(.d (.s (.int .i64 0))), (.d (.s (.int .i64 0))), (.d (.s (.int .i64 0))), (.d (.s (.int .i64 0))), .nil], none⟩,
    ⟨none, .st 5 (.t 4) (.t 23), none⟩,
    ⟨(some 5), .mv (.t 24), none⟩])
  (.seq (.reg [⟨(some 25), .ld true 5 (.t 1), none⟩,
    ⟨(some 26), .call (.k (.w (.fn 16 []))) [(.t 25)], none⟩,
    ⟨(some 6), .new [(.d (.s (.int .i64 0))), (.d (.s (.int .i64 0))), .nil, (.d (.s (.int .i64 0))), (.d (.s (.int .i64 0)))], none⟩,
    ⟨none, .st 5 (.t 6) (.t 26), none⟩])
  (.seq (.reg [⟨(some 28), .ld true 5 (.t 6), none⟩,
    ⟨(some 29), .call (.k (.w (.fn 35 []))) [(.t 28)], none⟩,
    ⟨(some 27), .mv (.t 29), none⟩,
    ⟨(some 30), .ext 0 (.t 27), none⟩,
    ⟨(some 31), .ext 1 (.t 27), none⟩,
    ⟨(some 7), .new [(.d (.s (.int .i64 0))), (.d (.s (.int .i64 0))), (.d (.s (.int .i64 0))), (.d (.s (.int .i64 0))), .nil], none⟩,
    ⟨none, .st 5 (.t 7) (.t 30), none⟩,
    ⟨(some 8), .mv (.t 31), none⟩])
  (.seq (.seq (.reg [⟨(some 32), .ld true 5 (.t 7), none⟩,
    ⟨(some 33), .ld true 5 (.t 4), none⟩,
    ⟨(some 34), .call (.k (.w (.fn 36 []))) [(.t 32), (.t 33)], none⟩,
    ⟨(some 35), .un .not (.t 34), none⟩,
    ⟨(some 36), .mv (.t 35), none⟩,
    ⟨(some 37), .mv (.t 8), (some (36, false))⟩,
    ⟨(some 38), .mv (.t 5), (some (36, false))⟩,
    ⟨(some 39), .bin .neq .b (.t 37) (.t 38), (some (36, false))⟩,
    ⟨(some 40), .pick (.t 36) (.k (.w (.d (.s (.bool true))))) (.t 39), none⟩])
  (.cond (.t 40)
    (.seq (.reg [⟨(some 2), .mv (.k (.w (.d (.s (.bool false))))), none⟩])
    .ret)
    .skip))
  (.seq (.seq (.dreg [⟨(some 41), .ld true 5 (.t 6), none⟩,
    ⟨(some 42), .ld true 5 (.t 1), none⟩,
    ⟨(some 43), .call (.k (.w (.fn 16 []))) [(.t 42)], none⟩,
    ⟨(some 44), .call (.k (.w (.fn 19 []))) [(.t 41), (.t 43)], none⟩,
    ⟨(some 45), .un .not (.t 44), none⟩] [0, 0, 2, 7, 15])
  (.cond (.t 45)
    (.seq (.reg [⟨(some 2), .mv (.k (.w (.d (.s (.bool false))))), none⟩])
    .ret)
    .skip))
  (.seq (.reg [⟨(some 9), .mv (.k (.w (.d (.s (.int .i64 1))))), none⟩])
  (.seq (.reg [⟨(some 46), .ld true 5 (.t 6), none⟩,
    ⟨(some 47), .mv (.t 9), none⟩,
    ⟨(some 48), .call (.k (.w (.fn 22 []))) [(.t 46), (.t 47)], none⟩,
    ⟨(some 9), .mv (.t 48), none⟩])
  (.seq (.seq (.reg [⟨(some 49), .mv (.t 9), none⟩,
    ⟨(some 50), .bin .lss .one (.t 49) (.k (.w (.d (.s (.int .i64 0))))), none⟩,
    ⟨(some 51), .mv (.t 50), none⟩,
    ⟨(some 52), .ld true 5 (.t 7), (some (51, false))⟩,
    ⟨(some 53), .ld true 5 (.t 4), (some (51, false))⟩,
    ⟨(some 54), .call (.k (.w (.fn 36 []))) [(.t 52), (.t 53)], (some (51, false))⟩,
    ⟨(some 55), .un .not (.t 54), (some (51, false))⟩,
    ⟨(some 56), .pick (.t 51) (.k (.w (.d (.s (.bool true))))) (.t 55), none⟩,
    ⟨(some 57), .mv (.t 56), none⟩,
    ⟨(some 58), .mv (.t 8), (some (57, false))⟩,
    ⟨(some 59), .mv (.t 5), (some (57, false))⟩,
    ⟨(some 60), .bin .neq .b (.t 58) (.t 59), (some (57, false))⟩,
    ⟨(some 61), .pick (.t 57) (.k (.w (.d (.s (.bool true))))) (.t 60), none⟩])
  (.cond (.t 61)
    (.seq (.reg [⟨(some 2), .mv (.k (.w (.d (.s (.bool false))))), none⟩])
    .ret)
    .skip))
  (.seq (.reg [⟨(some 10), .mv (.k (.w (.d (.s (.int .i64 1))))), none⟩])
  (.seq (.reg [⟨(some 62), .ld true 5 (.t 7), none⟩,
    ⟨(some 63), .mv (.t 10), none⟩,
    ⟨(some 64), .call (.k (.w (.fn 37 []))) [(.t 62), (.t 63)], none⟩,
    ⟨(some 10), .mv (.t 64), none⟩])
  (.seq (.reg [⟨(some 11), .mv (.k (.w (.d (.s (.int .i64 1))))), none⟩])
  (.seq (.reg [⟨(some 65), .ld true 5 (.t 7), none⟩,
    ⟨(some 66), .mv (.t 11), none⟩,
    ⟨(some 67), .call (.k (.w (.fn 38 []))) [(.t 65), (.t 66)], none⟩,
    ⟨(some 11), .mv (.t 67), none⟩])
  (.seq (.seq (.reg [⟨(some 68), .mv (.t 11), none⟩,
    ⟨(some 69), .bin .lss .one (.t 68) (.k (.w (.d (.s (.int .i64 0))))), none⟩])
  (.cond (.t 69)
    (.seq (.reg [⟨(some 2), .mv (.k (.w (.d (.s (.bool false))))), none⟩])
    .ret)
    .skip))
  (.seq (.seq (.reg [⟨(some 70), .mv (.t 11), none⟩,
    ⟨(some 71), .mv (.t 10), none⟩,
    ⟨(some 72), .bin .neq .one (.t 70) (.t 71), none⟩])
  (.cond (.t 72)
    (.seq (.reg [⟨(some 2), .mv (.k (.w (.d (.s (.bool false))))), none⟩])
    .ret)
    .skip))
  (.seq (.reg [⟨(some 74), .ld true 5 (.t 1), none⟩,
    ⟨(some 75), .call (.k (.w (.fn 16 []))) [(.t 74)], none⟩,
    ⟨(some 76), .call (.k (.w (.fn 35 []))) [(.t 75)], none⟩,
    ⟨(some 73), .mv (.t 76), none⟩,
    ⟨(some 77), .ext 0 (.t 73), none⟩,
    ⟨(some 78), .ext 1 (.t 73), none⟩,
    ⟨(some 12), .new [(.d (.s (.int .i64 0))), (.d (.s (.int .i64 0))), (.d (.s (.int .i64 0))), (.d (.s (.int .i64 0))), .nil], none⟩,
    ⟨none, .st 5 (.t 12) (.t 77), none⟩,
    ⟨(some 13), .mv (.t 78), none⟩])
  (.seq (.seq (.reg [⟨(some 79), .ld true 5 (.t 12), none⟩,
    ⟨(some 80), .ld true 5 (.t 4), none⟩,
    ⟨(some 81), .call (.k (.w (.fn 36 []))) [(.t 79), (.t 80)], none⟩,
    ⟨(some 82), .un .not (.t 81), none⟩,
    ⟨(some 83), .mv (.t 82), none⟩,
    ⟨(some 84), .mv (.t 13), (some (83, false))⟩,
    ⟨(some 85), .mv (.t 5), (some (83, false))⟩,
    ⟨(some 86), .bin .neq .b (.t 84) (.t 85), (some (83, false))⟩,
    ⟨(some 87), .pick (.t 83) (.k (.w (.d (.s (.bool true))))) (.t 86), none⟩])
  (.cond (.t 87)
    (.seq (.reg [⟨(some 2), .mv (.k (.w (.d (.s (.bool false))))), none⟩])
    .ret)
    .skip))
  (.seq (.reg [⟨(some 11), .mv (.k (.w (.d (.s (.int .i64 1))))), none⟩])
  (.seq (.reg [⟨(some 88), .ld true 5 (.t 7), none⟩,
    ⟨(some 89), .mv (.t 11), none⟩,
    ⟨(some 90), .call (.k (.w (.fn 38 []))) [(.t 88), (.t 89)], none⟩,
    ⟨(some 11), .mv (.t 90), none⟩])
  (.seq (.seq (.reg [⟨(some 91), .mv (.t 11), none⟩,
    ⟨(some 92), .bin .lss .one (.t 91) (.k (.w (.d (.s (.int .i64 0))))), none⟩])
  (.cond (.t 92)
    (.seq (.reg [⟨(some 2), .mv (.k (.w (.d (.s (.bool false))))), none⟩])
    .ret)
    .skip))
  (.seq (.seq (.reg [⟨(some 93), .mv (.t 11), none⟩,
    ⟨(some 94), .mv (.t 10), none⟩,
    ⟨(some 95), .bin .neq .one (.t 93) (.t 94), none⟩])
  (.cond (.t 95)
    (.seq (.reg [⟨(some 2), .mv (.k (.w (.d (.s (.bool false))))), none⟩])
    .ret)
    .skip))
  (.seq (.reg [⟨(some 2), .mv (.k (.w (.d (.s (.bool true))))), none⟩])
  .ret)))))))))))))))))))))))))⟩

/- loop.example/stile/laws.FnHoldOnce -/
def F7 : Fn := ⟨102, [.tmp 2],
  (.seq (.reg [⟨(some 2), .mv (.k (.w (.d (.s (.bool false))))), none⟩])
  (.seq (.seq (.reg [⟨(some 10), .mv (.t 0), none⟩,
    ⟨(some 11), .lenl (.t 10), none⟩,
    ⟨(some 12), .bin .gtr .one (.t 11) (.k (.w (.d (.s (.int .i64 1048576))))), none⟩])
  (.cond (.t 12)
    (.seq (.reg [⟨(some 2), .mv (.k (.w (.d (.s (.bool true))))), none⟩])
    .ret)
    .skip))
  (.seq (.reg [⟨(some 14), .mv (.t 0), none⟩,
    ⟨(some 15), .call (.k (.w (.fn 39 []))) [(.t 14)], none⟩,
    ⟨(some 13), .mv (.t 15), none⟩,
    ⟨(some 16), .ext 0 (.t 13), none⟩,
    ⟨(some 17), .ext 1 (.t 13), none⟩,
    ⟨(some 3), .new [(.d (.s (.int .u8 0))), (.d (.s (.int .u8 0))), .nil, (.d (.s (.int .u8 0))), (.d (.s (.int .u8 0))), .nil], none⟩,
    ⟨none, .st 6 (.t 3) (.t 16), none⟩,
    ⟨(some 4), .mv (.t 17), none⟩])
  (.seq (.reg [⟨(some 18), .ld true 6 (.t 3), none⟩,
    ⟨(some 19), .call (.k (.w (.fn 40 []))) [(.t 18)], none⟩,
    ⟨(some 5), .mv (.t 19), none⟩])
  (.seq (.reg [⟨(some 21), .ld true 6 (.t 3), none⟩,
    ⟨(some 22), .mv (.t 4), none⟩,
    ⟨(some 23), .call (.k (.w (.fn 11 []))) [(.t 21), (.t 22)], none⟩,
    ⟨(some 20), .mv (.t 23), none⟩,
    ⟨(some 24), .ext 0 (.t 20), none⟩,
    ⟨(some 25), .ext 1 (.t 20), none⟩,
    ⟨(some 6), .mv (.t 24), none⟩,
    ⟨(some 7), .mv (.t 25), none⟩])
  (.seq (.seq (.reg [⟨(some 26), .mv (.t 7), none⟩,
    ⟨(some 27), .un .not (.t 26), none⟩])
  (.cond (.t 27)
    (.seq (.reg [⟨(some 28), .mv (.t 4), none⟩,
      ⟨(some 29), .lenl (.t 28), none⟩,
      ⟨(some 30), .bin .gtr .one (.t 29) (.k (.w (.d (.s (.int .i64 20100))))), none⟩,
      ⟨(some 2), .mv (.t 30), none⟩])
    .ret)
    .skip))
  (.seq (.reg [⟨(some 31), .ld true 6 (.t 3), none⟩,
    ⟨(some 32), .mv (.t 6), none⟩,
    ⟨(some 33), .mv (.t 6), none⟩,
    ⟨(some 34), .lenl (.t 33), none⟩,
    ⟨(some 35), .call (.k (.w (.fn 12 []))) [(.t 31), (.t 32), (.t 34)], none⟩,
    ⟨(some 8), .new [(.d (.s (.int .u8 0))), (.d (.s (.int .u8 0))), .nil, (.d (.s (.int .u8 0))), (.d (.s (.int .u8 0))), .nil], none⟩,
    ⟨none, .st 6 (.t 8) (.t 35), none⟩])
  (.seq (.reg [⟨(some 36), .ld true 6 (.t 8), none⟩,
    ⟨(some 37), .call (.k (.w (.fn 41 []))) [(.t 36)], none⟩,
    ⟨(some 9), .mv (.t 37), none⟩])
  (.seq (.seq (.reg [⟨(some 38), .mv (.t 9), none⟩,
    ⟨(some 39), .ld true 6 (.t 3), none⟩,
    ⟨(some 40), .mv (.t 6), none⟩,
    ⟨(some 41), .mv (.t 6), none⟩,
    ⟨(some 42), .lenl (.t 41), none⟩,
    ⟨(some 43), .call (.k (.w (.fn 26 []))) [(.t 39), (.t 40), (.t 42)], none⟩,
    ⟨(some 44), .call (.k (.w (.fn 40 []))) [(.t 43)], none⟩,
    ⟨(some 45), .bin .neq .one (.t 38) (.t 44), none⟩,
    ⟨(some 46), .mv (.t 45), none⟩,
    ⟨(some 47), .mv (.t 9), (some (46, false))⟩,
    ⟨(some 48), .bin .lss .one (.t 47) (.k (.w (.d (.s (.int .i64 0))))), (some (46, false))⟩,
    ⟨(some 49), .pick (.t 46) (.k (.w (.d (.s (.bool true))))) (.t 48), none⟩,
    ⟨(some 50), .mv (.t 49), none⟩,
    ⟨(some 51), .mv (.t 9), (some (50, false))⟩,
    ⟨(some 52), .mv (.t 5), (some (50, false))⟩,
    ⟨(some 53), .bin .eql .one (.t 51) (.t 52), (some (50, false))⟩,
    ⟨(some 54), .pick (.t 50) (.k (.w (.d (.s (.bool true))))) (.t 53), none⟩,
    ⟨(some 55), .mv (.t 54), none⟩,
    ⟨(some 56), .mv (.t 5), (some (55, false))⟩,
    ⟨(some 57), .bin .lss .one (.t 56) (.k (.w (.d (.s (.int .i64 0))))), (some (55, false))⟩,
    ⟨(some 58), .mv (.t 57), (some (55, false))⟩,
    ⟨(some 59), .mv (.t 9), (some (58, true))⟩,
    ⟨(some 60), .bin .neq .one (.t 59) (.k (.w (.d (.s (.int .i64 0))))), (some (58, true))⟩,
    ⟨(some 61), .pick (.t 58) (.t 60) (.k (.w (.d (.s (.bool false))))), (some (55, false))⟩,
    ⟨(some 62), .pick (.t 55) (.k (.w (.d (.s (.bool true))))) (.t 61), none⟩])
  (.cond (.t 62)
    (.seq (.reg [⟨(some 2), .mv (.k (.w (.d (.s (.bool false))))), none⟩])
    .ret)
    .skip))
  (.seq (.seq (.reg [⟨(some 63), .mv (.t 9), none⟩,
    ⟨(some 64), .bin .eql .one (.t 63) (.k (.w (.d (.s (.int .i64 0))))), none⟩])
  (.cond (.t 64)
    (.seq (.reg [⟨(some 65), .fa 0 (.t 8), none⟩,
      ⟨(some 66), .fa 0 (.t 65), none⟩,
      ⟨(some 67), .ld false 1 (.t 66), none⟩,
      ⟨(some 68), .bin .eql .one (.t 67) (.k (.w (.d (.s (.int .u8 165))))), none⟩,
      ⟨(some 69), .mv (.t 68), none⟩,
      ⟨(some 70), .mv (.t 5), (some (69, true))⟩,
      ⟨(some 71), .bin .lss .one (.t 70) (.k (.w (.d (.s (.int .i64 0))))), (some (69, true))⟩,
      ⟨(some 72), .mv (.t 71), (some (69, true))⟩,
      ⟨(some 73), .fa 3 (.t 8), (some (72, true))⟩,
      ⟨(some 74), .fa 0 (.t 73), (some (72, true))⟩,
      ⟨(some 75), .ld false 1 (.t 74), (some (72, true))⟩,
      ⟨(some 76), .fa 3 (.t 3), (some (72, true))⟩,
      ⟨(some 77), .fa 0 (.t 76), (some (72, true))⟩,
      ⟨(some 78), .ld false 1 (.t 77), (some (72, true))⟩,
      ⟨(some 79), .bin .eql .one (.t 75) (.t 78), (some (72, true))⟩,
      ⟨(some 80), .pick (.t 72) (.t 79) (.k (.w (.d (.s (.bool false))))), (some (69, true))⟩,
      ⟨(some 81), .mv (.t 80), (some (69, true))⟩,
      ⟨(some 82), .mv (.t 5), (some (81, false))⟩,
      ⟨(some 83), .bin .eql .one (.t 82) (.k (.w (.d (.s (.int .i64 1))))), (some (81, false))⟩,
      ⟨(some 84), .mv (.t 83), (some (81, false))⟩,
      ⟨(some 85), .fa 3 (.t 8), (some (84, true))⟩,
      ⟨(some 86), .fa 0 (.t 85), (some (84, true))⟩,
      ⟨(some 87), .ld false 1 (.t 86), (some (84, true))⟩,
      ⟨(some 88), .bin .eql .one (.t 87) (.k (.w (.d (.s (.int .u8 0))))), (some (84, true))⟩,
      ⟨(some 89), .pick (.t 84) (.t 88) (.k (.w (.d (.s (.bool false))))), (some (81, false))⟩,
      ⟨(some 90), .pick (.t 81) (.k (.w (.d (.s (.bool true))))) (.t 89), (some (69, true))⟩,
      ⟨(some 91), .pick (.t 69) (.t 90) (.k (.w (.d (.s (.bool false))))), none⟩,
      ⟨(some 2), .mv (.t 91), none⟩])
    .ret)
    .skip))
  (.seq (.reg [⟨(some 92), .fa 3 (.t 8), none⟩,
    ⟨(some 93), .fa 0 (.t 92), none⟩,
    ⟨(some 94), .ld false 1 (.t 93), none⟩,
    ⟨(some 95), .bin .eql .one (.t 94) (.k (.w (.d (.s (.int .u8 165))))), none⟩,
    ⟨(some 96), .mv (.t 95), none⟩,
    ⟨(some 97), .fa 0 (.t 8), (some (96, true))⟩,
    ⟨(some 98), .fa 0 (.t 97), (some (96, true))⟩,
    ⟨(some 99), .ld false 1 (.t 98), (some (96, true))⟩,
    ⟨(some 100), .bin .eql .one (.t 99) (.k (.w (.d (.s (.int .u8 0))))), (some (96, true))⟩,
    ⟨(some 101), .pick (.t 96) (.t 100) (.k (.w (.d (.s (.bool false))))), none⟩,
    ⟨(some 2), .mv (.t 101), none⟩])
  .ret)))))))))))⟩

/- loop.example/stile/laws.FnHoldTop -/
def F8_B0 : C :=
  (.seq (.seq (.reg [⟨(some 54), .mv (.t 11), none⟩,
    ⟨(some 55), .mv (.t 7), none⟩,
    ⟨(some 56), .lenl (.t 55), none⟩,
    ⟨(some 57), .bin .leq .one (.t 54) (.t 56), none⟩])
  (.cond (.t 57)
    .skip
    (.exit 0)))
  (.seq (.block 1
    (.seq (.seq (.reg [⟨(some 60), .mv (.t 11), none⟩,
      ⟨(some 61), .bin .gtr .one (.t 60) (.k (.w (.d (.s (.int .i64 300))))), none⟩,
      ⟨(some 62), .mv (.t 61), none⟩,
      ⟨(some 63), .mv (.t 11), (some (62, true))⟩,
      ⟨(some 64), .mv (.t 7), (some (62, true))⟩,
      ⟨(some 65), .lenl (.t 64), (some (62, true))⟩,
      ⟨(some 66), .bin .sub .one (.t 65) (.k (.w (.d (.s (.int .i64 3))))), (some (62, true))⟩,
      ⟨(some 67), .bin .lss .one (.t 63) (.t 66), (some (62, true))⟩,
      ⟨(some 68), .pick (.t 62) (.t 67) (.k (.w (.d (.s (.bool false))))), none⟩])
    (.cond (.t 68)
      (.reg [⟨(some 69), .mv (.t 7), none⟩,
        ⟨(some 70), .lenl (.t 69), none⟩,
        ⟨(some 71), .bin .sub .one (.t 70) (.k (.w (.d (.s (.int .i64 3))))), none⟩,
        ⟨(some 11), .mv (.t 71), none⟩])
      .skip))
    (.seq (.reg [⟨(some 73), .ld true 6 (.t 3), none⟩,
      ⟨(some 74), .mv (.t 7), none⟩,
      ⟨(some 75), .mv (.t 11), none⟩,
      ⟨(some 76), .call (.k (.w (.fn 12 []))) [(.t 73), (.t 74), (.t 75)], none⟩,
      ⟨(some 77), .call (.k (.w (.fn 13 []))) [(.t 76)], none⟩,
      ⟨(some 72), .mv (.t 77), none⟩,
      ⟨(some 78), .ext 0 (.t 72), none⟩,
      ⟨(some 79), .ext 1 (.t 72), none⟩,
      ⟨(some 12), .mv (.t 78), none⟩,
      ⟨(some 13), .mv (.t 79), none⟩])
    (.seq (.reg [⟨(some 80), .mv (.t 11), none⟩,
      ⟨(some 81), .mv (.t 4), none⟩,
      ⟨(some 82), .lenl (.t 81), none⟩,
      ⟨(some 83), .bin .add .one (.t 82) (.k (.w (.d (.s (.int .i64 4))))), none⟩,
      ⟨(some 84), .bin .lss .one (.t 80) (.t 83), none⟩,
      ⟨(some 85), .mv (.t 84), none⟩,
      ⟨(some 86), .mv (.t 12), (some (85, true))⟩,
      ⟨(some 87), .mv (.t 13), (some (85, true))⟩,
      ⟨(some 88), .mv (.t 5), (some (85, true))⟩,
      ⟨(some 89), .mv (.t 6), (some (85, true))⟩,
      ⟨(some 90), .call (.k (.w (.fn 14 []))) [(.t 86), (.t 87), (.t 88), (.t 89)], (some (85, true))⟩,
      ⟨(some 91), .un .not (.t 90), (some (85, true))⟩,
      ⟨(some 92), .pick (.t 85) (.t 91) (.k (.w (.d (.s (.bool false))))), none⟩,
      ⟨(some 93), .mv (.t 92), none⟩,
      ⟨(some 94), .mv (.t 11), (some (93, false))⟩,
      ⟨(some 95), .mv (.t 4), (some (93, false))⟩,
      ⟨(some 96), .lenl (.t 95), (some (93, false))⟩,
      ⟨(some 97), .bin .add .one (.t 96) (.k (.w (.d (.s (.int .i64 4))))), (some (93, false))⟩,
      ⟨(some 98), .bin .geq .one (.t 94) (.t 97), (some (93, false))⟩,
      ⟨(some 99), .mv (.t 98), (some (93, false))⟩,
      ⟨(some 100), .mv (.t 12), (some (99, true))⟩,
      ⟨(some 101), .mv (.t 13), (some (99, true))⟩,
      ⟨(some 102), .mv (.t 4), (some (99, true))⟩,
      ⟨(some 103), .call (.k (.w (.fn 14 []))) [(.t 100), (.t 101), (.t 102), (.k (.w (.d (.s (.bool true)))))], (some (99, true))⟩,
      ⟨(some 104), .un .not (.t 103), (some (99, true))⟩,
      ⟨(some 105), .pick (.t 99) (.t 104) (.k (.w (.d (.s (.bool false))))), (some (93, false))⟩,
      ⟨(some 106), .pick (.t 93) (.k (.w (.d (.s (.bool true))))) (.t 105), none⟩])
    (.cond (.t 106)
      (.seq (.reg [⟨(some 2), .mv (.k (.w (.d (.s (.bool false))))), none⟩])
      .ret)
      .skip)))))
  (.reg [⟨(some 58), .mv (.t 11), none⟩,
    ⟨(some 59), .bin .add .one (.t 58) (.k (.w (.d (.s (.int .i64 1))))), none⟩,
    ⟨(some 11), .mv (.t 59), none⟩])))
def F8_L0 : C := .loop F8_B0
def F8 : Fn := ⟨124, [.tmp 2],
  (.seq (.reg [⟨(some 2), .mv (.k (.w (.d (.s (.bool false))))), none⟩])
  (.seq (.seq (.reg [⟨(some 14), .mv (.t 0), none⟩,
    ⟨(some 15), .lenl (.t 14), none⟩,
    ⟨(some 16), .bin .gtr .one (.t 15) (.k (.w (.d (.s (.int .i64 1048576))))), none⟩])
  (.cond (.t 16)
    (.seq (.reg [⟨(some 2), .mv (.k (.w (.d (.s (.bool true))))), none⟩])
    .ret)
    .skip))
  (.seq (.reg [⟨(some 18), .mv (.t 0), none⟩,
    ⟨(some 19), .call (.k (.w (.fn 39 []))) [(.t 18)], none⟩,
    ⟨(some 17), .mv (.t 19), none⟩,
    ⟨(some 20), .ext 0 (.t 17), none⟩,
    ⟨(some 21), .ext 1 (.t 17), none⟩,
    ⟨(some 3), .new [(.d (.s (.int .u8 0))), (.d (.s (.int .u8 0))), .nil, (.d (.s (.int .u8 0))), (.d (.s (.int .u8 0))), .nil], none⟩,
    ⟨none, .st 6 (.t 3) (.t 20), none⟩,
    ⟨(some 4), .mv (.t 21), none⟩])
  (.seq (.reg [⟨(some 23), .ld true 6 (.t 3), none⟩,
    ⟨(some 24), .call (.k (.w (.fn 42 []))) [(.t 23)], none⟩,
    ⟨(some 22), .mv (.t 24), none⟩,
    ⟨(some 25), .ext 0 (.t 22), none⟩,
    ⟨(some 26), .ext 1 (.t 22), none⟩,
    ⟨(some 5), .mv (.t 25), none⟩,
    ⟨(some 6), .mv (.t 26), none⟩])
  (.seq (.reg [⟨(some 28), .ld true 6 (.t 3), none⟩,
    ⟨(some 29), .mv (.t 4), none⟩,
    ⟨(some 30), .call (.k (.w (.fn 11 []))) [(.t 28), (.t 29)], none⟩,
    ⟨(some 27), .mv (.t 30), none⟩,
    ⟨(some 31), .ext 0 (.t 27), none⟩,
    ⟨(some 32), .ext 1 (.t 27), none⟩,
    ⟨(some 7), .mv (.t 31), none⟩,
    ⟨(some 8), .mv (.t 32), none⟩])
  (.seq (.reg [⟨(some 34), .ld true 6 (.t 3), none⟩,
    ⟨(some 35), .mv (.t 4), none⟩,
    ⟨(some 36), .call (.k (.w (.fn 43 []))) [(.t 34), (.t 35)], none⟩,
    ⟨(some 33), .mv (.t 36), none⟩,
    ⟨(some 37), .ext 0 (.t 33), none⟩,
    ⟨(some 38), .ext 1 (.t 33), none⟩,
    ⟨(some 9), .mv (.t 37), none⟩,
    ⟨(some 10), .mv (.t 38), none⟩])
  (.seq (.seq (.reg [⟨(some 39), .mv (.t 8), none⟩,
    ⟨(some 40), .mv (.t 10), none⟩,
    ⟨(some 41), .bin .neq .b (.t 39) (.t 40), none⟩,
    ⟨(some 42), .mv (.t 41), none⟩,
    ⟨(some 43), .mv (.t 8), (some (42, false))⟩,
    ⟨(some 44), .mv (.t 4), (some (42, false))⟩,
    ⟨(some 45), .lenl (.t 44), (some (42, false))⟩,
    ⟨(some 46), .bin .leq .one (.t 45) (.k (.w (.d (.s (.int .i64 20100))))), (some (42, false))⟩,
    ⟨(some 47), .bin .neq .b (.t 43) (.t 46), (some (42, false))⟩,
    ⟨(some 48), .pick (.t 42) (.k (.w (.d (.s (.bool true))))) (.t 47), none⟩])
  (.cond (.t 48)
    (.seq (.reg [⟨(some 2), .mv (.k (.w (.d (.s (.bool false))))), none⟩])
    .ret)
    .skip))
  (.seq (.seq (.reg [⟨(some 49), .mv (.t 8), none⟩,
    ⟨(some 50), .un .not (.t 49), none⟩])
  (.cond (.t 50)
    (.seq (.reg [⟨(some 51), .mv (.t 7), none⟩,
      ⟨(some 52), .lenl (.t 51), none⟩,
      ⟨(some 53), .bin .eql .one (.t 52) (.k (.w (.d (.s (.int .i64 0))))), none⟩,
      ⟨(some 2), .mv (.t 53), none⟩])
    .ret)
    .skip))
  (.seq (.seq (.reg [⟨(some 11), .mv (.k (.w (.d (.s (.int .i64 0))))), none⟩])
  (.block 0
    F8_L0))
  (.seq (.reg [⟨(some 107), .mv (.t 7), none⟩,
    ⟨(some 108), .lenl (.t 107), none⟩,
    ⟨(some 109), .mv (.t 4), none⟩,
    ⟨(some 110), .lenl (.t 109), none⟩,
    ⟨(some 111), .bin .add .one (.t 110) (.k (.w (.d (.s (.int .i64 4))))), none⟩,
    ⟨(some 112), .bin .eql .one (.t 108) (.t 111), none⟩,
    ⟨(some 113), .mv (.t 112), none⟩,
    ⟨(some 114), .mv (.t 7), (some (113, false))⟩,
    ⟨(some 115), .lenl (.t 114), (some (113, false))⟩,
    ⟨(some 116), .mv (.t 4), (some (113, false))⟩,
    ⟨(some 117), .lenl (.t 116), (some (113, false))⟩,
    ⟨(some 118), .bin .add .one (.t 117) (.k (.w (.d (.s (.int .i64 5))))), (some (113, false))⟩,
    ⟨(some 119), .bin .eql .one (.t 115) (.t 118), (some (113, false))⟩,
    ⟨(some 120), .mv (.t 119), (some (113, false))⟩,
    ⟨(some 121), .mv (.t 6), (some (120, true))⟩,
    ⟨(some 122), .pick (.t 120) (.t 121) (.k (.w (.d (.s (.bool false))))), (some (113, false))⟩,
    ⟨(some 123), .pick (.t 113) (.k (.w (.d (.s (.bool true))))) (.t 122), none⟩,
    ⟨(some 2), .mv (.t 123), none⟩])
  .ret))))))))))⟩

/- loop.example/stile/laws.FnExactHoldPlay -/
def F9 : Fn := ⟨97, [.tmp 6],
  (.seq (.reg [⟨(some 3), .box 6 (.t 0), none⟩,
    ⟨(some 6), .mv (.k (.w (.d (.s (.bool false))))), none⟩])
  (.seq (.reg [⟨(some 7), .mv (.k (.w (.d (.s (.int .i64 1048576))))), none⟩])
  (.seq (.reg [⟨(some 16), .ld true 6 (.t 3), none⟩,
    ⟨(some 17), .mv (.t 7), none⟩,
    ⟨(some 18), .call (.k (.w (.fn 27 []))) [(.t 16), (.t 17)], none⟩,
    ⟨(some 7), .mv (.t 18), none⟩])
  (.seq (.seq (.reg [⟨(some 19), .mv (.t 7), none⟩,
    ⟨(some 20), .bin .lss .one (.t 19) (.k (.w (.d (.s (.int .i64 0))))), none⟩])
  (.cond (.t 20)
    (.seq (.reg [⟨(some 6), .mv (.k (.w (.d (.s (.bool true))))), none⟩])
    .ret)
    .skip))
  (.seq (.reg [⟨(some 21), .mv (.t 1), none⟩,
    ⟨(some 22), .mv (.t 7), none⟩,
    ⟨(some 23), .call (.k (.w (.fn 44 []))) [(.t 21), (.t 22)], none⟩,
    ⟨(some 7), .mv (.t 23), none⟩])
  (.seq (.seq (.reg [⟨(some 24), .mv (.t 7), none⟩,
    ⟨(some 25), .bin .lss .one (.t 24) (.k (.w (.d (.s (.int .i64 0))))), none⟩])
  (.cond (.t 25)
    (.seq (.reg [⟨(some 6), .mv (.k (.w (.d (.s (.bool true))))), none⟩])
    .ret)
    .skip))
  (.seq (.reg [⟨(some 26), .ld true 6 (.t 3), none⟩,
    ⟨(some 27), .call (.k (.w (.fn 28 []))) [(.t 26)], none⟩,
    ⟨(some 28), .mv (.t 1), none⟩,
    ⟨(some 29), .call (.k (.w (.fn 45 []))) [(.t 28)], none⟩,
    ⟨(some 30), .mv (.t 2), none⟩,
    ⟨(some 31), .call (.k (.w (.fn 26 []))) [(.t 27), (.t 29), (.t 30)], none⟩,
    ⟨(some 8), .new [(.d (.s (.int .u8 0))), (.d (.s (.int .u8 0))), .nil, (.d (.s (.int .u8 0))), (.d (.s (.int .u8 0))), .nil], none⟩,
    ⟨none, .st 6 (.t 8) (.t 31), none⟩])
  (.seq (.reg [⟨(some 32), .ld true 6 (.t 3), none⟩,
    ⟨(some 33), .call (.k (.w (.fn 28 []))) [(.t 32)], none⟩,
    ⟨(some 9), .new [(.d (.s (.int .u8 0))), (.d (.s (.int .u8 0))), .nil, (.d (.s (.int .u8 0))), (.d (.s (.int .u8 0))), .nil], none⟩,
    ⟨none, .st 6 (.t 9) (.t 33), none⟩])
  (.seq (.reg [⟨(some 34), .mv (.t 1), none⟩,
    ⟨(some 35), .call (.k (.w (.fn 45 []))) [(.t 34)], none⟩,
    ⟨(some 10), .mv (.t 35), none⟩])
  (.seq (.reg [⟨(some 36), .ld true 6 (.t 9), none⟩,
    ⟨(some 37), .mv (.t 10), none⟩,
    ⟨(some 38), .mv (.t 2), none⟩,
    ⟨(some 39), .call (.k (.w (.fn 12 []))) [(.t 36), (.t 37), (.t 38)], none⟩,
    ⟨(some 11), .new [(.d (.s (.int .u8 0))), (.d (.s (.int .u8 0))), .nil, (.d (.s (.int .u8 0))), (.d (.s (.int .u8 0))), .nil], none⟩,
    ⟨none, .st 6 (.t 11) (.t 39), none⟩])
  (.seq (.seq (.reg [⟨(some 40), .ld true 6 (.t 11), none⟩,
    ⟨(some 41), .ld true 6 (.t 8), none⟩,
    ⟨(some 42), .call (.k (.w (.fn 31 []))) [(.t 40), (.t 41)], none⟩,
    ⟨(some 43), .un .not (.t 42), none⟩])
  (.cond (.t 43)
    (.seq (.reg [⟨(some 6), .mv (.k (.w (.d (.s (.bool false))))), none⟩])
    .ret)
    .skip))
  (.seq (.seq (.dreg [⟨(some 44), .ld true 6 (.t 9), none⟩,
    ⟨(some 45), .ld true 6 (.t 3), none⟩,
    ⟨(some 46), .call (.k (.w (.fn 28 []))) [(.t 45)], none⟩,
    ⟨(some 47), .call (.k (.w (.fn 31 []))) [(.t 44), (.t 46)], none⟩,
    ⟨(some 48), .un .not (.t 47), none⟩] [0, 0, 2, 7, 15])
  (.cond (.t 48)
    (.seq (.reg [⟨(some 6), .mv (.k (.w (.d (.s (.bool false))))), none⟩])
    .ret)
    .skip))
  (.seq (.seq (.reg [⟨(some 49), .mv (.t 10), none⟩,
    ⟨(some 50), .mv (.t 1), none⟩,
    ⟨(some 51), .call (.k (.w (.fn 45 []))) [(.t 50)], none⟩,
    ⟨(some 52), .call (.k (.w (.fn 46 []))) [(.t 49), (.t 51)], none⟩,
    ⟨(some 53), .un .not (.t 52), none⟩])
  (.cond (.t 53)
    (.seq (.reg [⟨(some 6), .mv (.k (.w (.d (.s (.bool false))))), none⟩])
    .ret)
    .skip))
  (.seq (.reg [⟨(some 12), .mv (.k (.w (.d (.s (.int .i64 1))))), none⟩])
  (.seq (.reg [⟨(some 54), .ld true 6 (.t 9), none⟩,
    ⟨(some 55), .mv (.t 12), none⟩,
    ⟨(some 56), .call (.k (.w (.fn 32 []))) [(.t 54), (.t 55)], none⟩,
    ⟨(some 12), .mv (.t 56), none⟩])
  (.seq (.reg [⟨(some 57), .mv (.t 10), none⟩,
    ⟨(some 58), .mv (.t 12), none⟩,
    ⟨(some 59), .call (.k (.w (.fn 47 []))) [(.t 57), (.t 58)], none⟩,
    ⟨(some 12), .mv (.t 59), none⟩])
  (.seq (.seq (.reg [⟨(some 60), .mv (.t 12), none⟩,
    ⟨(some 61), .bin .lss .one (.t 60) (.k (.w (.d (.s (.int .i64 0))))), none⟩,
    ⟨(some 62), .mv (.t 61), none⟩,
    ⟨(some 63), .ld true 6 (.t 11), (some (62, false))⟩,
    ⟨(some 64), .ld true 6 (.t 8), (some (62, false))⟩,
    ⟨(some 65), .call (.k (.w (.fn 31 []))) [(.t 63), (.t 64)], (some (62, false))⟩,
    ⟨(some 66), .un .not (.t 65), (some (62, false))⟩,
    ⟨(some 67), .pick (.t 62) (.k (.w (.d (.s (.bool true))))) (.t 66), none⟩])
  (.cond (.t 67)
    (.seq (.reg [⟨(some 6), .mv (.k (.w (.d (.s (.bool false))))), none⟩])
    .ret)
    .skip))
  (.seq (.reg [⟨(some 13), .mv (.k (.w (.d (.s (.int .i64 1))))), none⟩])
  (.seq (.reg [⟨(some 68), .ld true 6 (.t 11), none⟩,
    ⟨(some 69), .mv (.t 13), none⟩,
    ⟨(some 70), .call (.k (.w (.fn 32 []))) [(.t 68), (.t 69)], none⟩,
    ⟨(some 13), .mv (.t 70), none⟩])
  (.seq (.reg [⟨(some 14), .mv (.k (.w (.d (.s (.int .i64 1))))), none⟩])
  (.seq (.reg [⟨(some 71), .ld true 6 (.t 11), none⟩,
    ⟨(some 72), .mv (.t 14), none⟩,
    ⟨(some 73), .call (.k (.w (.fn 33 []))) [(.t 71), (.t 72)], none⟩,
    ⟨(some 14), .mv (.t 73), none⟩])
  (.seq (.seq (.reg [⟨(some 74), .mv (.t 14), none⟩,
    ⟨(some 75), .bin .lss .one (.t 74) (.k (.w (.d (.s (.int .i64 0))))), none⟩])
  (.cond (.t 75)
    (.seq (.reg [⟨(some 6), .mv (.k (.w (.d (.s (.bool false))))), none⟩])
    .ret)
    .skip))
  (.seq (.seq (.reg [⟨(some 76), .mv (.t 14), none⟩,
    ⟨(some 77), .mv (.t 13), none⟩,
    ⟨(some 78), .bin .neq .one (.t 76) (.t 77), none⟩])
  (.cond (.t 78)
    (.seq (.reg [⟨(some 6), .mv (.k (.w (.d (.s (.bool false))))), none⟩])
    .ret)
    .skip))
  (.seq (.reg [⟨(some 79), .ld true 6 (.t 3), none⟩,
    ⟨(some 80), .call (.k (.w (.fn 28 []))) [(.t 79)], none⟩,
    ⟨(some 81), .mv (.t 1), none⟩,
    ⟨(some 82), .call (.k (.w (.fn 45 []))) [(.t 81)], none⟩,
    ⟨(some 83), .mv (.t 2), none⟩,
    ⟨(some 84), .call (.k (.w (.fn 12 []))) [(.t 80), (.t 82), (.t 83)], none⟩,
    ⟨(some 15), .new [(.d (.s (.int .u8 0))), (.d (.s (.int .u8 0))), .nil, (.d (.s (.int .u8 0))), (.d (.s (.int .u8 0))), .nil], none⟩,
    ⟨none, .st 6 (.t 15) (.t 84), none⟩])
  (.seq (.seq (.reg [⟨(some 85), .ld true 6 (.t 15), none⟩,
    ⟨(some 86), .ld true 6 (.t 8), none⟩,
    ⟨(some 87), .call (.k (.w (.fn 31 []))) [(.t 85), (.t 86)], none⟩,
    ⟨(some 88), .un .not (.t 87), none⟩])
  (.cond (.t 88)
    (.seq (.reg [⟨(some 6), .mv (.k (.w (.d (.s (.bool false))))), none⟩])
    .ret)
    .skip))
  (.seq (.reg [⟨(some 14), .mv (.k (.w (.d (.s (.int .i64 1))))), none⟩])
  (.seq (.reg [⟨(some 89), .ld true 6 (.t 11), none⟩,
    ⟨(some 90), .mv (.t 14), none⟩,
    ⟨(some 91), .call (.k (.w (.fn 33 []))) [(.t 89), (.t 90)], none⟩,
    ⟨(some 14), .mv (.t 91), none⟩])
  (.seq (.seq (.reg [⟨(some 92), .mv (.t 14), none⟩,
    ⟨(some 93), .bin .lss .one (.t 92) (.k (.w (.d (.s (.int .i64 0))))), none⟩])
  (.cond (.t 93)
    (.seq (.reg [⟨(some 6), .mv (.k (.w (.d (.s (.bool false))))), none⟩])
    .ret)
    .skip))
  (.seq (.seq (.reg [⟨(some 94), .mv (.t 14), none⟩,
    ⟨(some 95), .mv (.t 13), none⟩,
    ⟨(some 96), .bin .neq .one (.t 94) (.t 95), none⟩])
  (.cond (.t 96)
    (.seq (.reg [⟨(some 6), .mv (.k (.w (.d (.s (.bool false))))), none⟩])
    .ret)
    .skip))
  (.seq (.reg [⟨(some 6), .mv (.k (.w (.d (.s (.bool true))))), none⟩])
  .ret))))))))))))))))))))))))))))))⟩

/- loop.example/stile/laws.FnExactDeskHear -/
def F10 : Fn := ⟨92, [.tmp 4],
  (.seq (.reg [⟨(some 2), .box 5 (.t 0), none⟩,
    ⟨(some 3), .box 5 (.t 1), none⟩,
    ⟨(some 4), .mv (.k (.w (.d (.s (.bool false))))), none⟩])
  (.seq (.reg [⟨(some 5), .mv (.k (.w (.d (.s (.int .i64 1048576))))), none⟩])
  (.seq (.reg [⟨(some 14), .ld true 5 (.t 2), none⟩,
    ⟨(some 15), .mv (.t 5), none⟩,
    ⟨(some 16), .call (.k (.w (.fn 15 []))) [(.t 14), (.t 15)], none⟩,
    ⟨(some 5), .mv (.t 16), none⟩])
  (.seq (.seq (.reg [⟨(some 17), .mv (.t 5), none⟩,
    ⟨(some 18), .bin .lss .one (.t 17) (.k (.w (.d (.s (.int .i64 0))))), none⟩])
  (.cond (.t 18)
    (.seq (.reg [⟨(some 4), .mv (.k (.w (.d (.s (.bool true))))), none⟩])
    .ret)
    .skip))
  (.seq (.reg [⟨(some 19), .ld true 5 (.t 3), none⟩,
    ⟨(some 20), .mv (.t 5), none⟩,
    ⟨(some 21), .call (.k (.w (.fn 48 []))) [(.t 19), (.t 20)], none⟩,
    ⟨(some 5), .mv (.t 21), none⟩])
  (.seq (.seq (.reg [⟨(some 22), .mv (.t 5), none⟩,
    ⟨(some 23), .bin .lss .one (.t 22) (.k (.w (.d (.s (.int .i64 0))))), none⟩])
  (.cond (.t 23)
    (.seq (.reg [⟨(some 4), .mv (.k (.w (.d (.s (.bool true))))), none⟩])
    .ret)
    .skip))
  (.seq (.dreg [⟨(some 24), .ld true 5 (.t 2), none⟩,
    ⟨(some 25), .call (.k (.w (.fn 16 []))) [(.t 24)], none⟩,
    ⟨(some 26), .ld true 5 (.t 3), none⟩,
    ⟨(some 27), .call (.k (.w (.fn 49 []))) [(.t 26)], none⟩,
    ⟨(some 28), .call (.k (.w (.fn 50 []))) [(.t 25), (.t 27)], none⟩,
    ⟨(some 6), .new [(.d (.s (.int .i64 0))), (.d (.s (.int .i64 0))), .nil, (.d (.s (.int .i64 0))), (.d (.s (.int .i64 0)))], none⟩,
    ⟨none, .st 5 (.t 6) (.t 28), none⟩] [0, 1, 0, 7, 15, 0, 63])
  (.seq (.reg [⟨(some 29), .ld true 5 (.t 2), none⟩,
    ⟨(some 30), .call (.k (.w (.fn 16 []))) [(.t 29)], none⟩,
    ⟨(some 7), .new [(.d (.s (.int .i64 0))), (.d (.s (.int .i64 0))), .nil, (.d (.s (.int .i64 0))), (.d (.s (.int .i64 0)))], none⟩,
    ⟨none, .st 5 (.t 7) (.t 30), none⟩])
  (.seq (.reg [⟨(some 31), .ld true 5 (.t 3), none⟩,
    ⟨(some 32), .call (.k (.w (.fn 49 []))) [(.t 31)], none⟩,
    ⟨(some 8), .new [(.d (.s (.int .i64 0))), (.d (.s (.int .i64 0))), (.d (.s (.int .i64 0))), (.d (.s (.int .i64 0))), .nil], none⟩,
    ⟨none, .st 5 (.t 8) (.t 32), none⟩])
  (.seq (.reg [⟨(some 33), .ld true 5 (.t 7), none⟩,
    ⟨(some 34), .ld true 5 (.t 8), none⟩,
    ⟨(some 35), .call (.k (.w (.fn 51 []))) [(.t 33), (.t 34)], none⟩,
    ⟨(some 9), .new [(.d (.s (.int .i64 0))), (.d (.s (.int .i64 0))), .nil, (.d (.s (.int .i64 0))), (.d (.s (.int .i64 0)))], none⟩,
    ⟨none, .st 5 (.t 9) (.t 35), none⟩])
  (.seq (.seq (.reg [⟨(some 36), .ld true 5 (.t 9), none⟩,
    ⟨(some 37), .ld true 5 (.t 6), none⟩,
    ⟨(some 38), .call (.k (.w (.fn 19 []))) [(.t 36), (.t 37)], none⟩,
    ⟨(some 39), .un .not (.t 38), none⟩])
  (.cond (.t 39)
    (.seq (.reg [⟨(some 4), .mv (.k (.w (.d (.s (.bool false))))), none⟩])
    .ret)
    .skip))
  (.seq (.seq (.dreg [⟨(some 40), .ld true 5 (.t 7), none⟩,
    ⟨(some 41), .ld true 5 (.t 2), none⟩,
    ⟨(some 42), .call (.k (.w (.fn 16 []))) [(.t 41)], none⟩,
    ⟨(some 43), .call (.k (.w (.fn 19 []))) [(.t 40), (.t 42)], none⟩,
    ⟨(some 44), .un .not (.t 43), none⟩] [0, 0, 2, 7, 15])
  (.cond (.t 44)
    (.seq (.reg [⟨(some 4), .mv (.k (.w (.d (.s (.bool false))))), none⟩])
    .ret)
    .skip))
  (.seq (.seq (.dreg [⟨(some 45), .ld true 5 (.t 8), none⟩,
    ⟨(some 46), .ld true 5 (.t 3), none⟩,
    ⟨(some 47), .call (.k (.w (.fn 49 []))) [(.t 46)], none⟩,
    ⟨(some 48), .call (.k (.w (.fn 36 []))) [(.t 45), (.t 47)], none⟩,
    ⟨(some 49), .un .not (.t 48), none⟩] [0, 0, 2, 7, 15])
  (.cond (.t 49)
    (.seq (.reg [⟨(some 4), .mv (.k (.w (.d (.s (.bool false))))), none⟩])
    .ret)
    .skip))
  (.seq (.reg [⟨(some 10), .mv (.k (.w (.d (.s (.int .i64 1))))), none⟩])
  (.seq (.reg [⟨(some 50), .ld true 5 (.t 7), none⟩,
    ⟨(some 51), .mv (.t 10), none⟩,
    ⟨(some 52), .call (.k (.w (.fn 22 []))) [(.t 50), (.t 51)], none⟩,
    ⟨(some 10), .mv (.t 52), none⟩])
  (.seq (.reg [⟨(some 53), .ld true 5 (.t 8), none⟩,
    ⟨(some 54), .mv (.t 10), none⟩,
    ⟨(some 55), .call (.k (.w (.fn 37 []))) [(.t 53), (.t 54)], none⟩,
    ⟨(some 10), .mv (.t 55), none⟩])
  (.seq (.seq (.reg [⟨(some 56), .mv (.t 10), none⟩,
    ⟨(some 57), .bin .lss .one (.t 56) (.k (.w (.d (.s (.int .i64 0))))), none⟩,
    ⟨(some 58), .mv (.t 57), none⟩,
    ⟨(some 59), .ld true 5 (.t 9), (some (58, false))⟩,
    ⟨(some 60), .ld true 5 (.t 6), (some (58, false))⟩,
    ⟨(some 61), .call (.k (.w (.fn 19 []))) [(.t 59), (.t 60)], (some (58, false))⟩,
    ⟨(some 62), .un .not (.t 61), (some (58, false))⟩,
    ⟨(some 63), .pick (.t 58) (.k (.w (.d (.s (.bool true))))) (.t 62), none⟩])
  (.cond (.t 63)
    (.seq (.reg [⟨(some 4), .mv (.k (.w (.d (.s (.bool false))))), none⟩])
    .ret)
    .skip))
  (.seq (.reg [⟨(some 11), .mv (.k (.w (.d (.s (.int .i64 1))))), none⟩])
  (.seq (.reg [⟨(some 64), .ld true 5 (.t 9), none⟩,
    ⟨(some 65), .mv (.t 11), none⟩,
    ⟨(some 66), .call (.k (.w (.fn 22 []))) [(.t 64), (.t 65)], none⟩,
    ⟨(some 11), .mv (.t 66), none⟩])
  (.seq (.reg [⟨(some 12), .mv (.k (.w (.d (.s (.int .i64 1))))), none⟩])
  (.seq (.reg [⟨(some 67), .ld true 5 (.t 9), none⟩,
    ⟨(some 68), .mv (.t 12), none⟩,
    ⟨(some 69), .call (.k (.w (.fn 23 []))) [(.t 67), (.t 68)], none⟩,
    ⟨(some 12), .mv (.t 69), none⟩])
  (.seq (.seq (.reg [⟨(some 70), .mv (.t 12), none⟩,
    ⟨(some 71), .bin .lss .one (.t 70) (.k (.w (.d (.s (.int .i64 0))))), none⟩])
  (.cond (.t 71)
    (.seq (.reg [⟨(some 4), .mv (.k (.w (.d (.s (.bool false))))), none⟩])
    .ret)
    .skip))
  (.seq (.seq (.reg [⟨(some 72), .mv (.t 12), none⟩,
    ⟨(some 73), .mv (.t 11), none⟩,
    ⟨(some 74), .bin .neq .one (.t 72) (.t 73), none⟩])
  (.cond (.t 74)
    (.seq (.reg [⟨(some 4), .mv (.k (.w (.d (.s (.bool false))))), none⟩])
    .ret)
    .skip))
  (.seq (.dreg [⟨(some 75), .ld true 5 (.t 2), none⟩,
    ⟨(some 76), .call (.k (.w (.fn 16 []))) [(.t 75)], none⟩,
    ⟨(some 77), .ld true 5 (.t 3), none⟩,
    ⟨(some 78), .call (.k (.w (.fn 49 []))) [(.t 77)], none⟩,
    ⟨(some 79), .call (.k (.w (.fn 51 []))) [(.t 76), (.t 78)], none⟩,
    ⟨(some 13), .new [(.d (.s (.int .i64 0))), (.d (.s (.int .i64 0))), .nil, (.d (.s (.int .i64 0))), (.d (.s (.int .i64 0)))], none⟩,
    ⟨none, .st 5 (.t 13) (.t 79), none⟩] [0, 1, 0, 7, 15, 0, 63])
  (.seq (.seq (.reg [⟨(some 80), .ld true 5 (.t 13), none⟩,
    ⟨(some 81), .ld true 5 (.t 6), none⟩,
    ⟨(some 82), .call (.k (.w (.fn 19 []))) [(.t 80), (.t 81)], none⟩,
    ⟨(some 83), .un .not (.t 82), none⟩])
  (.cond (.t 83)
    (.seq (.reg [⟨(some 4), .mv (.k (.w (.d (.s (.bool false))))), none⟩])
    .ret)
    .skip))
  (.seq (.reg [⟨(some 12), .mv (.k (.w (.d (.s (.int .i64 1))))), none⟩])
  (.seq (.reg [⟨(some 84), .ld true 5 (.t 9), none⟩,
    ⟨(some 85), .mv (.t 12), none⟩,
    ⟨(some 86), .call (.k (.w (.fn 23 []))) [(.t 84), (.t 85)], none⟩,
    ⟨(some 12), .mv (.t 86), none⟩])
  (.seq (.seq (.reg [⟨(some 87), .mv (.t 12), none⟩,
    ⟨(some 88), .bin .lss .one (.t 87) (.k (.w (.d (.s (.int .i64 0))))), none⟩])
  (.cond (.t 88)
    (.seq (.reg [⟨(some 4), .mv (.k (.w (.d (.s (.bool false))))), none⟩])
    .ret)
    .skip))
  (.seq (.seq (.reg [⟨(some 89), .mv (.t 12), none⟩,
    ⟨(some 90), .mv (.t 11), none⟩,
    ⟨(some 91), .bin .neq .one (.t 89) (.t 90), none⟩])
  (.cond (.t 91)
    (.seq (.reg [⟨(some 4), .mv (.k (.w (.d (.s (.bool false))))), none⟩])
    .ret)
    .skip))
  (.seq (.reg [⟨(some 4), .mv (.k (.w (.d (.s (.bool true))))), none⟩])
  .ret))))))))))))))))))))))))))))))⟩

/- loop.example/stile/impl.HoldPlan -/
def F11_B0 : C :=
  (.seq (.reg [⟨(some 36), .bin .lss .one (.t 35) (.t 34), none⟩])
  (.seq (.cond (.t 36)
    .skip
    (.exit 0))
  (.seq (.block 1
    (.seq (.reg [⟨(some 37), .ia 1 (.t 33) (.t 35), none⟩,
      ⟨(some 38), .ld false 1 (.t 37), none⟩,
      ⟨(some 11), .mv (.t 38), none⟩])
    (.reg [⟨(some 39), .mv (.t 9), none⟩,
      ⟨(some 40), .mv (.t 6), none⟩,
      ⟨(some 41), .mv (.t 11), none⟩,
      ⟨(some 42), .bld [(.d (.s (.int .i64 0))), (.d (.s (.int .i64 0))), (.d (.s (.int .u8 0)))] [(0, 1, (.k (.w (.d (.s (.int .i64 4)))))), (1, 1, (.t 40)), (2, 1, (.t 41))], none⟩,
      ⟨(some 43), .bsl 3 1 [(.s (.int .i64 0)), (.s (.int .i64 0)), (.s (.int .u8 0))] [(0, (.t 42))], none⟩,
      ⟨(some 44), .app 3 24 [(.s (.int .i64 0)), (.s (.int .i64 0)), (.s (.int .u8 0))] (.t 39) (.t 43), none⟩,
      ⟨(some 9), .mv (.t 44), none⟩])))
  (.reg [⟨(some 45), .bin .add .one (.t 35) (.k (.w (.d (.s (.int .i64 1))))), none⟩,
    ⟨(some 35), .mv (.t 45), none⟩]))))
def F11_L0 : C := .loop F11_B0
def F11 : Fn := ⟨63, [.tmp 4, .tmp 5],
  (.seq (.reg [⟨(some 2), .box 6 (.t 0), none⟩,
    ⟨(some 4), .mv (.k (.w .nil)), none⟩,
    ⟨(some 5), .mv (.k (.w (.d (.s (.bool false))))), none⟩])
  (.seq (.seq (.reg [⟨(some 12), .mv (.t 1), none⟩,
    ⟨(some 13), .lenl (.t 12), none⟩,
    ⟨(some 14), .bin .gtr .one (.t 13) (.k (.w (.d (.s (.int .i64 20100))))), none⟩])
  (.cond (.t 14)
    (.seq (.reg [⟨(some 4), .mv (.k (.w .nil)), none⟩,
      ⟨(some 5), .mv (.k (.w (.d (.s (.bool false))))), none⟩])
    .ret)
    .skip))
  (.seq (.reg [⟨(some 6), .mv (.k (.w (.d (.s (.int .i64 0))))), none⟩,
    ⟨(some 7), .mv (.k (.w (.d (.s (.int .u8 0))))), none⟩])
  (.seq (.reg [⟨(some 15), .ld true 6 (.t 2), none⟩,
    ⟨(some 16), .call (.k (.w (.fn 41 []))) [(.t 15)], none⟩,
    ⟨(some 8), .mv (.t 16), none⟩])
  (.seq (.seq (.reg [⟨(some 17), .mv (.t 8), none⟩,
    ⟨(some 18), .bin .geq .one (.t 17) (.k (.w (.d (.s (.int .i64 0))))), none⟩])
  (.cond (.t 18)
    (.dreg [⟨(some 19), .mv (.t 8), none⟩,
      ⟨(some 20), .bin .sub .one (.k (.w (.d (.s (.int .i64 1))))) (.t 19), none⟩,
      ⟨(some 21), .mv (.t 8), none⟩,
      ⟨(some 22), .call (.k (.w (.fn 52 []))) [(.t 2), (.t 21)], none⟩,
      ⟨(some 23), .nc (.t 22), none⟩,
      ⟨(some 24), .fa 1 (.t 23), none⟩,
      ⟨(some 25), .ld false 1 (.t 24), none⟩,
      ⟨(some 26), .bin .add .one (.t 25) (.k (.w (.d (.s (.int .u8 1))))), none⟩,
      ⟨(some 27), .bin .rem .one (.t 26) (.k (.w (.d (.s (.int .u8 3))))), none⟩,
      ⟨(some 6), .mv (.t 20), none⟩,
      ⟨(some 7), .mv (.t 27), none⟩] [0, 1, 0, 4, 12, 28, 60, 124, 252, 15, 1023])
    .skip))
  (.seq (.reg [⟨(some 28), .mv (.t 6), none⟩,
    ⟨(some 29), .bld [(.d (.s (.int .i64 0))), (.d (.s (.int .i64 0))), (.d (.s (.int .u8 0)))] [(0, 1, (.k (.w (.d (.s (.int .i64 1)))))), (1, 1, (.t 28)), (2, 1, (.k (.w (.d (.s (.int .u8 0))))))], none⟩,
    ⟨(some 30), .mv (.t 6), none⟩,
    ⟨(some 31), .bld [(.d (.s (.int .i64 0))), (.d (.s (.int .i64 0))), (.d (.s (.int .u8 0)))] [(0, 1, (.k (.w (.d (.s (.int .i64 3)))))), (1, 1, (.t 30)), (2, 1, (.k (.w (.d (.s (.int .u8 0))))))], none⟩,
    ⟨(some 32), .bsl 3 2 [(.s (.int .i64 0)), (.s (.int .i64 0)), (.s (.int .u8 0))] [(0, (.t 29)), (1, (.t 31))], none⟩,
    ⟨(some 9), .mv (.t 32), none⟩])
  (.seq (.seq (.reg [⟨(some 33), .mv (.t 1), none⟩,
    ⟨(some 34), .lenl (.t 33), none⟩,
    ⟨(some 35), .mv (.k (.w (.d (.s (.int .i64 0))))), none⟩])
  (.block 0
    F11_L0))
  (.seq (.reg [⟨(some 46), .mv (.t 9), none⟩,
    ⟨(some 47), .mv (.t 6), none⟩,
    ⟨(some 48), .mv (.t 7), none⟩,
    ⟨(some 49), .bld [(.d (.s (.int .i64 0))), (.d (.s (.int .i64 0))), (.d (.s (.int .u8 0)))] [(0, 1, (.k (.w (.d (.s (.int .i64 2)))))), (1, 1, (.t 47)), (2, 1, (.t 48))], none⟩,
    ⟨(some 50), .mv (.t 6), none⟩,
    ⟨(some 51), .bld [(.d (.s (.int .i64 0))), (.d (.s (.int .i64 0))), (.d (.s (.int .u8 0)))] [(0, 1, (.k (.w (.d (.s (.int .i64 1)))))), (1, 1, (.t 50)), (2, 1, (.k (.w (.d (.s (.int .u8 165))))))], none⟩,
    ⟨(some 52), .bsl 3 2 [(.s (.int .i64 0)), (.s (.int .i64 0)), (.s (.int .u8 0))] [(0, (.t 49)), (1, (.t 51))], none⟩,
    ⟨(some 53), .app 3 24 [(.s (.int .i64 0)), (.s (.int .i64 0)), (.s (.int .u8 0))] (.t 46) (.t 52), none⟩,
    ⟨(some 9), .mv (.t 53), none⟩])
  (.seq (.seq (.reg [⟨(some 54), .mv (.t 8), none⟩,
    ⟨(some 55), .bin .geq .one (.t 54) (.k (.w (.d (.s (.int .i64 0))))), none⟩])
  (.cond (.t 55)
    (.reg [⟨(some 56), .mv (.t 9), none⟩,
      ⟨(some 57), .mv (.t 8), none⟩,
      ⟨(some 58), .bld [(.d (.s (.int .i64 0))), (.d (.s (.int .i64 0))), (.d (.s (.int .u8 0)))] [(0, 1, (.k (.w (.d (.s (.int .i64 1)))))), (1, 1, (.t 57)), (2, 1, (.k (.w (.d (.s (.int .u8 0))))))], none⟩,
      ⟨(some 59), .bsl 3 1 [(.s (.int .i64 0)), (.s (.int .i64 0)), (.s (.int .u8 0))] [(0, (.t 58))], none⟩,
      ⟨(some 60), .app 3 24 [(.s (.int .i64 0)), (.s (.int .i64 0)), (.s (.int .u8 0))] (.t 56) (.t 59), none⟩,
      ⟨(some 9), .mv (.t 60), none⟩])
    .skip))
  (.seq (.reg [⟨(some 61), .mv (.t 9), none⟩,
    ⟨(some 62), .call (.k (.w (.fn 53 []))) [(.t 61)], none⟩,
    ⟨(some 4), .mv (.t 62), none⟩,
    ⟨(some 5), .mv (.k (.w (.d (.s (.bool true))))), none⟩])
  .ret))))))))))⟩

/- loop.example/stile/impl.HoldPlay -/
def F12_B0 : C :=
  (.seq (.reg [⟨(some 21), .bin .lss .one (.t 20) (.t 19), none⟩])
  (.seq (.cond (.t 21)
    .skip
    (.exit 0))
  (.seq (.block 1
    (.seq (.reg [⟨(some 22), .ia 3 (.t 18) (.t 20), none⟩,
      ⟨(some 23), .ld true 3 (.t 22), none⟩,
      ⟨(some 9), .new [(.d (.s (.int .i64 0))), (.d (.s (.int .i64 0))), (.d (.s (.int .u8 0)))], none⟩,
      ⟨none, .st 3 (.t 9) (.t 23), none⟩])
    (.reg [⟨(some 24), .ld true 3 (.t 9), none⟩,
      ⟨(some 25), .call (.k (.w (.fn 55 []))) [(.t 7), (.t 24)], none⟩])))
  (.reg [⟨(some 26), .bin .add .one (.t 20) (.k (.w (.d (.s (.int .i64 1))))), none⟩,
    ⟨(some 20), .mv (.t 26), none⟩]))))
def F12_L0 : C := .loop F12_B0
def F12 : Fn := ⟨29, [.cell 6 true 6],
  (.seq (.reg [⟨(some 3), .box 6 (.t 0), none⟩,
    ⟨(some 6), .new [(.d (.s (.int .u8 0))), (.d (.s (.int .u8 0))), .nil, (.d (.s (.int .u8 0))), (.d (.s (.int .u8 0))), .nil], none⟩])
  (.seq (.reg [⟨(some 10), .ld true 6 (.t 3), none⟩,
    ⟨(some 11), .call (.k (.w (.fn 54 []))) [(.t 10)], none⟩,
    ⟨(some 7), .new [(.d (.s (.int .u8 0))), (.d (.s (.int .u8 0))), .nil, (.d (.s (.int .u8 0))), (.d (.s (.int .u8 0))), .nil], none⟩,
    ⟨none, .st 6 (.t 7) (.t 11), none⟩])
  (.seq (.seq (.reg [⟨(some 12), .mv (.t 1), none⟩,
    ⟨(some 13), .mv (.t 2), none⟩,
    ⟨(some 14), .mv (.t 1), none⟩,
    ⟨(some 15), .lenl (.t 14), none⟩,
    ⟨(some 16), .mmx false [(.t 13), (.t 15)], none⟩,
    ⟨(some 17), .mmx true [(.k (.w (.d (.s (.int .i64 0))))), (.t 16)], none⟩,
    ⟨(some 18), .sl 3 (.t 12) none (some (.t 17)) none, none⟩,
    ⟨(some 19), .lenl (.t 18), none⟩,
    ⟨(some 20), .mv (.k (.w (.d (.s (.int .i64 0))))), none⟩])
  (.block 0
    F12_L0))
  (.seq (.reg [⟨(some 27), .ld true 6 (.t 7), none⟩,
    ⟨(some 28), .call (.k (.w (.fn 54 []))) [(.t 27)], none⟩,
    ⟨none, .st 6 (.t 6) (.t 28), none⟩])
  .ret))))⟩

/- loop.example/stile/impl.HoldNow -/
def F13 : Fn := ⟨15, [.tmp 2, .tmp 3],
  (.seq (.reg [⟨(some 1), .box 6 (.t 0), none⟩,
    ⟨(some 2), .mv (.k (.w .nil)), none⟩,
    ⟨(some 3), .mv (.k (.w (.d (.s (.bool false))))), none⟩])
  (.seq (.reg [⟨(some 5), .ld true 6 (.t 1), none⟩,
    ⟨(some 6), .call (.k (.w (.fn 41 []))) [(.t 5)], none⟩,
    ⟨(some 7), .call (.k (.w (.fn 52 []))) [(.t 1), (.t 6)], none⟩,
    ⟨(some 4), .mv (.t 7), none⟩])
  (.seq (.seq (.reg [⟨(some 8), .mv (.t 4), none⟩,
    ⟨(some 9), .bin .eql .p (.t 8) (.k (.w (.d (.s (.pointer none))))), none⟩])
  (.cond (.t 9)
    (.seq (.reg [⟨(some 2), .mv (.k (.w .nil)), none⟩,
      ⟨(some 3), .mv (.k (.w (.d (.s (.bool false))))), none⟩])
    .ret)
    .skip))
  (.seq (.reg [⟨(some 10), .mv (.t 4), none⟩,
    ⟨(some 11), .nc (.t 10), none⟩,
    ⟨(some 12), .fa 2 (.t 11), none⟩,
    ⟨(some 13), .ld false 1 (.t 12), none⟩,
    ⟨(some 14), .call (.k (.w (.fn 56 []))) [(.t 13)], none⟩,
    ⟨(some 2), .mv (.t 14), none⟩,
    ⟨(some 3), .mv (.k (.w (.d (.s (.bool true))))), none⟩])
  .ret))))⟩

/- loop.example/stile/laws.whSame -/
def F14 : Fn := ⟨19, [.tmp 8],
  (.seq (.reg [⟨(some 8), .mv (.k (.w (.d (.s (.bool false))))), none⟩])
  (.seq (.reg [⟨(some 9), .mv (.t 1), none⟩,
    ⟨(some 10), .mv (.t 3), none⟩,
    ⟨(some 11), .bin .eql .b (.t 9) (.t 10), none⟩,
    ⟨(some 12), .mv (.t 11), none⟩,
    ⟨(some 13), .mv (.t 0), (some (12, true))⟩,
    ⟨(some 14), .cbs (.t 13), (some (12, true))⟩,
    ⟨(some 15), .mv (.t 2), (some (12, true))⟩,
    ⟨(some 16), .cbs (.t 15), (some (12, true))⟩,
    ⟨(some 17), .bin .eql .one (.t 14) (.t 16), (some (12, true))⟩,
    ⟨(some 18), .pick (.t 12) (.t 17) (.k (.w (.d (.s (.bool false))))), none⟩,
    ⟨(some 8), .mv (.t 18), none⟩])
  .ret))⟩

/- loop.example/stile/laws.szDesk -/
def F15 : Fn := ⟨12, [.tmp 4],
  (.seq (.reg [⟨(some 2), .box 5 (.t 0), none⟩,
    ⟨(some 4), .mv (.k (.w (.d (.s (.int .i64 0))))), none⟩])
  (.seq (.reg [⟨(some 5), .fa 1 (.t 2), none⟩,
    ⟨(some 6), .ld true 4 (.t 5), none⟩,
    ⟨(some 7), .mv (.t 1), none⟩,
    ⟨(some 8), .call (.k (.w (.fn 57 []))) [(.t 6), (.t 7)], none⟩,
    ⟨(some 1), .mv (.t 8), none⟩])
  (.seq (.seq (.reg [⟨(some 9), .mv (.t 1), none⟩,
    ⟨(some 10), .bin .lss .one (.t 9) (.k (.w (.d (.s (.int .i64 0))))), none⟩])
  (.cond (.t 10)
    (.seq (.reg [⟨(some 4), .mv (.k (.w (.d (.s (.int .i64 (-1)))))), none⟩])
    .ret)
    .skip))
  (.seq (.reg [⟨(some 11), .mv (.t 1), none⟩,
    ⟨(some 4), .mv (.t 11), none⟩])
  .ret))))⟩

/- loop.example/stile/laws.toDesk -/
def F16 : Fn := ⟨12, [.cell 2 true 5],
  (.seq (.reg [⟨(some 1), .box 5 (.t 0), none⟩,
    ⟨(some 2), .new [(.d (.s (.int .i64 0))), (.d (.s (.int .i64 0))), .nil, (.d (.s (.int .i64 0))), (.d (.s (.int .i64 0)))], none⟩])
  (.seq (.reg [⟨(some 3), .new [(.d (.s (.int .i64 0))), (.d (.s (.int .i64 0))), .nil, (.d (.s (.int .i64 0))), (.d (.s (.int .i64 0)))], none⟩])
  (.seq (.reg [⟨(some 4), .fa 0 (.t 1), none⟩,
    ⟨(some 5), .ld false 1 (.t 4), none⟩,
    ⟨(some 6), .fa 0 (.t 3), none⟩,
    ⟨none, .st 1 (.t 6) (.t 5), none⟩])
  (.seq (.reg [⟨(some 7), .fa 1 (.t 1), none⟩,
    ⟨(some 8), .ld true 4 (.t 7), none⟩,
    ⟨(some 9), .call (.k (.w (.fn 58 []))) [(.t 8)], none⟩,
    ⟨(some 10), .fa 1 (.t 3), none⟩,
    ⟨none, .st 4 (.t 10) (.t 9), none⟩])
  (.seq (.reg [⟨(some 11), .ld true 5 (.t 3), none⟩,
    ⟨none, .st 5 (.t 2) (.t 11), none⟩])
  .ret)))))⟩

/- loop.example/stile/spec.DeskOk -/
def F17 : Fn := ⟨68, [.tmp 2],
  (.seq (.reg [⟨(some 1), .box 5 (.t 0), none⟩,
    ⟨(some 2), .mv (.k (.w (.d (.s (.bool false))))), none⟩])
  (.seq (.reg [⟨(some 5), .fa 1 (.t 1), none⟩,
    ⟨(some 6), .ld true 4 (.t 5), none⟩,
    ⟨(some 3), .new [(.d (.s (.int .i64 0))), .nil, (.d (.s (.int .i64 0))), (.d (.s (.int .i64 0)))], none⟩,
    ⟨none, .st 4 (.t 3) (.t 6), none⟩])
  (.seq (.seq (.reg [⟨(some 7), .fa 0 (.t 1), none⟩,
    ⟨(some 8), .ld false 1 (.t 7), none⟩,
    ⟨(some 9), .bin .lss .one (.t 8) (.k (.w (.d (.s (.int .i64 0))))), none⟩,
    ⟨(some 10), .mv (.t 9), none⟩,
    ⟨(some 11), .fa 0 (.t 1), (some (10, false))⟩,
    ⟨(some 12), .ld false 1 (.t 11), (some (10, false))⟩,
    ⟨(some 13), .bin .gtr .one (.t 12) (.k (.w (.d (.s (.int .i64 1000000))))), (some (10, false))⟩,
    ⟨(some 14), .pick (.t 10) (.k (.w (.d (.s (.bool true))))) (.t 13), none⟩])
  (.cond (.t 14)
    (.seq (.reg [⟨(some 2), .mv (.k (.w (.d (.s (.bool false))))), none⟩])
    .ret)
    .skip))
  (.seq (.seq (.reg [⟨(some 15), .fa 3 (.t 3), none⟩,
    ⟨(some 16), .ld false 1 (.t 15), none⟩,
    ⟨(some 17), .bin .eql .one (.t 16) (.k (.w (.d (.s (.int .i64 0))))), none⟩])
  (.cond (.t 17)
    (.seq (.reg [⟨(some 18), .fa 0 (.t 3), none⟩,
      ⟨(some 19), .ld false 1 (.t 18), none⟩,
      ⟨(some 20), .bin .eql .one (.t 19) (.k (.w (.d (.s (.int .i64 0))))), none⟩,
      ⟨(some 21), .mv (.t 20), none⟩,
      ⟨(some 22), .fa 1 (.t 3), (some (21, true))⟩,
      ⟨(some 23), .ld false 1 (.t 22), (some (21, true))⟩,
      ⟨(some 24), .lenl (.t 23), (some (21, true))⟩,
      ⟨(some 25), .bin .eql .one (.t 24) (.k (.w (.d (.s (.int .i64 0))))), (some (21, true))⟩,
      ⟨(some 26), .pick (.t 21) (.t 25) (.k (.w (.d (.s (.bool false))))), none⟩,
      ⟨(some 27), .mv (.t 26), none⟩,
      ⟨(some 28), .fa 2 (.t 3), (some (27, true))⟩,
      ⟨(some 29), .ld false 1 (.t 28), (some (27, true))⟩,
      ⟨(some 30), .bin .eql .one (.t 29) (.k (.w (.d (.s (.int .i64 0))))), (some (27, true))⟩,
      ⟨(some 31), .pick (.t 27) (.t 30) (.k (.w (.d (.s (.bool false))))), none⟩,
      ⟨(some 2), .mv (.t 31), none⟩])
    .ret)
    .skip))
  (.seq (.seq (.reg [⟨(some 32), .fa 3 (.t 3), none⟩,
    ⟨(some 33), .ld false 1 (.t 32), none⟩,
    ⟨(some 34), .bin .lss .one (.t 33) (.k (.w (.d (.s (.int .i64 0))))), none⟩,
    ⟨(some 35), .mv (.t 34), none⟩,
    ⟨(some 36), .fa 3 (.t 3), (some (35, false))⟩,
    ⟨(some 37), .ld false 1 (.t 36), (some (35, false))⟩,
    ⟨(some 38), .bin .gtr .one (.t 37) (.k (.w (.d (.s (.int .i64 3))))), (some (35, false))⟩,
    ⟨(some 39), .pick (.t 35) (.k (.w (.d (.s (.bool true))))) (.t 38), none⟩,
    ⟨(some 40), .mv (.t 39), none⟩,
    ⟨(some 41), .fa 0 (.t 3), (some (40, false))⟩,
    ⟨(some 42), .ld false 1 (.t 41), (some (40, false))⟩,
    ⟨(some 43), .bin .lss .one (.t 42) (.k (.w (.d (.s (.int .i64 1))))), (some (40, false))⟩,
    ⟨(some 44), .pick (.t 40) (.k (.w (.d (.s (.bool true))))) (.t 43), none⟩,
    ⟨(some 45), .mv (.t 44), none⟩,
    ⟨(some 46), .fa 0 (.t 3), (some (45, false))⟩,
    ⟨(some 47), .ld false 1 (.t 46), (some (45, false))⟩,
    ⟨(some 48), .fa 0 (.t 1), (some (45, false))⟩,
    ⟨(some 49), .ld false 1 (.t 48), (some (45, false))⟩,
    ⟨(some 50), .bin .gtr .one (.t 47) (.t 49), (some (45, false))⟩,
    ⟨(some 51), .pick (.t 45) (.k (.w (.d (.s (.bool true))))) (.t 50), none⟩])
  (.cond (.t 51)
    (.seq (.reg [⟨(some 2), .mv (.k (.w (.d (.s (.bool false))))), none⟩])
    .ret)
    .skip))
  (.seq (.reg [⟨(some 52), .fa 1 (.t 3), none⟩,
    ⟨(some 53), .ld false 1 (.t 52), none⟩,
    ⟨(some 54), .call (.k (.w (.fn 59 []))) [(.t 53)], none⟩,
    ⟨(some 4), .mv (.t 54), none⟩])
  (.seq (.reg [⟨(some 55), .mv (.t 4), none⟩,
    ⟨(some 56), .bin .gtr .one (.t 55) (.k (.w (.d (.s (.int .i64 0))))), none⟩,
    ⟨(some 57), .mv (.t 56), none⟩,
    ⟨(some 58), .fa 2 (.t 3), (some (57, true))⟩,
    ⟨(some 59), .ld false 1 (.t 58), (some (57, true))⟩,
    ⟨(some 60), .bin .geq .one (.t 59) (.k (.w (.d (.s (.int .i64 0))))), (some (57, true))⟩,
    ⟨(some 61), .pick (.t 57) (.t 60) (.k (.w (.d (.s (.bool false))))), none⟩,
    ⟨(some 62), .mv (.t 61), none⟩,
    ⟨(some 63), .fa 2 (.t 3), (some (62, true))⟩,
    ⟨(some 64), .ld false 1 (.t 63), (some (62, true))⟩,
    ⟨(some 65), .mv (.t 4), (some (62, true))⟩,
    ⟨(some 66), .bin .leq .one (.t 64) (.t 65), (some (62, true))⟩,
    ⟨(some 67), .pick (.t 62) (.t 66) (.k (.w (.d (.s (.bool false))))), none⟩,
    ⟨(some 2), .mv (.t 67), none⟩])
  .ret)))))))⟩

/- loop.example/stile/impl.DeskOk -/
def F18 : Fn := ⟨53, [.tmp 2],
  (.seq (.reg [⟨(some 1), .box 5 (.t 0), none⟩,
    ⟨(some 2), .mv (.k (.w (.d (.s (.bool false))))), none⟩])
  (.seq (.reg [⟨(some 5), .fa 1 (.t 1), none⟩,
    ⟨(some 6), .ld true 4 (.t 5), none⟩,
    ⟨(some 3), .new [(.d (.s (.int .i64 0))), .nil, (.d (.s (.int .i64 0))), (.d (.s (.int .i64 0)))], none⟩,
    ⟨none, .st 4 (.t 3) (.t 6), none⟩])
  (.seq (.seq (.reg [⟨(some 7), .fa 0 (.t 1), none⟩,
    ⟨(some 8), .ld false 1 (.t 7), none⟩,
    ⟨(some 9), .call (.k (.w (.fn 60 []))) [(.t 8), (.k (.w (.d (.s (.int .i64 0))))), (.k (.w (.d (.s (.int .i64 1000000)))))], none⟩,
    ⟨(some 10), .un .not (.t 9), none⟩])
  (.cond (.t 10)
    (.seq (.reg [⟨(some 2), .mv (.k (.w (.d (.s (.bool false))))), none⟩])
    .ret)
    .skip))
  (.seq (.seq (.reg [⟨(some 11), .fa 0 (.t 3), none⟩,
    ⟨(some 12), .ld false 1 (.t 11), none⟩,
    ⟨(some 13), .bin .eql .one (.t 12) (.k (.w (.d (.s (.int .i64 0))))), none⟩,
    ⟨(some 14), .mv (.t 13), none⟩,
    ⟨(some 15), .fa 1 (.t 3), (some (14, true))⟩,
    ⟨(some 16), .ld false 1 (.t 15), (some (14, true))⟩,
    ⟨(some 17), .lenl (.t 16), (some (14, true))⟩,
    ⟨(some 18), .bin .eql .one (.t 17) (.k (.w (.d (.s (.int .i64 0))))), (some (14, true))⟩,
    ⟨(some 19), .pick (.t 14) (.t 18) (.k (.w (.d (.s (.bool false))))), none⟩,
    ⟨(some 20), .mv (.t 19), none⟩,
    ⟨(some 21), .fa 2 (.t 3), (some (20, true))⟩,
    ⟨(some 22), .ld false 1 (.t 21), (some (20, true))⟩,
    ⟨(some 23), .bin .eql .one (.t 22) (.k (.w (.d (.s (.int .i64 0))))), (some (20, true))⟩,
    ⟨(some 24), .pick (.t 20) (.t 23) (.k (.w (.d (.s (.bool false))))), none⟩,
    ⟨(some 25), .mv (.t 24), none⟩,
    ⟨(some 26), .fa 3 (.t 3), (some (25, true))⟩,
    ⟨(some 27), .ld false 1 (.t 26), (some (25, true))⟩,
    ⟨(some 28), .bin .eql .one (.t 27) (.k (.w (.d (.s (.int .i64 0))))), (some (25, true))⟩,
    ⟨(some 29), .pick (.t 25) (.t 28) (.k (.w (.d (.s (.bool false))))), none⟩])
  (.cond (.t 29)
    (.seq (.reg [⟨(some 2), .mv (.k (.w (.d (.s (.bool true))))), none⟩])
    .ret)
    .skip))
  (.seq (.reg [⟨(some 30), .fa 1 (.t 3), none⟩,
    ⟨(some 31), .ld false 1 (.t 30), none⟩,
    ⟨(some 32), .call (.k (.w (.fn 61 []))) [(.t 31)], none⟩,
    ⟨(some 4), .mv (.t 32), none⟩])
  (.seq (.reg [⟨(some 33), .fa 3 (.t 3), none⟩,
    ⟨(some 34), .ld false 1 (.t 33), none⟩,
    ⟨(some 35), .call (.k (.w (.fn 60 []))) [(.t 34), (.k (.w (.d (.s (.int .i64 1))))), (.k (.w (.d (.s (.int .i64 3)))))], none⟩,
    ⟨(some 36), .mv (.t 35), none⟩,
    ⟨(some 37), .fa 0 (.t 3), (some (36, true))⟩,
    ⟨(some 38), .ld false 1 (.t 37), (some (36, true))⟩,
    ⟨(some 39), .fa 0 (.t 1), (some (36, true))⟩,
    ⟨(some 40), .ld false 1 (.t 39), (some (36, true))⟩,
    ⟨(some 41), .call (.k (.w (.fn 60 []))) [(.t 38), (.k (.w (.d (.s (.int .i64 1))))), (.t 40)], (some (36, true))⟩,
    ⟨(some 42), .pick (.t 36) (.t 41) (.k (.w (.d (.s (.bool false))))), none⟩,
    ⟨(some 43), .mv (.t 42), none⟩,
    ⟨(some 44), .mv (.t 4), (some (43, true))⟩,
    ⟨(some 45), .bin .neq .one (.t 44) (.k (.w (.d (.s (.int .i64 0))))), (some (43, true))⟩,
    ⟨(some 46), .pick (.t 43) (.t 45) (.k (.w (.d (.s (.bool false))))), none⟩,
    ⟨(some 47), .mv (.t 46), none⟩,
    ⟨(some 48), .fa 2 (.t 3), (some (47, true))⟩,
    ⟨(some 49), .ld false 1 (.t 48), (some (47, true))⟩,
    ⟨(some 50), .mv (.t 4), (some (47, true))⟩,
    ⟨(some 51), .call (.k (.w (.fn 60 []))) [(.t 49), (.k (.w (.d (.s (.int .i64 0))))), (.t 50)], (some (47, true))⟩,
    ⟨(some 52), .pick (.t 47) (.t 51) (.k (.w (.d (.s (.bool false))))), none⟩,
    ⟨(some 2), .mv (.t 52), none⟩])
  .ret))))))⟩

/- loop.example/stile/laws.eqDesk -/
def F19 : Fn := ⟨16, [.tmp 4],
  (.seq (.reg [⟨(some 2), .box 5 (.t 0), none⟩,
    ⟨(some 3), .box 5 (.t 1), none⟩,
    ⟨(some 4), .mv (.k (.w (.d (.s (.bool false))))), none⟩])
  (.seq (.seq (.reg [⟨(some 5), .fa 0 (.t 2), none⟩,
    ⟨(some 6), .ld false 1 (.t 5), none⟩,
    ⟨(some 7), .fa 0 (.t 3), none⟩,
    ⟨(some 8), .ld false 1 (.t 7), none⟩,
    ⟨(some 9), .bin .neq .one (.t 6) (.t 8), none⟩])
  (.cond (.t 9)
    (.seq (.reg [⟨(some 4), .mv (.k (.w (.d (.s (.bool false))))), none⟩])
    .ret)
    .skip))
  (.seq (.seq (.reg [⟨(some 10), .fa 1 (.t 2), none⟩,
    ⟨(some 11), .ld true 4 (.t 10), none⟩,
    ⟨(some 12), .fa 1 (.t 3), none⟩,
    ⟨(some 13), .ld true 4 (.t 12), none⟩,
    ⟨(some 14), .call (.k (.w (.fn 62 []))) [(.t 11), (.t 13)], none⟩,
    ⟨(some 15), .un .not (.t 14), none⟩])
  (.cond (.t 15)
    (.seq (.reg [⟨(some 4), .mv (.k (.w (.d (.s (.bool false))))), none⟩])
    .ret)
    .skip))
  (.seq (.reg [⟨(some 4), .mv (.k (.w (.d (.s (.bool true))))), none⟩])
  .ret))))⟩

/- loop.example/stile/spec.DeskFall -/
def F20 : Fn := ⟨10, [.cell 2 true 5],
  (.seq (.reg [⟨(some 1), .box 5 (.t 0), none⟩,
    ⟨(some 2), .new [(.d (.s (.int .i64 0))), (.d (.s (.int .i64 0))), .nil, (.d (.s (.int .i64 0))), (.d (.s (.int .i64 0)))], none⟩])
  (.seq (.seq (.reg [⟨(some 3), .ld true 5 (.t 1), none⟩,
    ⟨(some 4), .call (.k (.w (.fn 17 []))) [(.t 3)], none⟩,
    ⟨(some 5), .un .not (.t 4), none⟩])
  (.cond (.t 5)
    (.seq (.reg [⟨(some 6), .bld [(.d (.s (.int .i64 0))), (.d (.s (.int .i64 0))), .nil, (.d (.s (.int .i64 0))), (.d (.s (.int .i64 0)))] [], none⟩,
      ⟨none, .st 5 (.t 2) (.t 6), none⟩])
    .ret)
    .skip))
  (.seq (.reg [⟨(some 7), .fa 0 (.t 1), none⟩,
    ⟨(some 8), .ld false 1 (.t 7), none⟩,
    ⟨(some 9), .bld [(.d (.s (.int .i64 0))), (.d (.s (.int .i64 0))), .nil, (.d (.s (.int .i64 0))), (.d (.s (.int .i64 0)))] [(0, 1, (.t 8))], none⟩,
    ⟨none, .st 5 (.t 2) (.t 9), none⟩])
  .ret)))⟩

/- loop.example/stile/impl.DeskFall -/
def F21 : Fn := ⟨10, [.cell 2 true 5],
  (.seq (.reg [⟨(some 1), .box 5 (.t 0), none⟩,
    ⟨(some 2), .new [(.d (.s (.int .i64 0))), (.d (.s (.int .i64 0))), .nil, (.d (.s (.int .i64 0))), (.d (.s (.int .i64 0)))], none⟩])
  (.seq (.seq (.reg [⟨(some 3), .ld true 5 (.t 1), none⟩,
    ⟨(some 4), .call (.k (.w (.fn 18 []))) [(.t 3)], none⟩,
    ⟨(some 5), .un .not (.t 4), none⟩])
  (.cond (.t 5)
    (.seq (.reg [⟨(some 6), .bld [(.d (.s (.int .i64 0))), (.d (.s (.int .i64 0))), .nil, (.d (.s (.int .i64 0))), (.d (.s (.int .i64 0)))] [], none⟩,
      ⟨none, .st 5 (.t 2) (.t 6), none⟩])
    .ret)
    .skip))
  (.seq (.reg [⟨(some 7), .fa 0 (.t 1), none⟩,
    ⟨(some 8), .ld false 1 (.t 7), none⟩,
    ⟨(some 9), .bld [(.d (.s (.int .i64 0))), (.d (.s (.int .i64 0))), .nil, (.d (.s (.int .i64 0))), (.d (.s (.int .i64 0)))] [(0, 1, (.t 8))], none⟩,
    ⟨none, .st 5 (.t 2) (.t 9), none⟩])
  .ret)))⟩

/- loop.example/stile/laws.markDesk -/
def F22 : Fn := ⟨10, [.tmp 4],
  (.seq (.reg [⟨(some 2), .box 5 (.t 0), none⟩,
    ⟨(some 4), .mv (.k (.w (.d (.s (.int .i64 0))))), none⟩])
  (.seq (.reg [⟨(some 5), .fa 1 (.t 2), none⟩,
    ⟨(some 6), .ld true 4 (.t 5), none⟩,
    ⟨(some 7), .mv (.t 1), none⟩,
    ⟨(some 8), .call (.k (.w (.fn 63 []))) [(.t 6), (.t 7)], none⟩,
    ⟨(some 1), .mv (.t 8), none⟩])
  (.seq (.reg [⟨(some 9), .mv (.t 1), none⟩,
    ⟨(some 4), .mv (.t 9), none⟩])
  .ret)))⟩

/- loop.example/stile/laws.heldDesk -/
def F23 : Fn := ⟨12, [.tmp 4],
  (.seq (.reg [⟨(some 2), .box 5 (.t 0), none⟩,
    ⟨(some 4), .mv (.k (.w (.d (.s (.int .i64 0))))), none⟩])
  (.seq (.reg [⟨(some 5), .fa 1 (.t 2), none⟩,
    ⟨(some 6), .ld true 4 (.t 5), none⟩,
    ⟨(some 7), .mv (.t 1), none⟩,
    ⟨(some 8), .call (.k (.w (.fn 64 []))) [(.t 6), (.t 7)], none⟩,
    ⟨(some 1), .mv (.t 8), none⟩])
  (.seq (.seq (.reg [⟨(some 9), .mv (.t 1), none⟩,
    ⟨(some 10), .bin .lss .one (.t 9) (.k (.w (.d (.s (.int .i64 0))))), none⟩])
  (.cond (.t 10)
    (.seq (.reg [⟨(some 4), .mv (.k (.w (.d (.s (.int .i64 (-1)))))), none⟩])
    .ret)
    .skip))
  (.seq (.reg [⟨(some 11), .mv (.t 1), none⟩,
    ⟨(some 4), .mv (.t 11), none⟩])
  .ret))))⟩

/- loop.example/stile/spec.DrawHoldPlay -/
def F24_B0 : C :=
  (.seq (.seq (.reg [⟨(some 21), .mv (.t 8), none⟩,
    ⟨(some 22), .bin .gtr .one (.t 21) (.k (.w (.d (.s (.int .i64 0))))), none⟩])
  (.cond (.t 22)
    .skip
    (.exit 0)))
  (.seq (.block 1
    (.reg [⟨(some 25), .mv (.t 7), none⟩,
      ⟨(some 26), .mv (.t 5), none⟩,
      ⟨(some 27), .call (.k (.w (.fn 68 []))) [(.t 26)], none⟩,
      ⟨(some 28), .bsl 3 1 [(.s (.int .i64 0)), (.s (.int .i64 0)), (.s (.int .u8 0))] [(0, (.t 27))], none⟩,
      ⟨(some 29), .app 3 24 [(.s (.int .i64 0)), (.s (.int .i64 0)), (.s (.int .u8 0))] (.t 25) (.t 28), none⟩,
      ⟨(some 7), .mv (.t 29), none⟩]))
  (.reg [⟨(some 23), .mv (.t 8), none⟩,
    ⟨(some 24), .bin .sub .one (.t 23) (.k (.w (.d (.s (.int .i64 1))))), none⟩,
    ⟨(some 8), .mv (.t 24), none⟩])))
def F24_L0 : C := .loop F24_B0
def F24 : Fn := ⟨49, [.cell 2 true 6, .tmp 3, .tmp 4],
  (.seq (.reg [⟨(some 2), .new [(.d (.s (.int .u8 0))), (.d (.s (.int .u8 0))), .nil, (.d (.s (.int .u8 0))), (.d (.s (.int .u8 0))), .nil], none⟩,
    ⟨(some 3), .mv (.k (.w .nil)), none⟩,
    ⟨(some 4), .mv (.k (.w (.d (.s (.int .i64 0))))), none⟩])
  (.seq (.reg [⟨(some 11), .mv (.t 0), none⟩,
    ⟨(some 12), .call (.k (.w (.fn 65 []))) [(.t 11)], none⟩,
    ⟨(some 5), .mv (.t 12), none⟩])
  (.seq (.reg [⟨(some 13), .mv (.t 5), none⟩,
    ⟨(some 14), .call (.k (.w (.fn 66 []))) [(.t 13)], none⟩,
    ⟨(some 6), .new [(.d (.s (.int .u8 0))), (.d (.s (.int .u8 0))), .nil, (.d (.s (.int .u8 0))), (.d (.s (.int .u8 0))), .nil], none⟩,
    ⟨none, .st 6 (.t 6) (.t 14), none⟩])
  (.seq (.seq (.reg [⟨(some 15), .mv (.t 5), none⟩,
    ⟨(some 16), .call (.k (.w (.fn 67 []))) [(.t 15), (.k (.w (.d (.s (.int .i64 3)))))], none⟩,
    ⟨(some 17), .bin .eql .one (.t 16) (.k (.w (.d (.s (.int .i64 0))))), none⟩])
  (.cond (.t 17)
    (.seq (.reg [⟨(some 18), .bsl 3 0 [(.s (.int .i64 0)), (.s (.int .i64 0)), (.s (.int .u8 0))] [], none⟩,
      ⟨(some 7), .mv (.t 18), none⟩])
    (.seq (.seq (.reg [⟨(some 19), .mv (.t 5), none⟩,
      ⟨(some 20), .call (.k (.w (.fn 67 []))) [(.t 19), (.k (.w (.d (.s (.int .i64 12)))))], none⟩,
      ⟨(some 8), .mv (.t 20), none⟩])
    (.block 0
      F24_L0))
    (.seq (.dreg [⟨(some 30), .ld true 6 (.t 6), none⟩,
      ⟨(some 31), .mv (.t 7), none⟩,
      ⟨(some 32), .mv (.t 5), none⟩,
      ⟨(some 33), .call (.k (.w (.fn 67 []))) [(.t 32), (.k (.w (.d (.s (.int .i64 15)))))], none⟩,
      ⟨(some 34), .bin .sub .one (.t 33) (.k (.w (.d (.s (.int .i64 1))))), none⟩,
      ⟨none, .st 6 (.t 2) (.t 30), none⟩,
      ⟨(some 3), .mv (.t 31), none⟩,
      ⟨(some 4), .mv (.t 34), none⟩] [0, 0, 0, 4, 12, 13, 47, 127])
    .ret)))
    .skip))
  (.seq (.dreg [⟨(some 36), .ld true 6 (.t 6), none⟩,
    ⟨(some 37), .mv (.t 5), none⟩,
    ⟨(some 38), .call (.k (.w (.fn 69 []))) [(.t 37)], none⟩,
    ⟨(some 39), .call (.k (.w (.fn 43 []))) [(.t 36), (.t 38)], none⟩,
    ⟨(some 35), .mv (.t 39), none⟩,
    ⟨(some 40), .ext 0 (.t 35), none⟩,
    ⟨(some 41), .ext 1 (.t 35), none⟩,
    ⟨(some 9), .mv (.t 40), none⟩,
    ⟨(some 10), .mv (.t 41), none⟩] [0, 0, 2, 7, 15, 31, 31, 63, 255])
  (.seq (.dreg [⟨(some 42), .ld true 6 (.t 6), none⟩,
    ⟨(some 43), .mv (.t 9), none⟩,
    ⟨(some 44), .mv (.t 5), none⟩,
    ⟨(some 45), .mv (.t 9), none⟩,
    ⟨(some 46), .lenl (.t 45), none⟩,
    ⟨(some 47), .bin .add .one (.t 46) (.k (.w (.d (.s (.int .i64 2))))), none⟩,
    ⟨(some 48), .call (.k (.w (.fn 67 []))) [(.t 44), (.t 47)], none⟩,
    ⟨none, .st 6 (.t 2) (.t 42), none⟩,
    ⟨(some 3), .mv (.t 43), none⟩,
    ⟨(some 4), .mv (.t 48), none⟩] [0, 0, 0, 0, 8, 24, 60, 125, 255, 511])
  .ret))))))⟩

/- loop.example/stile/impl.HoldDo -/
def F25 : Fn := ⟨9, [.cell 4 true 6],
  (.seq (.reg [⟨(some 2), .box 6 (.t 0), none⟩,
    ⟨(some 3), .box 3 (.t 1), none⟩,
    ⟨(some 4), .new [(.d (.s (.int .u8 0))), (.d (.s (.int .u8 0))), .nil, (.d (.s (.int .u8 0))), (.d (.s (.int .u8 0))), .nil], none⟩])
  (.seq (.reg [⟨(some 5), .ld true 6 (.t 2), none⟩,
    ⟨(some 6), .ld true 3 (.t 3), none⟩,
    ⟨(some 7), .bsl 3 1 [(.s (.int .i64 0)), (.s (.int .i64 0)), (.s (.int .u8 0))] [(0, (.t 6))], none⟩,
    ⟨(some 8), .call (.k (.w (.fn 12 []))) [(.t 5), (.t 7), (.k (.w (.d (.s (.int .i64 1)))))], none⟩,
    ⟨none, .st 6 (.t 4) (.t 8), none⟩])
  .ret))⟩

/- loop.example/stile/spec.HoldPlay -/
def F26_B0 : C :=
  (.seq (.seq (.reg [⟨(some 10), .mv (.t 7), none⟩,
    ⟨(some 11), .mv (.t 2), none⟩,
    ⟨(some 12), .bin .lss .one (.t 10) (.t 11), none⟩,
    ⟨(some 13), .mv (.t 12), none⟩,
    ⟨(some 14), .mv (.t 7), (some (13, true))⟩,
    ⟨(some 15), .mv (.t 1), (some (13, true))⟩,
    ⟨(some 16), .lenl (.t 15), (some (13, true))⟩,
    ⟨(some 17), .bin .lss .one (.t 14) (.t 16), (some (13, true))⟩,
    ⟨(some 18), .pick (.t 13) (.t 17) (.k (.w (.d (.s (.bool false))))), none⟩])
  (.cond (.t 18)
    .skip
    (.exit 0)))
  (.seq (.block 1
    (.seq (.seq (.reg [⟨(some 21), .mv (.t 1), none⟩,
      ⟨(some 22), .mv (.t 7), none⟩,
      ⟨(some 23), .ia 3 (.t 21) (.t 22), none⟩,
      ⟨(some 24), .fa 1 (.t 23), none⟩,
      ⟨(some 25), .ld false 1 (.t 24), none⟩,
      ⟨(some 26), .bin .eql .one (.t 25) (.k (.w (.d (.s (.int .i64 0))))), none⟩])
    (.cond (.t 26)
      (.dreg [⟨(some 27), .fa 0 (.t 3), none⟩,
        ⟨(some 28), .ld true 3 (.t 27), none⟩,
        ⟨(some 29), .mv (.t 1), none⟩,
        ⟨(some 30), .mv (.t 7), none⟩,
        ⟨(some 31), .ia 3 (.t 29) (.t 30), none⟩,
        ⟨(some 32), .ld true 3 (.t 31), none⟩,
        ⟨(some 33), .call (.k (.w (.fn 71 []))) [(.t 28), (.t 32)], none⟩,
        ⟨(some 34), .fa 0 (.t 3), none⟩,
        ⟨none, .st 3 (.t 34) (.t 33), none⟩] [0, 1, 0, 0, 12, 28, 63, 127, 255])
      .skip))
    (.seq (.reg [⟨(some 35), .mv (.t 1), none⟩,
      ⟨(some 36), .mv (.t 7), none⟩,
      ⟨(some 37), .ia 3 (.t 35) (.t 36), none⟩,
      ⟨(some 38), .fa 1 (.t 37), none⟩,
      ⟨(some 39), .ld false 1 (.t 38), none⟩,
      ⟨(some 40), .bin .eql .one (.t 39) (.k (.w (.d (.s (.int .i64 1))))), none⟩])
    (.cond (.t 40)
      (.dreg [⟨(some 41), .fa 3 (.t 3), none⟩,
        ⟨(some 42), .ld true 3 (.t 41), none⟩,
        ⟨(some 43), .mv (.t 1), none⟩,
        ⟨(some 44), .mv (.t 7), none⟩,
        ⟨(some 45), .ia 3 (.t 43) (.t 44), none⟩,
        ⟨(some 46), .ld true 3 (.t 45), none⟩,
        ⟨(some 47), .call (.k (.w (.fn 71 []))) [(.t 42), (.t 46)], none⟩,
        ⟨(some 48), .fa 3 (.t 3), none⟩,
        ⟨none, .st 3 (.t 48) (.t 47), none⟩] [0, 1, 0, 0, 12, 28, 63, 127, 255])
      .skip))))
  (.reg [⟨(some 19), .mv (.t 7), none⟩,
    ⟨(some 20), .bin .add .one (.t 19) (.k (.w (.d (.s (.int .i64 1))))), none⟩,
    ⟨(some 7), .mv (.t 20), none⟩])))
def F26_L0 : C := .loop F26_B0
def F26 : Fn := ⟨50, [.cell 6 true 6],
  (.seq (.reg [⟨(some 3), .box 6 (.t 0), none⟩,
    ⟨(some 6), .new [(.d (.s (.int .u8 0))), (.d (.s (.int .u8 0))), .nil, (.d (.s (.int .u8 0))), (.d (.s (.int .u8 0))), .nil], none⟩])
  (.seq (.reg [⟨(some 8), .ld true 6 (.t 3), none⟩,
    ⟨(some 9), .call (.k (.w (.fn 70 []))) [(.t 8)], none⟩,
    ⟨none, .st 6 (.t 3) (.t 9), none⟩])
  (.seq (.seq (.reg [⟨(some 7), .mv (.k (.w (.d (.s (.int .i64 0))))), none⟩])
  (.block 0
    F26_L0))
  (.seq (.reg [⟨(some 49), .ld true 6 (.t 3), none⟩,
    ⟨none, .st 6 (.t 6) (.t 49), none⟩])
  .ret))))⟩

/- loop.example/stile/laws.szHoldRom -/
def F27 : Fn := ⟨18, [.tmp 4],
  (.seq (.reg [⟨(some 2), .box 6 (.t 0), none⟩,
    ⟨(some 4), .mv (.k (.w (.d (.s (.int .i64 0))))), none⟩])
  (.seq (.reg [⟨(some 5), .fa 0 (.t 2), none⟩,
    ⟨(some 6), .ld true 3 (.t 5), none⟩,
    ⟨(some 7), .mv (.t 1), none⟩,
    ⟨(some 8), .call (.k (.w (.fn 72 []))) [(.t 6), (.t 7)], none⟩,
    ⟨(some 1), .mv (.t 8), none⟩])
  (.seq (.seq (.reg [⟨(some 9), .mv (.t 1), none⟩,
    ⟨(some 10), .bin .lss .one (.t 9) (.k (.w (.d (.s (.int .i64 0))))), none⟩])
  (.cond (.t 10)
    (.seq (.reg [⟨(some 4), .mv (.k (.w (.d (.s (.int .i64 (-1)))))), none⟩])
    .ret)
    .skip))
  (.seq (.reg [⟨(some 11), .fa 3 (.t 2), none⟩,
    ⟨(some 12), .ld true 3 (.t 11), none⟩,
    ⟨(some 13), .mv (.t 1), none⟩,
    ⟨(some 14), .call (.k (.w (.fn 72 []))) [(.t 12), (.t 13)], none⟩,
    ⟨(some 1), .mv (.t 14), none⟩])
  (.seq (.seq (.reg [⟨(some 15), .mv (.t 1), none⟩,
    ⟨(some 16), .bin .lss .one (.t 15) (.k (.w (.d (.s (.int .i64 0))))), none⟩])
  (.cond (.t 16)
    (.seq (.reg [⟨(some 4), .mv (.k (.w (.d (.s (.int .i64 (-1)))))), none⟩])
    .ret)
    .skip))
  (.seq (.reg [⟨(some 17), .mv (.t 1), none⟩,
    ⟨(some 4), .mv (.t 17), none⟩])
  .ret))))))⟩

/- loop.example/stile/laws.toHoldRom -/
def F28 : Fn := ⟨13, [.cell 2 true 6],
  (.seq (.reg [⟨(some 1), .box 6 (.t 0), none⟩,
    ⟨(some 2), .new [(.d (.s (.int .u8 0))), (.d (.s (.int .u8 0))), .nil, (.d (.s (.int .u8 0))), (.d (.s (.int .u8 0))), .nil], none⟩])
  (.seq (.reg [⟨(some 3), .new [(.d (.s (.int .u8 0))), (.d (.s (.int .u8 0))), .nil, (.d (.s (.int .u8 0))), (.d (.s (.int .u8 0))), .nil], none⟩])
  (.seq (.reg [⟨(some 4), .fa 0 (.t 1), none⟩,
    ⟨(some 5), .ld true 3 (.t 4), none⟩,
    ⟨(some 6), .call (.k (.w (.fn 73 []))) [(.t 5)], none⟩,
    ⟨(some 7), .fa 0 (.t 3), none⟩,
    ⟨none, .st 3 (.t 7) (.t 6), none⟩])
  (.seq (.reg [⟨(some 8), .fa 3 (.t 1), none⟩,
    ⟨(some 9), .ld true 3 (.t 8), none⟩,
    ⟨(some 10), .call (.k (.w (.fn 73 []))) [(.t 9)], none⟩,
    ⟨(some 11), .fa 3 (.t 3), none⟩,
    ⟨none, .st 3 (.t 11) (.t 10), none⟩])
  (.seq (.reg [⟨(some 12), .ld true 6 (.t 3), none⟩,
    ⟨none, .st 6 (.t 2) (.t 12), none⟩])
  .ret)))))⟩

/- loop.example/stile/laws.toHoldWrite -/
def F29 : Fn := ⟨14, [.cell 2 true 3],
  (.seq (.reg [⟨(some 1), .box 3 (.t 0), none⟩,
    ⟨(some 2), .new [(.d (.s (.int .i64 0))), (.d (.s (.int .i64 0))), (.d (.s (.int .u8 0)))], none⟩])
  (.seq (.reg [⟨(some 3), .new [(.d (.s (.int .i64 0))), (.d (.s (.int .i64 0))), (.d (.s (.int .u8 0)))], none⟩])
  (.seq (.reg [⟨(some 4), .fa 0 (.t 1), none⟩,
    ⟨(some 5), .ld false 1 (.t 4), none⟩,
    ⟨(some 6), .fa 0 (.t 3), none⟩,
    ⟨none, .st 1 (.t 6) (.t 5), none⟩])
  (.seq (.reg [⟨(some 7), .fa 1 (.t 1), none⟩,
    ⟨(some 8), .ld false 1 (.t 7), none⟩,
    ⟨(some 9), .fa 1 (.t 3), none⟩,
    ⟨none, .st 1 (.t 9) (.t 8), none⟩])
  (.seq (.reg [⟨(some 10), .fa 2 (.t 1), none⟩,
    ⟨(some 11), .ld false 1 (.t 10), none⟩,
    ⟨(some 12), .fa 2 (.t 3), none⟩,
    ⟨none, .st 1 (.t 12) (.t 11), none⟩])
  (.seq (.reg [⟨(some 13), .ld true 3 (.t 3), none⟩,
    ⟨none, .st 3 (.t 2) (.t 13), none⟩])
  .ret))))))⟩

/- loop.example/stile/spec.HoldDo -/
def F30 : Fn := ⟨24, [.cell 4 true 6],
  (.seq (.reg [⟨(some 2), .box 6 (.t 0), none⟩,
    ⟨(some 3), .box 3 (.t 1), none⟩,
    ⟨(some 4), .new [(.d (.s (.int .u8 0))), (.d (.s (.int .u8 0))), .nil, (.d (.s (.int .u8 0))), (.d (.s (.int .u8 0))), .nil], none⟩])
  (.seq (.reg [⟨(some 5), .ld true 6 (.t 2), none⟩,
    ⟨(some 6), .call (.k (.w (.fn 70 []))) [(.t 5)], none⟩,
    ⟨none, .st 6 (.t 2) (.t 6), none⟩])
  (.seq (.seq (.reg [⟨(some 7), .fa 1 (.t 3), none⟩,
    ⟨(some 8), .ld false 1 (.t 7), none⟩,
    ⟨(some 9), .bin .eql .one (.t 8) (.k (.w (.d (.s (.int .i64 0))))), none⟩])
  (.cond (.t 9)
    (.reg [⟨(some 10), .fa 0 (.t 2), none⟩,
      ⟨(some 11), .ld true 3 (.t 10), none⟩,
      ⟨(some 12), .ld true 3 (.t 3), none⟩,
      ⟨(some 13), .call (.k (.w (.fn 74 []))) [(.t 11), (.t 12)], none⟩,
      ⟨(some 14), .fa 0 (.t 2), none⟩,
      ⟨none, .st 3 (.t 14) (.t 13), none⟩])
    .skip))
  (.seq (.seq (.reg [⟨(some 15), .fa 1 (.t 3), none⟩,
    ⟨(some 16), .ld false 1 (.t 15), none⟩,
    ⟨(some 17), .bin .eql .one (.t 16) (.k (.w (.d (.s (.int .i64 1))))), none⟩])
  (.cond (.t 17)
    (.reg [⟨(some 18), .fa 3 (.t 2), none⟩,
      ⟨(some 19), .ld true 3 (.t 18), none⟩,
      ⟨(some 20), .ld true 3 (.t 3), none⟩,
      ⟨(some 21), .call (.k (.w (.fn 74 []))) [(.t 19), (.t 20)], none⟩,
      ⟨(some 22), .fa 3 (.t 2), none⟩,
      ⟨none, .st 3 (.t 22) (.t 21), none⟩])
    .skip))
  (.seq (.reg [⟨(some 23), .ld true 6 (.t 2), none⟩,
    ⟨none, .st 6 (.t 4) (.t 23), none⟩])
  .ret)))))⟩

/- loop.example/stile/laws.eqHoldRom -/
def F31 : Fn := ⟨17, [.tmp 4],
  (.seq (.reg [⟨(some 2), .box 6 (.t 0), none⟩,
    ⟨(some 3), .box 6 (.t 1), none⟩,
    ⟨(some 4), .mv (.k (.w (.d (.s (.bool false))))), none⟩])
  (.seq (.seq (.reg [⟨(some 5), .fa 0 (.t 2), none⟩,
    ⟨(some 6), .ld true 3 (.t 5), none⟩,
    ⟨(some 7), .fa 0 (.t 3), none⟩,
    ⟨(some 8), .ld true 3 (.t 7), none⟩,
    ⟨(some 9), .call (.k (.w (.fn 75 []))) [(.t 6), (.t 8)], none⟩,
    ⟨(some 10), .un .not (.t 9), none⟩])
  (.cond (.t 10)
    (.seq (.reg [⟨(some 4), .mv (.k (.w (.d (.s (.bool false))))), none⟩])
    .ret)
    .skip))
  (.seq (.seq (.reg [⟨(some 11), .fa 3 (.t 2), none⟩,
    ⟨(some 12), .ld true 3 (.t 11), none⟩,
    ⟨(some 13), .fa 3 (.t 3), none⟩,
    ⟨(some 14), .ld true 3 (.t 13), none⟩,
    ⟨(some 15), .call (.k (.w (.fn 75 []))) [(.t 12), (.t 14)], none⟩,
    ⟨(some 16), .un .not (.t 15), none⟩])
  (.cond (.t 16)
    (.seq (.reg [⟨(some 4), .mv (.k (.w (.d (.s (.bool false))))), none⟩])
    .ret)
    .skip))
  (.seq (.reg [⟨(some 4), .mv (.k (.w (.d (.s (.bool true))))), none⟩])
  .ret))))⟩

/- loop.example/stile/laws.markHoldRom -/
def F32 : Fn := ⟨14, [.tmp 4],
  (.seq (.reg [⟨(some 2), .box 6 (.t 0), none⟩,
    ⟨(some 4), .mv (.k (.w (.d (.s (.int .i64 0))))), none⟩])
  (.seq (.reg [⟨(some 5), .fa 0 (.t 2), none⟩,
    ⟨(some 6), .ld true 3 (.t 5), none⟩,
    ⟨(some 7), .mv (.t 1), none⟩,
    ⟨(some 8), .call (.k (.w (.fn 76 []))) [(.t 6), (.t 7)], none⟩,
    ⟨(some 1), .mv (.t 8), none⟩])
  (.seq (.reg [⟨(some 9), .fa 3 (.t 2), none⟩,
    ⟨(some 10), .ld true 3 (.t 9), none⟩,
    ⟨(some 11), .mv (.t 1), none⟩,
    ⟨(some 12), .call (.k (.w (.fn 76 []))) [(.t 10), (.t 11)], none⟩,
    ⟨(some 1), .mv (.t 12), none⟩])
  (.seq (.reg [⟨(some 13), .mv (.t 1), none⟩,
    ⟨(some 4), .mv (.t 13), none⟩])
  .ret))))⟩

/- loop.example/stile/laws.heldHoldRom -/
def F33 : Fn := ⟨18, [.tmp 4],
  (.seq (.reg [⟨(some 2), .box 6 (.t 0), none⟩,
    ⟨(some 4), .mv (.k (.w (.d (.s (.int .i64 0))))), none⟩])
  (.seq (.reg [⟨(some 5), .fa 0 (.t 2), none⟩,
    ⟨(some 6), .ld true 3 (.t 5), none⟩,
    ⟨(some 7), .mv (.t 1), none⟩,
    ⟨(some 8), .call (.k (.w (.fn 77 []))) [(.t 6), (.t 7)], none⟩,
    ⟨(some 1), .mv (.t 8), none⟩])
  (.seq (.seq (.reg [⟨(some 9), .mv (.t 1), none⟩,
    ⟨(some 10), .bin .lss .one (.t 9) (.k (.w (.d (.s (.int .i64 0))))), none⟩])
  (.cond (.t 10)
    (.seq (.reg [⟨(some 4), .mv (.k (.w (.d (.s (.int .i64 (-1)))))), none⟩])
    .ret)
    .skip))
  (.seq (.reg [⟨(some 11), .fa 3 (.t 2), none⟩,
    ⟨(some 12), .ld true 3 (.t 11), none⟩,
    ⟨(some 13), .mv (.t 1), none⟩,
    ⟨(some 14), .call (.k (.w (.fn 77 []))) [(.t 12), (.t 13)], none⟩,
    ⟨(some 1), .mv (.t 14), none⟩])
  (.seq (.seq (.reg [⟨(some 15), .mv (.t 1), none⟩,
    ⟨(some 16), .bin .lss .one (.t 15) (.k (.w (.d (.s (.int .i64 0))))), none⟩])
  (.cond (.t 16)
    (.seq (.reg [⟨(some 4), .mv (.k (.w (.d (.s (.int .i64 (-1)))))), none⟩])
    .ret)
    .skip))
  (.seq (.reg [⟨(some 17), .mv (.t 1), none⟩,
    ⟨(some 4), .mv (.t 17), none⟩])
  .ret))))))⟩

/- loop.example/stile/spec.DeskSay -/
def F34 : Fn := ⟨36, [.cell 2 true 5, .tmp 3],
  (.seq (.reg [⟨(some 1), .box 5 (.t 0), none⟩,
    ⟨(some 2), .new [(.d (.s (.int .i64 0))), (.d (.s (.int .i64 0))), (.d (.s (.int .i64 0))), (.d (.s (.int .i64 0))), .nil], none⟩,
    ⟨(some 3), .mv (.k (.w (.d (.s (.bool false))))), none⟩])
  (.seq (.seq (.reg [⟨(some 4), .ld true 5 (.t 1), none⟩,
    ⟨(some 5), .call (.k (.w (.fn 17 []))) [(.t 4)], none⟩,
    ⟨(some 6), .un .not (.t 5), none⟩,
    ⟨(some 7), .mv (.t 6), none⟩,
    ⟨(some 8), .fa 1 (.t 1), (some (7, false))⟩,
    ⟨(some 9), .fa 3 (.t 8), (some (7, false))⟩,
    ⟨(some 10), .ld false 1 (.t 9), (some (7, false))⟩,
    ⟨(some 11), .bin .neq .one (.t 10) (.k (.w (.d (.s (.int .i64 1))))), (some (7, false))⟩,
    ⟨(some 12), .pick (.t 7) (.k (.w (.d (.s (.bool true))))) (.t 11), none⟩])
  (.cond (.t 12)
    (.seq (.reg [⟨(some 13), .bld [(.d (.s (.int .i64 0))), (.d (.s (.int .i64 0))), (.d (.s (.int .i64 0))), (.d (.s (.int .i64 0))), .nil] [], none⟩,
      ⟨none, .st 5 (.t 2) (.t 13), none⟩,
      ⟨(some 3), .mv (.k (.w (.d (.s (.bool false))))), none⟩])
    .ret)
    .skip))
  (.seq (.seq (.dreg [⟨(some 14), .fa 1 (.t 1), none⟩,
    ⟨(some 15), .fa 2 (.t 14), none⟩,
    ⟨(some 16), .ld false 1 (.t 15), none⟩,
    ⟨(some 17), .fa 1 (.t 1), none⟩,
    ⟨(some 18), .fa 1 (.t 17), none⟩,
    ⟨(some 19), .ld false 1 (.t 18), none⟩,
    ⟨(some 20), .call (.k (.w (.fn 59 []))) [(.t 19)], none⟩,
    ⟨(some 21), .bin .eql .one (.t 16) (.t 20), none⟩] [0, 1, 3, 0, 8, 24, 56, 127])
  (.cond (.t 21)
    (.seq (.reg [⟨(some 22), .fa 1 (.t 1), none⟩,
      ⟨(some 23), .fa 0 (.t 22), none⟩,
      ⟨(some 24), .ld false 1 (.t 23), none⟩,
      ⟨(some 25), .bld [(.d (.s (.int .i64 0))), (.d (.s (.int .i64 0))), (.d (.s (.int .i64 0))), (.d (.s (.int .i64 0))), .nil] [(0, 1, (.k (.w (.d (.s (.int .i64 2)))))), (1, 1, (.t 24))], none⟩,
      ⟨none, .st 5 (.t 2) (.t 25), none⟩,
      ⟨(some 3), .mv (.k (.w (.d (.s (.bool true))))), none⟩])
    .ret)
    .skip))
  (.seq (.reg [⟨(some 26), .fa 1 (.t 1), none⟩,
    ⟨(some 27), .fa 0 (.t 26), none⟩,
    ⟨(some 28), .ld false 1 (.t 27), none⟩,
    ⟨(some 29), .fa 1 (.t 1), none⟩,
    ⟨(some 30), .fa 1 (.t 29), none⟩,
    ⟨(some 31), .ld false 1 (.t 30), none⟩,
    ⟨(some 32), .fa 1 (.t 1), none⟩,
    ⟨(some 33), .fa 2 (.t 32), none⟩,
    ⟨(some 34), .ld false 1 (.t 33), none⟩,
    ⟨(some 35), .call (.k (.w (.fn 78 []))) [(.t 28), (.t 31), (.t 34)], none⟩,
    ⟨none, .st 5 (.t 2) (.t 35), none⟩,
    ⟨(some 3), .mv (.k (.w (.d (.s (.bool true))))), none⟩])
  .ret))))⟩

/- loop.example/stile/impl.DeskSay -/
def F35 : Fn := ⟨11, [.cell 2 true 5, .tmp 3],
  (.seq (.reg [⟨(some 1), .box 5 (.t 0), none⟩,
    ⟨(some 2), .new [(.d (.s (.int .i64 0))), (.d (.s (.int .i64 0))), (.d (.s (.int .i64 0))), (.d (.s (.int .i64 0))), .nil], none⟩,
    ⟨(some 3), .mv (.k (.w (.d (.s (.bool false))))), none⟩])
  (.seq (.seq (.reg [⟨(some 4), .ld true 5 (.t 1), none⟩,
    ⟨(some 5), .call (.k (.w (.fn 18 []))) [(.t 4)], none⟩,
    ⟨(some 6), .un .not (.t 5), none⟩])
  (.cond (.t 6)
    (.seq (.reg [⟨(some 7), .bld [(.d (.s (.int .i64 0))), (.d (.s (.int .i64 0))), (.d (.s (.int .i64 0))), (.d (.s (.int .i64 0))), .nil] [], none⟩,
      ⟨none, .st 5 (.t 2) (.t 7), none⟩,
      ⟨(some 3), .mv (.k (.w (.d (.s (.bool false))))), none⟩])
    .ret)
    .skip))
  (.seq (.reg [⟨(some 8), .call (.k (.w (.fn 79 []))) [(.t 1)], none⟩,
    ⟨(some 9), .ext 0 (.t 8), none⟩,
    ⟨(some 10), .ext 1 (.t 8), none⟩,
    ⟨none, .st 5 (.t 2) (.t 9), none⟩,
    ⟨(some 3), .mv (.t 10), none⟩])
  .ret)))⟩

/- loop.example/stile/laws.eqWireWord -/
def F36 : Fn := ⟨31, [.tmp 4],
  (.seq (.reg [⟨(some 2), .box 5 (.t 0), none⟩,
    ⟨(some 3), .box 5 (.t 1), none⟩,
    ⟨(some 4), .mv (.k (.w (.d (.s (.bool false))))), none⟩])
  (.seq (.seq (.reg [⟨(some 5), .fa 0 (.t 2), none⟩,
    ⟨(some 6), .ld false 1 (.t 5), none⟩,
    ⟨(some 7), .fa 0 (.t 3), none⟩,
    ⟨(some 8), .ld false 1 (.t 7), none⟩,
    ⟨(some 9), .bin .neq .one (.t 6) (.t 8), none⟩])
  (.cond (.t 9)
    (.seq (.reg [⟨(some 4), .mv (.k (.w (.d (.s (.bool false))))), none⟩])
    .ret)
    .skip))
  (.seq (.seq (.reg [⟨(some 10), .fa 1 (.t 2), none⟩,
    ⟨(some 11), .ld false 1 (.t 10), none⟩,
    ⟨(some 12), .fa 1 (.t 3), none⟩,
    ⟨(some 13), .ld false 1 (.t 12), none⟩,
    ⟨(some 14), .bin .neq .one (.t 11) (.t 13), none⟩])
  (.cond (.t 14)
    (.seq (.reg [⟨(some 4), .mv (.k (.w (.d (.s (.bool false))))), none⟩])
    .ret)
    .skip))
  (.seq (.seq (.reg [⟨(some 15), .fa 2 (.t 2), none⟩,
    ⟨(some 16), .ld false 1 (.t 15), none⟩,
    ⟨(some 17), .fa 2 (.t 3), none⟩,
    ⟨(some 18), .ld false 1 (.t 17), none⟩,
    ⟨(some 19), .bin .neq .one (.t 16) (.t 18), none⟩])
  (.cond (.t 19)
    (.seq (.reg [⟨(some 4), .mv (.k (.w (.d (.s (.bool false))))), none⟩])
    .ret)
    .skip))
  (.seq (.seq (.reg [⟨(some 20), .fa 3 (.t 2), none⟩,
    ⟨(some 21), .ld false 1 (.t 20), none⟩,
    ⟨(some 22), .fa 3 (.t 3), none⟩,
    ⟨(some 23), .ld false 1 (.t 22), none⟩,
    ⟨(some 24), .bin .neq .one (.t 21) (.t 23), none⟩])
  (.cond (.t 24)
    (.seq (.reg [⟨(some 4), .mv (.k (.w (.d (.s (.bool false))))), none⟩])
    .ret)
    .skip))
  (.seq (.seq (.reg [⟨(some 25), .fa 4 (.t 2), none⟩,
    ⟨(some 26), .ld false 1 (.t 25), none⟩,
    ⟨(some 27), .fa 4 (.t 3), none⟩,
    ⟨(some 28), .ld false 1 (.t 27), none⟩,
    ⟨(some 29), .call (.k (.w (.fn 80 []))) [(.t 26), (.t 28)], none⟩,
    ⟨(some 30), .un .not (.t 29), none⟩])
  (.cond (.t 30)
    (.seq (.reg [⟨(some 4), .mv (.k (.w (.d (.s (.bool false))))), none⟩])
    .ret)
    .skip))
  (.seq (.reg [⟨(some 4), .mv (.k (.w (.d (.s (.bool true))))), none⟩])
  .ret)))))))⟩

/- loop.example/stile/laws.markWireWord -/
def F37 : Fn := ⟨10, [.tmp 4],
  (.seq (.reg [⟨(some 2), .box 5 (.t 0), none⟩,
    ⟨(some 4), .mv (.k (.w (.d (.s (.int .i64 0))))), none⟩])
  (.seq (.reg [⟨(some 5), .fa 4 (.t 2), none⟩,
    ⟨(some 6), .ld false 1 (.t 5), none⟩,
    ⟨(some 7), .mv (.t 1), none⟩,
    ⟨(some 8), .call (.k (.w (.fn 81 []))) [(.t 6), (.t 7)], none⟩,
    ⟨(some 1), .mv (.t 8), none⟩])
  (.seq (.reg [⟨(some 9), .mv (.t 1), none⟩,
    ⟨(some 4), .mv (.t 9), none⟩])
  .ret)))⟩

/- loop.example/stile/laws.heldWireWord -/
def F38 : Fn := ⟨12, [.tmp 4],
  (.seq (.reg [⟨(some 2), .box 5 (.t 0), none⟩,
    ⟨(some 4), .mv (.k (.w (.d (.s (.int .i64 0))))), none⟩])
  (.seq (.reg [⟨(some 5), .fa 4 (.t 2), none⟩,
    ⟨(some 6), .ld false 1 (.t 5), none⟩,
    ⟨(some 7), .mv (.t 1), none⟩,
    ⟨(some 8), .call (.k (.w (.fn 82 []))) [(.t 6), (.t 7)], none⟩,
    ⟨(some 1), .mv (.t 8), none⟩])
  (.seq (.seq (.reg [⟨(some 9), .mv (.t 1), none⟩,
    ⟨(some 10), .bin .lss .one (.t 9) (.k (.w (.d (.s (.int .i64 0))))), none⟩])
  (.cond (.t 10)
    (.seq (.reg [⟨(some 4), .mv (.k (.w (.d (.s (.int .i64 (-1)))))), none⟩])
    .ret)
    .skip))
  (.seq (.reg [⟨(some 11), .mv (.t 1), none⟩,
    ⟨(some 4), .mv (.t 11), none⟩])
  .ret))))⟩

/- loop.example/stile/spec.DrawHoldPlan -/
def F39 : Fn := ⟨13, [.cell 2 true 6, .tmp 3],
  (.seq (.reg [⟨(some 2), .new [(.d (.s (.int .u8 0))), (.d (.s (.int .u8 0))), .nil, (.d (.s (.int .u8 0))), (.d (.s (.int .u8 0))), .nil], none⟩,
    ⟨(some 3), .mv (.k (.w .nil)), none⟩])
  (.seq (.reg [⟨(some 6), .mv (.t 0), none⟩,
    ⟨(some 7), .call (.k (.w (.fn 65 []))) [(.t 6)], none⟩,
    ⟨(some 4), .mv (.t 7), none⟩])
  (.seq (.reg [⟨(some 8), .mv (.t 4), none⟩,
    ⟨(some 9), .call (.k (.w (.fn 66 []))) [(.t 8)], none⟩,
    ⟨(some 5), .new [(.d (.s (.int .u8 0))), (.d (.s (.int .u8 0))), .nil, (.d (.s (.int .u8 0))), (.d (.s (.int .u8 0))), .nil], none⟩,
    ⟨none, .st 6 (.t 5) (.t 9), none⟩])
  (.seq (.dreg [⟨(some 10), .ld true 6 (.t 5), none⟩,
    ⟨(some 11), .mv (.t 4), none⟩,
    ⟨(some 12), .call (.k (.w (.fn 69 []))) [(.t 11)], none⟩,
    ⟨none, .st 6 (.t 2) (.t 10), none⟩,
    ⟨(some 3), .mv (.t 12), none⟩] [0, 0, 2, 7, 15])
  .ret))))⟩

/- loop.example/stile/spec.HoldSlotNow -/
def F40 : Fn := ⟨31, [.tmp 2],
  (.seq (.reg [⟨(some 1), .box 6 (.t 0), none⟩,
    ⟨(some 2), .mv (.k (.w (.d (.s (.int .i64 0))))), none⟩])
  (.seq (.reg [⟨(some 5), .fa 0 (.t 1), none⟩,
    ⟨(some 6), .ld true 3 (.t 5), none⟩,
    ⟨(some 7), .call (.k (.w (.fn 83 []))) [(.t 6)], none⟩,
    ⟨(some 3), .mv (.t 7), none⟩])
  (.seq (.reg [⟨(some 8), .fa 3 (.t 1), none⟩,
    ⟨(some 9), .ld true 3 (.t 8), none⟩,
    ⟨(some 10), .call (.k (.w (.fn 83 []))) [(.t 9)], none⟩,
    ⟨(some 4), .mv (.t 10), none⟩])
  (.seq (.block 0
    (.seq (.reg [⟨(some 12), .mv (.t 3), none⟩,
      ⟨(some 13), .mv (.t 12), none⟩,
      ⟨(some 14), .mv (.t 4), (some (13, true))⟩,
      ⟨(some 15), .pick (.t 13) (.t 14) (.k (.w (.d (.s (.bool false))))), none⟩,
      ⟨(some 16), .mv (.t 15), none⟩,
      ⟨(some 17), .fa 3 (.t 1), (some (16, true))⟩,
      ⟨(some 18), .fa 1 (.t 17), (some (16, true))⟩,
      ⟨(some 19), .ld false 1 (.t 18), (some (16, true))⟩,
      ⟨(some 20), .fa 0 (.t 1), (some (16, true))⟩,
      ⟨(some 21), .fa 1 (.t 20), (some (16, true))⟩,
      ⟨(some 22), .ld false 1 (.t 21), (some (16, true))⟩,
      ⟨(some 23), .bin .add .one (.t 22) (.k (.w (.d (.s (.int .u8 1))))), (some (16, true))⟩,
      ⟨(some 24), .bin .rem .one (.t 23) (.k (.w (.d (.s (.int .u8 3))))), (some (16, true))⟩,
      ⟨(some 25), .bin .eql .one (.t 19) (.t 24), (some (16, true))⟩,
      ⟨(some 26), .pick (.t 16) (.t 25) (.k (.w (.d (.s (.bool false))))), none⟩,
      ⟨(some 11), .mv (.t 26), none⟩])
    (.cond (.t 11)
      (.seq (.reg [⟨(some 2), .mv (.k (.w (.d (.s (.int .i64 1))))), none⟩])
      .ret)
      (.seq (.reg [⟨(some 28), .mv (.t 3), none⟩,
        ⟨(some 27), .mv (.t 28), none⟩])
      (.cond (.t 27)
        (.seq (.reg [⟨(some 2), .mv (.k (.w (.d (.s (.int .i64 0))))), none⟩])
        .ret)
        (.seq (.reg [⟨(some 30), .mv (.t 4), none⟩,
          ⟨(some 29), .mv (.t 30), none⟩])
        (.cond (.t 29)
          (.seq (.reg [⟨(some 2), .mv (.k (.w (.d (.s (.int .i64 1))))), none⟩])
          .ret)
          .skip)))))))
  (.seq (.reg [⟨(some 2), .mv (.k (.w (.d (.s (.int .i64 (-1)))))), none⟩])
  .ret)))))⟩

/- loop.example/stile/impl.HoldSlotNow -/
def F41 : Fn := ⟨31, [.tmp 2],
  (.seq (.reg [⟨(some 1), .box 6 (.t 0), none⟩,
    ⟨(some 2), .mv (.k (.w (.d (.s (.int .i64 0))))), none⟩])
  (.seq (.seq (.dreg [⟨(some 5), .fa 0 (.t 1), none⟩,
    ⟨(some 6), .ld true 3 (.t 5), none⟩,
    ⟨(some 7), .call (.k (.w (.fn 84 []))) [(.t 6)], none⟩,
    ⟨(some 8), .fa 3 (.t 1), none⟩,
    ⟨(some 9), .ld true 3 (.t 8), none⟩,
    ⟨(some 10), .call (.k (.w (.fn 84 []))) [(.t 9)], none⟩,
    ⟨(some 3), .mv (.t 7), none⟩,
    ⟨(some 4), .mv (.t 10), none⟩] [0, 1, 3, 0, 8, 31, 63, 127])
  (.block 0
    (.seq (.reg [⟨(some 12), .mv (.t 3), none⟩,
      ⟨(some 13), .mv (.t 12), none⟩,
      ⟨(some 14), .mv (.t 4), (some (13, true))⟩,
      ⟨(some 15), .pick (.t 13) (.t 14) (.k (.w (.d (.s (.bool false))))), none⟩,
      ⟨(some 16), .mv (.t 15), none⟩,
      ⟨(some 17), .fa 3 (.t 1), (some (16, true))⟩,
      ⟨(some 18), .fa 1 (.t 17), (some (16, true))⟩,
      ⟨(some 19), .ld false 1 (.t 18), (some (16, true))⟩,
      ⟨(some 20), .fa 0 (.t 1), (some (16, true))⟩,
      ⟨(some 21), .fa 1 (.t 20), (some (16, true))⟩,
      ⟨(some 22), .ld false 1 (.t 21), (some (16, true))⟩,
      ⟨(some 23), .bin .add .one (.t 22) (.k (.w (.d (.s (.int .u8 1))))), (some (16, true))⟩,
      ⟨(some 24), .bin .rem .one (.t 23) (.k (.w (.d (.s (.int .u8 3))))), (some (16, true))⟩,
      ⟨(some 25), .bin .eql .one (.t 19) (.t 24), (some (16, true))⟩,
      ⟨(some 26), .pick (.t 16) (.t 25) (.k (.w (.d (.s (.bool false))))), none⟩,
      ⟨(some 11), .mv (.t 26), none⟩])
    (.cond (.t 11)
      (.seq (.reg [⟨(some 2), .mv (.k (.w (.d (.s (.int .i64 1))))), none⟩])
      .ret)
      (.seq (.reg [⟨(some 28), .mv (.t 3), none⟩,
        ⟨(some 27), .mv (.t 28), none⟩])
      (.cond (.t 27)
        (.seq (.reg [⟨(some 2), .mv (.k (.w (.d (.s (.int .i64 0))))), none⟩])
        .ret)
        (.seq (.reg [⟨(some 30), .mv (.t 4), none⟩,
          ⟨(some 29), .mv (.t 30), none⟩])
        (.cond (.t 29)
          (.seq (.reg [⟨(some 2), .mv (.k (.w (.d (.s (.int .i64 1))))), none⟩])
          .ret)
          .skip))))))))
  (.seq (.reg [⟨(some 2), .mv (.k (.w (.d (.s (.int .i64 (-1)))))), none⟩])
  .ret)))⟩

/- loop.example/stile/spec.HoldNow -/
def F42 : Fn := ⟨18, [.tmp 2, .tmp 3],
  (.seq (.reg [⟨(some 1), .box 6 (.t 0), none⟩,
    ⟨(some 2), .mv (.k (.w .nil)), none⟩,
    ⟨(some 3), .mv (.k (.w (.d (.s (.bool false))))), none⟩])
  (.seq (.seq (.reg [⟨(some 4), .ld true 6 (.t 1), none⟩,
    ⟨(some 5), .call (.k (.w (.fn 40 []))) [(.t 4)], none⟩])
  (.block 0
    (.seq (.reg [⟨(some 7), .bin .eql .one (.t 5) (.k (.w (.d (.s (.int .i64 0))))), none⟩,
      ⟨(some 6), .mv (.t 7), none⟩])
    (.cond (.t 6)
      (.seq (.reg [⟨(some 8), .fa 0 (.t 1), none⟩,
        ⟨(some 9), .fa 2 (.t 8), none⟩,
        ⟨(some 10), .ld false 1 (.t 9), none⟩,
        ⟨(some 11), .call (.k (.w (.fn 85 []))) [(.t 10)], none⟩,
        ⟨(some 2), .mv (.t 11), none⟩,
        ⟨(some 3), .mv (.k (.w (.d (.s (.bool true))))), none⟩])
      .ret)
      (.seq (.reg [⟨(some 13), .bin .eql .one (.t 5) (.k (.w (.d (.s (.int .i64 1))))), none⟩,
        ⟨(some 12), .mv (.t 13), none⟩])
      (.cond (.t 12)
        (.seq (.reg [⟨(some 14), .fa 3 (.t 1), none⟩,
          ⟨(some 15), .fa 2 (.t 14), none⟩,
          ⟨(some 16), .ld false 1 (.t 15), none⟩,
          ⟨(some 17), .call (.k (.w (.fn 85 []))) [(.t 16)], none⟩,
          ⟨(some 2), .mv (.t 17), none⟩,
          ⟨(some 3), .mv (.k (.w (.d (.s (.bool true))))), none⟩])
        .ret)
        .skip))))))
  (.seq (.reg [⟨(some 2), .mv (.k (.w .nil)), none⟩,
    ⟨(some 3), .mv (.k (.w (.d (.s (.bool false))))), none⟩])
  .ret)))⟩

/- loop.example/stile/spec.HoldPlan -/
def F43_B0 : C :=
  (.seq (.seq (.reg [⟨(some 35), .mv (.t 10), none⟩,
    ⟨(some 36), .mv (.t 1), none⟩,
    ⟨(some 37), .lenl (.t 36), none⟩,
    ⟨(some 38), .bin .lss .one (.t 35) (.t 37), none⟩])
  (.cond (.t 38)
    .skip
    (.exit 0)))
  (.seq (.block 1
    (.reg [⟨(some 41), .mv (.t 9), none⟩,
      ⟨(some 42), .mv (.t 7), none⟩,
      ⟨(some 43), .mv (.t 1), none⟩,
      ⟨(some 44), .mv (.t 10), none⟩,
      ⟨(some 45), .ia 1 (.t 43) (.t 44), none⟩,
      ⟨(some 46), .ld false 1 (.t 45), none⟩,
      ⟨(some 47), .bld [(.d (.s (.int .i64 0))), (.d (.s (.int .i64 0))), (.d (.s (.int .u8 0)))] [(0, 1, (.k (.w (.d (.s (.int .i64 4)))))), (1, 1, (.t 42)), (2, 1, (.t 46))], none⟩,
      ⟨(some 48), .bsl 3 1 [(.s (.int .i64 0)), (.s (.int .i64 0)), (.s (.int .u8 0))] [(0, (.t 47))], none⟩,
      ⟨(some 49), .app 3 24 [(.s (.int .i64 0)), (.s (.int .i64 0)), (.s (.int .u8 0))] (.t 41) (.t 48), none⟩,
      ⟨(some 9), .mv (.t 49), none⟩]))
  (.reg [⟨(some 39), .mv (.t 10), none⟩,
    ⟨(some 40), .bin .add .one (.t 39) (.k (.w (.d (.s (.int .i64 1))))), none⟩,
    ⟨(some 10), .mv (.t 40), none⟩])))
def F43_L0 : C := .loop F43_B0
def F43 : Fn := ⟨66, [.tmp 4, .tmp 5],
  (.seq (.reg [⟨(some 2), .box 6 (.t 0), none⟩,
    ⟨(some 4), .mv (.k (.w .nil)), none⟩,
    ⟨(some 5), .mv (.k (.w (.d (.s (.bool false))))), none⟩])
  (.seq (.seq (.reg [⟨(some 11), .mv (.t 1), none⟩,
    ⟨(some 12), .lenl (.t 11), none⟩,
    ⟨(some 13), .bin .gtr .one (.t 12) (.k (.w (.d (.s (.int .i64 20100))))), none⟩])
  (.cond (.t 13)
    (.seq (.reg [⟨(some 4), .mv (.k (.w .nil)), none⟩,
      ⟨(some 5), .mv (.k (.w (.d (.s (.bool false))))), none⟩])
    .ret)
    .skip))
  (.seq (.reg [⟨(some 14), .ld true 6 (.t 2), none⟩,
    ⟨(some 15), .call (.k (.w (.fn 40 []))) [(.t 14)], none⟩,
    ⟨(some 6), .mv (.t 15), none⟩])
  (.seq (.reg [⟨(some 7), .mv (.k (.w (.d (.s (.int .i64 0))))), none⟩])
  (.seq (.reg [⟨(some 8), .mv (.k (.w (.d (.s (.int .u8 0))))), none⟩])
  (.seq (.seq (.reg [⟨(some 16), .mv (.t 6), none⟩,
    ⟨(some 17), .bin .eql .one (.t 16) (.k (.w (.d (.s (.int .i64 0))))), none⟩])
  (.cond (.t 17)
    (.seq (.reg [⟨(some 7), .mv (.k (.w (.d (.s (.int .i64 1))))), none⟩])
    (.reg [⟨(some 18), .fa 0 (.t 2), none⟩,
      ⟨(some 19), .fa 1 (.t 18), none⟩,
      ⟨(some 20), .ld false 1 (.t 19), none⟩,
      ⟨(some 21), .bin .add .one (.t 20) (.k (.w (.d (.s (.int .u8 1))))), none⟩,
      ⟨(some 22), .bin .rem .one (.t 21) (.k (.w (.d (.s (.int .u8 3))))), none⟩,
      ⟨(some 8), .mv (.t 22), none⟩]))
    .skip))
  (.seq (.seq (.reg [⟨(some 23), .mv (.t 6), none⟩,
    ⟨(some 24), .bin .eql .one (.t 23) (.k (.w (.d (.s (.int .i64 1))))), none⟩])
  (.cond (.t 24)
    (.reg [⟨(some 25), .fa 3 (.t 2), none⟩,
      ⟨(some 26), .fa 1 (.t 25), none⟩,
      ⟨(some 27), .ld false 1 (.t 26), none⟩,
      ⟨(some 28), .bin .add .one (.t 27) (.k (.w (.d (.s (.int .u8 1))))), none⟩,
      ⟨(some 29), .bin .rem .one (.t 28) (.k (.w (.d (.s (.int .u8 3))))), none⟩,
      ⟨(some 8), .mv (.t 29), none⟩])
    .skip))
  (.seq (.reg [⟨(some 30), .mv (.t 7), none⟩,
    ⟨(some 31), .bld [(.d (.s (.int .i64 0))), (.d (.s (.int .i64 0))), (.d (.s (.int .u8 0)))] [(0, 1, (.k (.w (.d (.s (.int .i64 1)))))), (1, 1, (.t 30))], none⟩,
    ⟨(some 32), .mv (.t 7), none⟩,
    ⟨(some 33), .bld [(.d (.s (.int .i64 0))), (.d (.s (.int .i64 0))), (.d (.s (.int .u8 0)))] [(0, 1, (.k (.w (.d (.s (.int .i64 3)))))), (1, 1, (.t 32))], none⟩,
    ⟨(some 34), .bsl 3 2 [(.s (.int .i64 0)), (.s (.int .i64 0)), (.s (.int .u8 0))] [(0, (.t 31)), (1, (.t 33))], none⟩,
    ⟨(some 9), .mv (.t 34), none⟩])
  (.seq (.seq (.reg [⟨(some 10), .mv (.k (.w (.d (.s (.int .i64 0))))), none⟩])
  (.block 0
    F43_L0))
  (.seq (.reg [⟨(some 50), .mv (.t 9), none⟩,
    ⟨(some 51), .mv (.t 7), none⟩,
    ⟨(some 52), .mv (.t 8), none⟩,
    ⟨(some 53), .bld [(.d (.s (.int .i64 0))), (.d (.s (.int .i64 0))), (.d (.s (.int .u8 0)))] [(0, 1, (.k (.w (.d (.s (.int .i64 2)))))), (1, 1, (.t 51)), (2, 1, (.t 52))], none⟩,
    ⟨(some 54), .mv (.t 7), none⟩,
    ⟨(some 55), .bld [(.d (.s (.int .i64 0))), (.d (.s (.int .i64 0))), (.d (.s (.int .u8 0)))] [(0, 1, (.k (.w (.d (.s (.int .i64 1)))))), (1, 1, (.t 54)), (2, 1, (.k (.w (.d (.s (.int .u8 165))))))], none⟩,
    ⟨(some 56), .bsl 3 2 [(.s (.int .i64 0)), (.s (.int .i64 0)), (.s (.int .u8 0))] [(0, (.t 53)), (1, (.t 55))], none⟩,
    ⟨(some 57), .app 3 24 [(.s (.int .i64 0)), (.s (.int .i64 0)), (.s (.int .u8 0))] (.t 50) (.t 56), none⟩,
    ⟨(some 9), .mv (.t 57), none⟩])
  (.seq (.seq (.reg [⟨(some 58), .mv (.t 6), none⟩,
    ⟨(some 59), .bin .geq .one (.t 58) (.k (.w (.d (.s (.int .i64 0))))), none⟩])
  (.cond (.t 59)
    (.reg [⟨(some 60), .mv (.t 9), none⟩,
      ⟨(some 61), .mv (.t 6), none⟩,
      ⟨(some 62), .bld [(.d (.s (.int .i64 0))), (.d (.s (.int .i64 0))), (.d (.s (.int .u8 0)))] [(0, 1, (.k (.w (.d (.s (.int .i64 1)))))), (1, 1, (.t 61))], none⟩,
      ⟨(some 63), .bsl 3 1 [(.s (.int .i64 0)), (.s (.int .i64 0)), (.s (.int .u8 0))] [(0, (.t 62))], none⟩,
      ⟨(some 64), .app 3 24 [(.s (.int .i64 0)), (.s (.int .i64 0)), (.s (.int .u8 0))] (.t 60) (.t 63), none⟩,
      ⟨(some 9), .mv (.t 64), none⟩])
    .skip))
  (.seq (.reg [⟨(some 65), .mv (.t 9), none⟩,
    ⟨(some 4), .mv (.t 65), none⟩,
    ⟨(some 5), .mv (.k (.w (.d (.s (.bool true))))), none⟩])
  .ret))))))))))))⟩

/- loop.example/stile/laws.szHoldWriteS -/
def F44 : Fn := ⟨12, [.tmp 4],
  (.seq (.reg [⟨(some 4), .mv (.k (.w (.d (.s (.int .i64 0))))), none⟩])
  (.seq (.reg [⟨(some 5), .mv (.t 1), none⟩,
    ⟨(some 6), .mv (.t 0), none⟩,
    ⟨(some 7), .lenl (.t 6), none⟩,
    ⟨(some 8), .bin .sub .one (.t 5) (.t 7), none⟩,
    ⟨(some 1), .mv (.t 8), none⟩])
  (.seq (.seq (.reg [⟨(some 9), .mv (.t 1), none⟩,
    ⟨(some 10), .bin .lss .one (.t 9) (.k (.w (.d (.s (.int .i64 0))))), none⟩])
  (.cond (.t 10)
    (.seq (.reg [⟨(some 4), .mv (.k (.w (.d (.s (.int .i64 (-1)))))), none⟩])
    .ret)
    .skip))
  (.seq (.reg [⟨(some 11), .mv (.t 1), none⟩,
    ⟨(some 4), .mv (.t 11), none⟩])
  .ret))))⟩

/- loop.example/stile/laws.toHoldWriteS -/
def F45_B0 : C :=
  (.seq (.seq (.reg [⟨(some 8), .mv (.t 4), none⟩,
    ⟨(some 9), .mv (.t 0), none⟩,
    ⟨(some 10), .lenl (.t 9), none⟩,
    ⟨(some 11), .bin .lss .one (.t 8) (.t 10), none⟩])
  (.cond (.t 11)
    .skip
    (.exit 0)))
  (.seq (.block 1
    (.reg [⟨(some 14), .mv (.t 3), none⟩,
      ⟨(some 15), .mv (.t 4), none⟩,
      ⟨(some 16), .mv (.t 0), none⟩,
      ⟨(some 17), .mv (.t 4), none⟩,
      ⟨(some 18), .ia 3 (.t 16) (.t 17), none⟩,
      ⟨(some 19), .ld true 3 (.t 18), none⟩,
      ⟨(some 20), .call (.k (.w (.fn 29 []))) [(.t 19)], none⟩,
      ⟨(some 21), .ia 3 (.t 14) (.t 15), none⟩,
      ⟨none, .st 3 (.t 21) (.t 20), none⟩]))
  (.reg [⟨(some 12), .mv (.t 4), none⟩,
    ⟨(some 13), .bin .add .one (.t 12) (.k (.w (.d (.s (.int .i64 1))))), none⟩,
    ⟨(some 4), .mv (.t 13), none⟩])))
def F45_L0 : C := .loop F45_B0
def F45 : Fn := ⟨23, [.tmp 2],
  (.seq (.reg [⟨(some 2), .mv (.k (.w .nil)), none⟩])
  (.seq (.reg [⟨(some 5), .mv (.t 0), none⟩,
    ⟨(some 6), .lenl (.t 5), none⟩,
    ⟨(some 7), .msl 3 24 [(.s (.int .i64 0)), (.s (.int .i64 0)), (.s (.int .u8 0))] (.t 6) (.t 6), none⟩,
    ⟨(some 3), .mv (.t 7), none⟩])
  (.seq (.seq (.reg [⟨(some 4), .mv (.k (.w (.d (.s (.int .i64 0))))), none⟩])
  (.block 0
    F45_L0))
  (.seq (.reg [⟨(some 22), .mv (.t 3), none⟩,
    ⟨(some 2), .mv (.t 22), none⟩])
  .ret))))⟩

/- loop.example/stile/laws.eqHoldWriteS -/
def F46_B0 : C :=
  (.seq (.seq (.reg [⟨(some 11), .mv (.t 5), none⟩,
    ⟨(some 12), .mv (.t 0), none⟩,
    ⟨(some 13), .lenl (.t 12), none⟩,
    ⟨(some 14), .bin .lss .one (.t 11) (.t 13), none⟩])
  (.cond (.t 14)
    .skip
    (.exit 0)))
  (.seq (.block 1
    (.seq (.dreg [⟨(some 17), .mv (.t 0), none⟩,
      ⟨(some 18), .mv (.t 5), none⟩,
      ⟨(some 19), .ia 3 (.t 17) (.t 18), none⟩,
      ⟨(some 20), .ld true 3 (.t 19), none⟩,
      ⟨(some 21), .mv (.t 1), none⟩,
      ⟨(some 22), .mv (.t 5), none⟩,
      ⟨(some 23), .ia 3 (.t 21) (.t 22), none⟩,
      ⟨(some 24), .ld true 3 (.t 23), none⟩,
      ⟨(some 25), .call (.k (.w (.fn 86 []))) [(.t 20), (.t 24)], none⟩,
      ⟨(some 26), .un .not (.t 25), none⟩] [0, 0, 3, 7, 0, 0, 48, 112, 255, 511])
    (.cond (.t 26)
      (.seq (.reg [⟨(some 4), .mv (.k (.w (.d (.s (.bool false))))), none⟩])
      .ret)
      .skip)))
  (.reg [⟨(some 15), .mv (.t 5), none⟩,
    ⟨(some 16), .bin .add .one (.t 15) (.k (.w (.d (.s (.int .i64 1))))), none⟩,
    ⟨(some 5), .mv (.t 16), none⟩])))
def F46_L0 : C := .loop F46_B0
def F46 : Fn := ⟨27, [.tmp 4],
  (.seq (.reg [⟨(some 4), .mv (.k (.w (.d (.s (.bool false))))), none⟩])
  (.seq (.seq (.reg [⟨(some 6), .mv (.t 0), none⟩,
    ⟨(some 7), .lenl (.t 6), none⟩,
    ⟨(some 8), .mv (.t 1), none⟩,
    ⟨(some 9), .lenl (.t 8), none⟩,
    ⟨(some 10), .bin .neq .one (.t 7) (.t 9), none⟩])
  (.cond (.t 10)
    (.seq (.reg [⟨(some 4), .mv (.k (.w (.d (.s (.bool false))))), none⟩])
    .ret)
    .skip))
  (.seq (.seq (.reg [⟨(some 5), .mv (.k (.w (.d (.s (.int .i64 0))))), none⟩])
  (.block 0
    F46_L0))
  (.seq (.reg [⟨(some 4), .mv (.k (.w (.d (.s (.bool true))))), none⟩])
  .ret))))⟩

/- loop.example/stile/laws.markHoldWriteS -/
def F47_B0 : C :=
  (.seq (.seq (.reg [⟨(some 6), .mv (.t 5), none⟩,
    ⟨(some 7), .mv (.t 0), none⟩,
    ⟨(some 8), .lenl (.t 7), none⟩,
    ⟨(some 9), .bin .lss .one (.t 6) (.t 8), none⟩])
  (.cond (.t 9)
    .skip
    (.exit 0)))
  (.seq (.block 1
    (.seq (.reg [⟨(some 12), .mv (.t 0), none⟩,
      ⟨(some 13), .mv (.t 5), none⟩,
      ⟨(some 14), .mv (.t 1), none⟩,
      ⟨(some 15), .ia 3 (.t 12) (.t 13), none⟩,
      ⟨(some 16), .fa 0 (.t 15), none⟩,
      ⟨none, .st 1 (.t 16) (.t 14), none⟩])
    (.seq (.reg [⟨(some 17), .mv (.t 1), none⟩,
      ⟨(some 18), .bin .add .one (.t 17) (.k (.w (.d (.s (.int .i64 1))))), none⟩,
      ⟨(some 1), .mv (.t 18), none⟩])
    (.seq (.reg [⟨(some 19), .mv (.t 0), none⟩,
      ⟨(some 20), .mv (.t 5), none⟩,
      ⟨(some 21), .mv (.t 1), none⟩,
      ⟨(some 22), .ia 3 (.t 19) (.t 20), none⟩,
      ⟨(some 23), .fa 1 (.t 22), none⟩,
      ⟨none, .st 1 (.t 23) (.t 21), none⟩])
    (.seq (.reg [⟨(some 24), .mv (.t 1), none⟩,
      ⟨(some 25), .bin .add .one (.t 24) (.k (.w (.d (.s (.int .i64 1))))), none⟩,
      ⟨(some 1), .mv (.t 25), none⟩])
    (.seq (.reg [⟨(some 26), .mv (.t 0), none⟩,
      ⟨(some 27), .mv (.t 5), none⟩,
      ⟨(some 28), .mv (.t 1), none⟩,
      ⟨(some 29), .cvi .u8 (.t 28), none⟩,
      ⟨(some 30), .ia 3 (.t 26) (.t 27), none⟩,
      ⟨(some 31), .fa 2 (.t 30), none⟩,
      ⟨none, .st 1 (.t 31) (.t 29), none⟩])
    (.reg [⟨(some 32), .mv (.t 1), none⟩,
      ⟨(some 33), .bin .add .one (.t 32) (.k (.w (.d (.s (.int .i64 1))))), none⟩,
      ⟨(some 1), .mv (.t 33), none⟩])))))))
  (.reg [⟨(some 10), .mv (.t 5), none⟩,
    ⟨(some 11), .bin .add .one (.t 10) (.k (.w (.d (.s (.int .i64 1))))), none⟩,
    ⟨(some 5), .mv (.t 11), none⟩])))
def F47_L0 : C := .loop F47_B0
def F47 : Fn := ⟨35, [.tmp 4],
  (.seq (.reg [⟨(some 4), .mv (.k (.w (.d (.s (.int .i64 0))))), none⟩])
  (.seq (.seq (.reg [⟨(some 5), .mv (.k (.w (.d (.s (.int .i64 0))))), none⟩])
  (.block 0
    F47_L0))
  (.seq (.reg [⟨(some 34), .mv (.t 1), none⟩,
    ⟨(some 4), .mv (.t 34), none⟩])
  .ret)))⟩

/- loop.example/stile/laws.szWireWord -/
def F48 : Fn := ⟨12, [.tmp 4],
  (.seq (.reg [⟨(some 2), .box 5 (.t 0), none⟩,
    ⟨(some 4), .mv (.k (.w (.d (.s (.int .i64 0))))), none⟩])
  (.seq (.reg [⟨(some 5), .fa 4 (.t 2), none⟩,
    ⟨(some 6), .ld false 1 (.t 5), none⟩,
    ⟨(some 7), .mv (.t 1), none⟩,
    ⟨(some 8), .call (.k (.w (.fn 87 []))) [(.t 6), (.t 7)], none⟩,
    ⟨(some 1), .mv (.t 8), none⟩])
  (.seq (.seq (.reg [⟨(some 9), .mv (.t 1), none⟩,
    ⟨(some 10), .bin .lss .one (.t 9) (.k (.w (.d (.s (.int .i64 0))))), none⟩])
  (.cond (.t 10)
    (.seq (.reg [⟨(some 4), .mv (.k (.w (.d (.s (.int .i64 (-1)))))), none⟩])
    .ret)
    .skip))
  (.seq (.reg [⟨(some 11), .mv (.t 1), none⟩,
    ⟨(some 4), .mv (.t 11), none⟩])
  .ret))))⟩

/- loop.example/stile/laws.toWireWord -/
def F49 : Fn := ⟨21, [.cell 2 true 5],
  (.seq (.reg [⟨(some 1), .box 5 (.t 0), none⟩,
    ⟨(some 2), .new [(.d (.s (.int .i64 0))), (.d (.s (.int .i64 0))), (.d (.s (.int .i64 0))), (.d (.s (.int .i64 0))), .nil], none⟩])
  (.seq (.reg [⟨(some 3), .new [(.d (.s (.int .i64 0))), (.d (.s (.int .i64 0))), (.d (.s (.int .i64 0))), (.d (.s (.int .i64 0))), .nil], none⟩])
  (.seq (.reg [⟨(some 4), .fa 0 (.t 1), none⟩,
    ⟨(some 5), .ld false 1 (.t 4), none⟩,
    ⟨(some 6), .fa 0 (.t 3), none⟩,
    ⟨none, .st 1 (.t 6) (.t 5), none⟩])
  (.seq (.reg [⟨(some 7), .fa 1 (.t 1), none⟩,
    ⟨(some 8), .ld false 1 (.t 7), none⟩,
    ⟨(some 9), .fa 1 (.t 3), none⟩,
    ⟨none, .st 1 (.t 9) (.t 8), none⟩])
  (.seq (.reg [⟨(some 10), .fa 2 (.t 1), none⟩,
    ⟨(some 11), .ld false 1 (.t 10), none⟩,
    ⟨(some 12), .fa 2 (.t 3), none⟩,
    ⟨none, .st 1 (.t 12) (.t 11), none⟩])
  (.seq (.reg [⟨(some 13), .fa 3 (.t 1), none⟩,
    ⟨(some 14), .ld false 1 (.t 13), none⟩,
    ⟨(some 15), .fa 3 (.t 3), none⟩,
    ⟨none, .st 1 (.t 15) (.t 14), none⟩])
  (.seq (.reg [⟨(some 16), .fa 4 (.t 1), none⟩,
    ⟨(some 17), .ld false 1 (.t 16), none⟩,
    ⟨(some 18), .call (.k (.w (.fn 88 []))) [(.t 17)], none⟩,
    ⟨(some 19), .fa 4 (.t 3), none⟩,
    ⟨none, .st 1 (.t 19) (.t 18), none⟩])
  (.seq (.reg [⟨(some 20), .ld true 5 (.t 3), none⟩,
    ⟨none, .st 5 (.t 2) (.t 20), none⟩])
  .ret))))))))⟩

/- loop.example/stile/spec.DeskHear -/
def F50 : Fn := ⟨59, [.cell 4 true 5],
  (.seq (.reg [⟨(some 2), .box 5 (.t 0), none⟩,
    ⟨(some 3), .box 5 (.t 1), none⟩,
    ⟨(some 4), .new [(.d (.s (.int .i64 0))), (.d (.s (.int .i64 0))), .nil, (.d (.s (.int .i64 0))), (.d (.s (.int .i64 0)))], none⟩])
  (.seq (.seq (.reg [⟨(some 5), .ld true 5 (.t 2), none⟩,
    ⟨(some 6), .call (.k (.w (.fn 17 []))) [(.t 5)], none⟩,
    ⟨(some 7), .un .not (.t 6), none⟩])
  (.cond (.t 7)
    (.seq (.reg [⟨(some 8), .bld [(.d (.s (.int .i64 0))), (.d (.s (.int .i64 0))), .nil, (.d (.s (.int .i64 0))), (.d (.s (.int .i64 0)))] [], none⟩,
      ⟨none, .st 5 (.t 4) (.t 8), none⟩])
    .ret)
    .skip))
  (.seq (.reg [⟨(some 9), .ld true 5 (.t 2), none⟩,
    ⟨(some 10), .call (.k (.w (.fn 89 []))) [(.t 9)], none⟩,
    ⟨none, .st 5 (.t 2) (.t 10), none⟩])
  (.seq (.seq (.reg [⟨(some 11), .ld true 5 (.t 3), none⟩,
    ⟨(some 12), .call (.k (.w (.fn 90 []))) [(.t 11)], none⟩,
    ⟨(some 13), .un .not (.t 12), none⟩,
    ⟨(some 14), .mv (.t 13), none⟩,
    ⟨(some 15), .fa 1 (.t 3), (some (14, false))⟩,
    ⟨(some 16), .ld false 1 (.t 15), (some (14, false))⟩,
    ⟨(some 17), .fa 1 (.t 2), (some (14, false))⟩,
    ⟨(some 18), .fa 0 (.t 17), (some (14, false))⟩,
    ⟨(some 19), .ld false 1 (.t 18), (some (14, false))⟩,
    ⟨(some 20), .bin .neq .one (.t 16) (.t 19), (some (14, false))⟩,
    ⟨(some 21), .pick (.t 14) (.k (.w (.d (.s (.bool true))))) (.t 20), none⟩,
    ⟨(some 22), .mv (.t 21), none⟩,
    ⟨(some 23), .fa 1 (.t 2), (some (22, false))⟩,
    ⟨(some 24), .fa 3 (.t 23), (some (22, false))⟩,
    ⟨(some 25), .ld false 1 (.t 24), (some (22, false))⟩,
    ⟨(some 26), .bin .neq .one (.t 25) (.k (.w (.d (.s (.int .i64 1))))), (some (22, false))⟩,
    ⟨(some 27), .pick (.t 22) (.k (.w (.d (.s (.bool true))))) (.t 26), none⟩])
  (.cond (.t 27)
    (.seq (.reg [⟨(some 28), .ld true 5 (.t 2), none⟩,
      ⟨none, .st 5 (.t 4) (.t 28), none⟩])
    .ret)
    .skip))
  (.seq (.seq (.reg [⟨(some 29), .fa 0 (.t 3), none⟩,
    ⟨(some 30), .ld false 1 (.t 29), none⟩])
  (.block 0
    (.seq (.reg [⟨(some 32), .bin .eql .one (.t 30) (.k (.w (.d (.s (.int .i64 3))))), none⟩,
      ⟨(some 31), .mv (.t 32), none⟩])
    (.cond (.t 31)
      (.seq (.reg [⟨(some 33), .fa 3 (.t 3), none⟩,
        ⟨(some 34), .ld false 1 (.t 33), none⟩,
        ⟨(some 35), .fa 1 (.t 2), none⟩,
        ⟨(some 36), .fa 2 (.t 35), none⟩,
        ⟨none, .st 1 (.t 36) (.t 34), none⟩])
      (.seq (.dreg [⟨(some 37), .fa 3 (.t 3), none⟩,
        ⟨(some 38), .ld false 1 (.t 37), none⟩,
        ⟨(some 39), .fa 1 (.t 2), none⟩,
        ⟨(some 40), .fa 1 (.t 39), none⟩,
        ⟨(some 41), .ld false 1 (.t 40), none⟩,
        ⟨(some 42), .call (.k (.w (.fn 59 []))) [(.t 41)], none⟩,
        ⟨(some 43), .bin .gtr .one (.t 38) (.t 42), none⟩] [0, 1, 0, 4, 12, 28, 63])
      (.cond (.t 43)
        (.reg [⟨(some 44), .fa 1 (.t 2), none⟩,
          ⟨(some 45), .fa 1 (.t 44), none⟩,
          ⟨(some 46), .ld false 1 (.t 45), none⟩,
          ⟨(some 47), .call (.k (.w (.fn 59 []))) [(.t 46)], none⟩,
          ⟨(some 48), .fa 1 (.t 2), none⟩,
          ⟨(some 49), .fa 2 (.t 48), none⟩,
          ⟨none, .st 1 (.t 49) (.t 47), none⟩])
        .skip)))
      (.seq (.reg [⟨(some 51), .bin .eql .one (.t 30) (.k (.w (.d (.s (.int .i64 4))))), none⟩,
        ⟨(some 50), .mv (.t 51), none⟩])
      (.cond (.t 50)
        (.reg [⟨(some 52), .fa 1 (.t 2), none⟩,
          ⟨(some 53), .fa 3 (.t 52), none⟩,
          ⟨none, .st 1 (.t 53) (.k (.w (.d (.s (.int .i64 2))))), none⟩])
        (.seq (.reg [⟨(some 55), .bin .eql .one (.t 30) (.k (.w (.d (.s (.int .i64 5))))), none⟩,
          ⟨(some 54), .mv (.t 55), none⟩])
        (.cond (.t 54)
          (.reg [⟨(some 56), .fa 1 (.t 2), none⟩,
            ⟨(some 57), .fa 3 (.t 56), none⟩,
            ⟨none, .st 1 (.t 57) (.k (.w (.d (.s (.int .i64 3))))), none⟩])
          .skip))))))))
  (.seq (.reg [⟨(some 58), .ld true 5 (.t 2), none⟩,
    ⟨none, .st 5 (.t 4) (.t 58), none⟩])
  .ret))))))⟩

/- loop.example/stile/impl.DeskHear -/
def F51 : Fn := ⟨15, [.cell 4 true 5],
  (.seq (.reg [⟨(some 2), .box 5 (.t 0), none⟩,
    ⟨(some 3), .box 5 (.t 1), none⟩,
    ⟨(some 4), .new [(.d (.s (.int .i64 0))), (.d (.s (.int .i64 0))), .nil, (.d (.s (.int .i64 0))), (.d (.s (.int .i64 0)))], none⟩])
  (.seq (.seq (.reg [⟨(some 6), .ld true 5 (.t 2), none⟩,
    ⟨(some 7), .call (.k (.w (.fn 18 []))) [(.t 6)], none⟩,
    ⟨(some 8), .un .not (.t 7), none⟩])
  (.cond (.t 8)
    (.seq (.reg [⟨(some 9), .bld [(.d (.s (.int .i64 0))), (.d (.s (.int .i64 0))), .nil, (.d (.s (.int .i64 0))), (.d (.s (.int .i64 0)))] [], none⟩,
      ⟨none, .st 5 (.t 4) (.t 9), none⟩])
    .ret)
    .skip))
  (.seq (.reg [⟨(some 10), .ld true 5 (.t 2), none⟩,
    ⟨(some 11), .call (.k (.w (.fn 91 []))) [(.t 10)], none⟩,
    ⟨(some 5), .new [(.d (.s (.int .i64 0))), (.d (.s (.int .i64 0))), .nil, (.d (.s (.int .i64 0))), (.d (.s (.int .i64 0)))], none⟩,
    ⟨none, .st 5 (.t 5) (.t 11), none⟩])
  (.seq (.reg [⟨(some 12), .ld true 5 (.t 3), none⟩,
    ⟨(some 13), .call (.k (.w (.fn 92 []))) [(.t 5), (.t 12)], none⟩])
  (.seq (.reg [⟨(some 14), .ld true 5 (.t 5), none⟩,
    ⟨none, .st 5 (.t 4) (.t 14), none⟩])
  .ret)))))⟩

/- (*loop.example/stile/impl.HoldRom).slot -/
def F52 : Fn := ⟨16, [.tmp 4],
  (.seq (.reg [⟨(some 4), .mv (.k (.w (.d (.s (.pointer none))))), none⟩])
  (.seq (.seq (.reg [⟨(some 5), .mv (.t 1), none⟩])
  (.block 0
    (.seq (.reg [⟨(some 7), .bin .eql .one (.t 5) (.k (.w (.d (.s (.int .i64 0))))), none⟩,
      ⟨(some 6), .mv (.t 7), none⟩])
    (.cond (.t 6)
      (.seq (.reg [⟨(some 8), .mv (.t 0), none⟩,
        ⟨(some 9), .nc (.t 8), none⟩,
        ⟨(some 10), .fa 0 (.t 9), none⟩,
        ⟨(some 4), .mv (.t 10), none⟩])
      .ret)
      (.seq (.reg [⟨(some 12), .bin .eql .one (.t 5) (.k (.w (.d (.s (.int .i64 1))))), none⟩,
        ⟨(some 11), .mv (.t 12), none⟩])
      (.cond (.t 11)
        (.seq (.reg [⟨(some 13), .mv (.t 0), none⟩,
          ⟨(some 14), .nc (.t 13), none⟩,
          ⟨(some 15), .fa 3 (.t 14), none⟩,
          ⟨(some 4), .mv (.t 15), none⟩])
        .ret)
        .skip))))))
  (.seq (.reg [⟨(some 4), .mv (.k (.w (.d (.s (.pointer none))))), none⟩])
  .ret)))⟩

/- slices.Clip[[]loop.example/stile/impl.HoldWrite,loop.example/stile/impl.HoldWrite] -/
def F53 : Fn := ⟨9, [.tmp 2],
  (.seq (.reg [⟨(some 2), .mv (.k (.w .nil)), none⟩])
  (.seq (.reg [⟨(some 3), .mv (.t 0), none⟩,
    ⟨(some 4), .mv (.t 0), none⟩,
    ⟨(some 5), .lenl (.t 4), none⟩,
    ⟨(some 6), .mv (.t 0), none⟩,
    ⟨(some 7), .lenl (.t 6), none⟩,
    ⟨(some 8), .sl 3 (.t 3) none (some (.t 5)) (some (.t 7)), none⟩,
    ⟨(some 2), .mv (.t 8), none⟩])
  .ret))⟩

/- (loop.example/stile/impl.HoldRom).copyOf -/
def F54 : Fn := ⟨16, [.cell 2 true 6],
  (.seq (.reg [⟨(some 1), .box 6 (.t 0), none⟩,
    ⟨(some 2), .new [(.d (.s (.int .u8 0))), (.d (.s (.int .u8 0))), .nil, (.d (.s (.int .u8 0))), (.d (.s (.int .u8 0))), .nil], none⟩])
  (.seq (.dreg [⟨(some 3), .fa 0 (.t 1), none⟩,
    ⟨(some 4), .fa 2 (.t 3), none⟩,
    ⟨(some 5), .ld false 1 (.t 4), none⟩,
    ⟨(some 6), .call (.k (.w (.fn 56 []))) [(.t 5)], none⟩,
    ⟨(some 7), .fa 3 (.t 1), none⟩,
    ⟨(some 8), .fa 2 (.t 7), none⟩,
    ⟨(some 9), .ld false 1 (.t 8), none⟩,
    ⟨(some 10), .call (.k (.w (.fn 56 []))) [(.t 9)], none⟩,
    ⟨(some 11), .fa 0 (.t 1), none⟩,
    ⟨(some 12), .fa 2 (.t 11), none⟩,
    ⟨none, .st 1 (.t 12) (.t 6), none⟩,
    ⟨(some 13), .fa 3 (.t 1), none⟩,
    ⟨(some 14), .fa 2 (.t 13), none⟩,
    ⟨none, .st 1 (.t 14) (.t 10), none⟩] [0, 1, 3, 7, 0, 16, 48, 127, 127, 383, 1023, 2047, 4095, 8191])
  (.seq (.reg [⟨(some 15), .ld true 6 (.t 1), none⟩,
    ⟨none, .st 6 (.t 2) (.t 15), none⟩])
  .ret)))⟩

/- (*loop.example/stile/impl.HoldRom).write -/
def F55 : Fn := ⟨51, [],
  (.seq (.reg [⟨(some 3), .box 3 (.t 1), none⟩])
  (.seq (.reg [⟨(some 5), .mv (.t 0), none⟩,
    ⟨(some 6), .fa 1 (.t 3), none⟩,
    ⟨(some 7), .ld false 1 (.t 6), none⟩,
    ⟨(some 8), .call (.k (.w (.fn 52 []))) [(.t 5), (.t 7)], none⟩,
    ⟨(some 4), .mv (.t 8), none⟩])
  (.seq (.seq (.reg [⟨(some 9), .mv (.t 4), none⟩,
    ⟨(some 10), .bin .eql .p (.t 9) (.k (.w (.d (.s (.pointer none))))), none⟩])
  (.cond (.t 10)
    .ret
    .skip))
  (.seq (.reg [⟨(some 11), .fa 0 (.t 3), none⟩,
    ⟨(some 12), .ld false 1 (.t 11), none⟩])
  (.block 0
    (.seq (.reg [⟨(some 14), .bin .eql .one (.t 12) (.k (.w (.d (.s (.int .i64 1))))), none⟩,
      ⟨(some 13), .mv (.t 14), none⟩])
    (.cond (.t 13)
      (.reg [⟨(some 15), .mv (.t 4), none⟩,
        ⟨(some 16), .fa 2 (.t 3), none⟩,
        ⟨(some 17), .ld false 1 (.t 16), none⟩,
        ⟨(some 18), .nc (.t 15), none⟩,
        ⟨(some 19), .fa 0 (.t 18), none⟩,
        ⟨none, .st 1 (.t 19) (.t 17), none⟩])
      (.seq (.reg [⟨(some 21), .bin .eql .one (.t 12) (.k (.w (.d (.s (.int .i64 2))))), none⟩,
        ⟨(some 20), .mv (.t 21), none⟩])
      (.cond (.t 20)
        (.reg [⟨(some 22), .mv (.t 4), none⟩,
          ⟨(some 23), .fa 2 (.t 3), none⟩,
          ⟨(some 24), .ld false 1 (.t 23), none⟩,
          ⟨(some 25), .nc (.t 22), none⟩,
          ⟨(some 26), .fa 1 (.t 25), none⟩,
          ⟨none, .st 1 (.t 26) (.t 24), none⟩])
        (.seq (.reg [⟨(some 28), .bin .eql .one (.t 12) (.k (.w (.d (.s (.int .i64 3))))), none⟩,
          ⟨(some 27), .mv (.t 28), none⟩])
        (.cond (.t 27)
          (.reg [⟨(some 29), .mv (.t 4), none⟩,
            ⟨(some 30), .nc (.t 29), none⟩,
            ⟨(some 31), .fa 2 (.t 30), none⟩,
            ⟨none, .st 1 (.t 31) (.k (.w .nil)), none⟩])
          (.seq (.reg [⟨(some 33), .bin .eql .one (.t 12) (.k (.w (.d (.s (.int .i64 4))))), none⟩,
            ⟨(some 32), .mv (.t 33), none⟩])
          (.cond (.t 32)
            (.seq (.reg [⟨(some 34), .mv (.t 4), none⟩,
              ⟨(some 35), .nc (.t 34), none⟩,
              ⟨(some 36), .fa 2 (.t 35), none⟩,
              ⟨(some 37), .ld false 1 (.t 36), none⟩,
              ⟨(some 38), .lenl (.t 37), none⟩,
              ⟨(some 39), .bin .lss .one (.t 38) (.k (.w (.d (.s (.int .i64 20100))))), none⟩])
            (.cond (.t 39)
              (.dreg [⟨(some 40), .mv (.t 4), none⟩,
                ⟨(some 41), .mv (.t 4), none⟩,
                ⟨(some 42), .nc (.t 41), none⟩,
                ⟨(some 43), .fa 2 (.t 42), none⟩,
                ⟨(some 44), .ld false 1 (.t 43), none⟩,
                ⟨(some 45), .fa 2 (.t 3), none⟩,
                ⟨(some 46), .ld false 1 (.t 45), none⟩,
                ⟨(some 47), .bsl 1 1 [(.s (.int .u8 0))] [(0, (.t 46))], none⟩,
                ⟨(some 48), .app 1 1 [(.s (.int .u8 0))] (.t 44) (.t 47), none⟩,
                ⟨(some 49), .nc (.t 40), none⟩,
                ⟨(some 50), .fa 2 (.t 49), none⟩,
                ⟨none, .st 1 (.t 50) (.t 48), none⟩] [0, 0, 2, 6, 14, 0, 32, 96, 254, 511, 1023, 2047])
              .skip))
            .skip)))))))))))))⟩

/- loop.example/stile/impl.clone[byte] -/
def F56 : Fn := ⟨6, [.tmp 2],
  (.seq (.reg [⟨(some 2), .mv (.k (.w .nil)), none⟩])
  (.seq (.reg [⟨(some 3), .mv (.t 0), none⟩,
    ⟨(some 4), .call (.k (.w (.fn 93 []))) [(.t 3)], none⟩,
    ⟨(some 5), .call (.k (.w (.fn 94 []))) [(.t 4)], none⟩,
    ⟨(some 2), .mv (.t 5), none⟩])
  .ret))⟩

/- loop.example/stile/laws.szDeskJob -/
def F57 : Fn := ⟨12, [.tmp 4],
  (.seq (.reg [⟨(some 2), .box 4 (.t 0), none⟩,
    ⟨(some 4), .mv (.k (.w (.d (.s (.int .i64 0))))), none⟩])
  (.seq (.reg [⟨(some 5), .fa 1 (.t 2), none⟩,
    ⟨(some 6), .ld false 1 (.t 5), none⟩,
    ⟨(some 7), .mv (.t 1), none⟩,
    ⟨(some 8), .call (.k (.w (.fn 87 []))) [(.t 6), (.t 7)], none⟩,
    ⟨(some 1), .mv (.t 8), none⟩])
  (.seq (.seq (.reg [⟨(some 9), .mv (.t 1), none⟩,
    ⟨(some 10), .bin .lss .one (.t 9) (.k (.w (.d (.s (.int .i64 0))))), none⟩])
  (.cond (.t 10)
    (.seq (.reg [⟨(some 4), .mv (.k (.w (.d (.s (.int .i64 (-1)))))), none⟩])
    .ret)
    .skip))
  (.seq (.reg [⟨(some 11), .mv (.t 1), none⟩,
    ⟨(some 4), .mv (.t 11), none⟩])
  .ret))))⟩

/- loop.example/stile/laws.toDeskJob -/
def F58 : Fn := ⟨18, [.cell 2 true 4],
  (.seq (.reg [⟨(some 1), .box 4 (.t 0), none⟩,
    ⟨(some 2), .new [(.d (.s (.int .i64 0))), .nil, (.d (.s (.int .i64 0))), (.d (.s (.int .i64 0)))], none⟩])
  (.seq (.reg [⟨(some 3), .new [(.d (.s (.int .i64 0))), .nil, (.d (.s (.int .i64 0))), (.d (.s (.int .i64 0)))], none⟩])
  (.seq (.reg [⟨(some 4), .fa 0 (.t 1), none⟩,
    ⟨(some 5), .ld false 1 (.t 4), none⟩,
    ⟨(some 6), .fa 0 (.t 3), none⟩,
    ⟨none, .st 1 (.t 6) (.t 5), none⟩])
  (.seq (.reg [⟨(some 7), .fa 1 (.t 1), none⟩,
    ⟨(some 8), .ld false 1 (.t 7), none⟩,
    ⟨(some 9), .call (.k (.w (.fn 88 []))) [(.t 8)], none⟩,
    ⟨(some 10), .fa 1 (.t 3), none⟩,
    ⟨none, .st 1 (.t 10) (.t 9), none⟩])
  (.seq (.reg [⟨(some 11), .fa 2 (.t 1), none⟩,
    ⟨(some 12), .ld false 1 (.t 11), none⟩,
    ⟨(some 13), .fa 2 (.t 3), none⟩,
    ⟨none, .st 1 (.t 13) (.t 12), none⟩])
  (.seq (.reg [⟨(some 14), .fa 3 (.t 1), none⟩,
    ⟨(some 15), .ld false 1 (.t 14), none⟩,
    ⟨(some 16), .fa 3 (.t 3), none⟩,
    ⟨none, .st 1 (.t 16) (.t 15), none⟩])
  (.seq (.reg [⟨(some 17), .ld true 4 (.t 3), none⟩,
    ⟨none, .st 4 (.t 2) (.t 17), none⟩])
  .ret)))))))⟩

/- loop.example/stile/spec.WireOf -/
def F59 : Fn := ⟨16, [.tmp 2],
  (.seq (.reg [⟨(some 2), .mv (.k (.w (.d (.s (.int .i64 0))))), none⟩])
  (.seq (.reg [⟨(some 4), .mv (.t 0), none⟩,
    ⟨(some 5), .lenl (.t 4), none⟩,
    ⟨(some 3), .mv (.t 5), none⟩])
  (.seq (.seq (.reg [⟨(some 6), .mv (.t 3), none⟩,
    ⟨(some 7), .bin .eql .one (.t 6) (.k (.w (.d (.s (.int .i64 0))))), none⟩,
    ⟨(some 8), .mv (.t 7), none⟩,
    ⟨(some 9), .mv (.t 3), (some (8, false))⟩,
    ⟨(some 10), .bin .gtr .one (.t 9) (.k (.w (.d (.s (.int .i64 21600))))), (some (8, false))⟩,
    ⟨(some 11), .pick (.t 8) (.k (.w (.d (.s (.bool true))))) (.t 10), none⟩])
  (.cond (.t 11)
    (.seq (.reg [⟨(some 2), .mv (.k (.w (.d (.s (.int .i64 0))))), none⟩])
    .ret)
    .skip))
  (.seq (.reg [⟨(some 12), .mv (.t 3), none⟩,
    ⟨(some 13), .bin .add .one (.t 12) (.k (.w (.d (.s (.int .i64 24))))), none⟩,
    ⟨(some 14), .bin .sub .one (.t 13) (.k (.w (.d (.s (.int .i64 1))))), none⟩,
    ⟨(some 15), .bin .quo .one (.t 14) (.k (.w (.d (.s (.int .i64 24))))), none⟩,
    ⟨(some 2), .mv (.t 15), none⟩])
  .ret))))⟩

/- loop.example/stile/impl.in -/
def F60 : Fn := ⟨15, [.tmp 6],
  (.seq (.reg [⟨(some 6), .mv (.k (.w (.d (.s (.bool false))))), none⟩])
  (.seq (.reg [⟨(some 7), .mv (.t 0), none⟩,
    ⟨(some 8), .mv (.t 1), none⟩,
    ⟨(some 9), .bin .geq .one (.t 7) (.t 8), none⟩,
    ⟨(some 10), .mv (.t 9), none⟩,
    ⟨(some 11), .mv (.t 0), (some (10, true))⟩,
    ⟨(some 12), .mv (.t 2), (some (10, true))⟩,
    ⟨(some 13), .bin .leq .one (.t 11) (.t 12), (some (10, true))⟩,
    ⟨(some 14), .pick (.t 10) (.t 13) (.k (.w (.d (.s (.bool false))))), none⟩,
    ⟨(some 6), .mv (.t 14), none⟩])
  .ret))⟩

/- loop.example/stile/impl.WireOf -/
def F61 : Fn := ⟨12, [.tmp 2],
  (.seq (.reg [⟨(some 2), .mv (.k (.w (.d (.s (.int .i64 0))))), none⟩])
  (.seq (.reg [⟨(some 4), .mv (.t 0), none⟩,
    ⟨(some 5), .lenl (.t 4), none⟩,
    ⟨(some 6), .bin .add .one (.t 5) (.k (.w (.d (.s (.int .i64 24))))), none⟩,
    ⟨(some 7), .bin .sub .one (.t 6) (.k (.w (.d (.s (.int .i64 1))))), none⟩,
    ⟨(some 8), .bin .quo .one (.t 7) (.k (.w (.d (.s (.int .i64 24))))), none⟩,
    ⟨(some 3), .mv (.t 8), none⟩])
  (.seq (.seq (.reg [⟨(some 9), .mv (.t 3), none⟩,
    ⟨(some 10), .bin .gtr .one (.t 9) (.k (.w (.d (.s (.int .i64 900))))), none⟩])
  (.cond (.t 10)
    (.seq (.reg [⟨(some 2), .mv (.k (.w (.d (.s (.int .i64 0))))), none⟩])
    .ret)
    .skip))
  (.seq (.reg [⟨(some 11), .mv (.t 3), none⟩,
    ⟨(some 2), .mv (.t 11), none⟩])
  .ret))))⟩

/- loop.example/stile/laws.eqDeskJob -/
def F62 : Fn := ⟨26, [.tmp 4],
  (.seq (.reg [⟨(some 2), .box 4 (.t 0), none⟩,
    ⟨(some 3), .box 4 (.t 1), none⟩,
    ⟨(some 4), .mv (.k (.w (.d (.s (.bool false))))), none⟩])
  (.seq (.seq (.reg [⟨(some 5), .fa 0 (.t 2), none⟩,
    ⟨(some 6), .ld false 1 (.t 5), none⟩,
    ⟨(some 7), .fa 0 (.t 3), none⟩,
    ⟨(some 8), .ld false 1 (.t 7), none⟩,
    ⟨(some 9), .bin .neq .one (.t 6) (.t 8), none⟩])
  (.cond (.t 9)
    (.seq (.reg [⟨(some 4), .mv (.k (.w (.d (.s (.bool false))))), none⟩])
    .ret)
    .skip))
  (.seq (.seq (.reg [⟨(some 10), .fa 1 (.t 2), none⟩,
    ⟨(some 11), .ld false 1 (.t 10), none⟩,
    ⟨(some 12), .fa 1 (.t 3), none⟩,
    ⟨(some 13), .ld false 1 (.t 12), none⟩,
    ⟨(some 14), .call (.k (.w (.fn 80 []))) [(.t 11), (.t 13)], none⟩,
    ⟨(some 15), .un .not (.t 14), none⟩])
  (.cond (.t 15)
    (.seq (.reg [⟨(some 4), .mv (.k (.w (.d (.s (.bool false))))), none⟩])
    .ret)
    .skip))
  (.seq (.seq (.reg [⟨(some 16), .fa 2 (.t 2), none⟩,
    ⟨(some 17), .ld false 1 (.t 16), none⟩,
    ⟨(some 18), .fa 2 (.t 3), none⟩,
    ⟨(some 19), .ld false 1 (.t 18), none⟩,
    ⟨(some 20), .bin .neq .one (.t 17) (.t 19), none⟩])
  (.cond (.t 20)
    (.seq (.reg [⟨(some 4), .mv (.k (.w (.d (.s (.bool false))))), none⟩])
    .ret)
    .skip))
  (.seq (.seq (.reg [⟨(some 21), .fa 3 (.t 2), none⟩,
    ⟨(some 22), .ld false 1 (.t 21), none⟩,
    ⟨(some 23), .fa 3 (.t 3), none⟩,
    ⟨(some 24), .ld false 1 (.t 23), none⟩,
    ⟨(some 25), .bin .neq .one (.t 22) (.t 24), none⟩])
  (.cond (.t 25)
    (.seq (.reg [⟨(some 4), .mv (.k (.w (.d (.s (.bool false))))), none⟩])
    .ret)
    .skip))
  (.seq (.reg [⟨(some 4), .mv (.k (.w (.d (.s (.bool true))))), none⟩])
  .ret))))))⟩

/- loop.example/stile/laws.markDeskJob -/
def F63 : Fn := ⟨10, [.tmp 4],
  (.seq (.reg [⟨(some 2), .box 4 (.t 0), none⟩,
    ⟨(some 4), .mv (.k (.w (.d (.s (.int .i64 0))))), none⟩])
  (.seq (.reg [⟨(some 5), .fa 1 (.t 2), none⟩,
    ⟨(some 6), .ld false 1 (.t 5), none⟩,
    ⟨(some 7), .mv (.t 1), none⟩,
    ⟨(some 8), .call (.k (.w (.fn 81 []))) [(.t 6), (.t 7)], none⟩,
    ⟨(some 1), .mv (.t 8), none⟩])
  (.seq (.reg [⟨(some 9), .mv (.t 1), none⟩,
    ⟨(some 4), .mv (.t 9), none⟩])
  .ret)))⟩

/- loop.example/stile/laws.heldDeskJob -/
def F64 : Fn := ⟨12, [.tmp 4],
  (.seq (.reg [⟨(some 2), .box 4 (.t 0), none⟩,
    ⟨(some 4), .mv (.k (.w (.d (.s (.int .i64 0))))), none⟩])
  (.seq (.reg [⟨(some 5), .fa 1 (.t 2), none⟩,
    ⟨(some 6), .ld false 1 (.t 5), none⟩,
    ⟨(some 7), .mv (.t 1), none⟩,
    ⟨(some 8), .call (.k (.w (.fn 82 []))) [(.t 6), (.t 7)], none⟩,
    ⟨(some 1), .mv (.t 8), none⟩])
  (.seq (.seq (.reg [⟨(some 9), .mv (.t 1), none⟩,
    ⟨(some 10), .bin .lss .one (.t 9) (.k (.w (.d (.s (.int .i64 0))))), none⟩])
  (.cond (.t 10)
    (.seq (.reg [⟨(some 4), .mv (.k (.w (.d (.s (.int .i64 (-1)))))), none⟩])
    .ret)
    .skip))
  (.seq (.reg [⟨(some 11), .mv (.t 1), none⟩,
    ⟨(some 4), .mv (.t 11), none⟩])
  .ret))))⟩

/- loop.example/stile/spec.l26Open -/
def F65 : Fn := ⟨11, [.tmp 2],
  (.seq (.reg [⟨(some 2), .mv (.k (.w (.d (.s (.pointer none))))), none⟩])
  (.seq (.seq (.reg [⟨(some 3), .mv (.t 0), none⟩,
    ⟨(some 4), .lenl (.t 3), none⟩,
    ⟨(some 5), .bin .gtr .one (.t 4) (.k (.w (.d (.s (.int .i64 2000))))), none⟩])
  (.cond (.t 5)
    (.reg [⟨(some 6), .mv (.t 0), none⟩,
      ⟨(some 7), .sl 1 (.t 6) none (some (.k (.w (.d (.s (.int .i64 2000)))))) none, none⟩,
      ⟨(some 0), .mv (.t 7), none⟩])
    .skip))
  (.seq (.reg [⟨(some 8), .mv (.t 0), none⟩,
    ⟨(some 9), .bld [.nil, (.d (.s (.int .i64 0)))] [(0, 1, (.t 8))], none⟩,
    ⟨(some 10), .box 2 (.t 9), none⟩,
    ⟨(some 2), .mv (.t 10), none⟩])
  .ret)))⟩

/- loop.example/stile/spec.l18Draw -/
def F66_B0 : C :=
  (.seq (.seq (.reg [⟨(some 19), .mv (.t 4), none⟩,
    ⟨(some 20), .bin .gtr .one (.t 19) (.k (.w (.d (.s (.int .i64 0))))), none⟩])
  (.cond (.t 20)
    .skip
    (.exit 0)))
  (.seq (.block 1
    (.seq (.dreg [⟨(some 24), .ld true 6 (.t 3), none⟩,
      ⟨(some 25), .mv (.t 0), none⟩,
      ⟨(some 26), .call (.k (.w (.fn 69 []))) [(.t 25)], none⟩,
      ⟨(some 27), .call (.k (.w (.fn 43 []))) [(.t 24), (.t 26)], none⟩,
      ⟨(some 23), .mv (.t 27), none⟩,
      ⟨(some 28), .ext 0 (.t 23), none⟩,
      ⟨(some 29), .ext 1 (.t 23), none⟩,
      ⟨(some 5), .mv (.t 28), none⟩,
      ⟨(some 6), .mv (.t 29), none⟩] [0, 0, 2, 7, 15, 31, 31, 63, 255])
    (.seq (.reg [⟨(some 30), .mv (.t 5), none⟩,
      ⟨(some 31), .lenl (.t 30), none⟩,
      ⟨(some 7), .mv (.t 31), none⟩])
    (.seq (.seq (.reg [⟨(some 32), .mv (.t 0), none⟩,
      ⟨(some 33), .call (.k (.w (.fn 67 []))) [(.t 32), (.k (.w (.d (.s (.int .i64 2)))))], none⟩,
      ⟨(some 34), .bin .eql .one (.t 33) (.k (.w (.d (.s (.int .i64 0))))), none⟩,
      ⟨(some 35), .mv (.t 34), none⟩,
      ⟨(some 36), .mv (.t 7), (some (35, true))⟩,
      ⟨(some 37), .bin .gtr .one (.t 36) (.k (.w (.d (.s (.int .i64 0))))), (some (35, true))⟩,
      ⟨(some 38), .pick (.t 35) (.t 37) (.k (.w (.d (.s (.bool false))))), none⟩])
    (.cond (.t 38)
      (.reg [⟨(some 39), .mv (.t 0), none⟩,
        ⟨(some 40), .mv (.t 7), none⟩,
        ⟨(some 41), .call (.k (.w (.fn 67 []))) [(.t 39), (.t 40)], none⟩,
        ⟨(some 7), .mv (.t 41), none⟩])
      .skip))
    (.reg [⟨(some 42), .ld true 6 (.t 3), none⟩,
      ⟨(some 43), .mv (.t 5), none⟩,
      ⟨(some 44), .mv (.t 7), none⟩,
      ⟨(some 45), .call (.k (.w (.fn 26 []))) [(.t 42), (.t 43), (.t 44)], none⟩,
      ⟨none, .st 6 (.t 3) (.t 45), none⟩])))))
  (.reg [⟨(some 21), .mv (.t 4), none⟩,
    ⟨(some 22), .bin .sub .one (.t 21) (.k (.w (.d (.s (.int .i64 1))))), none⟩,
    ⟨(some 4), .mv (.t 22), none⟩])))
def F66_L0 : C := .loop F66_B0
def F66 : Fn := ⟨47, [.cell 2 true 6],
  (.seq (.reg [⟨(some 2), .new [(.d (.s (.int .u8 0))), (.d (.s (.int .u8 0))), .nil, (.d (.s (.int .u8 0))), (.d (.s (.int .u8 0))), .nil], none⟩])
  (.seq (.seq (.reg [⟨(some 8), .mv (.t 0), none⟩,
    ⟨(some 9), .call (.k (.w (.fn 67 []))) [(.t 8), (.k (.w (.d (.s (.int .i64 3)))))], none⟩,
    ⟨(some 10), .bin .eql .one (.t 9) (.k (.w (.d (.s (.int .i64 0))))), none⟩])
  (.cond (.t 10)
    (.seq (.reg [⟨(some 11), .mv (.t 0), none⟩,
      ⟨(some 12), .call (.k (.w (.fn 95 []))) [(.t 11)], none⟩,
      ⟨(some 13), .mv (.t 0), none⟩,
      ⟨(some 14), .call (.k (.w (.fn 95 []))) [(.t 13)], none⟩,
      ⟨(some 15), .bld [(.d (.s (.int .u8 0))), (.d (.s (.int .u8 0))), .nil, (.d (.s (.int .u8 0))), (.d (.s (.int .u8 0))), .nil] [(0, 3, (.t 12)), (3, 3, (.t 14))], none⟩,
      ⟨none, .st 6 (.t 2) (.t 15), none⟩])
    .ret)
    .skip))
  (.seq (.reg [⟨(some 16), .bld [(.d (.s (.int .u8 0))), (.d (.s (.int .u8 0))), .nil, (.d (.s (.int .u8 0))), (.d (.s (.int .u8 0))), .nil] [], none⟩,
    ⟨(some 3), .new [(.d (.s (.int .u8 0))), (.d (.s (.int .u8 0))), .nil, (.d (.s (.int .u8 0))), (.d (.s (.int .u8 0))), .nil], none⟩,
    ⟨none, .st 6 (.t 3) (.t 16), none⟩])
  (.seq (.seq (.reg [⟨(some 17), .mv (.t 0), none⟩,
    ⟨(some 18), .call (.k (.w (.fn 67 []))) [(.t 17), (.k (.w (.d (.s (.int .i64 6)))))], none⟩,
    ⟨(some 4), .mv (.t 18), none⟩])
  (.block 0
    F66_L0))
  (.seq (.reg [⟨(some 46), .ld true 6 (.t 3), none⟩,
    ⟨none, .st 6 (.t 2) (.t 46), none⟩])
  .ret)))))⟩

/- (*loop.example/stile/spec.l26Rd).pick -/
def F67 : Fn := ⟨99, [.tmp 4],
  (.seq (.reg [⟨(some 4), .mv (.k (.w (.d (.s (.int .i64 0))))), none⟩])
  (.seq (.reg [⟨(some 7), .mv (.t 0), none⟩,
    ⟨(some 8), .mv (.t 0), none⟩,
    ⟨(some 9), .nc (.t 8), none⟩,
    ⟨(some 10), .fa 1 (.t 9), none⟩,
    ⟨(some 11), .ld false 1 (.t 10), none⟩,
    ⟨(some 12), .bin .add .one (.t 11) (.k (.w (.d (.s (.int .i64 1))))), none⟩,
    ⟨(some 13), .nc (.t 7), none⟩,
    ⟨(some 14), .fa 1 (.t 13), none⟩,
    ⟨none, .st 1 (.t 14) (.t 12), none⟩])
  (.seq (.seq (.reg [⟨(some 15), .mv (.t 1), none⟩,
    ⟨(some 16), .bin .lss .one (.t 15) (.k (.w (.d (.s (.int .i64 1))))), none⟩,
    ⟨(some 17), .mv (.t 16), none⟩,
    ⟨(some 18), .mv (.t 0), (some (17, false))⟩,
    ⟨(some 19), .nc (.t 18), (some (17, false))⟩,
    ⟨(some 20), .fa 0 (.t 19), (some (17, false))⟩,
    ⟨(some 21), .ld false 1 (.t 20), (some (17, false))⟩,
    ⟨(some 22), .lenl (.t 21), (some (17, false))⟩,
    ⟨(some 23), .bin .eql .one (.t 22) (.k (.w (.d (.s (.int .i64 0))))), (some (17, false))⟩,
    ⟨(some 24), .pick (.t 17) (.k (.w (.d (.s (.bool true))))) (.t 23), none⟩])
  (.cond (.t 24)
    (.seq (.reg [⟨(some 4), .mv (.k (.w (.d (.s (.int .i64 0))))), none⟩])
    .ret)
    .skip))
  (.seq (.reg [⟨(some 25), .mv (.t 0), none⟩,
    ⟨(some 26), .nc (.t 25), none⟩,
    ⟨(some 27), .fa 1 (.t 26), none⟩,
    ⟨(some 28), .ld false 1 (.t 27), none⟩,
    ⟨(some 29), .bin .sub .one (.t 28) (.k (.w (.d (.s (.int .i64 1))))), none⟩,
    ⟨(some 5), .mv (.t 29), none⟩])
  (.seq (.seq (.reg [⟨(some 30), .mv (.t 5), none⟩,
    ⟨(some 31), .mv (.t 0), none⟩,
    ⟨(some 32), .nc (.t 31), none⟩,
    ⟨(some 33), .fa 0 (.t 32), none⟩,
    ⟨(some 34), .ld false 1 (.t 33), none⟩,
    ⟨(some 35), .lenl (.t 34), none⟩,
    ⟨(some 36), .bin .lss .one (.t 30) (.t 35), none⟩])
  (.cond (.t 36)
    (.seq (.reg [⟨(some 37), .mv (.t 0), none⟩,
      ⟨(some 38), .nc (.t 37), none⟩,
      ⟨(some 39), .fa 0 (.t 38), none⟩,
      ⟨(some 40), .ld false 1 (.t 39), none⟩,
      ⟨(some 41), .mv (.t 5), none⟩,
      ⟨(some 42), .ia 1 (.t 40) (.t 41), none⟩,
      ⟨(some 43), .ld false 1 (.t 42), none⟩,
      ⟨(some 44), .cvi .i64 (.t 43), none⟩,
      ⟨(some 45), .mv (.t 1), none⟩,
      ⟨(some 46), .bin .rem .one (.t 44) (.t 45), none⟩,
      ⟨(some 4), .mv (.t 46), none⟩])
    .ret)
    .skip))
  (.seq (.dreg [⟨(some 47), .mv (.t 0), none⟩,
    ⟨(some 48), .nc (.t 47), none⟩,
    ⟨(some 49), .fa 0 (.t 48), none⟩,
    ⟨(some 50), .ld false 1 (.t 49), none⟩,
    ⟨(some 51), .mv (.t 5), none⟩,
    ⟨(some 52), .mv (.t 0), none⟩,
    ⟨(some 53), .nc (.t 52), none⟩,
    ⟨(some 54), .fa 0 (.t 53), none⟩,
    ⟨(some 55), .ld false 1 (.t 54), none⟩,
    ⟨(some 56), .lenl (.t 55), none⟩,
    ⟨(some 57), .bin .rem .one (.t 51) (.t 56), none⟩,
    ⟨(some 58), .ia 1 (.t 50) (.t 57), none⟩,
    ⟨(some 59), .ld false 1 (.t 58), none⟩,
    ⟨(some 60), .cvi .i64 (.t 59), none⟩,
    ⟨(some 61), .bin .mul .one (.t 60) (.k (.w (.d (.s (.int .i64 131))))), none⟩,
    ⟨(some 62), .mv (.t 0), none⟩,
    ⟨(some 63), .nc (.t 62), none⟩,
    ⟨(some 64), .fa 0 (.t 63), none⟩,
    ⟨(some 65), .ld false 1 (.t 64), none⟩,
    ⟨(some 66), .mv (.t 5), none⟩,
    ⟨(some 67), .bin .mul .one (.t 66) (.k (.w (.d (.s (.int .i64 7))))), none⟩,
    ⟨(some 68), .bin .add .one (.t 67) (.k (.w (.d (.s (.int .i64 3))))), none⟩,
    ⟨(some 69), .mv (.t 0), none⟩,
    ⟨(some 70), .nc (.t 69), none⟩,
    ⟨(some 71), .fa 0 (.t 70), none⟩,
    ⟨(some 72), .ld false 1 (.t 71), none⟩,
    ⟨(some 73), .lenl (.t 72), none⟩,
    ⟨(some 74), .bin .rem .one (.t 68) (.t 73), none⟩,
    ⟨(some 75), .ia 1 (.t 65) (.t 74), none⟩,
    ⟨(some 76), .ld false 1 (.t 75), none⟩,
    ⟨(some 77), .cvi .i64 (.t 76), none⟩,
    ⟨(some 78), .bin .mul .one (.t 77) (.k (.w (.d (.s (.int .i64 1117))))), none⟩,
    ⟨(some 79), .bin .add .one (.t 61) (.t 78), none⟩,
    ⟨(some 80), .mv (.t 5), none⟩,
    ⟨(some 81), .bin .mul .one (.t 80) (.k (.w (.d (.s (.int .i64 29))))), none⟩,
    ⟨(some 82), .bin .add .one (.t 79) (.t 81), none⟩,
    ⟨(some 83), .mv (.t 5), none⟩,
    ⟨(some 84), .mv (.t 0), none⟩,
    ⟨(some 85), .nc (.t 84), none⟩,
    ⟨(some 86), .fa 0 (.t 85), none⟩,
    ⟨(some 87), .ld false 1 (.t 86), none⟩,
    ⟨(some 88), .lenl (.t 87), none⟩,
    ⟨(some 89), .bin .quo .one (.t 83) (.t 88), none⟩,
    ⟨(some 90), .bin .mul .one (.t 89) (.k (.w (.d (.s (.int .i64 53))))), none⟩,
    ⟨(some 91), .bin .add .one (.t 82) (.t 90), none⟩,
    ⟨(some 6), .mv (.t 91), none⟩] [0, 1, 3, 7, 0, 0, 32, 96, 224, 480, 1008, 2047, 4095, 8191, 16383, 0, 32768, 98304, 229376, 0, 524288, 1572864, 0, 4194304, 12582912, 29360128, 62914560, 133693440, 268402688, 536838144, 1073709056, 2147450880, 4294967295, 0, 8589934592, 34359738367, 0, 0, 137438953472, 412316860416, 962072674304, 2061584302080, 4329327034368, 8727373545472, 17592186044415, 35184372088831])
  (.seq (.reg [⟨(some 92), .mv (.t 6), none⟩,
    ⟨(some 93), .mv (.t 6), none⟩,
    ⟨(some 94), .bin .quo .one (.t 93) (.k (.w (.d (.s (.int .i64 64))))), none⟩,
    ⟨(some 95), .bin .xor .one (.t 92) (.t 94), none⟩,
    ⟨(some 6), .mv (.t 95), none⟩])
  (.seq (.reg [⟨(some 96), .mv (.t 6), none⟩,
    ⟨(some 97), .mv (.t 1), none⟩,
    ⟨(some 98), .bin .rem .one (.t 96) (.t 97), none⟩,
    ⟨(some 4), .mv (.t 98), none⟩])
  .ret))))))))⟩

/- loop.example/stile/spec.l18Write -/
def F68 : Fn := ⟨13, [.cell 2 true 3],
  (.seq (.reg [⟨(some 2), .new [(.d (.s (.int .i64 0))), (.d (.s (.int .i64 0))), (.d (.s (.int .u8 0)))], none⟩])
  (.seq (.reg [⟨(some 3), .mv (.t 0), none⟩,
    ⟨(some 4), .call (.k (.w (.fn 67 []))) [(.t 3), (.k (.w (.d (.s (.int .i64 6)))))], none⟩,
    ⟨(some 5), .mv (.t 0), none⟩,
    ⟨(some 6), .bsl 1 6 [(.s (.int .i64 0))] [(0, (.k (.w (.d (.s (.int .i64 0)))))), (1, (.k (.w (.d (.s (.int .i64 1)))))), (2, (.k (.w (.d (.s (.int .i64 0)))))), (3, (.k (.w (.d (.s (.int .i64 1)))))), (4, (.k (.w (.d (.s (.int .i64 2)))))), (5, (.k (.w (.d (.s (.int .i64 (-1)))))))], none⟩,
    ⟨(some 7), .call (.k (.w (.fn 96 []))) [(.t 5), (.t 6)], none⟩,
    ⟨(some 8), .mv (.t 0), none⟩,
    ⟨(some 9), .bsl 1 5 [(.s (.int .i64 0))] [(0, (.k (.w (.d (.s (.int .i64 0)))))), (1, (.k (.w (.d (.s (.int .i64 1)))))), (2, (.k (.w (.d (.s (.int .i64 2)))))), (3, (.k (.w (.d (.s (.int .i64 165)))))), (4, (.k (.w (.d (.s (.int .i64 255))))))], none⟩,
    ⟨(some 10), .call (.k (.w (.fn 96 []))) [(.t 8), (.t 9)], none⟩,
    ⟨(some 11), .cvi .u8 (.t 10), none⟩,
    ⟨(some 12), .bld [(.d (.s (.int .i64 0))), (.d (.s (.int .i64 0))), (.d (.s (.int .u8 0)))] [(0, 1, (.t 4)), (1, 1, (.t 7)), (2, 1, (.t 11))], none⟩,
    ⟨none, .st 3 (.t 2) (.t 12), none⟩])
  .ret))⟩

/- loop.example/stile/spec.l18Data -/
def F69_B0 : C :=
  (.seq (.seq (.reg [⟨(some 8), .mv (.t 4), none⟩,
    ⟨(some 9), .bin .gtr .one (.t 8) (.k (.w (.d (.s (.int .i64 0))))), none⟩])
  (.cond (.t 9)
    .skip
    (.exit 0)))
  (.seq (.block 1
    (.reg [⟨(some 12), .mv (.t 3), none⟩,
      ⟨(some 13), .mv (.t 0), none⟩,
      ⟨(some 14), .bsl 1 6 [(.s (.int .i64 0))] [(0, (.k (.w (.d (.s (.int .i64 0)))))), (1, (.k (.w (.d (.s (.int .i64 1)))))), (2, (.k (.w (.d (.s (.int .i64 2)))))), (3, (.k (.w (.d (.s (.int .i64 165)))))), (4, (.k (.w (.d (.s (.int .i64 255)))))), (5, (.k (.w (.d (.s (.int .i64 7))))))], none⟩,
      ⟨(some 15), .call (.k (.w (.fn 96 []))) [(.t 13), (.t 14)], none⟩,
      ⟨(some 16), .cvi .u8 (.t 15), none⟩,
      ⟨(some 17), .bsl 1 1 [(.s (.int .u8 0))] [(0, (.t 16))], none⟩,
      ⟨(some 18), .app 1 1 [(.s (.int .u8 0))] (.t 12) (.t 17), none⟩,
      ⟨(some 3), .mv (.t 18), none⟩]))
  (.reg [⟨(some 10), .mv (.t 4), none⟩,
    ⟨(some 11), .bin .sub .one (.t 10) (.k (.w (.d (.s (.int .i64 1))))), none⟩,
    ⟨(some 4), .mv (.t 11), none⟩])))
def F69_L0 : C := .loop F69_B0
def F69 : Fn := ⟨27, [.tmp 2],
  (.seq (.reg [⟨(some 2), .mv (.k (.w .nil)), none⟩])
  (.seq (.reg [⟨(some 5), .bsl 1 0 [(.s (.int .u8 0))] [], none⟩,
    ⟨(some 3), .mv (.t 5), none⟩])
  (.seq (.seq (.reg [⟨(some 6), .mv (.t 0), none⟩,
    ⟨(some 7), .call (.k (.w (.fn 67 []))) [(.t 6), (.k (.w (.d (.s (.int .i64 12)))))], none⟩,
    ⟨(some 4), .mv (.t 7), none⟩])
  (.block 0
    F69_L0))
  (.seq (.seq (.reg [⟨(some 19), .mv (.t 0), none⟩,
    ⟨(some 20), .call (.k (.w (.fn 67 []))) [(.t 19), (.k (.w (.d (.s (.int .i64 40)))))], none⟩,
    ⟨(some 21), .bin .eql .one (.t 20) (.k (.w (.d (.s (.int .i64 0))))), none⟩])
  (.cond (.t 21)
    (.seq (.reg [⟨(some 22), .mv (.t 0), none⟩,
      ⟨(some 23), .call (.k (.w (.fn 67 []))) [(.t 22), (.k (.w (.d (.s (.int .i64 2)))))], none⟩,
      ⟨(some 24), .bin .add .one (.k (.w (.d (.s (.int .i64 20100))))) (.t 23), none⟩,
      ⟨(some 25), .msl 1 1 [(.s (.int .u8 0))] (.t 24) (.t 24), none⟩,
      ⟨(some 2), .mv (.t 25), none⟩])
    .ret)
    .skip))
  (.seq (.reg [⟨(some 26), .mv (.t 3), none⟩,
    ⟨(some 2), .mv (.t 26), none⟩])
  .ret)))))⟩

/- loop.example/stile/spec.l18Rom -/
def F70 : Fn := ⟨16, [.cell 2 true 6],
  (.seq (.reg [⟨(some 1), .box 6 (.t 0), none⟩,
    ⟨(some 2), .new [(.d (.s (.int .u8 0))), (.d (.s (.int .u8 0))), .nil, (.d (.s (.int .u8 0))), (.d (.s (.int .u8 0))), .nil], none⟩])
  (.seq (.reg [⟨(some 3), .fa 0 (.t 1), none⟩,
    ⟨(some 4), .fa 2 (.t 3), none⟩,
    ⟨(some 5), .ld false 1 (.t 4), none⟩,
    ⟨(some 6), .call (.k (.w (.fn 85 []))) [(.t 5)], none⟩,
    ⟨(some 7), .fa 0 (.t 1), none⟩,
    ⟨(some 8), .fa 2 (.t 7), none⟩,
    ⟨none, .st 1 (.t 8) (.t 6), none⟩])
  (.seq (.reg [⟨(some 9), .fa 3 (.t 1), none⟩,
    ⟨(some 10), .fa 2 (.t 9), none⟩,
    ⟨(some 11), .ld false 1 (.t 10), none⟩,
    ⟨(some 12), .call (.k (.w (.fn 85 []))) [(.t 11)], none⟩,
    ⟨(some 13), .fa 3 (.t 1), none⟩,
    ⟨(some 14), .fa 2 (.t 13), none⟩,
    ⟨none, .st 1 (.t 14) (.t 12), none⟩])
  (.seq (.reg [⟨(some 15), .ld true 6 (.t 1), none⟩,
    ⟨none, .st 6 (.t 2) (.t 15), none⟩])
  .ret))))⟩

/- loop.example/stile/spec.l18Add -/
def F71 : Fn := ⟨29, [.cell 4 true 3],
  (.seq (.reg [⟨(some 2), .box 3 (.t 0), none⟩,
    ⟨(some 3), .box 3 (.t 1), none⟩,
    ⟨(some 4), .new [(.d (.s (.int .u8 0))), (.d (.s (.int .u8 0))), .nil], none⟩])
  (.seq (.seq (.reg [⟨(some 5), .fa 0 (.t 3), none⟩,
    ⟨(some 6), .ld false 1 (.t 5), none⟩,
    ⟨(some 7), .bin .eql .one (.t 6) (.k (.w (.d (.s (.int .i64 4))))), none⟩,
    ⟨(some 8), .mv (.t 7), none⟩,
    ⟨(some 9), .fa 2 (.t 2), (some (8, true))⟩,
    ⟨(some 10), .ld false 1 (.t 9), (some (8, true))⟩,
    ⟨(some 11), .lenl (.t 10), (some (8, true))⟩,
    ⟨(some 12), .bin .lss .one (.t 11) (.k (.w (.d (.s (.int .i64 20100))))), (some (8, true))⟩,
    ⟨(some 13), .pick (.t 8) (.t 12) (.k (.w (.d (.s (.bool false))))), none⟩])
  (.cond (.t 13)
    (.seq (.reg [⟨(some 14), .fa 2 (.t 2), none⟩,
      ⟨(some 15), .ld false 1 (.t 14), none⟩,
      ⟨(some 16), .fa 2 (.t 3), none⟩,
      ⟨(some 17), .ld false 1 (.t 16), none⟩,
      ⟨(some 18), .bsl 1 1 [(.s (.int .u8 0))] [(0, (.t 17))], none⟩,
      ⟨(some 19), .app 1 1 [(.s (.int .u8 0))] (.t 15) (.t 18), none⟩,
      ⟨(some 20), .fa 2 (.t 2), none⟩,
      ⟨none, .st 1 (.t 20) (.t 19), none⟩])
    (.seq (.reg [⟨(some 21), .ld true 3 (.t 2), none⟩,
      ⟨none, .st 3 (.t 4) (.t 21), none⟩])
    .ret))
    .skip))
  (.seq (.seq (.reg [⟨(some 22), .fa 0 (.t 3), none⟩,
    ⟨(some 23), .ld false 1 (.t 22), none⟩,
    ⟨(some 24), .bin .eql .one (.t 23) (.k (.w (.d (.s (.int .i64 4))))), none⟩])
  (.cond (.t 24)
    (.seq (.reg [⟨(some 25), .ld true 3 (.t 2), none⟩,
      ⟨none, .st 3 (.t 4) (.t 25), none⟩])
    .ret)
    .skip))
  (.seq (.reg [⟨(some 26), .ld true 3 (.t 2), none⟩,
    ⟨(some 27), .ld true 3 (.t 3), none⟩,
    ⟨(some 28), .call (.k (.w (.fn 74 []))) [(.t 26), (.t 27)], none⟩,
    ⟨none, .st 3 (.t 4) (.t 28), none⟩])
  .ret))))⟩

/- loop.example/stile/laws.szHoldSlot -/
def F72 : Fn := ⟨12, [.tmp 4],
  (.seq (.reg [⟨(some 2), .box 3 (.t 0), none⟩,
    ⟨(some 4), .mv (.k (.w (.d (.s (.int .i64 0))))), none⟩])
  (.seq (.reg [⟨(some 5), .fa 2 (.t 2), none⟩,
    ⟨(some 6), .ld false 1 (.t 5), none⟩,
    ⟨(some 7), .mv (.t 1), none⟩,
    ⟨(some 8), .call (.k (.w (.fn 87 []))) [(.t 6), (.t 7)], none⟩,
    ⟨(some 1), .mv (.t 8), none⟩])
  (.seq (.seq (.reg [⟨(some 9), .mv (.t 1), none⟩,
    ⟨(some 10), .bin .lss .one (.t 9) (.k (.w (.d (.s (.int .i64 0))))), none⟩])
  (.cond (.t 10)
    (.seq (.reg [⟨(some 4), .mv (.k (.w (.d (.s (.int .i64 (-1)))))), none⟩])
    .ret)
    .skip))
  (.seq (.reg [⟨(some 11), .mv (.t 1), none⟩,
    ⟨(some 4), .mv (.t 11), none⟩])
  .ret))))⟩

/- loop.example/stile/laws.toHoldSlot -/
def F73 : Fn := ⟨15, [.cell 2 true 3],
  (.seq (.reg [⟨(some 1), .box 3 (.t 0), none⟩,
    ⟨(some 2), .new [(.d (.s (.int .u8 0))), (.d (.s (.int .u8 0))), .nil], none⟩])
  (.seq (.reg [⟨(some 3), .new [(.d (.s (.int .u8 0))), (.d (.s (.int .u8 0))), .nil], none⟩])
  (.seq (.reg [⟨(some 4), .fa 0 (.t 1), none⟩,
    ⟨(some 5), .ld false 1 (.t 4), none⟩,
    ⟨(some 6), .fa 0 (.t 3), none⟩,
    ⟨none, .st 1 (.t 6) (.t 5), none⟩])
  (.seq (.reg [⟨(some 7), .fa 1 (.t 1), none⟩,
    ⟨(some 8), .ld false 1 (.t 7), none⟩,
    ⟨(some 9), .fa 1 (.t 3), none⟩,
    ⟨none, .st 1 (.t 9) (.t 8), none⟩])
  (.seq (.reg [⟨(some 10), .fa 2 (.t 1), none⟩,
    ⟨(some 11), .ld false 1 (.t 10), none⟩,
    ⟨(some 12), .call (.k (.w (.fn 88 []))) [(.t 11)], none⟩,
    ⟨(some 13), .fa 2 (.t 3), none⟩,
    ⟨none, .st 1 (.t 13) (.t 12), none⟩])
  (.seq (.reg [⟨(some 14), .ld true 3 (.t 3), none⟩,
    ⟨none, .st 3 (.t 2) (.t 14), none⟩])
  .ret))))))⟩

/- loop.example/stile/spec.l18Into -/
def F74 : Fn := ⟨35, [.cell 4 true 3],
  (.seq (.reg [⟨(some 2), .box 3 (.t 0), none⟩,
    ⟨(some 3), .box 3 (.t 1), none⟩,
    ⟨(some 4), .new [(.d (.s (.int .u8 0))), (.d (.s (.int .u8 0))), .nil], none⟩])
  (.seq (.seq (.reg [⟨(some 5), .fa 0 (.t 3), none⟩,
    ⟨(some 6), .ld false 1 (.t 5), none⟩])
  (.block 0
    (.seq (.reg [⟨(some 8), .bin .eql .one (.t 6) (.k (.w (.d (.s (.int .i64 1))))), none⟩,
      ⟨(some 7), .mv (.t 8), none⟩])
    (.cond (.t 7)
      (.reg [⟨(some 9), .fa 2 (.t 3), none⟩,
        ⟨(some 10), .ld false 1 (.t 9), none⟩,
        ⟨(some 11), .fa 0 (.t 2), none⟩,
        ⟨none, .st 1 (.t 11) (.t 10), none⟩])
      (.seq (.reg [⟨(some 13), .bin .eql .one (.t 6) (.k (.w (.d (.s (.int .i64 2))))), none⟩,
        ⟨(some 12), .mv (.t 13), none⟩])
      (.cond (.t 12)
        (.reg [⟨(some 14), .fa 2 (.t 3), none⟩,
          ⟨(some 15), .ld false 1 (.t 14), none⟩,
          ⟨(some 16), .fa 1 (.t 2), none⟩,
          ⟨none, .st 1 (.t 16) (.t 15), none⟩])
        (.seq (.reg [⟨(some 18), .bin .eql .one (.t 6) (.k (.w (.d (.s (.int .i64 3))))), none⟩,
          ⟨(some 17), .mv (.t 18), none⟩])
        (.cond (.t 17)
          (.reg [⟨(some 19), .fa 2 (.t 2), none⟩,
            ⟨none, .st 1 (.t 19) (.k (.w .nil)), none⟩])
          (.seq (.reg [⟨(some 21), .bin .eql .one (.t 6) (.k (.w (.d (.s (.int .i64 4))))), none⟩,
            ⟨(some 20), .mv (.t 21), none⟩])
          (.cond (.t 20)
            (.seq (.reg [⟨(some 22), .fa 2 (.t 2), none⟩,
              ⟨(some 23), .ld false 1 (.t 22), none⟩,
              ⟨(some 24), .lenl (.t 23), none⟩,
              ⟨(some 25), .bin .lss .one (.t 24) (.k (.w (.d (.s (.int .i64 20100))))), none⟩])
            (.cond (.t 25)
              (.dreg [⟨(some 26), .fa 2 (.t 2), none⟩,
                ⟨(some 27), .ld false 1 (.t 26), none⟩,
                ⟨(some 28), .call (.k (.w (.fn 85 []))) [(.t 27)], none⟩,
                ⟨(some 29), .fa 2 (.t 3), none⟩,
                ⟨(some 30), .ld false 1 (.t 29), none⟩,
                ⟨(some 31), .bsl 1 1 [(.s (.int .u8 0))] [(0, (.t 30))], none⟩,
                ⟨(some 32), .app 1 1 [(.s (.int .u8 0))] (.t 28) (.t 31), none⟩,
                ⟨(some 33), .fa 2 (.t 2), none⟩,
                ⟨none, .st 1 (.t 33) (.t 32), none⟩] [0, 1, 3, 0, 8, 24, 63, 127, 255])
              .skip))
            .skip))))))))))
  (.seq (.reg [⟨(some 34), .ld true 3 (.t 2), none⟩,
    ⟨none, .st 3 (.t 4) (.t 34), none⟩])
  .ret)))⟩

/- loop.example/stile/laws.eqHoldSlot -/
def F75 : Fn := ⟨21, [.tmp 4],
  (.seq (.reg [⟨(some 2), .box 3 (.t 0), none⟩,
    ⟨(some 3), .box 3 (.t 1), none⟩,
    ⟨(some 4), .mv (.k (.w (.d (.s (.bool false))))), none⟩])
  (.seq (.seq (.reg [⟨(some 5), .fa 0 (.t 2), none⟩,
    ⟨(some 6), .ld false 1 (.t 5), none⟩,
    ⟨(some 7), .fa 0 (.t 3), none⟩,
    ⟨(some 8), .ld false 1 (.t 7), none⟩,
    ⟨(some 9), .bin .neq .one (.t 6) (.t 8), none⟩])
  (.cond (.t 9)
    (.seq (.reg [⟨(some 4), .mv (.k (.w (.d (.s (.bool false))))), none⟩])
    .ret)
    .skip))
  (.seq (.seq (.reg [⟨(some 10), .fa 1 (.t 2), none⟩,
    ⟨(some 11), .ld false 1 (.t 10), none⟩,
    ⟨(some 12), .fa 1 (.t 3), none⟩,
    ⟨(some 13), .ld false 1 (.t 12), none⟩,
    ⟨(some 14), .bin .neq .one (.t 11) (.t 13), none⟩])
  (.cond (.t 14)
    (.seq (.reg [⟨(some 4), .mv (.k (.w (.d (.s (.bool false))))), none⟩])
    .ret)
    .skip))
  (.seq (.seq (.reg [⟨(some 15), .fa 2 (.t 2), none⟩,
    ⟨(some 16), .ld false 1 (.t 15), none⟩,
    ⟨(some 17), .fa 2 (.t 3), none⟩,
    ⟨(some 18), .ld false 1 (.t 17), none⟩,
    ⟨(some 19), .call (.k (.w (.fn 80 []))) [(.t 16), (.t 18)], none⟩,
    ⟨(some 20), .un .not (.t 19), none⟩])
  (.cond (.t 20)
    (.seq (.reg [⟨(some 4), .mv (.k (.w (.d (.s (.bool false))))), none⟩])
    .ret)
    .skip))
  (.seq (.reg [⟨(some 4), .mv (.k (.w (.d (.s (.bool true))))), none⟩])
  .ret)))))⟩

/- loop.example/stile/laws.markHoldSlot -/
def F76 : Fn := ⟨10, [.tmp 4],
  (.seq (.reg [⟨(some 2), .box 3 (.t 0), none⟩,
    ⟨(some 4), .mv (.k (.w (.d (.s (.int .i64 0))))), none⟩])
  (.seq (.reg [⟨(some 5), .fa 2 (.t 2), none⟩,
    ⟨(some 6), .ld false 1 (.t 5), none⟩,
    ⟨(some 7), .mv (.t 1), none⟩,
    ⟨(some 8), .call (.k (.w (.fn 81 []))) [(.t 6), (.t 7)], none⟩,
    ⟨(some 1), .mv (.t 8), none⟩])
  (.seq (.reg [⟨(some 9), .mv (.t 1), none⟩,
    ⟨(some 4), .mv (.t 9), none⟩])
  .ret)))⟩

/- loop.example/stile/laws.heldHoldSlot -/
def F77 : Fn := ⟨12, [.tmp 4],
  (.seq (.reg [⟨(some 2), .box 3 (.t 0), none⟩,
    ⟨(some 4), .mv (.k (.w (.d (.s (.int .i64 0))))), none⟩])
  (.seq (.reg [⟨(some 5), .fa 2 (.t 2), none⟩,
    ⟨(some 6), .ld false 1 (.t 5), none⟩,
    ⟨(some 7), .mv (.t 1), none⟩,
    ⟨(some 8), .call (.k (.w (.fn 82 []))) [(.t 6), (.t 7)], none⟩,
    ⟨(some 1), .mv (.t 8), none⟩])
  (.seq (.seq (.reg [⟨(some 9), .mv (.t 1), none⟩,
    ⟨(some 10), .bin .lss .one (.t 9) (.k (.w (.d (.s (.int .i64 0))))), none⟩])
  (.cond (.t 10)
    (.seq (.reg [⟨(some 4), .mv (.k (.w (.d (.s (.int .i64 (-1)))))), none⟩])
    .ret)
    .skip))
  (.seq (.reg [⟨(some 11), .mv (.t 1), none⟩,
    ⟨(some 4), .mv (.t 11), none⟩])
  .ret))))⟩

/- loop.example/stile/spec.l20Piece -/
def F78 : Fn := ⟨29, [.cell 6 true 5],
  (.seq (.reg [⟨(some 6), .new [(.d (.s (.int .i64 0))), (.d (.s (.int .i64 0))), (.d (.s (.int .i64 0))), (.d (.s (.int .i64 0))), .nil], none⟩])
  (.seq (.reg [⟨(some 8), .mv (.t 2), none⟩,
    ⟨(some 9), .bin .add .one (.t 8) (.k (.w (.d (.s (.int .i64 1))))), none⟩,
    ⟨(some 10), .bin .mul .one (.t 9) (.k (.w (.d (.s (.int .i64 24))))), none⟩,
    ⟨(some 7), .mv (.t 10), none⟩])
  (.seq (.seq (.reg [⟨(some 11), .mv (.t 7), none⟩,
    ⟨(some 12), .mv (.t 1), none⟩,
    ⟨(some 13), .lenl (.t 12), none⟩,
    ⟨(some 14), .bin .gtr .one (.t 11) (.t 13), none⟩])
  (.cond (.t 14)
    (.reg [⟨(some 15), .mv (.t 1), none⟩,
      ⟨(some 16), .lenl (.t 15), none⟩,
      ⟨(some 7), .mv (.t 16), none⟩])
    .skip))
  (.seq (.dreg [⟨(some 17), .mv (.t 0), none⟩,
    ⟨(some 18), .mv (.t 1), none⟩,
    ⟨(some 19), .call (.k (.w (.fn 59 []))) [(.t 18)], none⟩,
    ⟨(some 20), .mv (.t 2), none⟩,
    ⟨(some 21), .bsl 1 0 [(.s (.int .u8 0))] [], none⟩,
    ⟨(some 22), .mv (.t 1), none⟩,
    ⟨(some 23), .mv (.t 2), none⟩,
    ⟨(some 24), .bin .mul .one (.t 23) (.k (.w (.d (.s (.int .i64 24))))), none⟩,
    ⟨(some 25), .mv (.t 7), none⟩,
    ⟨(some 26), .sl 1 (.t 22) (some (.t 24)) (some (.t 25)) none, none⟩,
    ⟨(some 27), .app 1 1 [(.s (.int .u8 0))] (.t 21) (.t 26), none⟩,
    ⟨(some 28), .bld [(.d (.s (.int .i64 0))), (.d (.s (.int .i64 0))), (.d (.s (.int .i64 0))), (.d (.s (.int .i64 0))), .nil] [(0, 1, (.k (.w (.d (.s (.int .i64 1)))))), (1, 1, (.t 17)), (2, 1, (.t 19)), (3, 1, (.t 20)), (4, 1, (.t 27))], none⟩,
    ⟨none, .st 5 (.t 6) (.t 28), none⟩] [0, 0, 2, 0, 0, 0, 0, 64, 0, 480, 1014, 2047, 4095])
  .ret))))⟩

/- (*loop.example/stile/impl.Desk).say -/
def F79 : Fn := ⟨35, [.cell 2 true 5, .tmp 3],
  (.seq (.reg [⟨(some 2), .new [(.d (.s (.int .i64 0))), (.d (.s (.int .i64 0))), (.d (.s (.int .i64 0))), (.d (.s (.int .i64 0))), .nil], none⟩,
    ⟨(some 3), .mv (.k (.w (.d (.s (.bool false))))), none⟩])
  (.seq (.reg [⟨(some 6), .mv (.t 0), none⟩,
    ⟨(some 7), .nc (.t 6), none⟩,
    ⟨(some 8), .fa 1 (.t 7), none⟩,
    ⟨(some 9), .ld true 4 (.t 8), none⟩,
    ⟨(some 4), .new [(.d (.s (.int .i64 0))), .nil, (.d (.s (.int .i64 0))), (.d (.s (.int .i64 0)))], none⟩,
    ⟨none, .st 4 (.t 4) (.t 9), none⟩])
  (.seq (.seq (.reg [⟨(some 10), .fa 3 (.t 4), none⟩,
    ⟨(some 11), .ld false 1 (.t 10), none⟩,
    ⟨(some 12), .bin .neq .one (.t 11) (.k (.w (.d (.s (.int .i64 1))))), none⟩])
  (.cond (.t 12)
    (.seq (.reg [⟨(some 13), .bld [(.d (.s (.int .i64 0))), (.d (.s (.int .i64 0))), (.d (.s (.int .i64 0))), (.d (.s (.int .i64 0))), .nil] [], none⟩,
      ⟨none, .st 5 (.t 2) (.t 13), none⟩,
      ⟨(some 3), .mv (.k (.w (.d (.s (.bool false))))), none⟩])
    .ret)
    .skip))
  (.seq (.reg [⟨(some 14), .fa 1 (.t 4), none⟩,
    ⟨(some 15), .ld false 1 (.t 14), none⟩,
    ⟨(some 16), .call (.k (.w (.fn 61 []))) [(.t 15)], none⟩,
    ⟨(some 5), .mv (.t 16), none⟩])
  (.seq (.seq (.reg [⟨(some 17), .fa 2 (.t 4), none⟩,
    ⟨(some 18), .ld false 1 (.t 17), none⟩,
    ⟨(some 19), .mv (.t 5), none⟩,
    ⟨(some 20), .bin .eql .one (.t 18) (.t 19), none⟩])
  (.cond (.t 20)
    (.seq (.reg [⟨(some 21), .fa 0 (.t 4), none⟩,
      ⟨(some 22), .ld false 1 (.t 21), none⟩,
      ⟨(some 23), .bld [(.d (.s (.int .i64 0))), (.d (.s (.int .i64 0))), (.d (.s (.int .i64 0))), (.d (.s (.int .i64 0))), .nil] [(0, 1, (.k (.w (.d (.s (.int .i64 2)))))), (1, 1, (.t 22))], none⟩,
      ⟨none, .st 5 (.t 2) (.t 23), none⟩,
      ⟨(some 3), .mv (.k (.w (.d (.s (.bool true))))), none⟩])
    .ret)
    .skip))
  (.seq (.dreg [⟨(some 24), .fa 0 (.t 4), none⟩,
    ⟨(some 25), .ld false 1 (.t 24), none⟩,
    ⟨(some 26), .mv (.t 5), none⟩,
    ⟨(some 27), .fa 2 (.t 4), none⟩,
    ⟨(some 28), .ld false 1 (.t 27), none⟩,
    ⟨(some 29), .fa 1 (.t 4), none⟩,
    ⟨(some 30), .ld false 1 (.t 29), none⟩,
    ⟨(some 31), .fa 2 (.t 4), none⟩,
    ⟨(some 32), .ld false 1 (.t 31), none⟩,
    ⟨(some 33), .call (.k (.w (.fn 97 []))) [(.t 30), (.t 32)], none⟩,
    ⟨(some 34), .bld [(.d (.s (.int .i64 0))), (.d (.s (.int .i64 0))), (.d (.s (.int .i64 0))), (.d (.s (.int .i64 0))), .nil] [(0, 1, (.k (.w (.d (.s (.int .i64 1)))))), (1, 1, (.t 25)), (2, 1, (.t 26)), (3, 1, (.t 28)), (4, 1, (.t 33))], none⟩,
    ⟨none, .st 5 (.t 2) (.t 34), none⟩,
    ⟨(some 3), .mv (.k (.w (.d (.s (.bool true))))), none⟩] [0, 1, 0, 0, 8, 0, 32, 0, 128, 480, 1023, 2047, 4095])
  .ret))))))⟩

/- loop.example/stile/laws.eqByteS -/
def F80_B0 : C :=
  (.seq (.seq (.reg [⟨(some 11), .mv (.t 5), none⟩,
    ⟨(some 12), .mv (.t 0), none⟩,
    ⟨(some 13), .lenl (.t 12), none⟩,
    ⟨(some 14), .bin .lss .one (.t 11) (.t 13), none⟩])
  (.cond (.t 14)
    .skip
    (.exit 0)))
  (.seq (.block 1
    (.seq (.dreg [⟨(some 17), .mv (.t 0), none⟩,
      ⟨(some 18), .mv (.t 5), none⟩,
      ⟨(some 19), .ia 1 (.t 17) (.t 18), none⟩,
      ⟨(some 20), .ld false 1 (.t 19), none⟩,
      ⟨(some 21), .mv (.t 1), none⟩,
      ⟨(some 22), .mv (.t 5), none⟩,
      ⟨(some 23), .ia 1 (.t 21) (.t 22), none⟩,
      ⟨(some 24), .ld false 1 (.t 23), none⟩,
      ⟨(some 25), .bin .neq .one (.t 20) (.t 24), none⟩] [0, 0, 3, 7, 0, 0, 48, 112, 255])
    (.cond (.t 25)
      (.seq (.reg [⟨(some 4), .mv (.k (.w (.d (.s (.bool false))))), none⟩])
      .ret)
      .skip)))
  (.reg [⟨(some 15), .mv (.t 5), none⟩,
    ⟨(some 16), .bin .add .one (.t 15) (.k (.w (.d (.s (.int .i64 1))))), none⟩,
    ⟨(some 5), .mv (.t 16), none⟩])))
def F80_L0 : C := .loop F80_B0
def F80 : Fn := ⟨26, [.tmp 4],
  (.seq (.reg [⟨(some 4), .mv (.k (.w (.d (.s (.bool false))))), none⟩])
  (.seq (.seq (.reg [⟨(some 6), .mv (.t 0), none⟩,
    ⟨(some 7), .lenl (.t 6), none⟩,
    ⟨(some 8), .mv (.t 1), none⟩,
    ⟨(some 9), .lenl (.t 8), none⟩,
    ⟨(some 10), .bin .neq .one (.t 7) (.t 9), none⟩])
  (.cond (.t 10)
    (.seq (.reg [⟨(some 4), .mv (.k (.w (.d (.s (.bool false))))), none⟩])
    .ret)
    .skip))
  (.seq (.seq (.reg [⟨(some 5), .mv (.k (.w (.d (.s (.int .i64 0))))), none⟩])
  (.block 0
    F80_L0))
  (.seq (.reg [⟨(some 4), .mv (.k (.w (.d (.s (.bool true))))), none⟩])
  .ret))))⟩

/- loop.example/stile/laws.markByteS -/
def F81_B0 : C :=
  (.seq (.seq (.reg [⟨(some 6), .mv (.t 5), none⟩,
    ⟨(some 7), .mv (.t 0), none⟩,
    ⟨(some 8), .lenl (.t 7), none⟩,
    ⟨(some 9), .bin .lss .one (.t 6) (.t 8), none⟩])
  (.cond (.t 9)
    .skip
    (.exit 0)))
  (.seq (.block 1
    (.seq (.reg [⟨(some 12), .mv (.t 0), none⟩,
      ⟨(some 13), .mv (.t 5), none⟩,
      ⟨(some 14), .mv (.t 1), none⟩,
      ⟨(some 15), .cvi .u8 (.t 14), none⟩,
      ⟨(some 16), .ia 1 (.t 12) (.t 13), none⟩,
      ⟨none, .st 1 (.t 16) (.t 15), none⟩])
    (.reg [⟨(some 17), .mv (.t 1), none⟩,
      ⟨(some 18), .bin .add .one (.t 17) (.k (.w (.d (.s (.int .i64 1))))), none⟩,
      ⟨(some 1), .mv (.t 18), none⟩])))
  (.reg [⟨(some 10), .mv (.t 5), none⟩,
    ⟨(some 11), .bin .add .one (.t 10) (.k (.w (.d (.s (.int .i64 1))))), none⟩,
    ⟨(some 5), .mv (.t 11), none⟩])))
def F81_L0 : C := .loop F81_B0
def F81 : Fn := ⟨20, [.tmp 4],
  (.seq (.reg [⟨(some 4), .mv (.k (.w (.d (.s (.int .i64 0))))), none⟩])
  (.seq (.seq (.reg [⟨(some 5), .mv (.k (.w (.d (.s (.int .i64 0))))), none⟩])
  (.block 0
    F81_L0))
  (.seq (.reg [⟨(some 19), .mv (.t 1), none⟩,
    ⟨(some 4), .mv (.t 19), none⟩])
  .ret)))⟩

/- loop.example/stile/laws.heldByteS -/
def F82_B0 : C :=
  (.seq (.seq (.reg [⟨(some 6), .mv (.t 5), none⟩,
    ⟨(some 7), .mv (.t 0), none⟩,
    ⟨(some 8), .lenl (.t 7), none⟩,
    ⟨(some 9), .bin .lss .one (.t 6) (.t 8), none⟩])
  (.cond (.t 9)
    .skip
    (.exit 0)))
  (.seq (.block 1
    (.seq (.seq (.reg [⟨(some 12), .mv (.t 0), none⟩,
      ⟨(some 13), .mv (.t 5), none⟩,
      ⟨(some 14), .ia 1 (.t 12) (.t 13), none⟩,
      ⟨(some 15), .ld false 1 (.t 14), none⟩,
      ⟨(some 16), .mv (.t 1), none⟩,
      ⟨(some 17), .cvi .u8 (.t 16), none⟩,
      ⟨(some 18), .bin .neq .one (.t 15) (.t 17), none⟩])
    (.cond (.t 18)
      (.seq (.reg [⟨(some 4), .mv (.k (.w (.d (.s (.int .i64 (-1)))))), none⟩])
      .ret)
      .skip))
    (.reg [⟨(some 19), .mv (.t 1), none⟩,
      ⟨(some 20), .bin .add .one (.t 19) (.k (.w (.d (.s (.int .i64 1))))), none⟩,
      ⟨(some 1), .mv (.t 20), none⟩])))
  (.reg [⟨(some 10), .mv (.t 5), none⟩,
    ⟨(some 11), .bin .add .one (.t 10) (.k (.w (.d (.s (.int .i64 1))))), none⟩,
    ⟨(some 5), .mv (.t 11), none⟩])))
def F82_L0 : C := .loop F82_B0
def F82 : Fn := ⟨22, [.tmp 4],
  (.seq (.reg [⟨(some 4), .mv (.k (.w (.d (.s (.int .i64 0))))), none⟩])
  (.seq (.seq (.reg [⟨(some 5), .mv (.k (.w (.d (.s (.int .i64 0))))), none⟩])
  (.block 0
    F82_L0))
  (.seq (.reg [⟨(some 21), .mv (.t 1), none⟩,
    ⟨(some 4), .mv (.t 21), none⟩])
  .ret)))⟩

/- loop.example/stile/spec.l18Good -/
def F83 : Fn := ⟨17, [.tmp 2],
  (.seq (.reg [⟨(some 1), .box 3 (.t 0), none⟩,
    ⟨(some 2), .mv (.k (.w (.d (.s (.bool false))))), none⟩])
  (.seq (.reg [⟨(some 3), .fa 0 (.t 1), none⟩,
    ⟨(some 4), .ld false 1 (.t 3), none⟩,
    ⟨(some 5), .bin .eql .one (.t 4) (.k (.w (.d (.s (.int .u8 165))))), none⟩,
    ⟨(some 6), .mv (.t 5), none⟩,
    ⟨(some 7), .fa 1 (.t 1), (some (6, true))⟩,
    ⟨(some 8), .ld false 1 (.t 7), (some (6, true))⟩,
    ⟨(some 9), .bin .leq .one (.t 8) (.k (.w (.d (.s (.int .u8 2))))), (some (6, true))⟩,
    ⟨(some 10), .pick (.t 6) (.t 9) (.k (.w (.d (.s (.bool false))))), none⟩,
    ⟨(some 11), .mv (.t 10), none⟩,
    ⟨(some 12), .fa 2 (.t 1), (some (11, true))⟩,
    ⟨(some 13), .ld false 1 (.t 12), (some (11, true))⟩,
    ⟨(some 14), .lenl (.t 13), (some (11, true))⟩,
    ⟨(some 15), .bin .leq .one (.t 14) (.k (.w (.d (.s (.int .i64 20100))))), (some (11, true))⟩,
    ⟨(some 16), .pick (.t 11) (.t 15) (.k (.w (.d (.s (.bool false))))), none⟩,
    ⟨(some 2), .mv (.t 16), none⟩])
  .ret))⟩

/- (loop.example/stile/impl.HoldSlot).good -/
def F84 : Fn := ⟨17, [.tmp 2],
  (.seq (.reg [⟨(some 1), .box 3 (.t 0), none⟩,
    ⟨(some 2), .mv (.k (.w (.d (.s (.bool false))))), none⟩])
  (.seq (.reg [⟨(some 3), .fa 0 (.t 1), none⟩,
    ⟨(some 4), .ld false 1 (.t 3), none⟩,
    ⟨(some 5), .bin .eql .one (.t 4) (.k (.w (.d (.s (.int .u8 165))))), none⟩,
    ⟨(some 6), .mv (.t 5), none⟩,
    ⟨(some 7), .fa 1 (.t 1), (some (6, true))⟩,
    ⟨(some 8), .ld false 1 (.t 7), (some (6, true))⟩,
    ⟨(some 9), .bin .leq .one (.t 8) (.k (.w (.d (.s (.int .u8 2))))), (some (6, true))⟩,
    ⟨(some 10), .pick (.t 6) (.t 9) (.k (.w (.d (.s (.bool false))))), none⟩,
    ⟨(some 11), .mv (.t 10), none⟩,
    ⟨(some 12), .fa 2 (.t 1), (some (11, true))⟩,
    ⟨(some 13), .ld false 1 (.t 12), (some (11, true))⟩,
    ⟨(some 14), .lenl (.t 13), (some (11, true))⟩,
    ⟨(some 15), .bin .leq .one (.t 14) (.k (.w (.d (.s (.int .i64 20100))))), (some (11, true))⟩,
    ⟨(some 16), .pick (.t 11) (.t 15) (.k (.w (.d (.s (.bool false))))), none⟩,
    ⟨(some 2), .mv (.t 16), none⟩])
  .ret))⟩

/- loop.example/stile/spec.l18Copy -/
def F85 : Fn := ⟨6, [.tmp 2],
  (.seq (.reg [⟨(some 2), .mv (.k (.w .nil)), none⟩])
  (.seq (.reg [⟨(some 3), .bsl 1 0 [(.s (.int .u8 0))] [], none⟩,
    ⟨(some 4), .mv (.t 0), none⟩,
    ⟨(some 5), .app 1 1 [(.s (.int .u8 0))] (.t 3) (.t 4), none⟩,
    ⟨(some 2), .mv (.t 5), none⟩])
  .ret))⟩

/- loop.example/stile/laws.eqHoldWrite -/
def F86 : Fn := ⟨20, [.tmp 4],
  (.seq (.reg [⟨(some 2), .box 3 (.t 0), none⟩,
    ⟨(some 3), .box 3 (.t 1), none⟩,
    ⟨(some 4), .mv (.k (.w (.d (.s (.bool false))))), none⟩])
  (.seq (.seq (.reg [⟨(some 5), .fa 0 (.t 2), none⟩,
    ⟨(some 6), .ld false 1 (.t 5), none⟩,
    ⟨(some 7), .fa 0 (.t 3), none⟩,
    ⟨(some 8), .ld false 1 (.t 7), none⟩,
    ⟨(some 9), .bin .neq .one (.t 6) (.t 8), none⟩])
  (.cond (.t 9)
    (.seq (.reg [⟨(some 4), .mv (.k (.w (.d (.s (.bool false))))), none⟩])
    .ret)
    .skip))
  (.seq (.seq (.reg [⟨(some 10), .fa 1 (.t 2), none⟩,
    ⟨(some 11), .ld false 1 (.t 10), none⟩,
    ⟨(some 12), .fa 1 (.t 3), none⟩,
    ⟨(some 13), .ld false 1 (.t 12), none⟩,
    ⟨(some 14), .bin .neq .one (.t 11) (.t 13), none⟩])
  (.cond (.t 14)
    (.seq (.reg [⟨(some 4), .mv (.k (.w (.d (.s (.bool false))))), none⟩])
    .ret)
    .skip))
  (.seq (.seq (.reg [⟨(some 15), .fa 2 (.t 2), none⟩,
    ⟨(some 16), .ld false 1 (.t 15), none⟩,
    ⟨(some 17), .fa 2 (.t 3), none⟩,
    ⟨(some 18), .ld false 1 (.t 17), none⟩,
    ⟨(some 19), .bin .neq .one (.t 16) (.t 18), none⟩])
  (.cond (.t 19)
    (.seq (.reg [⟨(some 4), .mv (.k (.w (.d (.s (.bool false))))), none⟩])
    .ret)
    .skip))
  (.seq (.reg [⟨(some 4), .mv (.k (.w (.d (.s (.bool true))))), none⟩])
  .ret)))))⟩

/- loop.example/stile/laws.szByteS -/
def F87 : Fn := ⟨12, [.tmp 4],
  (.seq (.reg [⟨(some 4), .mv (.k (.w (.d (.s (.int .i64 0))))), none⟩])
  (.seq (.reg [⟨(some 5), .mv (.t 1), none⟩,
    ⟨(some 6), .mv (.t 0), none⟩,
    ⟨(some 7), .lenl (.t 6), none⟩,
    ⟨(some 8), .bin .sub .one (.t 5) (.t 7), none⟩,
    ⟨(some 1), .mv (.t 8), none⟩])
  (.seq (.seq (.reg [⟨(some 9), .mv (.t 1), none⟩,
    ⟨(some 10), .bin .lss .one (.t 9) (.k (.w (.d (.s (.int .i64 0))))), none⟩])
  (.cond (.t 10)
    (.seq (.reg [⟨(some 4), .mv (.k (.w (.d (.s (.int .i64 (-1)))))), none⟩])
    .ret)
    .skip))
  (.seq (.reg [⟨(some 11), .mv (.t 1), none⟩,
    ⟨(some 4), .mv (.t 11), none⟩])
  .ret))))⟩

/- loop.example/stile/laws.toByteS -/
def F88_B0 : C :=
  (.seq (.seq (.reg [⟨(some 8), .mv (.t 4), none⟩,
    ⟨(some 9), .mv (.t 0), none⟩,
    ⟨(some 10), .lenl (.t 9), none⟩,
    ⟨(some 11), .bin .lss .one (.t 8) (.t 10), none⟩])
  (.cond (.t 11)
    .skip
    (.exit 0)))
  (.seq (.block 1
    (.reg [⟨(some 14), .mv (.t 3), none⟩,
      ⟨(some 15), .mv (.t 4), none⟩,
      ⟨(some 16), .mv (.t 0), none⟩,
      ⟨(some 17), .mv (.t 4), none⟩,
      ⟨(some 18), .ia 1 (.t 16) (.t 17), none⟩,
      ⟨(some 19), .ld false 1 (.t 18), none⟩,
      ⟨(some 20), .ia 1 (.t 14) (.t 15), none⟩,
      ⟨none, .st 1 (.t 20) (.t 19), none⟩]))
  (.reg [⟨(some 12), .mv (.t 4), none⟩,
    ⟨(some 13), .bin .add .one (.t 12) (.k (.w (.d (.s (.int .i64 1))))), none⟩,
    ⟨(some 4), .mv (.t 13), none⟩])))
def F88_L0 : C := .loop F88_B0
def F88 : Fn := ⟨22, [.tmp 2],
  (.seq (.reg [⟨(some 2), .mv (.k (.w .nil)), none⟩])
  (.seq (.reg [⟨(some 5), .mv (.t 0), none⟩,
    ⟨(some 6), .lenl (.t 5), none⟩,
    ⟨(some 7), .msl 1 1 [(.s (.int .u8 0))] (.t 6) (.t 6), none⟩,
    ⟨(some 3), .mv (.t 7), none⟩])
  (.seq (.seq (.reg [⟨(some 4), .mv (.k (.w (.d (.s (.int .i64 0))))), none⟩])
  (.block 0
    F88_L0))
  (.seq (.reg [⟨(some 21), .mv (.t 3), none⟩,
    ⟨(some 2), .mv (.t 21), none⟩])
  .ret))))⟩

/- loop.example/stile/spec.l22Copy -/
def F89 : Fn := ⟨10, [.cell 2 true 5],
  (.seq (.reg [⟨(some 1), .box 5 (.t 0), none⟩,
    ⟨(some 2), .new [(.d (.s (.int .i64 0))), (.d (.s (.int .i64 0))), .nil, (.d (.s (.int .i64 0))), (.d (.s (.int .i64 0)))], none⟩])
  (.seq (.reg [⟨(some 3), .fa 1 (.t 1), none⟩,
    ⟨(some 4), .fa 1 (.t 3), none⟩,
    ⟨(some 5), .ld false 1 (.t 4), none⟩,
    ⟨(some 6), .call (.k (.w (.fn 98 []))) [(.t 5)], none⟩,
    ⟨(some 7), .fa 1 (.t 1), none⟩,
    ⟨(some 8), .fa 1 (.t 7), none⟩,
    ⟨none, .st 1 (.t 8) (.t 6), none⟩])
  (.seq (.reg [⟨(some 9), .ld true 5 (.t 1), none⟩,
    ⟨none, .st 5 (.t 2) (.t 9), none⟩])
  .ret)))⟩

/- loop.example/stile/spec.WireOk -/
def F90 : Fn := ⟨53, [.tmp 2],
  (.seq (.reg [⟨(some 1), .box 5 (.t 0), none⟩,
    ⟨(some 2), .mv (.k (.w (.d (.s (.bool false))))), none⟩])
  (.seq (.seq (.reg [⟨(some 3), .fa 1 (.t 1), none⟩,
    ⟨(some 4), .ld false 1 (.t 3), none⟩,
    ⟨(some 5), .bin .lss .one (.t 4) (.k (.w (.d (.s (.int .i64 1))))), none⟩,
    ⟨(some 6), .mv (.t 5), none⟩,
    ⟨(some 7), .fa 1 (.t 1), (some (6, false))⟩,
    ⟨(some 8), .ld false 1 (.t 7), (some (6, false))⟩,
    ⟨(some 9), .bin .gtr .one (.t 8) (.k (.w (.d (.s (.int .i64 1000000))))), (some (6, false))⟩,
    ⟨(some 10), .pick (.t 6) (.k (.w (.d (.s (.bool true))))) (.t 9), none⟩])
  (.cond (.t 10)
    (.seq (.reg [⟨(some 2), .mv (.k (.w (.d (.s (.bool false))))), none⟩])
    .ret)
    .skip))
  (.seq (.seq (.reg [⟨(some 11), .fa 0 (.t 1), none⟩,
    ⟨(some 12), .ld false 1 (.t 11), none⟩,
    ⟨(some 13), .bin .eql .one (.t 12) (.k (.w (.d (.s (.int .i64 1))))), none⟩])
  (.cond (.t 13)
    (.seq (.reg [⟨(some 14), .ld true 5 (.t 1), none⟩,
      ⟨(some 15), .call (.k (.w (.fn 99 []))) [(.t 14)], none⟩,
      ⟨(some 2), .mv (.t 15), none⟩])
    .ret)
    .skip))
  (.seq (.seq (.reg [⟨(some 16), .fa 2 (.t 1), none⟩,
    ⟨(some 17), .ld false 1 (.t 16), none⟩,
    ⟨(some 18), .bin .neq .one (.t 17) (.k (.w (.d (.s (.int .i64 0))))), none⟩,
    ⟨(some 19), .mv (.t 18), none⟩,
    ⟨(some 20), .fa 4 (.t 1), (some (19, false))⟩,
    ⟨(some 21), .ld false 1 (.t 20), (some (19, false))⟩,
    ⟨(some 22), .lenl (.t 21), (some (19, false))⟩,
    ⟨(some 23), .bin .gtr .one (.t 22) (.k (.w (.d (.s (.int .i64 0))))), (some (19, false))⟩,
    ⟨(some 24), .pick (.t 19) (.k (.w (.d (.s (.bool true))))) (.t 23), none⟩,
    ⟨(some 25), .mv (.t 24), none⟩,
    ⟨(some 26), .fa 3 (.t 1), (some (25, false))⟩,
    ⟨(some 27), .ld false 1 (.t 26), (some (25, false))⟩,
    ⟨(some 28), .bin .lss .one (.t 27) (.k (.w (.d (.s (.int .i64 0))))), (some (25, false))⟩,
    ⟨(some 29), .pick (.t 25) (.k (.w (.d (.s (.bool true))))) (.t 28), none⟩,
    ⟨(some 30), .mv (.t 29), none⟩,
    ⟨(some 31), .fa 3 (.t 1), (some (30, false))⟩,
    ⟨(some 32), .ld false 1 (.t 31), (some (30, false))⟩,
    ⟨(some 33), .bin .gtr .one (.t 32) (.k (.w (.d (.s (.int .i64 900))))), (some (30, false))⟩,
    ⟨(some 34), .pick (.t 30) (.k (.w (.d (.s (.bool true))))) (.t 33), none⟩])
  (.cond (.t 34)
    (.seq (.reg [⟨(some 2), .mv (.k (.w (.d (.s (.bool false))))), none⟩])
    .ret)
    .skip))
  (.seq (.reg [⟨(some 35), .fa 0 (.t 1), none⟩,
    ⟨(some 36), .ld false 1 (.t 35), none⟩,
    ⟨(some 37), .bin .eql .one (.t 36) (.k (.w (.d (.s (.int .i64 3))))), none⟩,
    ⟨(some 38), .mv (.t 37), none⟩,
    ⟨(some 39), .fa 0 (.t 1), (some (38, false))⟩,
    ⟨(some 40), .ld false 1 (.t 39), (some (38, false))⟩,
    ⟨(some 41), .bin .geq .one (.t 40) (.k (.w (.d (.s (.int .i64 2))))), (some (38, false))⟩,
    ⟨(some 42), .mv (.t 41), (some (38, false))⟩,
    ⟨(some 43), .fa 0 (.t 1), (some (42, true))⟩,
    ⟨(some 44), .ld false 1 (.t 43), (some (42, true))⟩,
    ⟨(some 45), .bin .leq .one (.t 44) (.k (.w (.d (.s (.int .i64 5))))), (some (42, true))⟩,
    ⟨(some 46), .pick (.t 42) (.t 45) (.k (.w (.d (.s (.bool false))))), (some (38, false))⟩,
    ⟨(some 47), .mv (.t 46), (some (38, false))⟩,
    ⟨(some 48), .fa 3 (.t 1), (some (47, true))⟩,
    ⟨(some 49), .ld false 1 (.t 48), (some (47, true))⟩,
    ⟨(some 50), .bin .eql .one (.t 49) (.k (.w (.d (.s (.int .i64 0))))), (some (47, true))⟩,
    ⟨(some 51), .pick (.t 47) (.t 50) (.k (.w (.d (.s (.bool false))))), (some (38, false))⟩,
    ⟨(some 52), .pick (.t 38) (.k (.w (.d (.s (.bool true))))) (.t 51), none⟩,
    ⟨(some 2), .mv (.t 52), none⟩])
  .ret)))))⟩

/- (loop.example/stile/impl.Desk).copyOf -/
def F91 : Fn := ⟨10, [.cell 2 true 5],
  (.seq (.reg [⟨(some 1), .box 5 (.t 0), none⟩,
    ⟨(some 2), .new [(.d (.s (.int .i64 0))), (.d (.s (.int .i64 0))), .nil, (.d (.s (.int .i64 0))), (.d (.s (.int .i64 0)))], none⟩])
  (.seq (.reg [⟨(some 3), .fa 1 (.t 1), none⟩,
    ⟨(some 4), .fa 1 (.t 3), none⟩,
    ⟨(some 5), .ld false 1 (.t 4), none⟩,
    ⟨(some 6), .call (.k (.w (.fn 56 []))) [(.t 5)], none⟩,
    ⟨(some 7), .fa 1 (.t 1), none⟩,
    ⟨(some 8), .fa 1 (.t 7), none⟩,
    ⟨none, .st 1 (.t 8) (.t 6), none⟩])
  (.seq (.reg [⟨(some 9), .ld true 5 (.t 1), none⟩,
    ⟨none, .st 5 (.t 2) (.t 9), none⟩])
  .ret)))⟩

/- (*loop.example/stile/impl.Desk).hear -/
def F92 : Fn := ⟨54, [],
  (.seq (.reg [⟨(some 3), .box 5 (.t 1), none⟩])
  (.seq (.seq (.dreg [⟨(some 4), .ld true 5 (.t 3), none⟩,
    ⟨(some 5), .call (.k (.w (.fn 100 []))) [(.t 4)], none⟩,
    ⟨(some 6), .un .not (.t 5), none⟩,
    ⟨(some 7), .mv (.t 6), none⟩,
    ⟨(some 8), .fa 1 (.t 3), (some (7, false))⟩,
    ⟨(some 9), .ld false 1 (.t 8), (some (7, false))⟩,
    ⟨(some 10), .mv (.t 0), (some (7, false))⟩,
    ⟨(some 11), .nc (.t 10), (some (7, false))⟩,
    ⟨(some 12), .fa 1 (.t 11), (some (7, false))⟩,
    ⟨(some 13), .fa 0 (.t 12), (some (7, false))⟩,
    ⟨(some 14), .ld false 1 (.t 13), (some (7, false))⟩,
    ⟨(some 15), .bin .neq .one (.t 9) (.t 14), (some (7, false))⟩,
    ⟨(some 16), .pick (.t 7) (.k (.w (.d (.s (.bool true))))) (.t 15), none⟩,
    ⟨(some 17), .mv (.t 16), none⟩,
    ⟨(some 18), .mv (.t 0), (some (17, false))⟩,
    ⟨(some 19), .nc (.t 18), (some (17, false))⟩,
    ⟨(some 20), .fa 1 (.t 19), (some (17, false))⟩,
    ⟨(some 21), .fa 3 (.t 20), (some (17, false))⟩,
    ⟨(some 22), .ld false 1 (.t 21), (some (17, false))⟩,
    ⟨(some 23), .bin .neq .one (.t 22) (.k (.w (.d (.s (.int .i64 1))))), (some (17, false))⟩,
    ⟨(some 24), .pick (.t 17) (.k (.w (.d (.s (.bool true))))) (.t 23), none⟩] [0, 1, 3, 7, 15, 31, 15, 79, 207, 463, 975, 2047, 4095, 8191, 16383, 32767, 65535, 131071, 262143, 524287, 1048575])
  (.cond (.t 24)
    .ret
    .skip))
  (.seq (.reg [⟨(some 25), .fa 0 (.t 3), none⟩,
    ⟨(some 26), .ld false 1 (.t 25), none⟩])
  (.block 0
    (.seq (.reg [⟨(some 28), .bin .eql .one (.t 26) (.k (.w (.d (.s (.int .i64 3))))), none⟩,
      ⟨(some 27), .mv (.t 28), none⟩])
    (.cond (.t 27)
      (.dreg [⟨(some 29), .mv (.t 0), none⟩,
        ⟨(some 30), .fa 3 (.t 3), none⟩,
        ⟨(some 31), .ld false 1 (.t 30), none⟩,
        ⟨(some 32), .mv (.t 0), none⟩,
        ⟨(some 33), .nc (.t 32), none⟩,
        ⟨(some 34), .fa 1 (.t 33), none⟩,
        ⟨(some 35), .fa 1 (.t 34), none⟩,
        ⟨(some 36), .ld false 1 (.t 35), none⟩,
        ⟨(some 37), .call (.k (.w (.fn 61 []))) [(.t 36)], none⟩,
        ⟨(some 38), .mmx false [(.t 31), (.t 37)], none⟩,
        ⟨(some 39), .nc (.t 29), none⟩,
        ⟨(some 40), .fa 1 (.t 39), none⟩,
        ⟨(some 41), .fa 2 (.t 40), none⟩,
        ⟨none, .st 1 (.t 41) (.t 38), none⟩] [0, 0, 2, 0, 8, 24, 56, 120, 248, 510, 1023, 2047, 4095, 8191])
      (.seq (.reg [⟨(some 43), .bin .eql .one (.t 26) (.k (.w (.d (.s (.int .i64 4))))), none⟩,
        ⟨(some 42), .mv (.t 43), none⟩])
      (.cond (.t 42)
        (.reg [⟨(some 44), .mv (.t 0), none⟩,
          ⟨(some 45), .nc (.t 44), none⟩,
          ⟨(some 46), .fa 1 (.t 45), none⟩,
          ⟨(some 47), .fa 3 (.t 46), none⟩,
          ⟨none, .st 1 (.t 47) (.k (.w (.d (.s (.int .i64 2))))), none⟩])
        (.seq (.reg [⟨(some 49), .bin .eql .one (.t 26) (.k (.w (.d (.s (.int .i64 5))))), none⟩,
          ⟨(some 48), .mv (.t 49), none⟩])
        (.cond (.t 48)
          (.reg [⟨(some 50), .mv (.t 0), none⟩,
            ⟨(some 51), .nc (.t 50), none⟩,
            ⟨(some 52), .fa 1 (.t 51), none⟩,
            ⟨(some 53), .fa 3 (.t 52), none⟩,
            ⟨none, .st 1 (.t 53) (.k (.w (.d (.s (.int .i64 3))))), none⟩])
          .skip))))))))))⟩

/- slices.Clone[[]byte,byte] -/
def F93 : Fn := ⟨8, [.tmp 2],
  (.seq (.reg [⟨(some 2), .mv (.k (.w .nil)), none⟩])
  (.seq (.seq (.reg [⟨(some 3), .mv (.t 0), none⟩,
    ⟨(some 4), .bin .eql .sl (.t 3) (.k (.w .nil)), none⟩])
  (.cond (.t 4)
    (.seq (.reg [⟨(some 2), .mv (.k (.w .nil)), none⟩])
    .ret)
    .skip))
  (.seq (.reg [⟨(some 5), .bsl 1 0 [(.s (.int .u8 0))] [], none⟩,
    ⟨(some 6), .mv (.t 0), none⟩,
    ⟨(some 7), .app 1 1 [(.s (.int .u8 0))] (.t 5) (.t 6), none⟩,
    ⟨(some 2), .mv (.t 7), none⟩])
  .ret)))⟩

/- slices.Clip[[]byte,byte] -/
def F94 : Fn := ⟨9, [.tmp 2],
  (.seq (.reg [⟨(some 2), .mv (.k (.w .nil)), none⟩])
  (.seq (.reg [⟨(some 3), .mv (.t 0), none⟩,
    ⟨(some 4), .mv (.t 0), none⟩,
    ⟨(some 5), .lenl (.t 4), none⟩,
    ⟨(some 6), .mv (.t 0), none⟩,
    ⟨(some 7), .lenl (.t 6), none⟩,
    ⟨(some 8), .sl 1 (.t 3) none (some (.t 5)) (some (.t 7)), none⟩,
    ⟨(some 2), .mv (.t 8), none⟩])
  .ret))⟩

/- loop.example/stile/spec.l18Slot -/
def F95 : Fn := ⟨14, [.cell 2 true 3],
  (.seq (.reg [⟨(some 2), .new [(.d (.s (.int .u8 0))), (.d (.s (.int .u8 0))), .nil], none⟩])
  (.seq (.reg [⟨(some 3), .mv (.t 0), none⟩,
    ⟨(some 4), .bsl 1 5 [(.s (.int .i64 0))] [(0, (.k (.w (.d (.s (.int .i64 165)))))), (1, (.k (.w (.d (.s (.int .i64 165)))))), (2, (.k (.w (.d (.s (.int .i64 0)))))), (3, (.k (.w (.d (.s (.int .i64 164)))))), (4, (.k (.w (.d (.s (.int .i64 255))))))], none⟩,
    ⟨(some 5), .call (.k (.w (.fn 96 []))) [(.t 3), (.t 4)], none⟩,
    ⟨(some 6), .cvi .u8 (.t 5), none⟩,
    ⟨(some 7), .mv (.t 0), none⟩,
    ⟨(some 8), .bsl 1 6 [(.s (.int .i64 0))] [(0, (.k (.w (.d (.s (.int .i64 0)))))), (1, (.k (.w (.d (.s (.int .i64 1)))))), (2, (.k (.w (.d (.s (.int .i64 2)))))), (3, (.k (.w (.d (.s (.int .i64 2)))))), (4, (.k (.w (.d (.s (.int .i64 3)))))), (5, (.k (.w (.d (.s (.int .i64 255))))))], none⟩,
    ⟨(some 9), .call (.k (.w (.fn 96 []))) [(.t 7), (.t 8)], none⟩,
    ⟨(some 10), .cvi .u8 (.t 9), none⟩,
    ⟨(some 11), .mv (.t 0), none⟩,
    ⟨(some 12), .call (.k (.w (.fn 69 []))) [(.t 11)], none⟩,
    ⟨(some 13), .bld [(.d (.s (.int .u8 0))), (.d (.s (.int .u8 0))), .nil] [(0, 1, (.t 6)), (1, 1, (.t 10)), (2, 1, (.t 12))], none⟩,
    ⟨none, .st 3 (.t 2) (.t 13), none⟩])
  .ret))⟩

/- (*loop.example/stile/spec.l26Rd).num -/
def F96 : Fn := ⟨12, [.tmp 4],
  (.seq (.reg [⟨(some 4), .mv (.k (.w (.d (.s (.int .i64 0))))), none⟩])
  (.seq (.reg [⟨(some 5), .mv (.t 1), none⟩,
    ⟨(some 6), .mv (.t 0), none⟩,
    ⟨(some 7), .mv (.t 1), none⟩,
    ⟨(some 8), .lenl (.t 7), none⟩,
    ⟨(some 9), .call (.k (.w (.fn 67 []))) [(.t 6), (.t 8)], none⟩,
    ⟨(some 10), .ia 1 (.t 5) (.t 9), none⟩,
    ⟨(some 11), .ld false 1 (.t 10), none⟩,
    ⟨(some 4), .mv (.t 11), none⟩])
  .ret))⟩

/- loop.example/stile/impl.piece -/
def F97 : Fn := ⟨17, [.tmp 4],
  (.seq (.reg [⟨(some 4), .mv (.k (.w .nil)), none⟩])
  (.seq (.reg [⟨(some 6), .mv (.t 1), none⟩,
    ⟨(some 7), .bin .mul .one (.t 6) (.k (.w (.d (.s (.int .i64 24))))), none⟩,
    ⟨(some 5), .mv (.t 7), none⟩])
  (.seq (.reg [⟨(some 8), .mv (.t 0), none⟩,
    ⟨(some 9), .mv (.t 5), none⟩,
    ⟨(some 10), .mv (.t 0), none⟩,
    ⟨(some 11), .lenl (.t 10), none⟩,
    ⟨(some 12), .mv (.t 5), none⟩,
    ⟨(some 13), .bin .add .one (.t 12) (.k (.w (.d (.s (.int .i64 24))))), none⟩,
    ⟨(some 14), .mmx false [(.t 11), (.t 13)], none⟩,
    ⟨(some 15), .sl 1 (.t 8) (some (.t 9)) (some (.t 14)) none, none⟩,
    ⟨(some 16), .call (.k (.w (.fn 56 []))) [(.t 15)], none⟩,
    ⟨(some 4), .mv (.t 16), none⟩])
  .ret)))⟩

/- loop.example/stile/spec.l22Bytes -/
def F98 : Fn := ⟨6, [.tmp 2],
  (.seq (.reg [⟨(some 2), .mv (.k (.w .nil)), none⟩])
  (.seq (.reg [⟨(some 3), .bsl 1 0 [(.s (.int .u8 0))] [], none⟩,
    ⟨(some 4), .mv (.t 0), none⟩,
    ⟨(some 5), .app 1 1 [(.s (.int .u8 0))] (.t 3) (.t 4), none⟩,
    ⟨(some 2), .mv (.t 5), none⟩])
  .ret))⟩

/- loop.example/stile/spec.l20Chunk -/
def F99 : Fn := ⟨47, [.tmp 2],
  (.seq (.reg [⟨(some 1), .box 5 (.t 0), none⟩,
    ⟨(some 2), .mv (.k (.w (.d (.s (.bool false))))), none⟩])
  (.seq (.seq (.reg [⟨(some 3), .fa 2 (.t 1), none⟩,
    ⟨(some 4), .ld false 1 (.t 3), none⟩,
    ⟨(some 5), .bin .lss .one (.t 4) (.k (.w (.d (.s (.int .i64 1))))), none⟩,
    ⟨(some 6), .mv (.t 5), none⟩,
    ⟨(some 7), .fa 2 (.t 1), (some (6, false))⟩,
    ⟨(some 8), .ld false 1 (.t 7), (some (6, false))⟩,
    ⟨(some 9), .bin .gtr .one (.t 8) (.k (.w (.d (.s (.int .i64 900))))), (some (6, false))⟩,
    ⟨(some 10), .pick (.t 6) (.k (.w (.d (.s (.bool true))))) (.t 9), none⟩,
    ⟨(some 11), .mv (.t 10), none⟩,
    ⟨(some 12), .fa 3 (.t 1), (some (11, false))⟩,
    ⟨(some 13), .ld false 1 (.t 12), (some (11, false))⟩,
    ⟨(some 14), .bin .lss .one (.t 13) (.k (.w (.d (.s (.int .i64 0))))), (some (11, false))⟩,
    ⟨(some 15), .pick (.t 11) (.k (.w (.d (.s (.bool true))))) (.t 14), none⟩,
    ⟨(some 16), .mv (.t 15), none⟩,
    ⟨(some 17), .fa 3 (.t 1), (some (16, false))⟩,
    ⟨(some 18), .ld false 1 (.t 17), (some (16, false))⟩,
    ⟨(some 19), .fa 2 (.t 1), (some (16, false))⟩,
    ⟨(some 20), .ld false 1 (.t 19), (some (16, false))⟩,
    ⟨(some 21), .bin .geq .one (.t 18) (.t 20), (some (16, false))⟩,
    ⟨(some 22), .pick (.t 16) (.k (.w (.d (.s (.bool true))))) (.t 21), none⟩,
    ⟨(some 23), .mv (.t 22), none⟩,
    ⟨(some 24), .fa 4 (.t 1), (some (23, false))⟩,
    ⟨(some 25), .ld false 1 (.t 24), (some (23, false))⟩,
    ⟨(some 26), .lenl (.t 25), (some (23, false))⟩,
    ⟨(some 27), .bin .gtr .one (.t 26) (.k (.w (.d (.s (.int .i64 24))))), (some (23, false))⟩,
    ⟨(some 28), .pick (.t 23) (.k (.w (.d (.s (.bool true))))) (.t 27), none⟩])
  (.cond (.t 28)
    (.seq (.reg [⟨(some 2), .mv (.k (.w (.d (.s (.bool false))))), none⟩])
    .ret)
    .skip))
  (.seq (.reg [⟨(some 29), .fa 4 (.t 1), none⟩,
    ⟨(some 30), .ld false 1 (.t 29), none⟩,
    ⟨(some 31), .lenl (.t 30), none⟩,
    ⟨(some 32), .bin .eql .one (.t 31) (.k (.w (.d (.s (.int .i64 24))))), none⟩,
    ⟨(some 33), .mv (.t 32), none⟩,
    ⟨(some 34), .fa 3 (.t 1), (some (33, false))⟩,
    ⟨(some 35), .ld false 1 (.t 34), (some (33, false))⟩,
    ⟨(some 36), .fa 2 (.t 1), (some (33, false))⟩,
    ⟨(some 37), .ld false 1 (.t 36), (some (33, false))⟩,
    ⟨(some 38), .bin .sub .one (.t 37) (.k (.w (.d (.s (.int .i64 1))))), (some (33, false))⟩,
    ⟨(some 39), .bin .eql .one (.t 35) (.t 38), (some (33, false))⟩,
    ⟨(some 40), .mv (.t 39), (some (33, false))⟩,
    ⟨(some 41), .fa 4 (.t 1), (some (40, true))⟩,
    ⟨(some 42), .ld false 1 (.t 41), (some (40, true))⟩,
    ⟨(some 43), .lenl (.t 42), (some (40, true))⟩,
    ⟨(some 44), .bin .gtr .one (.t 43) (.k (.w (.d (.s (.int .i64 0))))), (some (40, true))⟩,
    ⟨(some 45), .pick (.t 40) (.t 44) (.k (.w (.d (.s (.bool false))))), (some (33, false))⟩,
    ⟨(some 46), .pick (.t 33) (.k (.w (.d (.s (.bool true))))) (.t 45), none⟩,
    ⟨(some 2), .mv (.t 46), none⟩])
  .ret)))⟩

/- loop.example/stile/impl.WireOk -/
def F100 : Fn := ⟨66, [.tmp 2],
  (.seq (.reg [⟨(some 1), .box 5 (.t 0), none⟩,
    ⟨(some 2), .mv (.k (.w (.d (.s (.bool false))))), none⟩])
  (.seq (.seq (.reg [⟨(some 5), .fa 0 (.t 1), none⟩,
    ⟨(some 6), .ld false 1 (.t 5), none⟩,
    ⟨(some 7), .call (.k (.w (.fn 60 []))) [(.t 6), (.k (.w (.d (.s (.int .i64 1))))), (.k (.w (.d (.s (.int .i64 5)))))], none⟩,
    ⟨(some 8), .un .not (.t 7), none⟩,
    ⟨(some 9), .mv (.t 8), none⟩,
    ⟨(some 10), .fa 1 (.t 1), (some (9, false))⟩,
    ⟨(some 11), .ld false 1 (.t 10), (some (9, false))⟩,
    ⟨(some 12), .call (.k (.w (.fn 101 []))) [(.t 11)], (some (9, false))⟩,
    ⟨(some 13), .un .not (.t 12), (some (9, false))⟩,
    ⟨(some 14), .pick (.t 9) (.k (.w (.d (.s (.bool true))))) (.t 13), none⟩])
  (.cond (.t 14)
    (.seq (.reg [⟨(some 2), .mv (.k (.w (.d (.s (.bool false))))), none⟩])
    .ret)
    .skip))
  (.seq (.seq (.reg [⟨(some 15), .fa 0 (.t 1), none⟩,
    ⟨(some 16), .ld false 1 (.t 15), none⟩,
    ⟨(some 17), .bin .eql .one (.t 16) (.k (.w (.d (.s (.int .i64 1))))), none⟩])
  (.cond (.t 17)
    (.seq (.reg [⟨(some 18), .fa 4 (.t 1), none⟩,
      ⟨(some 19), .ld false 1 (.t 18), none⟩,
      ⟨(some 20), .lenl (.t 19), none⟩,
      ⟨(some 3), .mv (.t 20), none⟩])
    (.seq (.reg [⟨(some 21), .fa 2 (.t 1), none⟩,
      ⟨(some 22), .ld false 1 (.t 21), none⟩,
      ⟨(some 23), .call (.k (.w (.fn 60 []))) [(.t 22), (.k (.w (.d (.s (.int .i64 1))))), (.k (.w (.d (.s (.int .i64 900)))))], none⟩,
      ⟨(some 24), .mv (.t 23), none⟩,
      ⟨(some 25), .fa 3 (.t 1), (some (24, true))⟩,
      ⟨(some 26), .ld false 1 (.t 25), (some (24, true))⟩,
      ⟨(some 27), .fa 2 (.t 1), (some (24, true))⟩,
      ⟨(some 28), .ld false 1 (.t 27), (some (24, true))⟩,
      ⟨(some 29), .bin .sub .one (.t 28) (.k (.w (.d (.s (.int .i64 1))))), (some (24, true))⟩,
      ⟨(some 30), .call (.k (.w (.fn 60 []))) [(.t 26), (.k (.w (.d (.s (.int .i64 0))))), (.t 29)], (some (24, true))⟩,
      ⟨(some 31), .pick (.t 24) (.t 30) (.k (.w (.d (.s (.bool false))))), none⟩,
      ⟨(some 32), .mv (.t 31), none⟩,
      ⟨(some 33), .mv (.t 3), (some (32, true))⟩,
      ⟨(some 34), .bin .eql .one (.t 33) (.k (.w (.d (.s (.int .i64 24))))), (some (32, true))⟩,
      ⟨(some 35), .mv (.t 34), (some (32, true))⟩,
      ⟨(some 36), .fa 3 (.t 1), (some (35, false))⟩,
      ⟨(some 37), .ld false 1 (.t 36), (some (35, false))⟩,
      ⟨(some 38), .fa 2 (.t 1), (some (35, false))⟩,
      ⟨(some 39), .ld false 1 (.t 38), (some (35, false))⟩,
      ⟨(some 40), .bin .sub .one (.t 39) (.k (.w (.d (.s (.int .i64 1))))), (some (35, false))⟩,
      ⟨(some 41), .bin .eql .one (.t 37) (.t 40), (some (35, false))⟩,
      ⟨(some 42), .mv (.t 41), (some (35, false))⟩,
      ⟨(some 43), .mv (.t 3), (some (42, true))⟩,
      ⟨(some 44), .call (.k (.w (.fn 60 []))) [(.t 43), (.k (.w (.d (.s (.int .i64 1))))), (.k (.w (.d (.s (.int .i64 24)))))], (some (42, true))⟩,
      ⟨(some 45), .pick (.t 42) (.t 44) (.k (.w (.d (.s (.bool false))))), (some (35, false))⟩,
      ⟨(some 46), .pick (.t 35) (.k (.w (.d (.s (.bool true))))) (.t 45), (some (32, true))⟩,
      ⟨(some 47), .pick (.t 32) (.t 46) (.k (.w (.d (.s (.bool false))))), none⟩,
      ⟨(some 2), .mv (.t 47), none⟩])
    .ret))
    .skip))
  (.seq (.reg [⟨(some 4), .mv (.k (.w (.d (.s (.int .i64 0))))), none⟩])
  (.seq (.seq (.reg [⟨(some 48), .fa 0 (.t 1), none⟩,
    ⟨(some 49), .ld false 1 (.t 48), none⟩,
    ⟨(some 50), .bin .eql .one (.t 49) (.k (.w (.d (.s (.int .i64 3))))), none⟩])
  (.cond (.t 50)
    (.reg [⟨(some 4), .mv (.k (.w (.d (.s (.int .i64 900))))), none⟩])
    .skip))
  (.seq (.reg [⟨(some 51), .fa 2 (.t 1), none⟩,
    ⟨(some 52), .ld false 1 (.t 51), none⟩,
    ⟨(some 53), .bin .eql .one (.t 52) (.k (.w (.d (.s (.int .i64 0))))), none⟩,
    ⟨(some 54), .mv (.t 53), none⟩,
    ⟨(some 55), .fa 4 (.t 1), (some (54, true))⟩,
    ⟨(some 56), .ld false 1 (.t 55), (some (54, true))⟩,
    ⟨(some 57), .lenl (.t 56), (some (54, true))⟩,
    ⟨(some 58), .bin .eql .one (.t 57) (.k (.w (.d (.s (.int .i64 0))))), (some (54, true))⟩,
    ⟨(some 59), .pick (.t 54) (.t 58) (.k (.w (.d (.s (.bool false))))), none⟩,
    ⟨(some 60), .mv (.t 59), none⟩,
    ⟨(some 61), .fa 3 (.t 1), (some (60, true))⟩,
    ⟨(some 62), .ld false 1 (.t 61), (some (60, true))⟩,
    ⟨(some 63), .mv (.t 4), (some (60, true))⟩,
    ⟨(some 64), .call (.k (.w (.fn 60 []))) [(.t 62), (.k (.w (.d (.s (.int .i64 0))))), (.t 63)], (some (60, true))⟩,
    ⟨(some 65), .pick (.t 60) (.t 64) (.k (.w (.d (.s (.bool false))))), none⟩,
    ⟨(some 2), .mv (.t 65), none⟩])
  .ret))))))⟩

/- loop.example/stile/impl.isNumber -/
def F101 : Fn := ⟨5, [.tmp 2],
  (.seq (.reg [⟨(some 2), .mv (.k (.w (.d (.s (.bool false))))), none⟩])
  (.seq (.reg [⟨(some 3), .mv (.t 0), none⟩,
    ⟨(some 4), .call (.k (.w (.fn 60 []))) [(.t 3), (.k (.w (.d (.s (.int .i64 1))))), (.k (.w (.d (.s (.int .i64 1000000)))))], none⟩,
    ⟨(some 2), .mv (.t 4), none⟩])
  .ret))⟩

def tab : List (Nat × Fn) := [(1, F1), (2, F2), (3, F3), (4, F4), (5, F5), (6, F6), (7, F7), (8, F8), (9, F9), (10, F10), (11, F11), (12, F12), (13, F13), (14, F14), (15, F15), (16, F16), (17, F17), (18, F18), (19, F19), (20, F20), (21, F21), (22, F22), (23, F23), (24, F24), (25, F25), (26, F26), (27, F27), (28, F28), (29, F29), (30, F30), (31, F31), (32, F32), (33, F33), (34, F34), (35, F35), (36, F36), (37, F37), (38, F38), (39, F39), (40, F40), (41, F41), (42, F42), (43, F43), (44, F44), (45, F45), (46, F46), (47, F47), (48, F48), (49, F49), (50, F50), (51, F51), (52, F52), (53, F53), (54, F54), (55, F55), (56, F56), (57, F57), (58, F58), (59, F59), (60, F60), (61, F61), (62, F62), (63, F63), (64, F64), (65, F65), (66, F66), (67, F67), (68, F68), (69, F69), (70, F70), (71, F71), (72, F72), (73, F73), (74, F74), (75, F75), (76, F76), (77, F77), (78, F78), (79, F79), (80, F80), (81, F81), (82, F82), (83, F83), (84, F84), (85, F85), (86, F86), (87, F87), (88, F88), (89, F89), (90, F90), (91, F91), (92, F92), (93, F93), (94, F94), (95, F95), (96, F96), (97, F97), (98, F98), (99, F99), (100, F100), (101, F101)]
def FT : Tab := fun n => tab.lookup n
theorem FT_1 : FT 1 = some F1 := rfl
theorem FT_2 : FT 2 = some F2 := rfl
theorem FT_3 : FT 3 = some F3 := rfl
theorem FT_4 : FT 4 = some F4 := rfl
theorem FT_5 : FT 5 = some F5 := rfl
theorem FT_6 : FT 6 = some F6 := rfl
theorem FT_7 : FT 7 = some F7 := rfl
theorem FT_8 : FT 8 = some F8 := rfl
theorem FT_9 : FT 9 = some F9 := rfl
theorem FT_10 : FT 10 = some F10 := rfl
theorem FT_11 : FT 11 = some F11 := rfl
theorem FT_12 : FT 12 = some F12 := rfl
theorem FT_13 : FT 13 = some F13 := rfl
theorem FT_14 : FT 14 = some F14 := rfl
theorem FT_15 : FT 15 = some F15 := rfl
theorem FT_16 : FT 16 = some F16 := rfl
theorem FT_17 : FT 17 = some F17 := rfl
theorem FT_18 : FT 18 = some F18 := rfl
theorem FT_19 : FT 19 = some F19 := rfl
theorem FT_20 : FT 20 = some F20 := rfl
theorem FT_21 : FT 21 = some F21 := rfl
theorem FT_22 : FT 22 = some F22 := rfl
theorem FT_23 : FT 23 = some F23 := rfl
theorem FT_24 : FT 24 = some F24 := rfl
theorem FT_25 : FT 25 = some F25 := rfl
theorem FT_26 : FT 26 = some F26 := rfl
theorem FT_27 : FT 27 = some F27 := rfl
theorem FT_28 : FT 28 = some F28 := rfl
theorem FT_29 : FT 29 = some F29 := rfl
theorem FT_30 : FT 30 = some F30 := rfl
theorem FT_31 : FT 31 = some F31 := rfl
theorem FT_32 : FT 32 = some F32 := rfl
theorem FT_33 : FT 33 = some F33 := rfl
theorem FT_34 : FT 34 = some F34 := rfl
theorem FT_35 : FT 35 = some F35 := rfl
theorem FT_36 : FT 36 = some F36 := rfl
theorem FT_37 : FT 37 = some F37 := rfl
theorem FT_38 : FT 38 = some F38 := rfl
theorem FT_39 : FT 39 = some F39 := rfl
theorem FT_40 : FT 40 = some F40 := rfl
theorem FT_41 : FT 41 = some F41 := rfl
theorem FT_42 : FT 42 = some F42 := rfl
theorem FT_43 : FT 43 = some F43 := rfl
theorem FT_44 : FT 44 = some F44 := rfl
theorem FT_45 : FT 45 = some F45 := rfl
theorem FT_46 : FT 46 = some F46 := rfl
theorem FT_47 : FT 47 = some F47 := rfl
theorem FT_48 : FT 48 = some F48 := rfl
theorem FT_49 : FT 49 = some F49 := rfl
theorem FT_50 : FT 50 = some F50 := rfl
theorem FT_51 : FT 51 = some F51 := rfl
theorem FT_52 : FT 52 = some F52 := rfl
theorem FT_53 : FT 53 = some F53 := rfl
theorem FT_54 : FT 54 = some F54 := rfl
theorem FT_55 : FT 55 = some F55 := rfl
theorem FT_56 : FT 56 = some F56 := rfl
theorem FT_57 : FT 57 = some F57 := rfl
theorem FT_58 : FT 58 = some F58 := rfl
theorem FT_59 : FT 59 = some F59 := rfl
theorem FT_60 : FT 60 = some F60 := rfl
theorem FT_61 : FT 61 = some F61 := rfl
theorem FT_62 : FT 62 = some F62 := rfl
theorem FT_63 : FT 63 = some F63 := rfl
theorem FT_64 : FT 64 = some F64 := rfl
theorem FT_65 : FT 65 = some F65 := rfl
theorem FT_66 : FT 66 = some F66 := rfl
theorem FT_67 : FT 67 = some F67 := rfl
theorem FT_68 : FT 68 = some F68 := rfl
theorem FT_69 : FT 69 = some F69 := rfl
theorem FT_70 : FT 70 = some F70 := rfl
theorem FT_71 : FT 71 = some F71 := rfl
theorem FT_72 : FT 72 = some F72 := rfl
theorem FT_73 : FT 73 = some F73 := rfl
theorem FT_74 : FT 74 = some F74 := rfl
theorem FT_75 : FT 75 = some F75 := rfl
theorem FT_76 : FT 76 = some F76 := rfl
theorem FT_77 : FT 77 = some F77 := rfl
theorem FT_78 : FT 78 = some F78 := rfl
theorem FT_79 : FT 79 = some F79 := rfl
theorem FT_80 : FT 80 = some F80 := rfl
theorem FT_81 : FT 81 = some F81 := rfl
theorem FT_82 : FT 82 = some F82 := rfl
theorem FT_83 : FT 83 = some F83 := rfl
theorem FT_84 : FT 84 = some F84 := rfl
theorem FT_85 : FT 85 = some F85 := rfl
theorem FT_86 : FT 86 = some F86 := rfl
theorem FT_87 : FT 87 = some F87 := rfl
theorem FT_88 : FT 88 = some F88 := rfl
theorem FT_89 : FT 89 = some F89 := rfl
theorem FT_90 : FT 90 = some F90 := rfl
theorem FT_91 : FT 91 = some F91 := rfl
theorem FT_92 : FT 92 = some F92 := rfl
theorem FT_93 : FT 93 = some F93 := rfl
theorem FT_94 : FT 94 = some F94 := rfl
theorem FT_95 : FT 95 = some F95 := rfl
theorem FT_96 : FT 96 = some F96 := rfl
theorem FT_97 : FT 97 = some F97 := rfl
theorem FT_98 : FT 98 = some F98 := rfl
theorem FT_99 : FT 99 = some F99 := rfl
theorem FT_100 : FT 100 = some F100 := rfl
theorem FT_101 : FT 101 = some F101 := rfl
end Go.VM
