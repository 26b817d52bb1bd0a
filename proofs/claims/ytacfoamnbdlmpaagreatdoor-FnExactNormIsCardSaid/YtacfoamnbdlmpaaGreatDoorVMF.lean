/- The functions of the seat as the value machine has them, written by a program of mine out of the translation. Conditions: none. -/
import Derived.Test.YtacfoamnbdlmpaaGreatDoorVMC
import Derived.Test.YtacfoamnbdlmpaaGreatDoorVMF0

namespace Go.VM

/- (loop.example/stile/impl.Net).copyOf -/
def F139_B0 : C :=
  (.seq (.reg [⟨(some 20), .bin .lss .one (.t 19) (.t 18), none⟩])
  (.seq (.cond (.t 20)
    .skip
    (.exit 0))
  (.seq (.block 1
    (.seq (.reg [⟨(some 21), .mv (.t 19), none⟩,
      ⟨(some 22), .ia 4 (.t 17) (.t 19), none⟩,
      ⟨(some 23), .ld true 4 (.t 22), none⟩,
      ⟨(some 5), .new [(.d (.s (.int .i64 0))), (.d (.s (.int .i64 0))), .nil, .nil], none⟩,
      ⟨(some 4), .mv (.t 21), none⟩,
      ⟨none, .st 4 (.t 5) (.t 23), none⟩])
    (.dreg [⟨(some 24), .fa 3 (.t 3), none⟩,
      ⟨(some 25), .ld false 1 (.t 24), none⟩,
      ⟨(some 26), .mv (.t 4), none⟩,
      ⟨(some 27), .ld true 4 (.t 5), none⟩,
      ⟨(some 28), .call (.k (.w (.fn 139 []))) [(.t 27)], none⟩,
      ⟨(some 29), .ia 4 (.t 25) (.t 26), none⟩,
      ⟨none, .st 4 (.t 29) (.t 28), none⟩] [0, 1, 0, 0, 8, 31, 63])))
  (.reg [⟨(some 30), .bin .add .one (.t 19) (.k (.w (.d (.s (.int .i64 1))))), none⟩,
    ⟨(some 19), .mv (.t 30), none⟩]))))
def F139_L0 : C := .loop F139_B0
def F139 : Fn := ⟨32, [.cell 2 true 4],
  (.seq (.reg [⟨(some 1), .box 4 (.t 0), none⟩,
    ⟨(some 2), .new [(.d (.s (.int .i64 0))), (.d (.s (.int .i64 0))), .nil, .nil], none⟩])
  (.seq (.dreg [⟨(some 6), .fa 0 (.t 1), none⟩,
    ⟨(some 7), .ld false 1 (.t 6), none⟩,
    ⟨(some 8), .fa 1 (.t 1), none⟩,
    ⟨(some 9), .ld true 2 (.t 8), none⟩,
    ⟨(some 10), .call (.k (.w (.fn 163 []))) [(.t 9)], none⟩,
    ⟨(some 11), .fa 3 (.t 1), none⟩,
    ⟨(some 12), .ld false 1 (.t 11), none⟩,
    ⟨(some 13), .lenl (.t 12), none⟩,
    ⟨(some 14), .msl 4 64 [(.s (.int .i64 0)), (.s (.int .i64 0)), (.l 0 []), (.l 0 [])] (.t 13) (.t 13), none⟩,
    ⟨(some 15), .bld [(.d (.s (.int .i64 0))), (.d (.s (.int .i64 0))), .nil, .nil] [(0, 1, (.t 7)), (1, 2, (.t 10)), (3, 1, (.t 14))], none⟩,
    ⟨(some 3), .new [(.d (.s (.int .i64 0))), (.d (.s (.int .i64 0))), .nil, .nil], none⟩,
    ⟨none, .st 4 (.t 3) (.t 15), none⟩] [0, 1, 0, 4, 12, 0, 32, 96, 224, 511, 0, 2047])
  (.seq (.seq (.reg [⟨(some 16), .fa 3 (.t 1), none⟩,
    ⟨(some 17), .ld false 1 (.t 16), none⟩,
    ⟨(some 18), .lenl (.t 17), none⟩,
    ⟨(some 19), .mv (.k (.w (.d (.s (.int .i64 0))))), none⟩])
  (.block 0
    F139_L0))
  (.seq (.reg [⟨(some 31), .ld true 4 (.t 3), none⟩,
    ⟨none, .st 4 (.t 2) (.t 31), none⟩])
  .ret))))⟩

/- loop.example/stile/impl.copyElems -/
def F147_B0 : C :=
  (.seq (.reg [⟨(some 12), .bin .lss .one (.t 11) (.t 10), none⟩])
  (.seq (.cond (.t 12)
    .skip
    (.exit 0))
  (.seq (.block 1
    (.seq (.reg [⟨(some 13), .mv (.t 11), none⟩,
      ⟨(some 14), .ia 2 (.t 9) (.t 11), none⟩,
      ⟨(some 15), .ld true 2 (.t 14), none⟩,
      ⟨(some 5), .new [(.d (.s (.int .i64 0))), .nil], none⟩,
      ⟨(some 4), .mv (.t 13), none⟩,
      ⟨none, .st 2 (.t 5) (.t 15), none⟩])
    (.reg [⟨(some 16), .mv (.t 3), none⟩,
      ⟨(some 17), .mv (.t 4), none⟩,
      ⟨(some 18), .ld true 2 (.t 5), none⟩,
      ⟨(some 19), .call (.k (.w (.fn 163 []))) [(.t 18)], none⟩,
      ⟨(some 20), .ia 2 (.t 16) (.t 17), none⟩,
      ⟨none, .st 2 (.t 20) (.t 19), none⟩])))
  (.reg [⟨(some 21), .bin .add .one (.t 11) (.k (.w (.d (.s (.int .i64 1))))), none⟩,
    ⟨(some 11), .mv (.t 21), none⟩]))))
def F147_L0 : C := .loop F147_B0
def F147 : Fn := ⟨23, [.tmp 2],
  (.seq (.reg [⟨(some 2), .mv (.k (.w .nil)), none⟩])
  (.seq (.reg [⟨(some 6), .mv (.t 0), none⟩,
    ⟨(some 7), .lenl (.t 6), none⟩,
    ⟨(some 8), .msl 2 32 [(.s (.int .i64 0)), (.l 0 [])] (.t 7) (.t 7), none⟩,
    ⟨(some 3), .mv (.t 8), none⟩])
  (.seq (.seq (.reg [⟨(some 9), .mv (.t 0), none⟩,
    ⟨(some 10), .lenl (.t 9), none⟩,
    ⟨(some 11), .mv (.k (.w (.d (.s (.int .i64 0))))), none⟩])
  (.block 0
    F147_L0))
  (.seq (.reg [⟨(some 22), .mv (.t 3), none⟩,
    ⟨(some 2), .mv (.t 22), none⟩])
  .ret))))⟩

/- loop.example/stile/impl.netSame -/
def F148 : Fn := ⟨24, [.tmp 4],
  (.seq (.reg [⟨(some 2), .box 4 (.t 0), none⟩,
    ⟨(some 3), .box 4 (.t 1), none⟩,
    ⟨(some 4), .mv (.k (.w (.d (.s (.bool false))))), none⟩])
  (.seq (.reg [⟨(some 5), .fa 0 (.t 2), none⟩,
    ⟨(some 6), .ld false 1 (.t 5), none⟩,
    ⟨(some 7), .fa 0 (.t 3), none⟩,
    ⟨(some 8), .ld false 1 (.t 7), none⟩,
    ⟨(some 9), .bin .eql .one (.t 6) (.t 8), none⟩,
    ⟨(some 10), .mv (.t 9), none⟩,
    ⟨(some 11), .fa 1 (.t 2), (some (10, true))⟩,
    ⟨(some 12), .ld true 2 (.t 11), (some (10, true))⟩,
    ⟨(some 13), .fa 1 (.t 3), (some (10, true))⟩,
    ⟨(some 14), .ld true 2 (.t 13), (some (10, true))⟩,
    ⟨(some 15), .call (.k (.w (.fn 150 []))) [(.t 12), (.t 14)], (some (10, true))⟩,
    ⟨(some 16), .pick (.t 10) (.t 15) (.k (.w (.d (.s (.bool false))))), none⟩,
    ⟨(some 17), .mv (.t 16), none⟩,
    ⟨(some 18), .fa 3 (.t 2), (some (17, true))⟩,
    ⟨(some 19), .ld false 1 (.t 18), (some (17, true))⟩,
    ⟨(some 20), .fa 3 (.t 3), (some (17, true))⟩,
    ⟨(some 21), .ld false 1 (.t 20), (some (17, true))⟩,
    ⟨(some 22), .call (.k (.w (.fn 175 []))) [(.t 19), (.t 21), (.k (.w (.fn 148 [])))], (some (17, true))⟩,
    ⟨(some 23), .pick (.t 17) (.t 22) (.k (.w (.d (.s (.bool false))))), none⟩,
    ⟨(some 4), .mv (.t 23), none⟩])
  .ret))⟩

/- slices.EqualFunc[[]loop.example/stile/impl.Elem,[]loop.example/stile/impl.Elem,loop.example/stile/impl.Elem,loop.example/stile/impl.Elem] -/
def F149_B0 : C :=
  (.seq (.reg [⟨(some 18), .bin .lss .one (.t 17) (.t 16), none⟩])
  (.seq (.cond (.t 18)
    .skip
    (.exit 0))
  (.seq (.block 1
    (.seq (.reg [⟨(some 19), .mv (.t 17), none⟩,
      ⟨(some 20), .ia 2 (.t 15) (.t 17), none⟩,
      ⟨(some 21), .ld true 2 (.t 20), none⟩,
      ⟨(some 8), .new [(.d (.s (.int .i64 0))), .nil], none⟩,
      ⟨(some 7), .mv (.t 19), none⟩,
      ⟨none, .st 2 (.t 8) (.t 21), none⟩])
    (.seq (.reg [⟨(some 22), .mv (.t 1), none⟩,
      ⟨(some 23), .mv (.t 7), none⟩,
      ⟨(some 24), .ia 2 (.t 22) (.t 23), none⟩,
      ⟨(some 25), .ld true 2 (.t 24), none⟩,
      ⟨(some 9), .new [(.d (.s (.int .i64 0))), .nil], none⟩,
      ⟨none, .st 2 (.t 9) (.t 25), none⟩])
    (.seq (.reg [⟨(some 26), .mv (.t 2), none⟩,
      ⟨(some 27), .ld true 2 (.t 8), none⟩,
      ⟨(some 28), .ld true 2 (.t 9), none⟩,
      ⟨(some 29), .call (.t 26) [(.t 27), (.t 28)], none⟩,
      ⟨(some 30), .un .not (.t 29), none⟩])
    (.cond (.t 30)
      (.seq (.reg [⟨(some 6), .mv (.k (.w (.d (.s (.bool false))))), none⟩])
      .ret)
      .skip)))))
  (.reg [⟨(some 31), .bin .add .one (.t 17) (.k (.w (.d (.s (.int .i64 1))))), none⟩,
    ⟨(some 17), .mv (.t 31), none⟩]))))
def F149_L0 : C := .loop F149_B0
def F149 : Fn := ⟨32, [.tmp 6],
  (.seq (.reg [⟨(some 6), .mv (.k (.w (.d (.s (.bool false))))), none⟩])
  (.seq (.seq (.reg [⟨(some 10), .mv (.t 0), none⟩,
    ⟨(some 11), .lenl (.t 10), none⟩,
    ⟨(some 12), .mv (.t 1), none⟩,
    ⟨(some 13), .lenl (.t 12), none⟩,
    ⟨(some 14), .bin .neq .one (.t 11) (.t 13), none⟩])
  (.cond (.t 14)
    (.seq (.reg [⟨(some 6), .mv (.k (.w (.d (.s (.bool false))))), none⟩])
    .ret)
    .skip))
  (.seq (.seq (.reg [⟨(some 15), .mv (.t 0), none⟩,
    ⟨(some 16), .lenl (.t 15), none⟩,
    ⟨(some 17), .mv (.k (.w (.d (.s (.int .i64 0))))), none⟩])
  (.block 0
    F149_L0))
  (.seq (.reg [⟨(some 6), .mv (.k (.w (.d (.s (.bool true))))), none⟩])
  .ret))))⟩

/- loop.example/stile/impl.elemSame -/
def F150 : Fn := ⟨17, [.tmp 4],
  (.seq (.reg [⟨(some 2), .box 2 (.t 0), none⟩,
    ⟨(some 3), .box 2 (.t 1), none⟩,
    ⟨(some 4), .mv (.k (.w (.d (.s (.bool false))))), none⟩])
  (.seq (.reg [⟨(some 5), .fa 0 (.t 2), none⟩,
    ⟨(some 6), .ld false 1 (.t 5), none⟩,
    ⟨(some 7), .fa 0 (.t 3), none⟩,
    ⟨(some 8), .ld false 1 (.t 7), none⟩,
    ⟨(some 9), .bin .eql .one (.t 6) (.t 8), none⟩,
    ⟨(some 10), .mv (.t 9), none⟩,
    ⟨(some 11), .fa 1 (.t 2), (some (10, true))⟩,
    ⟨(some 12), .ld false 1 (.t 11), (some (10, true))⟩,
    ⟨(some 13), .fa 1 (.t 3), (some (10, true))⟩,
    ⟨(some 14), .ld false 1 (.t 13), (some (10, true))⟩,
    ⟨(some 15), .call (.k (.w (.fn 176 []))) [(.t 12), (.t 14)], (some (10, true))⟩,
    ⟨(some 16), .pick (.t 10) (.t 15) (.k (.w (.d (.s (.bool false))))), none⟩,
    ⟨(some 4), .mv (.t 16), none⟩])
  .ret))⟩

/- loop.example/stile/spec.l9Coils -/
def F213_B0 : C :=
  (.seq (.seq (.reg [⟨(some 6), .mv (.t 4), none⟩,
    ⟨(some 7), .mv (.t 0), none⟩,
    ⟨(some 8), .lenl (.t 7), none⟩,
    ⟨(some 9), .bin .lss .one (.t 6) (.t 8), none⟩])
  (.cond (.t 9)
    .skip
    (.exit 0)))
  (.seq (.block 1
    (.dreg [⟨(some 12), .mv (.t 3), none⟩,
      ⟨(some 13), .mv (.t 0), none⟩,
      ⟨(some 14), .mv (.t 4), none⟩,
      ⟨(some 15), .ia 2 (.t 13) (.t 14), none⟩,
      ⟨(some 16), .fa 0 (.t 15), none⟩,
      ⟨(some 17), .ld false 1 (.t 16), none⟩,
      ⟨(some 18), .bsl 3 0 [(.s (.int .i64 0)), (.s (.int .i64 0)), (.s (.int .i64 0))] [], none⟩,
      ⟨(some 19), .mv (.t 0), none⟩,
      ⟨(some 20), .mv (.t 4), none⟩,
      ⟨(some 21), .ia 2 (.t 19) (.t 20), none⟩,
      ⟨(some 22), .fa 1 (.t 21), none⟩,
      ⟨(some 23), .ld false 1 (.t 22), none⟩,
      ⟨(some 24), .app 3 24 [(.s (.int .i64 0)), (.s (.int .i64 0)), (.s (.int .i64 0))] (.t 18) (.t 23), none⟩,
      ⟨(some 25), .bld [(.d (.s (.int .i64 0))), .nil] [(0, 1, (.t 17)), (1, 1, (.t 24))], none⟩,
      ⟨(some 26), .bsl 2 1 [(.s (.int .i64 0)), (.l 0 [])] [(0, (.t 25))], none⟩,
      ⟨(some 27), .app 2 32 [(.s (.int .i64 0)), (.l 0 [])] (.t 12) (.t 26), none⟩,
      ⟨(some 3), .mv (.t 27), none⟩] [0, 0, 0, 6, 14, 30, 0, 0, 0, 384, 896, 1920, 4032, 8190, 16382, 32767, 65535]))
  (.reg [⟨(some 10), .mv (.t 4), none⟩,
    ⟨(some 11), .bin .add .one (.t 10) (.k (.w (.d (.s (.int .i64 1))))), none⟩,
    ⟨(some 4), .mv (.t 11), none⟩])))
def F213_L0 : C := .loop F213_B0
def F213 : Fn := ⟨29, [.tmp 2],
  (.seq (.reg [⟨(some 2), .mv (.k (.w .nil)), none⟩])
  (.seq (.reg [⟨(some 5), .bsl 2 0 [(.s (.int .i64 0)), (.l 0 [])] [], none⟩,
    ⟨(some 3), .mv (.t 5), none⟩])
  (.seq (.seq (.reg [⟨(some 4), .mv (.k (.w (.d (.s (.int .i64 0))))), none⟩])
  (.block 0
    F213_L0))
  (.seq (.reg [⟨(some 28), .mv (.t 3), none⟩,
    ⟨(some 2), .mv (.t 28), none⟩])
  .ret))))⟩

/- loop.example/stile/spec.l9Net -/
def F214 : Fn := ⟨36, [.cell 2 true 4],
  (.seq (.reg [⟨(some 1), .box 4 (.t 0), none⟩,
    ⟨(some 2), .new [(.d (.s (.int .i64 0))), (.d (.s (.int .i64 0))), .nil, .nil], none⟩])
  (.seq (.seq (.reg [⟨(some 3), .fa 0 (.t 1), none⟩,
    ⟨(some 4), .ld false 1 (.t 3), none⟩])
  (.block 0
    (.seq (.seq (.reg [⟨(some 6), .bin .eql .one (.t 4) (.k (.w (.d (.s (.int .i64 2))))), none⟩,
      ⟨(some 5), .mv (.t 6), none⟩])
    (.cond (.t 5)
      .skip
      (.reg [⟨(some 7), .bin .eql .one (.t 4) (.k (.w (.d (.s (.int .i64 3))))), none⟩,
        ⟨(some 5), .mv (.t 7), none⟩])))
    (.cond (.t 5)
      (.seq (.reg [⟨(some 8), .fa 0 (.t 1), none⟩,
        ⟨(some 9), .ld false 1 (.t 8), none⟩,
        ⟨(some 10), .fa 3 (.t 1), none⟩,
        ⟨(some 11), .ld false 1 (.t 10), none⟩,
        ⟨(some 12), .call (.k (.w (.fn 218 []))) [(.t 9), (.t 11)], none⟩,
        ⟨none, .st 4 (.t 2) (.t 12), none⟩])
      .ret)
      (.seq (.reg [⟨(some 14), .bin .eql .one (.t 4) (.k (.w (.d (.s (.int .i64 4))))), none⟩,
        ⟨(some 13), .mv (.t 14), none⟩])
      (.cond (.t 13)
        (.seq (.dreg [⟨(some 15), .fa 0 (.t 1), none⟩,
          ⟨(some 16), .ld false 1 (.t 15), none⟩,
          ⟨(some 17), .fa 3 (.t 1), none⟩,
          ⟨(some 18), .ld false 1 (.t 17), none⟩,
          ⟨(some 19), .ia 4 (.t 18) (.k (.w (.d (.s (.int .i64 0))))), none⟩,
          ⟨(some 20), .ld true 4 (.t 19), none⟩,
          ⟨(some 21), .call (.k (.w (.fn 214 []))) [(.t 20)], none⟩,
          ⟨(some 22), .bsl 4 1 [(.s (.int .i64 0)), (.s (.int .i64 0)), (.l 0 []), (.l 0 [])] [(0, (.t 21))], none⟩,
          ⟨(some 23), .bld [(.d (.s (.int .i64 0))), (.d (.s (.int .i64 0))), .nil, .nil] [(0, 1, (.t 16)), (3, 1, (.t 22))], none⟩,
          ⟨none, .st 4 (.t 2) (.t 23), none⟩] [0, 1, 0, 4, 12, 28, 60, 124, 255, 511])
        .ret)
        .skip))))))
  (.seq (.dreg [⟨(some 24), .fa 0 (.t 1), none⟩,
    ⟨(some 25), .ld false 1 (.t 24), none⟩,
    ⟨(some 26), .fa 1 (.t 1), none⟩,
    ⟨(some 27), .fa 0 (.t 26), none⟩,
    ⟨(some 28), .ld false 1 (.t 27), none⟩,
    ⟨(some 29), .bsl 3 0 [(.s (.int .i64 0)), (.s (.int .i64 0)), (.s (.int .i64 0))] [], none⟩,
    ⟨(some 30), .fa 1 (.t 1), none⟩,
    ⟨(some 31), .fa 1 (.t 30), none⟩,
    ⟨(some 32), .ld false 1 (.t 31), none⟩,
    ⟨(some 33), .app 3 24 [(.s (.int .i64 0)), (.s (.int .i64 0)), (.s (.int .i64 0))] (.t 29) (.t 32), none⟩,
    ⟨(some 34), .bld [(.d (.s (.int .i64 0))), .nil] [(0, 1, (.t 28)), (1, 1, (.t 33))], none⟩,
    ⟨(some 35), .bld [(.d (.s (.int .i64 0))), (.d (.s (.int .i64 0))), .nil, .nil] [(0, 1, (.t 25)), (1, 2, (.t 34))], none⟩,
    ⟨none, .st 4 (.t 2) (.t 35), none⟩] [0, 1, 0, 4, 12, 0, 0, 64, 192, 480, 1020, 2047, 4095])
  .ret)))⟩

/- loop.example/stile/spec.l9Join -/
def F215 : Fn := ⟨15, [.cell 4 true 4],
  (.seq (.reg [⟨(some 2), .box 4 (.t 0), none⟩,
    ⟨(some 3), .box 4 (.t 1), none⟩,
    ⟨(some 4), .new [(.d (.s (.int .i64 0))), (.d (.s (.int .i64 0))), .nil, .nil], none⟩])
  (.seq (.seq (.reg [⟨(some 5), .ld true 4 (.t 2), none⟩,
    ⟨(some 6), .call (.k (.w (.fn 141 []))) [(.t 5)], none⟩])
  (.cond (.t 6)
    (.seq (.reg [⟨(some 7), .ld true 4 (.t 3), none⟩,
      ⟨none, .st 4 (.t 4) (.t 7), none⟩])
    .ret)
    .skip))
  (.seq (.seq (.reg [⟨(some 8), .ld true 4 (.t 3), none⟩,
    ⟨(some 9), .call (.k (.w (.fn 141 []))) [(.t 8)], none⟩])
  (.cond (.t 9)
    (.seq (.reg [⟨(some 10), .ld true 4 (.t 2), none⟩,
      ⟨none, .st 4 (.t 4) (.t 10), none⟩])
    .ret)
    .skip))
  (.seq (.reg [⟨(some 11), .ld true 4 (.t 2), none⟩,
    ⟨(some 12), .ld true 4 (.t 3), none⟩,
    ⟨(some 13), .bsl 4 2 [(.s (.int .i64 0)), (.s (.int .i64 0)), (.l 0 []), (.l 0 [])] [(0, (.t 11)), (1, (.t 12))], none⟩,
    ⟨(some 14), .call (.k (.w (.fn 218 []))) [(.k (.w (.d (.s (.int .i64 2))))), (.t 13)], none⟩,
    ⟨none, .st 4 (.t 4) (.t 14), none⟩])
  .ret))))⟩

/- loop.example/stile/spec.l7NetSame -/
def F216_B0 : C :=
  (.seq (.seq (.reg [⟨(some 28), .mv (.t 5), none⟩,
    ⟨(some 29), .fa 3 (.t 2), none⟩,
    ⟨(some 30), .ld false 1 (.t 29), none⟩,
    ⟨(some 31), .lenl (.t 30), none⟩,
    ⟨(some 32), .bin .lss .one (.t 28) (.t 31), none⟩])
  (.cond (.t 32)
    .skip
    (.exit 0)))
  (.seq (.block 1
    (.seq (.dreg [⟨(some 35), .fa 3 (.t 2), none⟩,
      ⟨(some 36), .ld false 1 (.t 35), none⟩,
      ⟨(some 37), .mv (.t 5), none⟩,
      ⟨(some 38), .ia 4 (.t 36) (.t 37), none⟩,
      ⟨(some 39), .ld true 4 (.t 38), none⟩,
      ⟨(some 40), .fa 3 (.t 3), none⟩,
      ⟨(some 41), .ld false 1 (.t 40), none⟩,
      ⟨(some 42), .mv (.t 5), none⟩,
      ⟨(some 43), .ia 4 (.t 41) (.t 42), none⟩,
      ⟨(some 44), .ld true 4 (.t 43), none⟩,
      ⟨(some 45), .call (.k (.w (.fn 216 []))) [(.t 39), (.t 44)], none⟩,
      ⟨(some 46), .un .not (.t 45), none⟩] [0, 1, 0, 7, 15, 0, 32, 0, 224, 480, 1023, 2047])
    (.cond (.t 46)
      (.seq (.reg [⟨(some 4), .mv (.k (.w (.d (.s (.bool false))))), none⟩])
      .ret)
      .skip)))
  (.reg [⟨(some 33), .mv (.t 5), none⟩,
    ⟨(some 34), .bin .add .one (.t 33) (.k (.w (.d (.s (.int .i64 1))))), none⟩,
    ⟨(some 5), .mv (.t 34), none⟩])))
def F216_L0 : C := .loop F216_B0
def F216 : Fn := ⟨47, [.tmp 4],
  (.seq (.reg [⟨(some 2), .box 4 (.t 0), none⟩,
    ⟨(some 3), .box 4 (.t 1), none⟩,
    ⟨(some 4), .mv (.k (.w (.d (.s (.bool false))))), none⟩])
  (.seq (.seq (.reg [⟨(some 6), .fa 0 (.t 2), none⟩,
    ⟨(some 7), .ld false 1 (.t 6), none⟩,
    ⟨(some 8), .fa 0 (.t 3), none⟩,
    ⟨(some 9), .ld false 1 (.t 8), none⟩,
    ⟨(some 10), .bin .neq .one (.t 7) (.t 9), none⟩,
    ⟨(some 11), .mv (.t 10), none⟩,
    ⟨(some 12), .fa 1 (.t 2), (some (11, false))⟩,
    ⟨(some 13), .ld true 2 (.t 12), (some (11, false))⟩,
    ⟨(some 14), .fa 1 (.t 3), (some (11, false))⟩,
    ⟨(some 15), .ld true 2 (.t 14), (some (11, false))⟩,
    ⟨(some 16), .call (.k (.w (.fn 217 []))) [(.t 13), (.t 15)], (some (11, false))⟩,
    ⟨(some 17), .un .not (.t 16), (some (11, false))⟩,
    ⟨(some 18), .pick (.t 11) (.k (.w (.d (.s (.bool true))))) (.t 17), none⟩,
    ⟨(some 19), .mv (.t 18), none⟩,
    ⟨(some 20), .fa 3 (.t 2), (some (19, false))⟩,
    ⟨(some 21), .ld false 1 (.t 20), (some (19, false))⟩,
    ⟨(some 22), .lenl (.t 21), (some (19, false))⟩,
    ⟨(some 23), .fa 3 (.t 3), (some (19, false))⟩,
    ⟨(some 24), .ld false 1 (.t 23), (some (19, false))⟩,
    ⟨(some 25), .lenl (.t 24), (some (19, false))⟩,
    ⟨(some 26), .bin .neq .one (.t 22) (.t 25), (some (19, false))⟩,
    ⟨(some 27), .pick (.t 19) (.k (.w (.d (.s (.bool true))))) (.t 26), none⟩])
  (.cond (.t 27)
    (.seq (.reg [⟨(some 4), .mv (.k (.w (.d (.s (.bool false))))), none⟩])
    .ret)
    .skip))
  (.seq (.seq (.reg [⟨(some 5), .mv (.k (.w (.d (.s (.int .i64 0))))), none⟩])
  (.block 0
    F216_L0))
  (.seq (.reg [⟨(some 4), .mv (.k (.w (.d (.s (.bool true))))), none⟩])
  .ret))))⟩

/- loop.example/stile/spec.l7ElemSame -/
def F217_B0 : C :=
  (.seq (.seq (.reg [⟨(some 20), .mv (.t 5), none⟩,
    ⟨(some 21), .fa 1 (.t 2), none⟩,
    ⟨(some 22), .ld false 1 (.t 21), none⟩,
    ⟨(some 23), .lenl (.t 22), none⟩,
    ⟨(some 24), .bin .lss .one (.t 20) (.t 23), none⟩])
  (.cond (.t 24)
    .skip
    (.exit 0)))
  (.seq (.block 1
    (.seq (.dreg [⟨(some 27), .fa 1 (.t 2), none⟩,
      ⟨(some 28), .ld false 1 (.t 27), none⟩,
      ⟨(some 29), .mv (.t 5), none⟩,
      ⟨(some 30), .ia 3 (.t 28) (.t 29), none⟩,
      ⟨(some 31), .ld true 3 (.t 30), none⟩,
      ⟨(some 32), .fa 1 (.t 3), none⟩,
      ⟨(some 33), .ld false 1 (.t 32), none⟩,
      ⟨(some 34), .mv (.t 5), none⟩,
      ⟨(some 35), .ia 3 (.t 33) (.t 34), none⟩,
      ⟨(some 36), .ld true 3 (.t 35), none⟩,
      ⟨(some 37), .bin .neq (.agg [1, 1, 1]) (.t 31) (.t 36), none⟩] [0, 1, 0, 7, 15, 0, 32, 0, 224, 480, 1023])
    (.cond (.t 37)
      (.seq (.reg [⟨(some 4), .mv (.k (.w (.d (.s (.bool false))))), none⟩])
      .ret)
      .skip)))
  (.reg [⟨(some 25), .mv (.t 5), none⟩,
    ⟨(some 26), .bin .add .one (.t 25) (.k (.w (.d (.s (.int .i64 1))))), none⟩,
    ⟨(some 5), .mv (.t 26), none⟩])))
def F217_L0 : C := .loop F217_B0
def F217 : Fn := ⟨38, [.tmp 4],
  (.seq (.reg [⟨(some 2), .box 2 (.t 0), none⟩,
    ⟨(some 3), .box 2 (.t 1), none⟩,
    ⟨(some 4), .mv (.k (.w (.d (.s (.bool false))))), none⟩])
  (.seq (.seq (.reg [⟨(some 6), .fa 0 (.t 2), none⟩,
    ⟨(some 7), .ld false 1 (.t 6), none⟩,
    ⟨(some 8), .fa 0 (.t 3), none⟩,
    ⟨(some 9), .ld false 1 (.t 8), none⟩,
    ⟨(some 10), .bin .neq .one (.t 7) (.t 9), none⟩,
    ⟨(some 11), .mv (.t 10), none⟩,
    ⟨(some 12), .fa 1 (.t 2), (some (11, false))⟩,
    ⟨(some 13), .ld false 1 (.t 12), (some (11, false))⟩,
    ⟨(some 14), .lenl (.t 13), (some (11, false))⟩,
    ⟨(some 15), .fa 1 (.t 3), (some (11, false))⟩,
    ⟨(some 16), .ld false 1 (.t 15), (some (11, false))⟩,
    ⟨(some 17), .lenl (.t 16), (some (11, false))⟩,
    ⟨(some 18), .bin .neq .one (.t 14) (.t 17), (some (11, false))⟩,
    ⟨(some 19), .pick (.t 11) (.k (.w (.d (.s (.bool true))))) (.t 18), none⟩])
  (.cond (.t 19)
    (.seq (.reg [⟨(some 4), .mv (.k (.w (.d (.s (.bool false))))), none⟩])
    .ret)
    .skip))
  (.seq (.seq (.reg [⟨(some 5), .mv (.k (.w (.d (.s (.int .i64 0))))), none⟩])
  (.block 0
    F217_L0))
  (.seq (.reg [⟨(some 4), .mv (.k (.w (.d (.s (.bool true))))), none⟩])
  .ret))))⟩

/- (loop.example/stile/impl.Net).wrong -/
def F119_B0 : C :=
  (.seq (.reg [⟨(some 50), .bin .lss .one (.t 49) (.t 48), none⟩])
  (.seq (.cond (.t 50)
    .skip
    (.exit 1))
  (.seq (.block 2
    (.seq (.reg [⟨(some 51), .ia 4 (.t 47) (.t 49), none⟩,
      ⟨(some 52), .ld true 4 (.t 51), none⟩,
      ⟨(some 4), .new [(.d (.s (.int .i64 0))), (.d (.s (.int .i64 0))), .nil, .nil], none⟩,
      ⟨none, .st 4 (.t 4) (.t 52), none⟩])
    (.seq (.reg [⟨(some 53), .ld true 4 (.t 4), none⟩,
      ⟨(some 54), .call (.k (.w (.fn 119 []))) [(.t 53)], none⟩,
      ⟨(some 5), .mv (.t 54), none⟩])
    (.seq (.reg [⟨(some 55), .mv (.t 5), none⟩,
      ⟨(some 56), .bin .neq .one (.t 55) (.k (.w (.d (.s (.int .i64 0))))), none⟩])
    (.cond (.t 56)
      (.seq (.reg [⟨(some 57), .mv (.t 5), none⟩,
        ⟨(some 2), .mv (.t 57), none⟩])
      .ret)
      .skip)))))
  (.reg [⟨(some 58), .bin .add .one (.t 49) (.k (.w (.d (.s (.int .i64 1))))), none⟩,
    ⟨(some 49), .mv (.t 58), none⟩]))))
def F119_L0 : C := .loop F119_B0
def F119 : Fn := ⟨59, [.tmp 2],
  (.seq (.reg [⟨(some 1), .box 4 (.t 0), none⟩,
    ⟨(some 2), .mv (.k (.w (.d (.s (.int .i64 0))))), none⟩])
  (.seq (.seq (.reg [⟨(some 6), .fa 0 (.t 1), none⟩,
    ⟨(some 7), .ld false 1 (.t 6), none⟩,
    ⟨(some 8), .bin .eql .one (.t 7) (.k (.w (.d (.s (.int .i64 1))))), none⟩])
  (.cond (.t 8)
    (.seq (.block 0
      (.seq (.reg [⟨(some 10), .fa 3 (.t 1), none⟩,
        ⟨(some 11), .ld false 1 (.t 10), none⟩,
        ⟨(some 12), .lenl (.t 11), none⟩,
        ⟨(some 13), .bin .gtr .one (.t 12) (.k (.w (.d (.s (.int .i64 0))))), none⟩,
        ⟨(some 9), .mv (.t 13), none⟩])
      (.cond (.t 9)
        (.seq (.reg [⟨(some 2), .mv (.k (.w (.d (.s (.int .i64 2))))), none⟩])
        .ret)
        (.seq (.reg [⟨(some 15), .fa 1 (.t 1), none⟩,
          ⟨(some 16), .ld true 2 (.t 15), none⟩,
          ⟨(some 17), .call (.k (.w (.fn 137 []))) [(.t 16)], none⟩,
          ⟨(some 18), .un .not (.t 17), none⟩,
          ⟨(some 14), .mv (.t 18), none⟩])
        (.cond (.t 14)
          (.seq (.reg [⟨(some 2), .mv (.k (.w (.d (.s (.int .i64 3))))), none⟩])
          .ret)
          .skip)))))
    (.seq (.reg [⟨(some 2), .mv (.k (.w (.d (.s (.int .i64 0))))), none⟩])
    .ret))
    .skip))
  (.seq (.seq (.reg [⟨(some 19), .fa 0 (.t 1), none⟩,
    ⟨(some 20), .ld false 1 (.t 19), none⟩,
    ⟨(some 21), .call (.k (.w (.fn 60 []))) [(.t 20), (.k (.w (.d (.s (.int .i64 2))))), (.k (.w (.d (.s (.int .i64 4)))))], none⟩,
    ⟨(some 22), .un .not (.t 21), none⟩,
    ⟨(some 23), .mv (.t 22), none⟩,
    ⟨(some 24), .fa 1 (.t 1), (some (23, false))⟩,
    ⟨(some 25), .ld true 2 (.t 24), (some (23, false))⟩,
    ⟨(some 26), .call (.k (.w (.fn 138 []))) [(.t 25)], (some (23, false))⟩,
    ⟨(some 27), .un .not (.t 26), (some (23, false))⟩,
    ⟨(some 28), .pick (.t 23) (.k (.w (.d (.s (.bool true))))) (.t 27), none⟩,
    ⟨(some 29), .mv (.t 28), none⟩,
    ⟨(some 30), .fa 3 (.t 1), (some (29, false))⟩,
    ⟨(some 31), .ld false 1 (.t 30), (some (29, false))⟩,
    ⟨(some 32), .lenl (.t 31), (some (29, false))⟩,
    ⟨(some 33), .bin .eql .one (.t 32) (.k (.w (.d (.s (.int .i64 0))))), (some (29, false))⟩,
    ⟨(some 34), .pick (.t 29) (.k (.w (.d (.s (.bool true))))) (.t 33), none⟩,
    ⟨(some 35), .mv (.t 34), none⟩,
    ⟨(some 36), .fa 0 (.t 1), (some (35, false))⟩,
    ⟨(some 37), .ld false 1 (.t 36), (some (35, false))⟩,
    ⟨(some 38), .bin .eql .one (.t 37) (.k (.w (.d (.s (.int .i64 4))))), (some (35, false))⟩,
    ⟨(some 39), .mv (.t 38), (some (35, false))⟩,
    ⟨(some 40), .fa 3 (.t 1), (some (39, true))⟩,
    ⟨(some 41), .ld false 1 (.t 40), (some (39, true))⟩,
    ⟨(some 42), .lenl (.t 41), (some (39, true))⟩,
    ⟨(some 43), .bin .gtr .one (.t 42) (.k (.w (.d (.s (.int .i64 1))))), (some (39, true))⟩,
    ⟨(some 44), .pick (.t 39) (.t 43) (.k (.w (.d (.s (.bool false))))), (some (35, false))⟩,
    ⟨(some 45), .pick (.t 35) (.k (.w (.d (.s (.bool true))))) (.t 44), none⟩])
  (.cond (.t 45)
    (.seq (.reg [⟨(some 2), .mv (.k (.w (.d (.s (.int .i64 2))))), none⟩])
    .ret)
    .skip))
  (.seq (.seq (.reg [⟨(some 46), .fa 3 (.t 1), none⟩,
    ⟨(some 47), .ld false 1 (.t 46), none⟩,
    ⟨(some 48), .lenl (.t 47), none⟩,
    ⟨(some 49), .mv (.k (.w (.d (.s (.int .i64 0))))), none⟩])
  (.block 1
    F119_L0))
  (.seq (.reg [⟨(some 2), .mv (.k (.w (.d (.s (.int .i64 0))))), none⟩])
  .ret)))))⟩

/- slices.ContainsFunc[[]loop.example/stile/impl.Elem,loop.example/stile/impl.Elem] -/
def F189 : Fn := ⟨9, [.tmp 4],
  (.seq (.reg [⟨(some 4), .mv (.k (.w (.d (.s (.bool false))))), none⟩])
  (.seq (.reg [⟨(some 5), .mv (.t 0), none⟩,
    ⟨(some 6), .mv (.t 1), none⟩,
    ⟨(some 7), .call (.k (.w (.fn 199 []))) [(.t 5), (.t 6)], none⟩,
    ⟨(some 8), .bin .geq .one (.t 7) (.k (.w (.d (.s (.int .i64 0))))), none⟩,
    ⟨(some 4), .mv (.t 8), none⟩])
  .ret))⟩

/- (loop.example/stile/impl.Arm).wrong$1 -/
def F190 : Fn := ⟨6, [.tmp 2],
  (.seq (.reg [⟨(some 1), .box 2 (.t 0), none⟩,
    ⟨(some 2), .mv (.k (.w (.d (.s (.bool false))))), none⟩])
  (.seq (.reg [⟨(some 3), .ld true 2 (.t 1), none⟩,
    ⟨(some 4), .call (.k (.w (.fn 200 []))) [(.t 3)], none⟩,
    ⟨(some 5), .un .not (.t 4), none⟩,
    ⟨(some 2), .mv (.t 5), none⟩])
  .ret))⟩

/- (loop.example/stile/impl.Elem).bare -/
def F138 : Fn := ⟨12, [.tmp 2],
  (.seq (.reg [⟨(some 1), .box 2 (.t 0), none⟩,
    ⟨(some 2), .mv (.k (.w (.d (.s (.bool false))))), none⟩])
  (.seq (.reg [⟨(some 3), .fa 0 (.t 1), none⟩,
    ⟨(some 4), .ld false 1 (.t 3), none⟩,
    ⟨(some 5), .bin .eql .one (.t 4) (.k (.w (.d (.s (.int .i64 0))))), none⟩,
    ⟨(some 6), .mv (.t 5), none⟩,
    ⟨(some 7), .fa 1 (.t 1), (some (6, true))⟩,
    ⟨(some 8), .ld false 1 (.t 7), (some (6, true))⟩,
    ⟨(some 9), .lenl (.t 8), (some (6, true))⟩,
    ⟨(some 10), .bin .eql .one (.t 9) (.k (.w (.d (.s (.int .i64 0))))), (some (6, true))⟩,
    ⟨(some 11), .pick (.t 6) (.t 10) (.k (.w (.d (.s (.bool false))))), none⟩,
    ⟨(some 2), .mv (.t 11), none⟩])
  .ret))⟩

/- loop.example/stile/laws.szNet -/
def F220 : Fn := ⟨18, [.tmp 4],
  (.seq (.reg [⟨(some 2), .box 4 (.t 0), none⟩,
    ⟨(some 4), .mv (.k (.w (.d (.s (.int .i64 0))))), none⟩])
  (.seq (.reg [⟨(some 5), .fa 1 (.t 2), none⟩,
    ⟨(some 6), .ld true 2 (.t 5), none⟩,
    ⟨(some 7), .mv (.t 1), none⟩,
    ⟨(some 8), .call (.k (.w (.fn 226 []))) [(.t 6), (.t 7)], none⟩,
    ⟨(some 1), .mv (.t 8), none⟩])
  (.seq (.seq (.reg [⟨(some 9), .mv (.t 1), none⟩,
    ⟨(some 10), .bin .lss .one (.t 9) (.k (.w (.d (.s (.int .i64 0))))), none⟩])
  (.cond (.t 10)
    (.seq (.reg [⟨(some 4), .mv (.k (.w (.d (.s (.int .i64 (-1)))))), none⟩])
    .ret)
    .skip))
  (.seq (.reg [⟨(some 11), .fa 3 (.t 2), none⟩,
    ⟨(some 12), .ld false 1 (.t 11), none⟩,
    ⟨(some 13), .mv (.t 1), none⟩,
    ⟨(some 14), .call (.k (.w (.fn 227 []))) [(.t 12), (.t 13)], none⟩,
    ⟨(some 1), .mv (.t 14), none⟩])
  (.seq (.seq (.reg [⟨(some 15), .mv (.t 1), none⟩,
    ⟨(some 16), .bin .lss .one (.t 15) (.k (.w (.d (.s (.int .i64 0))))), none⟩])
  (.cond (.t 16)
    (.seq (.reg [⟨(some 4), .mv (.k (.w (.d (.s (.int .i64 (-1)))))), none⟩])
    .ret)
    .skip))
  (.seq (.reg [⟨(some 17), .mv (.t 1), none⟩,
    ⟨(some 4), .mv (.t 17), none⟩])
  .ret))))))⟩

/- loop.example/stile/laws.szElemS -/
def F251_B0 : C :=
  (.seq (.seq (.reg [⟨(some 12), .mv (.t 5), none⟩,
    ⟨(some 13), .mv (.t 0), none⟩,
    ⟨(some 14), .lenl (.t 13), none⟩,
    ⟨(some 15), .bin .lss .one (.t 12) (.t 14), none⟩])
  (.cond (.t 15)
    .skip
    (.exit 0)))
  (.seq (.block 1
    (.seq (.reg [⟨(some 18), .mv (.t 0), none⟩,
      ⟨(some 19), .mv (.t 5), none⟩,
      ⟨(some 20), .ia 2 (.t 18) (.t 19), none⟩,
      ⟨(some 21), .ld true 2 (.t 20), none⟩,
      ⟨(some 22), .mv (.t 1), none⟩,
      ⟨(some 23), .call (.k (.w (.fn 226 []))) [(.t 21), (.t 22)], none⟩,
      ⟨(some 1), .mv (.t 23), none⟩])
    (.seq (.reg [⟨(some 24), .mv (.t 1), none⟩,
      ⟨(some 25), .bin .lss .one (.t 24) (.k (.w (.d (.s (.int .i64 0))))), none⟩])
    (.cond (.t 25)
      (.seq (.reg [⟨(some 4), .mv (.k (.w (.d (.s (.int .i64 (-1)))))), none⟩])
      .ret)
      .skip))))
  (.reg [⟨(some 16), .mv (.t 5), none⟩,
    ⟨(some 17), .bin .add .one (.t 16) (.k (.w (.d (.s (.int .i64 1))))), none⟩,
    ⟨(some 5), .mv (.t 17), none⟩])))
def F251_L0 : C := .loop F251_B0
def F251 : Fn := ⟨27, [.tmp 4],
  (.seq (.reg [⟨(some 4), .mv (.k (.w (.d (.s (.int .i64 0))))), none⟩])
  (.seq (.reg [⟨(some 6), .mv (.t 1), none⟩,
    ⟨(some 7), .mv (.t 0), none⟩,
    ⟨(some 8), .lenl (.t 7), none⟩,
    ⟨(some 9), .bin .sub .one (.t 6) (.t 8), none⟩,
    ⟨(some 1), .mv (.t 9), none⟩])
  (.seq (.seq (.reg [⟨(some 10), .mv (.t 1), none⟩,
    ⟨(some 11), .bin .lss .one (.t 10) (.k (.w (.d (.s (.int .i64 0))))), none⟩])
  (.cond (.t 11)
    (.seq (.reg [⟨(some 4), .mv (.k (.w (.d (.s (.int .i64 (-1)))))), none⟩])
    .ret)
    .skip))
  (.seq (.seq (.reg [⟨(some 5), .mv (.k (.w (.d (.s (.int .i64 0))))), none⟩])
  (.block 0
    F251_L0))
  (.seq (.reg [⟨(some 26), .mv (.t 1), none⟩,
    ⟨(some 4), .mv (.t 26), none⟩])
  .ret)))))⟩

/- loop.example/stile/laws.toNet -/
def F221 : Fn := ⟨16, [.cell 2 true 4],
  (.seq (.reg [⟨(some 1), .box 4 (.t 0), none⟩,
    ⟨(some 2), .new [(.d (.s (.int .i64 0))), (.d (.s (.int .i64 0))), .nil, .nil], none⟩])
  (.seq (.reg [⟨(some 3), .new [(.d (.s (.int .i64 0))), (.d (.s (.int .i64 0))), .nil, .nil], none⟩])
  (.seq (.reg [⟨(some 4), .fa 0 (.t 1), none⟩,
    ⟨(some 5), .ld false 1 (.t 4), none⟩,
    ⟨(some 6), .fa 0 (.t 3), none⟩,
    ⟨none, .st 1 (.t 6) (.t 5), none⟩])
  (.seq (.reg [⟨(some 7), .fa 1 (.t 1), none⟩,
    ⟨(some 8), .ld true 2 (.t 7), none⟩,
    ⟨(some 9), .call (.k (.w (.fn 228 []))) [(.t 8)], none⟩,
    ⟨(some 10), .fa 1 (.t 3), none⟩,
    ⟨none, .st 2 (.t 10) (.t 9), none⟩])
  (.seq (.reg [⟨(some 11), .fa 3 (.t 1), none⟩,
    ⟨(some 12), .ld false 1 (.t 11), none⟩,
    ⟨(some 13), .call (.k (.w (.fn 229 []))) [(.t 12)], none⟩,
    ⟨(some 14), .fa 3 (.t 3), none⟩,
    ⟨none, .st 1 (.t 14) (.t 13), none⟩])
  (.seq (.reg [⟨(some 15), .ld true 4 (.t 3), none⟩,
    ⟨none, .st 4 (.t 2) (.t 15), none⟩])
  .ret))))))⟩

/- loop.example/stile/laws.toElemS -/
def F252_B0 : C :=
  (.seq (.seq (.reg [⟨(some 8), .mv (.t 4), none⟩,
    ⟨(some 9), .mv (.t 0), none⟩,
    ⟨(some 10), .lenl (.t 9), none⟩,
    ⟨(some 11), .bin .lss .one (.t 8) (.t 10), none⟩])
  (.cond (.t 11)
    .skip
    (.exit 0)))
  (.seq (.block 1
    (.reg [⟨(some 14), .mv (.t 3), none⟩,
      ⟨(some 15), .mv (.t 4), none⟩,
      ⟨(some 16), .mv (.t 0), none⟩,
      ⟨(some 17), .mv (.t 4), none⟩,
      ⟨(some 18), .ia 2 (.t 16) (.t 17), none⟩,
      ⟨(some 19), .ld true 2 (.t 18), none⟩,
      ⟨(some 20), .call (.k (.w (.fn 228 []))) [(.t 19)], none⟩,
      ⟨(some 21), .ia 2 (.t 14) (.t 15), none⟩,
      ⟨none, .st 2 (.t 21) (.t 20), none⟩]))
  (.reg [⟨(some 12), .mv (.t 4), none⟩,
    ⟨(some 13), .bin .add .one (.t 12) (.k (.w (.d (.s (.int .i64 1))))), none⟩,
    ⟨(some 4), .mv (.t 13), none⟩])))
def F252_L0 : C := .loop F252_B0
def F252 : Fn := ⟨23, [.tmp 2],
  (.seq (.reg [⟨(some 2), .mv (.k (.w .nil)), none⟩])
  (.seq (.reg [⟨(some 5), .mv (.t 0), none⟩,
    ⟨(some 6), .lenl (.t 5), none⟩,
    ⟨(some 7), .msl 2 32 [(.s (.int .i64 0)), (.l 0 [])] (.t 6) (.t 6), none⟩,
    ⟨(some 3), .mv (.t 7), none⟩])
  (.seq (.seq (.reg [⟨(some 4), .mv (.k (.w (.d (.s (.int .i64 0))))), none⟩])
  (.block 0
    F252_L0))
  (.seq (.reg [⟨(some 22), .mv (.t 3), none⟩,
    ⟨(some 2), .mv (.t 22), none⟩])
  .ret))))⟩

/- loop.example/stile/laws.eqNet -/
def F223 : Fn := ⟨22, [.tmp 4],
  (.seq (.reg [⟨(some 2), .box 4 (.t 0), none⟩,
    ⟨(some 3), .box 4 (.t 1), none⟩,
    ⟨(some 4), .mv (.k (.w (.d (.s (.bool false))))), none⟩])
  (.seq (.seq (.reg [⟨(some 5), .fa 0 (.t 2), none⟩,
    ⟨(some 6), .ld false 1 (.t 5), none⟩,
    ⟨(some 7), .fa 0 (.t 3), none⟩,
    ⟨(some 8), .ld false 1 (.t 7), none⟩,
    ⟨(some 9), .bin .neq .one (.t 6) (.t 8), none⟩])
  (.cond (.t 9)
    (.seq (.reg [⟨(some 4), .mv (.k (.w (.d (.s (.bool false))))), none⟩])
    .ret)
    .skip))
  (.seq (.seq (.reg [⟨(some 10), .fa 1 (.t 2), none⟩,
    ⟨(some 11), .ld true 2 (.t 10), none⟩,
    ⟨(some 12), .fa 1 (.t 3), none⟩,
    ⟨(some 13), .ld true 2 (.t 12), none⟩,
    ⟨(some 14), .call (.k (.w (.fn 230 []))) [(.t 11), (.t 13)], none⟩,
    ⟨(some 15), .un .not (.t 14), none⟩])
  (.cond (.t 15)
    (.seq (.reg [⟨(some 4), .mv (.k (.w (.d (.s (.bool false))))), none⟩])
    .ret)
    .skip))
  (.seq (.seq (.reg [⟨(some 16), .fa 3 (.t 2), none⟩,
    ⟨(some 17), .ld false 1 (.t 16), none⟩,
    ⟨(some 18), .fa 3 (.t 3), none⟩,
    ⟨(some 19), .ld false 1 (.t 18), none⟩,
    ⟨(some 20), .call (.k (.w (.fn 231 []))) [(.t 17), (.t 19)], none⟩,
    ⟨(some 21), .un .not (.t 20), none⟩])
  (.cond (.t 21)
    (.seq (.reg [⟨(some 4), .mv (.k (.w (.d (.s (.bool false))))), none⟩])
    .ret)
    .skip))
  (.seq (.reg [⟨(some 4), .mv (.k (.w (.d (.s (.bool true))))), none⟩])
  .ret)))))⟩

/- loop.example/stile/laws.eqElemS -/
def F253_B0 : C :=
  (.seq (.seq (.reg [⟨(some 11), .mv (.t 5), none⟩,
    ⟨(some 12), .mv (.t 0), none⟩,
    ⟨(some 13), .lenl (.t 12), none⟩,
    ⟨(some 14), .bin .lss .one (.t 11) (.t 13), none⟩])
  (.cond (.t 14)
    .skip
    (.exit 0)))
  (.seq (.block 1
    (.seq (.dreg [⟨(some 17), .mv (.t 0), none⟩,
      ⟨(some 18), .mv (.t 5), none⟩,
      ⟨(some 19), .ia 2 (.t 17) (.t 18), none⟩,
      ⟨(some 20), .ld true 2 (.t 19), none⟩,
      ⟨(some 21), .mv (.t 1), none⟩,
      ⟨(some 22), .mv (.t 5), none⟩,
      ⟨(some 23), .ia 2 (.t 21) (.t 22), none⟩,
      ⟨(some 24), .ld true 2 (.t 23), none⟩,
      ⟨(some 25), .call (.k (.w (.fn 230 []))) [(.t 20), (.t 24)], none⟩,
      ⟨(some 26), .un .not (.t 25), none⟩] [0, 0, 3, 7, 0, 0, 48, 112, 255, 511])
    (.cond (.t 26)
      (.seq (.reg [⟨(some 4), .mv (.k (.w (.d (.s (.bool false))))), none⟩])
      .ret)
      .skip)))
  (.reg [⟨(some 15), .mv (.t 5), none⟩,
    ⟨(some 16), .bin .add .one (.t 15) (.k (.w (.d (.s (.int .i64 1))))), none⟩,
    ⟨(some 5), .mv (.t 16), none⟩])))
def F253_L0 : C := .loop F253_B0
def F253 : Fn := ⟨27, [.tmp 4],
  (.seq (.reg [⟨(some 4), .mv (.k (.w (.d (.s (.bool false))))), none⟩])
  (.seq (.seq (.reg [⟨(some 6), .mv (.t 0), none⟩,
    ⟨(some 7), .lenl (.t 6), none⟩,
    ⟨(some 8), .mv (.t 1), none⟩,
    ⟨(some 9), .lenl (.t 8), none⟩,
    ⟨(some 10), .bin .neq .one (.t 7) (.t 9), none⟩])
  (.cond (.t 10)
    (.seq (.reg [⟨(some 4), .mv (.k (.w (.d (.s (.bool false))))), none⟩])
    .ret)
    .skip))
  (.seq (.seq (.reg [⟨(some 5), .mv (.k (.w (.d (.s (.int .i64 0))))), none⟩])
  (.block 0
    F253_L0))
  (.seq (.reg [⟨(some 4), .mv (.k (.w (.d (.s (.bool true))))), none⟩])
  .ret))))⟩

/- (*loop.example/stile/spec.l26Rd).num -/
def F96 : Fn := ⟨12, [.tmp 4],
  (.seq (.reg [⟨(some 4), .mv (.k (.w (.d (.s (.int .i64 0))))), none⟩])
  (.seq (.reg [⟨(some 5), .mv (.t 1), none⟩,
    ⟨(some 6), .mv (.t 0), none⟩,
    ⟨(some 7), .mv (.t 1), none⟩,
    ⟨(some 8), .lenl (.t 7), none⟩,
    ⟨(some 9), .call (.k (.w (.fn 67 []))) [(.t 6), (.t 8)], none⟩,
    ⟨(some 10), .ia 1 (.t 5) (.t 9), none⟩,
    ⟨(some 11), .ld false 1 (.t 10), none⟩,
    ⟨(some 4), .mv (.t 11), none⟩])
  .ret))⟩

/- loop.example/stile/spec.l7Stair -/
def F117_B0 : C :=
  (.seq (.seq (.reg [⟨(some 10), .mv (.t 6), none⟩,
    ⟨(some 11), .mv (.t 1), none⟩,
    ⟨(some 12), .bin .lss .one (.t 10) (.t 11), none⟩])
  (.cond (.t 12)
    .skip
    (.exit 0)))
  (.seq (.block 1
    (.dreg [⟨(some 15), .mv (.t 6), none⟩,
      ⟨(some 16), .bin .rem .one (.t 15) (.k (.w (.d (.s (.int .i64 2))))), none⟩,
      ⟨(some 17), .bin .add .one (.k (.w (.d (.s (.int .i64 2))))) (.t 16), none⟩,
      ⟨(some 18), .mv (.t 0), none⟩,
      ⟨(some 19), .call (.k (.w (.fn 134 []))) [(.t 18)], none⟩,
      ⟨(some 20), .bld [(.d (.s (.int .i64 0))), (.d (.s (.int .i64 0))), .nil, .nil] [(0, 1, (.k (.w (.d (.s (.int .i64 1)))))), (1, 2, (.t 19))], none⟩,
      ⟨(some 21), .ld true 4 (.t 5), none⟩,
      ⟨(some 22), .bsl 4 2 [(.s (.int .i64 0)), (.s (.int .i64 0)), (.l 0 []), (.l 0 [])] [(0, (.t 20)), (1, (.t 21))], none⟩,
      ⟨(some 23), .bld [(.d (.s (.int .i64 0))), (.d (.s (.int .i64 0))), .nil, .nil] [(0, 1, (.t 17)), (3, 1, (.t 22))], none⟩,
      ⟨none, .st 4 (.t 5) (.t 23), none⟩] [0, 1, 3, 0, 8, 24, 0, 120, 255, 511]))
  (.reg [⟨(some 13), .mv (.t 6), none⟩,
    ⟨(some 14), .bin .add .one (.t 13) (.k (.w (.d (.s (.int .i64 1))))), none⟩,
    ⟨(some 6), .mv (.t 14), none⟩])))
def F117_L0 : C := .loop F117_B0
def F117 : Fn := ⟨25, [.cell 4 true 4],
  (.seq (.reg [⟨(some 4), .new [(.d (.s (.int .i64 0))), (.d (.s (.int .i64 0))), .nil, .nil], none⟩])
  (.seq (.reg [⟨(some 7), .mv (.t 0), none⟩,
    ⟨(some 8), .call (.k (.w (.fn 134 []))) [(.t 7)], none⟩,
    ⟨(some 9), .bld [(.d (.s (.int .i64 0))), (.d (.s (.int .i64 0))), .nil, .nil] [(0, 1, (.k (.w (.d (.s (.int .i64 1)))))), (1, 2, (.t 8))], none⟩,
    ⟨(some 5), .new [(.d (.s (.int .i64 0))), (.d (.s (.int .i64 0))), .nil, .nil], none⟩,
    ⟨none, .st 4 (.t 5) (.t 9), none⟩])
  (.seq (.seq (.reg [⟨(some 6), .mv (.k (.w (.d (.s (.int .i64 1))))), none⟩])
  (.block 0
    F117_L0))
  (.seq (.reg [⟨(some 24), .ld true 4 (.t 5), none⟩,
    ⟨none, .st 4 (.t 4) (.t 24), none⟩])
  .ret))))⟩

/- loop.example/stile/spec.l7Forks -/
def F177_B0 : C :=
  (.seq (.seq (.reg [⟨(some 14), .mv (.t 6), none⟩,
    ⟨(some 15), .mv (.t 1), none⟩,
    ⟨(some 16), .bin .lss .one (.t 14) (.t 15), none⟩])
  (.cond (.t 16)
    .skip
    (.exit 0)))
  (.seq (.block 1
    (.seq (.dreg [⟨(some 19), .ld true 6 (.t 5), none⟩,
      ⟨(some 20), .mv (.t 0), none⟩,
      ⟨(some 21), .call (.k (.w (.fn 134 []))) [(.t 20)], none⟩,
      ⟨(some 22), .bld [(.d (.s (.int .i64 0))), (.d (.s (.int .i64 0))), .nil, .nil] [(0, 1, (.k (.w (.d (.s (.int .i64 1)))))), (1, 2, (.t 21))], none⟩,
      ⟨(some 23), .mv (.t 0), none⟩,
      ⟨(some 24), .call (.k (.w (.fn 135 []))) [(.t 23)], none⟩,
      ⟨(some 25), .bsl 2 1 [(.s (.int .i64 0)), (.l 0 [])] [(0, (.t 24))], none⟩,
      ⟨(some 26), .bld [(.d (.s (.int .i64 0))), (.d (.s (.int .i64 0))), .nil, .nil, .nil, .nil] [(0, 4, (.t 22)), (4, 1, (.t 25))], none⟩,
      ⟨(some 27), .bsl 6 2 [(.s (.int .i64 0)), (.s (.int .i64 0)), (.l 0 []), (.l 0 []), (.l 0 []), (.l 0 [])] [(0, (.t 19)), (1, (.t 26))], none⟩,
      ⟨(some 28), .bld [(.d (.s (.int .i64 0))), (.d (.s (.int .i64 0))), .nil, .nil, .nil, .nil] [(5, 1, (.t 27))], none⟩,
      ⟨none, .st 6 (.t 5) (.t 28), none⟩] [0, 0, 2, 6, 0, 22, 54, 126, 255, 511, 1023])
    (.seq (.reg [⟨(some 29), .mv (.t 0), none⟩,
      ⟨(some 30), .call (.k (.w (.fn 67 []))) [(.t 29), (.k (.w (.d (.s (.int .i64 2)))))], none⟩,
      ⟨(some 31), .bin .eql .one (.t 30) (.k (.w (.d (.s (.int .i64 0))))), none⟩])
    (.cond (.t 31)
      (.reg [⟨(some 32), .mv (.t 0), none⟩,
        ⟨(some 33), .call (.k (.w (.fn 134 []))) [(.t 32)], none⟩,
        ⟨(some 34), .bld [(.d (.s (.int .i64 0))), (.d (.s (.int .i64 0))), .nil, .nil] [(0, 1, (.k (.w (.d (.s (.int .i64 1)))))), (1, 2, (.t 33))], none⟩,
        ⟨(some 35), .fa 0 (.t 5), none⟩,
        ⟨none, .st 4 (.t 35) (.t 34), none⟩])
      .skip))))
  (.reg [⟨(some 17), .mv (.t 6), none⟩,
    ⟨(some 18), .bin .add .one (.t 17) (.k (.w (.d (.s (.int .i64 1))))), none⟩,
    ⟨(some 6), .mv (.t 18), none⟩])))
def F177_L0 : C := .loop F177_B0
def F177 : Fn := ⟨41, [.cell 4 true 6],
  (.seq (.reg [⟨(some 4), .new [(.d (.s (.int .i64 0))), (.d (.s (.int .i64 0))), .nil, .nil, .nil, .nil], none⟩])
  (.seq (.reg [⟨(some 7), .mv (.t 0), none⟩,
    ⟨(some 8), .call (.k (.w (.fn 134 []))) [(.t 7)], none⟩,
    ⟨(some 9), .bld [(.d (.s (.int .i64 0))), (.d (.s (.int .i64 0))), .nil, .nil] [(0, 1, (.k (.w (.d (.s (.int .i64 1)))))), (1, 2, (.t 8))], none⟩,
    ⟨(some 10), .mv (.t 0), none⟩,
    ⟨(some 11), .call (.k (.w (.fn 135 []))) [(.t 10)], none⟩,
    ⟨(some 12), .bsl 2 1 [(.s (.int .i64 0)), (.l 0 [])] [(0, (.t 11))], none⟩,
    ⟨(some 13), .bld [(.d (.s (.int .i64 0))), (.d (.s (.int .i64 0))), .nil, .nil, .nil, .nil] [(0, 4, (.t 9)), (4, 1, (.t 12))], none⟩,
    ⟨(some 5), .new [(.d (.s (.int .i64 0))), (.d (.s (.int .i64 0))), .nil, .nil, .nil, .nil], none⟩,
    ⟨none, .st 6 (.t 5) (.t 13), none⟩])
  (.seq (.seq (.reg [⟨(some 6), .mv (.k (.w (.d (.s (.int .i64 0))))), none⟩])
  (.block 0
    F177_L0))
  (.seq (.reg [⟨(some 36), .mv (.t 0), none⟩,
    ⟨(some 37), .call (.k (.w (.fn 134 []))) [(.t 36)], none⟩,
    ⟨(some 38), .bld [(.d (.s (.int .i64 0))), (.d (.s (.int .i64 0))), .nil, .nil] [(0, 1, (.k (.w (.d (.s (.int .i64 1)))))), (1, 2, (.t 37))], none⟩,
    ⟨(some 39), .fa 0 (.t 5), none⟩,
    ⟨none, .st 4 (.t 39) (.t 38), none⟩])
  (.seq (.reg [⟨(some 40), .ld true 6 (.t 5), none⟩,
    ⟨none, .st 6 (.t 4) (.t 40), none⟩])
  .ret)))))⟩

/- loop.example/stile/spec.l7Arm -/
def F178_B0 : C :=
  (.seq (.seq (.reg [⟨(some 22), .mv (.t 8), none⟩,
    ⟨(some 23), .bin .gtr .one (.t 22) (.k (.w (.d (.s (.int .i64 0))))), none⟩])
  (.cond (.t 23)
    .skip
    (.exit 0)))
  (.seq (.block 1
    (.dreg [⟨(some 26), .fa 4 (.t 7), none⟩,
      ⟨(some 27), .ld false 1 (.t 26), none⟩,
      ⟨(some 28), .mv (.t 0), none⟩,
      ⟨(some 29), .call (.k (.w (.fn 135 []))) [(.t 28)], none⟩,
      ⟨(some 30), .bsl 2 1 [(.s (.int .i64 0)), (.l 0 [])] [(0, (.t 29))], none⟩,
      ⟨(some 31), .app 2 32 [(.s (.int .i64 0)), (.l 0 [])] (.t 27) (.t 30), none⟩,
      ⟨(some 32), .fa 4 (.t 7), none⟩,
      ⟨none, .st 1 (.t 32) (.t 31), none⟩] [0, 1, 0, 4, 12, 31, 63, 127]))
  (.reg [⟨(some 24), .mv (.t 8), none⟩,
    ⟨(some 25), .bin .sub .one (.t 24) (.k (.w (.d (.s (.int .i64 1))))), none⟩,
    ⟨(some 8), .mv (.t 25), none⟩])))
def F178_L0 : C := .loop F178_B0
def F178_B1 : C :=
  (.seq (.seq (.reg [⟨(some 43), .mv (.t 9), none⟩,
    ⟨(some 44), .bin .gtr .one (.t 43) (.k (.w (.d (.s (.int .i64 0))))), none⟩])
  (.cond (.t 44)
    .skip
    (.exit 2)))
  (.seq (.block 3
    (.dreg [⟨(some 47), .fa 5 (.t 7), none⟩,
      ⟨(some 48), .ld false 1 (.t 47), none⟩,
      ⟨(some 49), .mv (.t 0), none⟩,
      ⟨(some 50), .mv (.t 1), none⟩,
      ⟨(some 51), .bin .sub .one (.t 50) (.k (.w (.d (.s (.int .i64 1))))), none⟩,
      ⟨(some 52), .call (.k (.w (.fn 178 []))) [(.t 49), (.t 51), (.k (.w (.d (.s (.bool false)))))], none⟩,
      ⟨(some 53), .bsl 6 1 [(.s (.int .i64 0)), (.s (.int .i64 0)), (.l 0 []), (.l 0 []), (.l 0 []), (.l 0 [])] [(0, (.t 52))], none⟩,
      ⟨(some 54), .app 6 112 [(.s (.int .i64 0)), (.s (.int .i64 0)), (.l 0 []), (.l 0 []), (.l 0 []), (.l 0 [])] (.t 48) (.t 53), none⟩,
      ⟨(some 55), .fa 5 (.t 7), none⟩,
      ⟨none, .st 1 (.t 55) (.t 54), none⟩] [0, 1, 0, 0, 8, 28, 60, 127, 255, 511]))
  (.reg [⟨(some 45), .mv (.t 9), none⟩,
    ⟨(some 46), .bin .sub .one (.t 45) (.k (.w (.d (.s (.int .i64 1))))), none⟩,
    ⟨(some 9), .mv (.t 46), none⟩])))
def F178_L1 : C := .loop F178_B1
def F178 : Fn := ⟨74, [.cell 6 true 6],
  (.seq (.reg [⟨(some 6), .new [(.d (.s (.int .i64 0))), (.d (.s (.int .i64 0))), .nil, .nil, .nil, .nil], none⟩])
  (.seq (.reg [⟨(some 10), .bld [(.d (.s (.int .i64 0))), (.d (.s (.int .i64 0))), .nil, .nil, .nil, .nil] [], none⟩,
    ⟨(some 7), .new [(.d (.s (.int .i64 0))), (.d (.s (.int .i64 0))), .nil, .nil, .nil, .nil], none⟩,
    ⟨none, .st 6 (.t 7) (.t 10), none⟩])
  (.seq (.seq (.reg [⟨(some 11), .mv (.t 2), none⟩,
    ⟨(some 12), .mv (.t 11), none⟩,
    ⟨(some 13), .mv (.t 0), (some (12, false))⟩,
    ⟨(some 14), .call (.k (.w (.fn 67 []))) [(.t 13), (.k (.w (.d (.s (.int .i64 3)))))], (some (12, false))⟩,
    ⟨(some 15), .bin .gtr .one (.t 14) (.k (.w (.d (.s (.int .i64 0))))), (some (12, false))⟩,
    ⟨(some 16), .pick (.t 12) (.k (.w (.d (.s (.bool true))))) (.t 15), none⟩])
  (.cond (.t 16)
    (.reg [⟨(some 17), .mv (.t 0), none⟩,
      ⟨(some 18), .call (.k (.w (.fn 115 []))) [(.t 17), (.k (.w (.d (.s (.int .i64 2)))))], none⟩,
      ⟨(some 19), .fa 0 (.t 7), none⟩,
      ⟨none, .st 4 (.t 19) (.t 18), none⟩])
    .skip))
  (.seq (.seq (.reg [⟨(some 20), .mv (.t 0), none⟩,
    ⟨(some 21), .call (.k (.w (.fn 67 []))) [(.t 20), (.k (.w (.d (.s (.int .i64 3)))))], none⟩,
    ⟨(some 8), .mv (.t 21), none⟩])
  (.block 0
    F178_L0))
  (.seq (.seq (.reg [⟨(some 33), .mv (.t 1), none⟩,
    ⟨(some 34), .bin .gtr .one (.t 33) (.k (.w (.d (.s (.int .i64 0))))), none⟩,
    ⟨(some 35), .mv (.t 34), none⟩,
    ⟨(some 36), .mv (.t 0), (some (35, true))⟩,
    ⟨(some 37), .call (.k (.w (.fn 67 []))) [(.t 36), (.k (.w (.d (.s (.int .i64 3)))))], (some (35, true))⟩,
    ⟨(some 38), .bin .eql .one (.t 37) (.k (.w (.d (.s (.int .i64 0))))), (some (35, true))⟩,
    ⟨(some 39), .pick (.t 35) (.t 38) (.k (.w (.d (.s (.bool false))))), none⟩])
  (.cond (.t 39)
    (.seq (.reg [⟨(some 40), .mv (.t 0), none⟩,
      ⟨(some 41), .call (.k (.w (.fn 67 []))) [(.t 40), (.k (.w (.d (.s (.int .i64 3)))))], none⟩,
      ⟨(some 42), .bin .add .one (.k (.w (.d (.s (.int .i64 1))))) (.t 41), none⟩,
      ⟨(some 9), .mv (.t 42), none⟩])
    (.block 2
      F178_L1))
    .skip))
  (.seq (.seq (.reg [⟨(some 56), .fa 4 (.t 7), none⟩,
    ⟨(some 57), .ld false 1 (.t 56), none⟩,
    ⟨(some 58), .lenl (.t 57), none⟩,
    ⟨(some 59), .bin .eql .one (.t 58) (.k (.w (.d (.s (.int .i64 0))))), none⟩,
    ⟨(some 60), .mv (.t 59), none⟩,
    ⟨(some 61), .fa 5 (.t 7), (some (60, true))⟩,
    ⟨(some 62), .ld false 1 (.t 61), (some (60, true))⟩,
    ⟨(some 63), .lenl (.t 62), (some (60, true))⟩,
    ⟨(some 64), .bin .eql .one (.t 63) (.k (.w (.d (.s (.int .i64 0))))), (some (60, true))⟩,
    ⟨(some 65), .pick (.t 60) (.t 64) (.k (.w (.d (.s (.bool false))))), none⟩])
  (.cond (.t 65)
    (.dreg [⟨(some 66), .fa 4 (.t 7), none⟩,
      ⟨(some 67), .ld false 1 (.t 66), none⟩,
      ⟨(some 68), .mv (.t 0), none⟩,
      ⟨(some 69), .call (.k (.w (.fn 135 []))) [(.t 68)], none⟩,
      ⟨(some 70), .bsl 2 1 [(.s (.int .i64 0)), (.l 0 [])] [(0, (.t 69))], none⟩,
      ⟨(some 71), .app 2 32 [(.s (.int .i64 0)), (.l 0 [])] (.t 67) (.t 70), none⟩,
      ⟨(some 72), .fa 4 (.t 7), none⟩,
      ⟨none, .st 1 (.t 72) (.t 71), none⟩] [0, 1, 0, 4, 12, 31, 63, 127])
    .skip))
  (.seq (.reg [⟨(some 73), .ld true 6 (.t 7), none⟩,
    ⟨none, .st 6 (.t 6) (.t 73), none⟩])
  .ret)))))))⟩

/- loop.example/stile/spec.l4Bit -/
def F155 : Fn := ⟨8, [.cell 2 true 3],
  (.seq (.reg [⟨(some 2), .new [(.d (.s (.int .i64 0))), (.d (.s (.int .i64 0))), (.d (.s (.int .i64 0)))], none⟩])
  (.seq (.reg [⟨(some 3), .mv (.t 0), none⟩,
    ⟨(some 4), .mv (.t 0), none⟩,
    ⟨(some 5), .bsl 1 9 [(.s (.int .i64 0))] [(0, (.k (.w (.d (.s (.int .i64 1)))))), (1, (.k (.w (.d (.s (.int .i64 1)))))), (2, (.k (.w (.d (.s (.int .i64 2)))))), (3, (.k (.w (.d (.s (.int .i64 3)))))), (4, (.k (.w (.d (.s (.int .i64 3)))))), (5, (.k (.w (.d (.s (.int .i64 4)))))), (6, (.k (.w (.d (.s (.int .i64 6)))))), (7, (.k (.w (.d (.s (.int .i64 7)))))), (8, (.k (.w (.d (.s (.int .i64 8))))))], none⟩,
    ⟨(some 6), .call (.k (.w (.fn 96 []))) [(.t 4), (.t 5)], none⟩,
    ⟨(some 7), .call (.k (.w (.fn 153 []))) [(.t 3), (.t 6)], none⟩,
    ⟨none, .st 3 (.t 2) (.t 7), none⟩])
  .ret))⟩

/- loop.example/stile/spec.l2Arg -/
def F153 : Fn := ⟨53, [.cell 4 true 3],
  (.seq (.reg [⟨(some 4), .new [(.d (.s (.int .i64 0))), (.d (.s (.int .i64 0))), (.d (.s (.int .i64 0)))], none⟩])
  (.seq (.seq (.reg [⟨(some 8), .mv (.t 1), none⟩])
  (.block 0
    (.seq (.reg [⟨(some 10), .bin .eql .one (.t 8) (.k (.w (.d (.s (.int .i64 11))))), none⟩,
      ⟨(some 9), .mv (.t 10), none⟩])
    (.cond (.t 9)
      (.seq (.reg [⟨(some 11), .mv (.t 1), none⟩,
        ⟨(some 12), .mv (.t 0), none⟩,
        ⟨(some 13), .bsl 1 12 [(.s (.int .i64 0))] [(0, (.k (.w (.d (.s (.int .i64 0)))))), (1, (.k (.w (.d (.s (.int .i64 1)))))), (2, (.k (.w (.d (.s (.int .i64 2)))))), (3, (.k (.w (.d (.s (.int .i64 3)))))), (4, (.k (.w (.d (.s (.int .i64 5)))))), (5, (.k (.w (.d (.s (.int .i64 (-1))))))), (6, (.k (.w (.d (.s (.int .i64 (-7))))))), (7, (.k (.w (.d (.s (.int .i64 10)))))), (8, (.k (.w (.d (.s (.int .i64 100)))))), (9, (.k (.w (.d (.s (.int .i64 32767)))))), (10, (.k (.w (.d (.s (.int .i64 (-32768))))))), (11, (.k (.w (.d (.s (.int .i64 1000))))))], none⟩,
        ⟨(some 14), .call (.k (.w (.fn 96 []))) [(.t 12), (.t 13)], none⟩,
        ⟨(some 15), .bld [(.d (.s (.int .i64 0))), (.d (.s (.int .i64 0))), (.d (.s (.int .i64 0)))] [(0, 1, (.t 11)), (1, 1, (.t 14))], none⟩,
        ⟨none, .st 3 (.t 4) (.t 15), none⟩])
      .ret)
      (.seq (.reg [⟨(some 17), .bin .eql .one (.t 8) (.k (.w (.d (.s (.int .i64 12))))), none⟩,
        ⟨(some 16), .mv (.t 17), none⟩])
      (.cond (.t 16)
        (.seq (.reg [⟨(some 18), .mv (.t 0), none⟩,
          ⟨(some 19), .bsl 1 11 [(.s (.int .i64 0))] [(0, (.k (.w (.d (.s (.int .i64 0)))))), (1, (.k (.w (.d (.s (.int .i64 1)))))), (2, (.k (.w (.d (.s (.int .i64 5)))))), (3, (.k (.w (.d (.s (.int .i64 (-5))))))), (4, (.k (.w (.d (.s (.int .i64 25)))))), (5, (.k (.w (.d (.s (.int .i64 (-15))))))), (6, (.k (.w (.d (.s (.int .i64 999999999)))))), (7, (.k (.w (.d (.s (.int .i64 (-999999999))))))), (8, (.k (.w (.d (.s (.int .i64 3)))))), (9, (.k (.w (.d (.s (.int .i64 1001)))))), (10, (.k (.w (.d (.s (.int .i64 7))))))], none⟩,
          ⟨(some 20), .call (.k (.w (.fn 96 []))) [(.t 18), (.t 19)], none⟩,
          ⟨(some 5), .mv (.t 20), none⟩])
        (.seq (.reg [⟨(some 21), .mv (.t 0), none⟩,
          ⟨(some 22), .call (.k (.w (.fn 67 []))) [(.t 21), (.k (.w (.d (.s (.int .i64 6)))))], none⟩,
          ⟨(some 23), .bin .add .one (.k (.w (.d (.s (.int .i64 1))))) (.t 22), none⟩,
          ⟨(some 6), .mv (.t 23), none⟩])
        (.seq (.seq (.reg [⟨(some 24), .mv (.t 5), none⟩,
          ⟨(some 25), .bin .rem .one (.t 24) (.k (.w (.d (.s (.int .i64 10))))), none⟩,
          ⟨(some 26), .bin .eql .one (.t 25) (.k (.w (.d (.s (.int .i64 0))))), none⟩])
        (.cond (.t 26)
          (.reg [⟨(some 6), .mv (.k (.w (.d (.s (.int .i64 1))))), none⟩])
          .skip))
        (.seq (.reg [⟨(some 27), .mv (.t 1), none⟩,
          ⟨(some 28), .mv (.t 5), none⟩,
          ⟨(some 29), .mv (.t 6), none⟩,
          ⟨(some 30), .bld [(.d (.s (.int .i64 0))), (.d (.s (.int .i64 0))), (.d (.s (.int .i64 0)))] [(0, 1, (.t 27)), (1, 1, (.t 28)), (2, 1, (.t 29))], none⟩,
          ⟨none, .st 3 (.t 4) (.t 30), none⟩])
        .ret))))
        (.seq (.reg [⟨(some 32), .bin .eql .one (.t 8) (.k (.w (.d (.s (.int .i64 13))))), none⟩,
          ⟨(some 31), .mv (.t 32), none⟩])
        (.cond (.t 31)
          (.seq (.reg [⟨(some 33), .mv (.t 1), none⟩,
            ⟨(some 34), .mv (.t 0), none⟩,
            ⟨(some 35), .call (.k (.w (.fn 67 []))) [(.t 34), (.k (.w (.d (.s (.int .i64 4)))))], none⟩,
            ⟨(some 36), .bld [(.d (.s (.int .i64 0))), (.d (.s (.int .i64 0))), (.d (.s (.int .i64 0)))] [(0, 1, (.t 33)), (1, 1, (.t 35))], none⟩,
            ⟨none, .st 3 (.t 4) (.t 36), none⟩])
          .ret)
          .skip))))))))
  (.seq (.reg [⟨(some 37), .mv (.t 0), none⟩,
    ⟨(some 38), .call (.k (.w (.fn 67 []))) [(.t 37), (.k (.w (.d (.s (.int .i64 4)))))], none⟩,
    ⟨(some 7), .mv (.t 38), none⟩])
  (.seq (.seq (.reg [⟨(some 39), .mv (.t 0), none⟩,
    ⟨(some 40), .call (.k (.w (.fn 67 []))) [(.t 39), (.k (.w (.d (.s (.int .i64 6)))))], none⟩,
    ⟨(some 41), .bin .eql .one (.t 40) (.k (.w (.d (.s (.int .i64 0))))), none⟩])
  (.cond (.t 41)
    (.reg [⟨(some 42), .mv (.t 0), none⟩,
      ⟨(some 43), .mv (.t 1), none⟩,
      ⟨(some 44), .call (.k (.w (.fn 180 []))) [(.t 43)], none⟩,
      ⟨(some 45), .call (.k (.w (.fn 67 []))) [(.t 42), (.t 44)], none⟩,
      ⟨(some 7), .mv (.t 45), none⟩])
    .skip))
  (.seq (.seq (.reg [⟨(some 46), .mv (.t 7), none⟩,
    ⟨(some 47), .mv (.t 1), none⟩,
    ⟨(some 48), .call (.k (.w (.fn 180 []))) [(.t 47)], none⟩,
    ⟨(some 49), .bin .geq .one (.t 46) (.t 48), none⟩])
  (.cond (.t 49)
    (.reg [⟨(some 7), .mv (.k (.w (.d (.s (.int .i64 0))))), none⟩])
    .skip))
  (.seq (.reg [⟨(some 50), .mv (.t 1), none⟩,
    ⟨(some 51), .mv (.t 7), none⟩,
    ⟨(some 52), .bld [(.d (.s (.int .i64 0))), (.d (.s (.int .i64 0))), (.d (.s (.int .i64 0)))] [(0, 1, (.t 50)), (1, 1, (.t 51))], none⟩,
    ⟨none, .st 3 (.t 4) (.t 52), none⟩])
  .ret))))))⟩

/- loop.example/stile/spec.l4Whole -/
def F156 : Fn := ⟨8, [.cell 2 true 3],
  (.seq (.reg [⟨(some 2), .new [(.d (.s (.int .i64 0))), (.d (.s (.int .i64 0))), (.d (.s (.int .i64 0)))], none⟩])
  (.seq (.reg [⟨(some 3), .mv (.t 0), none⟩,
    ⟨(some 4), .mv (.t 0), none⟩,
    ⟨(some 5), .bsl 1 7 [(.s (.int .i64 0))] [(0, (.k (.w (.d (.s (.int .i64 9)))))), (1, (.k (.w (.d (.s (.int .i64 9)))))), (2, (.k (.w (.d (.s (.int .i64 9)))))), (3, (.k (.w (.d (.s (.int .i64 11)))))), (4, (.k (.w (.d (.s (.int .i64 11)))))), (5, (.k (.w (.d (.s (.int .i64 7)))))), (6, (.k (.w (.d (.s (.int .i64 8))))))], none⟩,
    ⟨(some 6), .call (.k (.w (.fn 96 []))) [(.t 4), (.t 5)], none⟩,
    ⟨(some 7), .call (.k (.w (.fn 153 []))) [(.t 3), (.t 6)], none⟩,
    ⟨none, .st 3 (.t 2) (.t 7), none⟩])
  .ret))⟩

/- loop.example/stile/spec.l4Real -/
def F157 : Fn := ⟨8, [.cell 2 true 3],
  (.seq (.reg [⟨(some 2), .new [(.d (.s (.int .i64 0))), (.d (.s (.int .i64 0))), (.d (.s (.int .i64 0)))], none⟩])
  (.seq (.reg [⟨(some 3), .mv (.t 0), none⟩,
    ⟨(some 4), .mv (.t 0), none⟩,
    ⟨(some 5), .bsl 1 5 [(.s (.int .i64 0))] [(0, (.k (.w (.d (.s (.int .i64 10)))))), (1, (.k (.w (.d (.s (.int .i64 10)))))), (2, (.k (.w (.d (.s (.int .i64 10)))))), (3, (.k (.w (.d (.s (.int .i64 12)))))), (4, (.k (.w (.d (.s (.int .i64 13))))))], none⟩,
    ⟨(some 6), .call (.k (.w (.fn 96 []))) [(.t 4), (.t 5)], none⟩,
    ⟨(some 7), .call (.k (.w (.fn 153 []))) [(.t 3), (.t 6)], none⟩,
    ⟨none, .st 3 (.t 2) (.t 7), none⟩])
  .ret))⟩

/- loop.example/stile/spec.ElemArity -/
def F158 : Fn := ⟨31, [.tmp 2],
  (.seq (.reg [⟨(some 2), .mv (.k (.w (.d (.s (.int .i64 0))))), none⟩])
  (.seq (.seq (.reg [⟨(some 3), .mv (.t 0), none⟩])
  (.block 0
    (.seq (.seq (.reg [⟨(some 5), .bin .eql .one (.t 3) (.k (.w (.d (.s (.int .i64 1))))), none⟩,
      ⟨(some 4), .mv (.t 5), none⟩])
    (.cond (.t 4)
      .skip
      (.seq (.reg [⟨(some 6), .bin .eql .one (.t 3) (.k (.w (.d (.s (.int .i64 2))))), none⟩,
        ⟨(some 4), .mv (.t 6), none⟩])
      (.cond (.t 4)
        .skip
        (.seq (.reg [⟨(some 7), .bin .eql .one (.t 3) (.k (.w (.d (.s (.int .i64 21))))), none⟩,
          ⟨(some 4), .mv (.t 7), none⟩])
        (.cond (.t 4)
          .skip
          (.seq (.reg [⟨(some 8), .bin .eql .one (.t 3) (.k (.w (.d (.s (.int .i64 22))))), none⟩,
            ⟨(some 4), .mv (.t 8), none⟩])
          (.cond (.t 4)
            .skip
            (.seq (.reg [⟨(some 9), .bin .eql .one (.t 3) (.k (.w (.d (.s (.int .i64 23))))), none⟩,
              ⟨(some 4), .mv (.t 9), none⟩])
            (.cond (.t 4)
              .skip
              (.reg [⟨(some 10), .bin .eql .one (.t 3) (.k (.w (.d (.s (.int .i64 25))))), none⟩,
                ⟨(some 4), .mv (.t 10), none⟩])))))))))))
    (.cond (.t 4)
      (.seq (.reg [⟨(some 2), .mv (.k (.w (.d (.s (.int .i64 1))))), none⟩])
      .ret)
      (.seq (.seq (.reg [⟨(some 12), .bin .eql .one (.t 3) (.k (.w (.d (.s (.int .i64 31))))), none⟩,
        ⟨(some 11), .mv (.t 12), none⟩])
      (.cond (.t 11)
        .skip
        (.seq (.reg [⟨(some 13), .bin .eql .one (.t 3) (.k (.w (.d (.s (.int .i64 32))))), none⟩,
          ⟨(some 11), .mv (.t 13), none⟩])
        (.cond (.t 11)
          .skip
          (.seq (.reg [⟨(some 14), .bin .eql .one (.t 3) (.k (.w (.d (.s (.int .i64 33))))), none⟩,
            ⟨(some 11), .mv (.t 14), none⟩])
          (.cond (.t 11)
            .skip
            (.seq (.reg [⟨(some 15), .bin .eql .one (.t 3) (.k (.w (.d (.s (.int .i64 34))))), none⟩,
              ⟨(some 11), .mv (.t 15), none⟩])
            (.cond (.t 11)
              .skip
              (.reg [⟨(some 16), .bin .eql .one (.t 3) (.k (.w (.d (.s (.int .i64 35))))), none⟩,
                ⟨(some 11), .mv (.t 16), none⟩])))))))))
      (.cond (.t 11)
        (.seq (.reg [⟨(some 2), .mv (.k (.w (.d (.s (.int .i64 3))))), none⟩])
        .ret)
        .skip))))))
  (.seq (.seq (.reg [⟨(some 17), .mv (.t 0), none⟩,
    ⟨(some 18), .bin .geq .one (.t 17) (.k (.w (.d (.s (.int .i64 1))))), none⟩,
    ⟨(some 19), .mv (.t 18), none⟩,
    ⟨(some 20), .mv (.t 0), (some (19, true))⟩,
    ⟨(some 21), .bin .leq .one (.t 20) (.k (.w (.d (.s (.int .i64 10))))), (some (19, true))⟩,
    ⟨(some 22), .pick (.t 19) (.t 21) (.k (.w (.d (.s (.bool false))))), none⟩,
    ⟨(some 23), .mv (.t 22), none⟩,
    ⟨(some 24), .mv (.t 0), (some (23, false))⟩,
    ⟨(some 25), .bin .geq .one (.t 24) (.k (.w (.d (.s (.int .i64 21))))), (some (23, false))⟩,
    ⟨(some 26), .mv (.t 25), (some (23, false))⟩,
    ⟨(some 27), .mv (.t 0), (some (26, true))⟩,
    ⟨(some 28), .bin .leq .one (.t 27) (.k (.w (.d (.s (.int .i64 37))))), (some (26, true))⟩,
    ⟨(some 29), .pick (.t 26) (.t 28) (.k (.w (.d (.s (.bool false))))), (some (23, false))⟩,
    ⟨(some 30), .pick (.t 23) (.k (.w (.d (.s (.bool true))))) (.t 29), none⟩])
  (.cond (.t 30)
    (.seq (.reg [⟨(some 2), .mv (.k (.w (.d (.s (.int .i64 2))))), none⟩])
    .ret)
    .skip))
  (.seq (.reg [⟨(some 2), .mv (.k (.w (.d (.s (.int .i64 0))))), none⟩])
  .ret))))⟩

/- loop.example/stile/spec.l4Spoil -/
def F136 : Fn := ⟨63, [.cell 4 true 2],
  (.seq (.reg [⟨(some 3), .box 2 (.t 1), none⟩,
    ⟨(some 4), .new [(.d (.s (.int .i64 0))), .nil], none⟩])
  (.seq (.reg [⟨(some 7), .bsl 3 0 [(.s (.int .i64 0)), (.s (.int .i64 0)), (.s (.int .i64 0))] [], none⟩,
    ⟨(some 8), .fa 1 (.t 3), none⟩,
    ⟨(some 9), .ld false 1 (.t 8), none⟩,
    ⟨(some 10), .app 3 24 [(.s (.int .i64 0)), (.s (.int .i64 0)), (.s (.int .i64 0))] (.t 7) (.t 9), none⟩,
    ⟨(some 5), .mv (.t 10), none⟩])
  (.seq (.seq (.reg [⟨(some 11), .mv (.t 0), none⟩,
    ⟨(some 12), .call (.k (.w (.fn 67 []))) [(.t 11), (.k (.w (.d (.s (.int .i64 6)))))], none⟩])
  (.block 0
    (.seq (.reg [⟨(some 14), .bin .eql .one (.t 12) (.k (.w (.d (.s (.int .i64 0))))), none⟩,
      ⟨(some 13), .mv (.t 14), none⟩])
    (.cond (.t 13)
      (.seq (.reg [⟨(some 15), .mv (.t 0), none⟩,
        ⟨(some 16), .bsl 1 10 [(.s (.int .i64 0))] [(0, (.k (.w (.d (.s (.int .i64 (-1))))))), (1, (.k (.w (.d (.s (.int .i64 0)))))), (2, (.k (.w (.d (.s (.int .i64 1)))))), (3, (.k (.w (.d (.s (.int .i64 5)))))), (4, (.k (.w (.d (.s (.int .i64 11)))))), (5, (.k (.w (.d (.s (.int .i64 20)))))), (6, (.k (.w (.d (.s (.int .i64 21)))))), (7, (.k (.w (.d (.s (.int .i64 26)))))), (8, (.k (.w (.d (.s (.int .i64 37)))))), (9, (.k (.w (.d (.s (.int .i64 38))))))], none⟩,
        ⟨(some 17), .call (.k (.w (.fn 96 []))) [(.t 15), (.t 16)], none⟩,
        ⟨(some 18), .mv (.t 5), none⟩,
        ⟨(some 19), .bld [(.d (.s (.int .i64 0))), .nil] [(0, 1, (.t 17)), (1, 1, (.t 18))], none⟩,
        ⟨none, .st 2 (.t 4) (.t 19), none⟩])
      .ret)
      (.seq (.reg [⟨(some 21), .bin .eql .one (.t 12) (.k (.w (.d (.s (.int .i64 1))))), none⟩,
        ⟨(some 20), .mv (.t 21), none⟩])
      (.cond (.t 20)
        (.seq (.dreg [⟨(some 22), .fa 0 (.t 3), none⟩,
          ⟨(some 23), .ld false 1 (.t 22), none⟩,
          ⟨(some 24), .mv (.t 5), none⟩,
          ⟨(some 25), .mv (.t 0), none⟩,
          ⟨(some 26), .call (.k (.w (.fn 129 []))) [(.t 25)], none⟩,
          ⟨(some 27), .bsl 3 1 [(.s (.int .i64 0)), (.s (.int .i64 0)), (.s (.int .i64 0))] [(0, (.t 26))], none⟩,
          ⟨(some 28), .app 3 24 [(.s (.int .i64 0)), (.s (.int .i64 0)), (.s (.int .i64 0))] (.t 24) (.t 27), none⟩,
          ⟨(some 29), .bld [(.d (.s (.int .i64 0))), .nil] [(0, 1, (.t 23)), (1, 1, (.t 28))], none⟩,
          ⟨none, .st 2 (.t 4) (.t 29), none⟩] [0, 1, 0, 0, 8, 24, 60, 127, 255])
        .ret)
        (.seq (.reg [⟨(some 31), .bin .eql .one (.t 12) (.k (.w (.d (.s (.int .i64 2))))), none⟩,
          ⟨(some 30), .mv (.t 31), none⟩])
        (.cond (.t 30)
          (.seq (.reg [⟨(some 32), .fa 0 (.t 3), none⟩,
            ⟨(some 33), .ld false 1 (.t 32), none⟩,
            ⟨(some 34), .bld [(.d (.s (.int .i64 0))), .nil] [(0, 1, (.t 33))], none⟩,
            ⟨none, .st 2 (.t 4) (.t 34), none⟩])
          .ret)
          .skip))))))))
  (.seq (.seq (.reg [⟨(some 35), .mv (.t 5), none⟩,
    ⟨(some 36), .lenl (.t 35), none⟩,
    ⟨(some 37), .bin .gtr .one (.t 36) (.k (.w (.d (.s (.int .i64 0))))), none⟩])
  (.cond (.t 37)
    (.seq (.reg [⟨(some 38), .mv (.t 0), none⟩,
      ⟨(some 39), .mv (.t 5), none⟩,
      ⟨(some 40), .lenl (.t 39), none⟩,
      ⟨(some 41), .call (.k (.w (.fn 67 []))) [(.t 38), (.t 40)], none⟩,
      ⟨(some 6), .mv (.t 41), none⟩])
    (.seq (.reg [⟨(some 42), .mv (.t 5), none⟩,
      ⟨(some 43), .mv (.t 6), none⟩,
      ⟨(some 44), .mv (.t 0), none⟩,
      ⟨(some 45), .mv (.t 5), none⟩,
      ⟨(some 46), .mv (.t 6), none⟩,
      ⟨(some 47), .ia 3 (.t 45) (.t 46), none⟩,
      ⟨(some 48), .ld true 3 (.t 47), none⟩,
      ⟨(some 49), .call (.k (.w (.fn 154 []))) [(.t 44), (.t 48)], none⟩,
      ⟨(some 50), .ia 3 (.t 42) (.t 43), none⟩,
      ⟨none, .st 3 (.t 50) (.t 49), none⟩])
    (.seq (.reg [⟨(some 51), .mv (.t 0), none⟩,
      ⟨(some 52), .call (.k (.w (.fn 67 []))) [(.t 51), (.k (.w (.d (.s (.int .i64 2)))))], none⟩,
      ⟨(some 53), .bin .eql .one (.t 52) (.k (.w (.d (.s (.int .i64 0))))), none⟩])
    (.cond (.t 53)
      (.reg [⟨(some 54), .mv (.t 5), none⟩,
        ⟨(some 55), .mv (.t 6), none⟩,
        ⟨(some 56), .mv (.t 0), none⟩,
        ⟨(some 57), .call (.k (.w (.fn 129 []))) [(.t 56)], none⟩,
        ⟨(some 58), .ia 3 (.t 54) (.t 55), none⟩,
        ⟨none, .st 3 (.t 58) (.t 57), none⟩])
      .skip))))
    .skip))
  (.seq (.reg [⟨(some 59), .fa 0 (.t 3), none⟩,
    ⟨(some 60), .ld false 1 (.t 59), none⟩,
    ⟨(some 61), .mv (.t 5), none⟩,
    ⟨(some 62), .bld [(.d (.s (.int .i64 0))), .nil] [(0, 1, (.t 60)), (1, 1, (.t 61))], none⟩,
    ⟨none, .st 2 (.t 4) (.t 62), none⟩])
  .ret)))))⟩

/- loop.example/stile/spec.l7SpoilNet -/
def F116 : Fn := ⟨80, [.cell 4 true 4],
  (.seq (.reg [⟨(some 3), .box 4 (.t 1), none⟩,
    ⟨(some 4), .new [(.d (.s (.int .i64 0))), (.d (.s (.int .i64 0))), .nil, .nil], none⟩])
  (.seq (.seq (.reg [⟨(some 7), .fa 3 (.t 3), none⟩,
    ⟨(some 8), .ld false 1 (.t 7), none⟩,
    ⟨(some 9), .lenl (.t 8), none⟩,
    ⟨(some 10), .bin .gtr .one (.t 9) (.k (.w (.d (.s (.int .i64 0))))), none⟩,
    ⟨(some 11), .mv (.t 10), none⟩,
    ⟨(some 12), .mv (.t 0), (some (11, true))⟩,
    ⟨(some 13), .call (.k (.w (.fn 67 []))) [(.t 12), (.k (.w (.d (.s (.int .i64 3)))))], (some (11, true))⟩,
    ⟨(some 14), .bin .gtr .one (.t 13) (.k (.w (.d (.s (.int .i64 0))))), (some (11, true))⟩,
    ⟨(some 15), .pick (.t 11) (.t 14) (.k (.w (.d (.s (.bool false))))), none⟩])
  (.cond (.t 15)
    (.seq (.reg [⟨(some 16), .bsl 4 0 [(.s (.int .i64 0)), (.s (.int .i64 0)), (.l 0 []), (.l 0 [])] [], none⟩,
      ⟨(some 17), .fa 3 (.t 3), none⟩,
      ⟨(some 18), .ld false 1 (.t 17), none⟩,
      ⟨(some 19), .app 4 64 [(.s (.int .i64 0)), (.s (.int .i64 0)), (.l 0 []), (.l 0 [])] (.t 16) (.t 18), none⟩,
      ⟨(some 5), .mv (.t 19), none⟩])
    (.seq (.reg [⟨(some 20), .mv (.t 0), none⟩,
      ⟨(some 21), .mv (.t 5), none⟩,
      ⟨(some 22), .lenl (.t 21), none⟩,
      ⟨(some 23), .call (.k (.w (.fn 67 []))) [(.t 20), (.t 22)], none⟩,
      ⟨(some 6), .mv (.t 23), none⟩])
    (.seq (.reg [⟨(some 24), .mv (.t 5), none⟩,
      ⟨(some 25), .mv (.t 6), none⟩,
      ⟨(some 26), .mv (.t 0), none⟩,
      ⟨(some 27), .mv (.t 5), none⟩,
      ⟨(some 28), .mv (.t 6), none⟩,
      ⟨(some 29), .ia 4 (.t 27) (.t 28), none⟩,
      ⟨(some 30), .ld true 4 (.t 29), none⟩,
      ⟨(some 31), .call (.k (.w (.fn 116 []))) [(.t 26), (.t 30)], none⟩,
      ⟨(some 32), .ia 4 (.t 24) (.t 25), none⟩,
      ⟨none, .st 4 (.t 32) (.t 31), none⟩])
    (.seq (.reg [⟨(some 33), .mv (.t 5), none⟩,
      ⟨(some 34), .fa 3 (.t 3), none⟩,
      ⟨none, .st 1 (.t 34) (.t 33), none⟩])
    (.seq (.reg [⟨(some 35), .ld true 4 (.t 3), none⟩,
      ⟨none, .st 4 (.t 4) (.t 35), none⟩])
    .ret)))))
    .skip))
  (.seq (.seq (.reg [⟨(some 36), .mv (.t 0), none⟩,
    ⟨(some 37), .call (.k (.w (.fn 67 []))) [(.t 36), (.k (.w (.d (.s (.int .i64 6)))))], none⟩])
  (.block 0
    (.seq (.reg [⟨(some 47), .bin .eql .one (.t 37) (.k (.w (.d (.s (.int .i64 0))))), none⟩,
      ⟨(some 46), .mv (.t 47), none⟩])
    (.cond (.t 46)
      (.reg [⟨(some 48), .mv (.t 0), none⟩,
        ⟨(some 49), .bsl 1 7 [(.s (.int .i64 0))] [(0, (.k (.w (.d (.s (.int .i64 (-1))))))), (1, (.k (.w (.d (.s (.int .i64 0)))))), (2, (.k (.w (.d (.s (.int .i64 1)))))), (3, (.k (.w (.d (.s (.int .i64 2)))))), (4, (.k (.w (.d (.s (.int .i64 3)))))), (5, (.k (.w (.d (.s (.int .i64 4)))))), (6, (.k (.w (.d (.s (.int .i64 5))))))], none⟩,
        ⟨(some 50), .call (.k (.w (.fn 96 []))) [(.t 48), (.t 49)], none⟩,
        ⟨(some 51), .fa 0 (.t 3), none⟩,
        ⟨none, .st 1 (.t 51) (.t 50), none⟩])
      (.seq (.reg [⟨(some 53), .bin .eql .one (.t 37) (.k (.w (.d (.s (.int .i64 1))))), none⟩,
        ⟨(some 52), .mv (.t 53), none⟩])
      (.cond (.t 52)
        (.reg [⟨(some 54), .bsl 4 0 [(.s (.int .i64 0)), (.s (.int .i64 0)), (.l 0 []), (.l 0 [])] [], none⟩,
          ⟨(some 55), .fa 3 (.t 3), none⟩,
          ⟨(some 56), .ld false 1 (.t 55), none⟩,
          ⟨(some 57), .app 4 64 [(.s (.int .i64 0)), (.s (.int .i64 0)), (.l 0 []), (.l 0 [])] (.t 54) (.t 56), none⟩,
          ⟨(some 58), .mv (.t 0), none⟩,
          ⟨(some 59), .call (.k (.w (.fn 134 []))) [(.t 58)], none⟩,
          ⟨(some 60), .bld [(.d (.s (.int .i64 0))), (.d (.s (.int .i64 0))), .nil, .nil] [(0, 1, (.k (.w (.d (.s (.int .i64 1)))))), (1, 2, (.t 59))], none⟩,
          ⟨(some 61), .bsl 4 1 [(.s (.int .i64 0)), (.s (.int .i64 0)), (.l 0 []), (.l 0 [])] [(0, (.t 60))], none⟩,
          ⟨(some 62), .app 4 64 [(.s (.int .i64 0)), (.s (.int .i64 0)), (.l 0 []), (.l 0 [])] (.t 57) (.t 61), none⟩,
          ⟨(some 63), .fa 3 (.t 3), none⟩,
          ⟨none, .st 1 (.t 63) (.t 62), none⟩])
        (.seq (.reg [⟨(some 65), .bin .eql .one (.t 37) (.k (.w (.d (.s (.int .i64 2))))), none⟩,
          ⟨(some 64), .mv (.t 65), none⟩])
        (.cond (.t 64)
          (.reg [⟨(some 66), .fa 3 (.t 3), none⟩,
            ⟨none, .st 1 (.t 66) (.k (.w .nil)), none⟩])
          (.seq (.reg [⟨(some 68), .bin .eql .one (.t 37) (.k (.w (.d (.s (.int .i64 3))))), none⟩,
            ⟨(some 67), .mv (.t 68), none⟩])
          (.cond (.t 67)
            (.reg [⟨(some 69), .mv (.t 0), none⟩,
              ⟨(some 70), .call (.k (.w (.fn 135 []))) [(.t 69)], none⟩,
              ⟨(some 71), .fa 1 (.t 3), none⟩,
              ⟨none, .st 2 (.t 71) (.t 70), none⟩])
            (.seq (.reg [⟨(some 73), .bin .eql .one (.t 37) (.k (.w (.d (.s (.int .i64 4))))), none⟩,
              ⟨(some 72), .mv (.t 73), none⟩])
            (.cond (.t 72)
              (.reg [⟨(some 74), .mv (.t 0), none⟩,
                ⟨(some 75), .fa 1 (.t 3), none⟩,
                ⟨(some 76), .ld true 2 (.t 75), none⟩,
                ⟨(some 77), .call (.k (.w (.fn 136 []))) [(.t 74), (.t 76)], none⟩,
                ⟨(some 78), .fa 1 (.t 3), none⟩,
                ⟨none, .st 2 (.t 78) (.t 77), none⟩])
              (.reg [⟨(some 38), .bsl 4 0 [(.s (.int .i64 0)), (.s (.int .i64 0)), (.l 0 []), (.l 0 [])] [], none⟩,
                ⟨(some 39), .fa 3 (.t 3), none⟩,
                ⟨(some 40), .ld false 1 (.t 39), none⟩,
                ⟨(some 41), .app 4 64 [(.s (.int .i64 0)), (.s (.int .i64 0)), (.l 0 []), (.l 0 [])] (.t 38) (.t 40), none⟩,
                ⟨(some 42), .bld [(.d (.s (.int .i64 0))), (.d (.s (.int .i64 0))), .nil, .nil] [], none⟩,
                ⟨(some 43), .bsl 4 1 [(.s (.int .i64 0)), (.s (.int .i64 0)), (.l 0 []), (.l 0 [])] [(0, (.t 42))], none⟩,
                ⟨(some 44), .app 4 64 [(.s (.int .i64 0)), (.s (.int .i64 0)), (.l 0 []), (.l 0 [])] (.t 41) (.t 43), none⟩,
                ⟨(some 45), .fa 3 (.t 3), none⟩,
                ⟨none, .st 1 (.t 45) (.t 44), none⟩])))))))))))))
  (.seq (.reg [⟨(some 79), .ld true 4 (.t 3), none⟩,
    ⟨none, .st 4 (.t 4) (.t 79), none⟩])
  .ret))))⟩

/- loop.example/stile/spec.l7NetSize -/
def F144_B0 : C :=
  (.seq (.seq (.reg [⟨(some 5), .mv (.t 4), none⟩,
    ⟨(some 6), .fa 3 (.t 1), none⟩,
    ⟨(some 7), .ld false 1 (.t 6), none⟩,
    ⟨(some 8), .lenl (.t 7), none⟩,
    ⟨(some 9), .bin .lss .one (.t 5) (.t 8), none⟩])
  (.cond (.t 9)
    .skip
    (.exit 0)))
  (.seq (.block 1
    (.reg [⟨(some 12), .mv (.t 3), none⟩,
      ⟨(some 13), .fa 3 (.t 1), none⟩,
      ⟨(some 14), .ld false 1 (.t 13), none⟩,
      ⟨(some 15), .mv (.t 4), none⟩,
      ⟨(some 16), .ia 4 (.t 14) (.t 15), none⟩,
      ⟨(some 17), .ld true 4 (.t 16), none⟩,
      ⟨(some 18), .call (.k (.w (.fn 144 []))) [(.t 17)], none⟩,
      ⟨(some 19), .bin .add .one (.t 12) (.t 18), none⟩,
      ⟨(some 3), .mv (.t 19), none⟩]))
  (.reg [⟨(some 10), .mv (.t 4), none⟩,
    ⟨(some 11), .bin .add .one (.t 10) (.k (.w (.d (.s (.int .i64 1))))), none⟩,
    ⟨(some 4), .mv (.t 11), none⟩])))
def F144_L0 : C := .loop F144_B0
def F144 : Fn := ⟨21, [.tmp 2],
  (.seq (.reg [⟨(some 1), .box 4 (.t 0), none⟩,
    ⟨(some 2), .mv (.k (.w (.d (.s (.int .i64 0))))), none⟩])
  (.seq (.reg [⟨(some 3), .mv (.k (.w (.d (.s (.int .i64 1))))), none⟩])
  (.seq (.seq (.reg [⟨(some 4), .mv (.k (.w (.d (.s (.int .i64 0))))), none⟩])
  (.block 0
    F144_L0))
  (.seq (.reg [⟨(some 20), .mv (.t 3), none⟩,
    ⟨(some 2), .mv (.t 20), none⟩])
  .ret))))⟩

/- loop.example/stile/spec.ElemIsContact -/
def F166 : Fn := ⟨77, [.tmp 2],
  (.seq (.reg [⟨(some 1), .box 2 (.t 0), none⟩,
    ⟨(some 2), .mv (.k (.w (.d (.s (.bool false))))), none⟩])
  (.seq (.seq (.dreg [⟨(some 3), .fa 0 (.t 1), none⟩,
    ⟨(some 4), .ld false 1 (.t 3), none⟩,
    ⟨(some 5), .bin .lss .one (.t 4) (.k (.w (.d (.s (.int .i64 1))))), none⟩,
    ⟨(some 6), .mv (.t 5), none⟩,
    ⟨(some 7), .fa 0 (.t 1), (some (6, false))⟩,
    ⟨(some 8), .ld false 1 (.t 7), (some (6, false))⟩,
    ⟨(some 9), .bin .gtr .one (.t 8) (.k (.w (.d (.s (.int .i64 10))))), (some (6, false))⟩,
    ⟨(some 10), .pick (.t 6) (.k (.w (.d (.s (.bool true))))) (.t 9), none⟩,
    ⟨(some 11), .mv (.t 10), none⟩,
    ⟨(some 12), .fa 1 (.t 1), (some (11, false))⟩,
    ⟨(some 13), .ld false 1 (.t 12), (some (11, false))⟩,
    ⟨(some 14), .lenl (.t 13), (some (11, false))⟩,
    ⟨(some 15), .fa 0 (.t 1), (some (11, false))⟩,
    ⟨(some 16), .ld false 1 (.t 15), (some (11, false))⟩,
    ⟨(some 17), .call (.k (.w (.fn 158 []))) [(.t 16)], (some (11, false))⟩,
    ⟨(some 18), .bin .neq .one (.t 14) (.t 17), (some (11, false))⟩,
    ⟨(some 19), .pick (.t 11) (.k (.w (.d (.s (.bool true))))) (.t 18), none⟩] [0, 1, 3, 7, 15, 31, 63, 127, 255, 511, 1023, 2047, 511, 4607, 12799, 32767, 65535])
  (.cond (.t 19)
    (.seq (.reg [⟨(some 2), .mv (.k (.w (.d (.s (.bool false))))), none⟩])
    .ret)
    .skip))
  (.seq (.seq (.reg [⟨(some 20), .fa 0 (.t 1), none⟩,
    ⟨(some 21), .ld false 1 (.t 20), none⟩,
    ⟨(some 22), .bin .leq .one (.t 21) (.k (.w (.d (.s (.int .i64 2))))), none⟩])
  (.cond (.t 22)
    (.seq (.reg [⟨(some 23), .fa 1 (.t 1), none⟩,
      ⟨(some 24), .ld false 1 (.t 23), none⟩,
      ⟨(some 25), .ia 3 (.t 24) (.k (.w (.d (.s (.int .i64 0))))), none⟩,
      ⟨(some 26), .ld true 3 (.t 25), none⟩,
      ⟨(some 27), .call (.k (.w (.fn 187 []))) [(.t 26)], none⟩,
      ⟨(some 2), .mv (.t 27), none⟩])
    .ret)
    .skip))
  (.seq (.seq (.reg [⟨(some 28), .fa 0 (.t 1), none⟩,
    ⟨(some 29), .ld false 1 (.t 28), none⟩,
    ⟨(some 30), .bin .leq .one (.t 29) (.k (.w (.d (.s (.int .i64 4))))), none⟩])
  (.cond (.t 30)
    (.seq (.reg [⟨(some 31), .fa 1 (.t 1), none⟩,
      ⟨(some 32), .ld false 1 (.t 31), none⟩,
      ⟨(some 33), .ia 3 (.t 32) (.k (.w (.d (.s (.int .i64 0))))), none⟩,
      ⟨(some 34), .ld true 3 (.t 33), none⟩,
      ⟨(some 35), .call (.k (.w (.fn 187 []))) [(.t 34)], none⟩,
      ⟨(some 36), .mv (.t 35), none⟩,
      ⟨(some 37), .fa 1 (.t 1), (some (36, true))⟩,
      ⟨(some 38), .ld false 1 (.t 37), (some (36, true))⟩,
      ⟨(some 39), .ia 3 (.t 38) (.k (.w (.d (.s (.int .i64 1))))), (some (36, true))⟩,
      ⟨(some 40), .ld true 3 (.t 39), (some (36, true))⟩,
      ⟨(some 41), .call (.k (.w (.fn 188 []))) [(.t 40)], (some (36, true))⟩,
      ⟨(some 42), .pick (.t 36) (.t 41) (.k (.w (.d (.s (.bool false))))), none⟩,
      ⟨(some 43), .mv (.t 42), none⟩,
      ⟨(some 44), .fa 1 (.t 1), (some (43, true))⟩,
      ⟨(some 45), .ld false 1 (.t 44), (some (43, true))⟩,
      ⟨(some 46), .ia 3 (.t 45) (.k (.w (.d (.s (.int .i64 1))))), (some (43, true))⟩,
      ⟨(some 47), .fa 0 (.t 46), (some (43, true))⟩,
      ⟨(some 48), .ld false 1 (.t 47), (some (43, true))⟩,
      ⟨(some 49), .bin .eql .one (.t 48) (.k (.w (.d (.s (.int .i64 5))))), (some (43, true))⟩,
      ⟨(some 50), .pick (.t 43) (.t 49) (.k (.w (.d (.s (.bool false))))), none⟩,
      ⟨(some 2), .mv (.t 50), none⟩])
    .ret)
    .skip))
  (.seq (.reg [⟨(some 51), .fa 1 (.t 1), none⟩,
    ⟨(some 52), .ld false 1 (.t 51), none⟩,
    ⟨(some 53), .ia 3 (.t 52) (.k (.w (.d (.s (.int .i64 0))))), none⟩,
    ⟨(some 54), .ld true 3 (.t 53), none⟩,
    ⟨(some 55), .call (.k (.w (.fn 168 []))) [(.t 54)], none⟩,
    ⟨(some 56), .mv (.t 55), none⟩,
    ⟨(some 57), .fa 1 (.t 1), (some (56, true))⟩,
    ⟨(some 58), .ld false 1 (.t 57), (some (56, true))⟩,
    ⟨(some 59), .ia 3 (.t 58) (.k (.w (.d (.s (.int .i64 1))))), (some (56, true))⟩,
    ⟨(some 60), .ld true 3 (.t 59), (some (56, true))⟩,
    ⟨(some 61), .call (.k (.w (.fn 168 []))) [(.t 60)], (some (56, true))⟩,
    ⟨(some 62), .pick (.t 56) (.t 61) (.k (.w (.d (.s (.bool false))))), none⟩,
    ⟨(some 63), .mv (.t 62), none⟩,
    ⟨(some 64), .fa 1 (.t 1), (some (63, false))⟩,
    ⟨(some 65), .ld false 1 (.t 64), (some (63, false))⟩,
    ⟨(some 66), .ia 3 (.t 65) (.k (.w (.d (.s (.int .i64 0))))), (some (63, false))⟩,
    ⟨(some 67), .ld true 3 (.t 66), (some (63, false))⟩,
    ⟨(some 68), .call (.k (.w (.fn 169 []))) [(.t 67)], (some (63, false))⟩,
    ⟨(some 69), .mv (.t 68), (some (63, false))⟩,
    ⟨(some 70), .fa 1 (.t 1), (some (69, true))⟩,
    ⟨(some 71), .ld false 1 (.t 70), (some (69, true))⟩,
    ⟨(some 72), .ia 3 (.t 71) (.k (.w (.d (.s (.int .i64 1))))), (some (69, true))⟩,
    ⟨(some 73), .ld true 3 (.t 72), (some (69, true))⟩,
    ⟨(some 74), .call (.k (.w (.fn 169 []))) [(.t 73)], (some (69, true))⟩,
    ⟨(some 75), .pick (.t 69) (.t 74) (.k (.w (.d (.s (.bool false))))), (some (63, false))⟩,
    ⟨(some 76), .pick (.t 63) (.k (.w (.d (.s (.bool true))))) (.t 75), none⟩,
    ⟨(some 2), .mv (.t 76), none⟩])
  .ret)))))⟩

/- loop.example/stile/spec.l4Kind -/
def F167 : Fn := ⟨21, [.tmp 6],
  (.seq (.reg [⟨(some 3), .box 3 (.t 0), none⟩,
    ⟨(some 6), .mv (.k (.w (.d (.s (.bool false))))), none⟩])
  (.seq (.reg [⟨(some 7), .ld true 3 (.t 3), none⟩,
    ⟨(some 8), .call (.k (.w (.fn 188 []))) [(.t 7)], none⟩,
    ⟨(some 9), .mv (.t 8), none⟩,
    ⟨(some 10), .fa 0 (.t 3), (some (9, true))⟩,
    ⟨(some 11), .ld false 1 (.t 10), (some (9, true))⟩,
    ⟨(some 12), .mv (.t 1), (some (9, true))⟩,
    ⟨(some 13), .bin .eql .one (.t 11) (.t 12), (some (9, true))⟩,
    ⟨(some 14), .mv (.t 13), (some (9, true))⟩,
    ⟨(some 15), .fa 0 (.t 3), (some (14, false))⟩,
    ⟨(some 16), .ld false 1 (.t 15), (some (14, false))⟩,
    ⟨(some 17), .mv (.t 2), (some (14, false))⟩,
    ⟨(some 18), .bin .eql .one (.t 16) (.t 17), (some (14, false))⟩,
    ⟨(some 19), .pick (.t 14) (.k (.w (.d (.s (.bool true))))) (.t 18), (some (9, true))⟩,
    ⟨(some 20), .pick (.t 9) (.t 19) (.k (.w (.d (.s (.bool false))))), none⟩,
    ⟨(some 6), .mv (.t 20), none⟩])
  .ret))⟩

/- loop.example/stile/spec.DevIsWhole -/
def F168 : Fn := ⟨25, [.tmp 2],
  (.seq (.reg [⟨(some 1), .box 3 (.t 0), none⟩,
    ⟨(some 2), .mv (.k (.w (.d (.s (.bool false))))), none⟩])
  (.seq (.reg [⟨(some 3), .ld true 3 (.t 1), none⟩,
    ⟨(some 4), .call (.k (.w (.fn 188 []))) [(.t 3)], none⟩,
    ⟨(some 5), .mv (.t 4), none⟩,
    ⟨(some 6), .fa 0 (.t 1), (some (5, true))⟩,
    ⟨(some 7), .ld false 1 (.t 6), (some (5, true))⟩,
    ⟨(some 8), .bin .eql .one (.t 7) (.k (.w (.d (.s (.int .i64 7))))), (some (5, true))⟩,
    ⟨(some 9), .mv (.t 8), (some (5, true))⟩,
    ⟨(some 10), .fa 0 (.t 1), (some (9, false))⟩,
    ⟨(some 11), .ld false 1 (.t 10), (some (9, false))⟩,
    ⟨(some 12), .bin .eql .one (.t 11) (.k (.w (.d (.s (.int .i64 8))))), (some (9, false))⟩,
    ⟨(some 13), .pick (.t 9) (.k (.w (.d (.s (.bool true))))) (.t 12), (some (5, true))⟩,
    ⟨(some 14), .mv (.t 13), (some (5, true))⟩,
    ⟨(some 15), .fa 0 (.t 1), (some (14, false))⟩,
    ⟨(some 16), .ld false 1 (.t 15), (some (14, false))⟩,
    ⟨(some 17), .bin .eql .one (.t 16) (.k (.w (.d (.s (.int .i64 9))))), (some (14, false))⟩,
    ⟨(some 18), .pick (.t 14) (.k (.w (.d (.s (.bool true))))) (.t 17), (some (5, true))⟩,
    ⟨(some 19), .mv (.t 18), (some (5, true))⟩,
    ⟨(some 20), .fa 0 (.t 1), (some (19, false))⟩,
    ⟨(some 21), .ld false 1 (.t 20), (some (19, false))⟩,
    ⟨(some 22), .bin .eql .one (.t 21) (.k (.w (.d (.s (.int .i64 11))))), (some (19, false))⟩,
    ⟨(some 23), .pick (.t 19) (.k (.w (.d (.s (.bool true))))) (.t 22), (some (5, true))⟩,
    ⟨(some 24), .pick (.t 5) (.t 23) (.k (.w (.d (.s (.bool false))))), none⟩,
    ⟨(some 2), .mv (.t 24), none⟩])
  .ret))⟩

/- loop.example/stile/spec.DevIsReal -/
def F169 : Fn := ⟨20, [.tmp 2],
  (.seq (.reg [⟨(some 1), .box 3 (.t 0), none⟩,
    ⟨(some 2), .mv (.k (.w (.d (.s (.bool false))))), none⟩])
  (.seq (.reg [⟨(some 3), .ld true 3 (.t 1), none⟩,
    ⟨(some 4), .call (.k (.w (.fn 188 []))) [(.t 3)], none⟩,
    ⟨(some 5), .mv (.t 4), none⟩,
    ⟨(some 6), .fa 0 (.t 1), (some (5, true))⟩,
    ⟨(some 7), .ld false 1 (.t 6), (some (5, true))⟩,
    ⟨(some 8), .bin .eql .one (.t 7) (.k (.w (.d (.s (.int .i64 10))))), (some (5, true))⟩,
    ⟨(some 9), .mv (.t 8), (some (5, true))⟩,
    ⟨(some 10), .fa 0 (.t 1), (some (9, false))⟩,
    ⟨(some 11), .ld false 1 (.t 10), (some (9, false))⟩,
    ⟨(some 12), .bin .eql .one (.t 11) (.k (.w (.d (.s (.int .i64 12))))), (some (9, false))⟩,
    ⟨(some 13), .pick (.t 9) (.k (.w (.d (.s (.bool true))))) (.t 12), (some (5, true))⟩,
    ⟨(some 14), .mv (.t 13), (some (5, true))⟩,
    ⟨(some 15), .fa 0 (.t 1), (some (14, false))⟩,
    ⟨(some 16), .ld false 1 (.t 15), (some (14, false))⟩,
    ⟨(some 17), .bin .eql .one (.t 16) (.k (.w (.d (.s (.int .i64 13))))), (some (14, false))⟩,
    ⟨(some 18), .pick (.t 14) (.k (.w (.d (.s (.bool true))))) (.t 17), (some (5, true))⟩,
    ⟨(some 19), .pick (.t 5) (.t 18) (.k (.w (.d (.s (.bool false))))), none⟩,
    ⟨(some 2), .mv (.t 19), none⟩])
  .ret))⟩

/- loop.example/stile/spec.l4Calc -/
def F170_B0 : C :=
  (.seq (.seq (.reg [⟨(some 17), .mv (.t 4), none⟩,
    ⟨(some 18), .fa 1 (.t 1), none⟩,
    ⟨(some 19), .ld false 1 (.t 18), none⟩,
    ⟨(some 20), .lenl (.t 19), none⟩,
    ⟨(some 21), .bin .lss .one (.t 17) (.t 20), none⟩])
  (.cond (.t 21)
    .skip
    (.exit 0)))
  (.seq (.block 1
    (.seq (.reg [⟨(some 24), .mv (.t 3), none⟩,
      ⟨(some 25), .mv (.t 24), none⟩,
      ⟨(some 26), .fa 1 (.t 1), (some (25, true))⟩,
      ⟨(some 27), .ld false 1 (.t 26), (some (25, true))⟩,
      ⟨(some 28), .mv (.t 4), (some (25, true))⟩,
      ⟨(some 29), .ia 3 (.t 27) (.t 28), (some (25, true))⟩,
      ⟨(some 30), .ld true 3 (.t 29), (some (25, true))⟩,
      ⟨(some 31), .call (.k (.w (.fn 168 []))) [(.t 30)], (some (25, true))⟩,
      ⟨(some 32), .un .not (.t 31), (some (25, true))⟩,
      ⟨(some 33), .pick (.t 25) (.t 32) (.k (.w (.d (.s (.bool false))))), none⟩,
      ⟨(some 34), .mv (.t 33), none⟩,
      ⟨(some 35), .mv (.t 3), (some (34, false))⟩,
      ⟨(some 36), .un .not (.t 35), (some (34, false))⟩,
      ⟨(some 37), .mv (.t 36), (some (34, false))⟩,
      ⟨(some 38), .fa 1 (.t 1), (some (37, true))⟩,
      ⟨(some 39), .ld false 1 (.t 38), (some (37, true))⟩,
      ⟨(some 40), .mv (.t 4), (some (37, true))⟩,
      ⟨(some 41), .ia 3 (.t 39) (.t 40), (some (37, true))⟩,
      ⟨(some 42), .ld true 3 (.t 41), (some (37, true))⟩,
      ⟨(some 43), .call (.k (.w (.fn 169 []))) [(.t 42)], (some (37, true))⟩,
      ⟨(some 44), .un .not (.t 43), (some (37, true))⟩,
      ⟨(some 45), .pick (.t 37) (.t 44) (.k (.w (.d (.s (.bool false))))), (some (34, false))⟩,
      ⟨(some 46), .pick (.t 34) (.k (.w (.d (.s (.bool true))))) (.t 45), none⟩])
    (.cond (.t 46)
      (.seq (.reg [⟨(some 2), .mv (.k (.w (.d (.s (.bool false))))), none⟩])
      .ret)
      .skip)))
  (.reg [⟨(some 22), .mv (.t 4), none⟩,
    ⟨(some 23), .bin .add .one (.t 22) (.k (.w (.d (.s (.int .i64 1))))), none⟩,
    ⟨(some 4), .mv (.t 23), none⟩])))
def F170_L0 : C := .loop F170_B0
def F170 : Fn := ⟨53, [.tmp 2],
  (.seq (.reg [⟨(some 1), .box 2 (.t 0), none⟩,
    ⟨(some 2), .mv (.k (.w (.d (.s (.bool false))))), none⟩])
  (.seq (.seq (.reg [⟨(some 5), .fa 1 (.t 1), none⟩,
    ⟨(some 6), .ld false 1 (.t 5), none⟩,
    ⟨(some 7), .ia 3 (.t 6) (.k (.w (.d (.s (.int .i64 0))))), none⟩,
    ⟨(some 8), .ld true 3 (.t 7), none⟩,
    ⟨(some 9), .call (.k (.w (.fn 167 []))) [(.t 8), (.k (.w (.d (.s (.int .i64 9))))), (.k (.w (.d (.s (.int .i64 10)))))], none⟩,
    ⟨(some 10), .un .not (.t 9), none⟩])
  (.cond (.t 10)
    (.seq (.reg [⟨(some 2), .mv (.k (.w (.d (.s (.bool false))))), none⟩])
    .ret)
    .skip))
  (.seq (.reg [⟨(some 11), .fa 1 (.t 1), none⟩,
    ⟨(some 12), .ld false 1 (.t 11), none⟩,
    ⟨(some 13), .ia 3 (.t 12) (.k (.w (.d (.s (.int .i64 0))))), none⟩,
    ⟨(some 14), .fa 0 (.t 13), none⟩,
    ⟨(some 15), .ld false 1 (.t 14), none⟩,
    ⟨(some 16), .bin .eql .one (.t 15) (.k (.w (.d (.s (.int .i64 9))))), none⟩,
    ⟨(some 3), .mv (.t 16), none⟩])
  (.seq (.seq (.reg [⟨(some 4), .mv (.k (.w (.d (.s (.int .i64 1))))), none⟩])
  (.block 0
    F170_L0))
  (.seq (.reg [⟨(some 47), .mv (.t 3), none⟩,
    ⟨(some 48), .mv (.t 47), none⟩,
    ⟨(some 49), .fa 0 (.t 1), (some (48, false))⟩,
    ⟨(some 50), .ld false 1 (.t 49), (some (48, false))⟩,
    ⟨(some 51), .bin .neq .one (.t 50) (.k (.w (.d (.s (.int .i64 35))))), (some (48, false))⟩,
    ⟨(some 52), .pick (.t 48) (.k (.w (.d (.s (.bool true))))) (.t 51), none⟩,
    ⟨(some 2), .mv (.t 52), none⟩])
  .ret)))))⟩

/- (loop.example/stile/impl.Net).norm -/
def F120_B0 : C :=
  (.seq (.reg [⟨(some 29), .bin .lss .one (.t 28) (.t 27), none⟩])
  (.seq (.cond (.t 29)
    .skip
    (.exit 1))
  (.seq (.block 2
    (.seq (.reg [⟨(some 30), .ia 4 (.t 26) (.t 28), none⟩,
      ⟨(some 31), .ld true 4 (.t 30), none⟩,
      ⟨(some 5), .new [(.d (.s (.int .i64 0))), (.d (.s (.int .i64 0))), .nil, .nil], none⟩,
      ⟨none, .st 4 (.t 5) (.t 31), none⟩])
    (.seq (.reg [⟨(some 32), .ld true 4 (.t 5), none⟩,
      ⟨(some 33), .call (.k (.w (.fn 120 []))) [(.t 32)], none⟩,
      ⟨(some 6), .new [(.d (.s (.int .i64 0))), (.d (.s (.int .i64 0))), .nil, .nil], none⟩,
      ⟨none, .st 4 (.t 6) (.t 33), none⟩])
    (.seq (.reg [⟨(some 34), .fa 0 (.t 6), none⟩,
      ⟨(some 35), .ld false 1 (.t 34), none⟩,
      ⟨(some 36), .fa 0 (.t 1), none⟩,
      ⟨(some 37), .ld false 1 (.t 36), none⟩,
      ⟨(some 38), .bin .eql .one (.t 35) (.t 37), none⟩])
    (.cond (.t 38)
      (.reg [⟨(some 39), .fa 3 (.t 3), none⟩,
        ⟨(some 40), .ld false 1 (.t 39), none⟩,
        ⟨(some 41), .fa 3 (.t 6), none⟩,
        ⟨(some 42), .ld false 1 (.t 41), none⟩,
        ⟨(some 43), .app 4 64 [(.s (.int .i64 0)), (.s (.int .i64 0)), (.l 0 []), (.l 0 [])] (.t 40) (.t 42), none⟩,
        ⟨(some 44), .fa 3 (.t 3), none⟩,
        ⟨none, .st 1 (.t 44) (.t 43), none⟩])
      (.reg [⟨(some 45), .fa 3 (.t 3), none⟩,
        ⟨(some 46), .ld false 1 (.t 45), none⟩,
        ⟨(some 47), .ld true 4 (.t 6), none⟩,
        ⟨(some 48), .bsl 4 1 [(.s (.int .i64 0)), (.s (.int .i64 0)), (.l 0 []), (.l 0 [])] [(0, (.t 47))], none⟩,
        ⟨(some 49), .app 4 64 [(.s (.int .i64 0)), (.s (.int .i64 0)), (.l 0 []), (.l 0 [])] (.t 46) (.t 48), none⟩,
        ⟨(some 50), .fa 3 (.t 3), none⟩,
        ⟨none, .st 1 (.t 50) (.t 49), none⟩]))))))
  (.reg [⟨(some 51), .bin .add .one (.t 28) (.k (.w (.d (.s (.int .i64 1))))), none⟩,
    ⟨(some 28), .mv (.t 51), none⟩]))))
def F120_L0 : C := .loop F120_B0
def F120 : Fn := ⟨65, [.cell 2 true 4],
  (.seq (.reg [⟨(some 1), .box 4 (.t 0), none⟩,
    ⟨(some 2), .new [(.d (.s (.int .i64 0))), (.d (.s (.int .i64 0))), .nil, .nil], none⟩])
  (.seq (.seq (.reg [⟨(some 7), .fa 0 (.t 1), none⟩,
    ⟨(some 8), .ld false 1 (.t 7), none⟩])
  (.block 0
    (.seq (.reg [⟨(some 10), .bin .eql .one (.t 8) (.k (.w (.d (.s (.int .i64 1))))), none⟩,
      ⟨(some 9), .mv (.t 10), none⟩])
    (.cond (.t 9)
      (.seq (.reg [⟨(some 11), .ld true 4 (.t 1), none⟩,
        ⟨(some 12), .call (.k (.w (.fn 139 []))) [(.t 11)], none⟩,
        ⟨none, .st 4 (.t 2) (.t 12), none⟩])
      .ret)
      (.seq (.reg [⟨(some 14), .bin .eql .one (.t 8) (.k (.w (.d (.s (.int .i64 4))))), none⟩,
        ⟨(some 13), .mv (.t 14), none⟩])
      (.cond (.t 13)
        (.seq (.reg [⟨(some 15), .fa 3 (.t 1), none⟩,
          ⟨(some 16), .ld false 1 (.t 15), none⟩,
          ⟨(some 17), .ia 4 (.t 16) (.k (.w (.d (.s (.int .i64 0))))), none⟩,
          ⟨(some 18), .ld true 4 (.t 17), none⟩,
          ⟨(some 19), .call (.k (.w (.fn 120 []))) [(.t 18)], none⟩,
          ⟨(some 20), .bsl 4 1 [(.s (.int .i64 0)), (.s (.int .i64 0)), (.l 0 []), (.l 0 [])] [(0, (.t 19))], none⟩,
          ⟨(some 21), .bld [(.d (.s (.int .i64 0))), (.d (.s (.int .i64 0))), .nil, .nil] [(0, 1, (.k (.w (.d (.s (.int .i64 4)))))), (3, 1, (.t 20))], none⟩,
          ⟨none, .st 4 (.t 2) (.t 21), none⟩])
        .ret)
        .skip))))))
  (.seq (.reg [⟨(some 22), .fa 0 (.t 1), none⟩,
    ⟨(some 23), .ld false 1 (.t 22), none⟩,
    ⟨(some 24), .bld [(.d (.s (.int .i64 0))), (.d (.s (.int .i64 0))), .nil, .nil] [(0, 1, (.t 23))], none⟩,
    ⟨(some 3), .new [(.d (.s (.int .i64 0))), (.d (.s (.int .i64 0))), .nil, .nil], none⟩,
    ⟨none, .st 4 (.t 3) (.t 24), none⟩])
  (.seq (.seq (.reg [⟨(some 25), .fa 3 (.t 1), none⟩,
    ⟨(some 26), .ld false 1 (.t 25), none⟩,
    ⟨(some 27), .lenl (.t 26), none⟩,
    ⟨(some 28), .mv (.k (.w (.d (.s (.int .i64 0))))), none⟩])
  (.block 1
    F120_L0))
  (.seq (.seq (.reg [⟨(some 52), .fa 3 (.t 3), none⟩,
    ⟨(some 53), .ld false 1 (.t 52), none⟩,
    ⟨(some 54), .lenl (.t 53), none⟩,
    ⟨(some 55), .bin .eql .one (.t 54) (.k (.w (.d (.s (.int .i64 1))))), none⟩])
  (.cond (.t 55)
    (.seq (.reg [⟨(some 56), .fa 3 (.t 3), none⟩,
      ⟨(some 57), .ld false 1 (.t 56), none⟩,
      ⟨(some 58), .ia 4 (.t 57) (.k (.w (.d (.s (.int .i64 0))))), none⟩,
      ⟨(some 59), .ld true 4 (.t 58), none⟩,
      ⟨none, .st 4 (.t 2) (.t 59), none⟩])
    .ret)
    .skip))
  (.seq (.reg [⟨(some 60), .fa 3 (.t 3), none⟩,
    ⟨(some 61), .ld false 1 (.t 60), none⟩,
    ⟨(some 62), .call (.k (.w (.fn 140 []))) [(.t 61)], none⟩,
    ⟨(some 63), .fa 3 (.t 3), none⟩,
    ⟨none, .st 1 (.t 63) (.t 62), none⟩])
  (.seq (.reg [⟨(some 64), .ld true 4 (.t 3), none⟩,
    ⟨none, .st 4 (.t 2) (.t 64), none⟩])
  .ret)))))))⟩

/- loop.example/stile/impl.clone[loop.example/stile/impl.Elem] -/
def F174 : Fn := ⟨6, [.tmp 2],
  (.seq (.reg [⟨(some 2), .mv (.k (.w .nil)), none⟩])
  (.seq (.reg [⟨(some 3), .mv (.t 0), none⟩,
    ⟨(some 4), .call (.k (.w (.fn 191 []))) [(.t 3)], none⟩,
    ⟨(some 5), .call (.k (.w (.fn 192 []))) [(.t 4)], none⟩,
    ⟨(some 2), .mv (.t 5), none⟩])
  .ret))⟩

/- (loop.example/stile/impl.Elem).copyOf -/
def F163 : Fn := ⟨9, [.cell 2 true 2],
  (.seq (.reg [⟨(some 1), .box 2 (.t 0), none⟩,
    ⟨(some 2), .new [(.d (.s (.int .i64 0))), .nil], none⟩])
  (.seq (.dreg [⟨(some 3), .fa 0 (.t 1), none⟩,
    ⟨(some 4), .ld false 1 (.t 3), none⟩,
    ⟨(some 5), .fa 1 (.t 1), none⟩,
    ⟨(some 6), .ld false 1 (.t 5), none⟩,
    ⟨(some 7), .call (.k (.w (.fn 186 []))) [(.t 6)], none⟩,
    ⟨(some 8), .bld [(.d (.s (.int .i64 0))), .nil] [(0, 1, (.t 4)), (1, 1, (.t 7))], none⟩,
    ⟨none, .st 2 (.t 2) (.t 8), none⟩] [0, 1, 0, 4, 12, 31, 63])
  .ret))⟩

/- slices.EqualFunc[[]loop.example/stile/impl.Net,[]loop.example/stile/impl.Net,loop.example/stile/impl.Net,loop.example/stile/impl.Net] -/
def F175_B0 : C :=
  (.seq (.reg [⟨(some 18), .bin .lss .one (.t 17) (.t 16), none⟩])
  (.seq (.cond (.t 18)
    .skip
    (.exit 0))
  (.seq (.block 1
    (.seq (.reg [⟨(some 19), .mv (.t 17), none⟩,
      ⟨(some 20), .ia 4 (.t 15) (.t 17), none⟩,
      ⟨(some 21), .ld true 4 (.t 20), none⟩,
      ⟨(some 8), .new [(.d (.s (.int .i64 0))), (.d (.s (.int .i64 0))), .nil, .nil], none⟩,
      ⟨(some 7), .mv (.t 19), none⟩,
      ⟨none, .st 4 (.t 8) (.t 21), none⟩])
    (.seq (.reg [⟨(some 22), .mv (.t 1), none⟩,
      ⟨(some 23), .mv (.t 7), none⟩,
      ⟨(some 24), .ia 4 (.t 22) (.t 23), none⟩,
      ⟨(some 25), .ld true 4 (.t 24), none⟩,
      ⟨(some 9), .new [(.d (.s (.int .i64 0))), (.d (.s (.int .i64 0))), .nil, .nil], none⟩,
      ⟨none, .st 4 (.t 9) (.t 25), none⟩])
    (.seq (.reg [⟨(some 26), .mv (.t 2), none⟩,
      ⟨(some 27), .ld true 4 (.t 8), none⟩,
      ⟨(some 28), .ld true 4 (.t 9), none⟩,
      ⟨(some 29), .call (.t 26) [(.t 27), (.t 28)], none⟩,
      ⟨(some 30), .un .not (.t 29), none⟩])
    (.cond (.t 30)
      (.seq (.reg [⟨(some 6), .mv (.k (.w (.d (.s (.bool false))))), none⟩])
      .ret)
      .skip)))))
  (.reg [⟨(some 31), .bin .add .one (.t 17) (.k (.w (.d (.s (.int .i64 1))))), none⟩,
    ⟨(some 17), .mv (.t 31), none⟩]))))
def F175_L0 : C := .loop F175_B0
def F175 : Fn := ⟨32, [.tmp 6],
  (.seq (.reg [⟨(some 6), .mv (.k (.w (.d (.s (.bool false))))), none⟩])
  (.seq (.seq (.reg [⟨(some 10), .mv (.t 0), none⟩,
    ⟨(some 11), .lenl (.t 10), none⟩,
    ⟨(some 12), .mv (.t 1), none⟩,
    ⟨(some 13), .lenl (.t 12), none⟩,
    ⟨(some 14), .bin .neq .one (.t 11) (.t 13), none⟩])
  (.cond (.t 14)
    (.seq (.reg [⟨(some 6), .mv (.k (.w (.d (.s (.bool false))))), none⟩])
    .ret)
    .skip))
  (.seq (.seq (.reg [⟨(some 15), .mv (.t 0), none⟩,
    ⟨(some 16), .lenl (.t 15), none⟩,
    ⟨(some 17), .mv (.k (.w (.d (.s (.int .i64 0))))), none⟩])
  (.block 0
    F175_L0))
  (.seq (.reg [⟨(some 6), .mv (.k (.w (.d (.s (.bool true))))), none⟩])
  .ret))))⟩

/- slices.Equal[[]loop.example/stile/impl.DevArg,loop.example/stile/impl.DevArg] -/
def F176_B0 : C :=
  (.seq (.reg [⟨(some 14), .bin .lss .one (.t 13) (.t 12), none⟩])
  (.seq (.cond (.t 14)
    .skip
    (.exit 0))
  (.seq (.block 1
    (.seq (.reg [⟨(some 15), .mv (.t 13), none⟩,
      ⟨(some 5), .mv (.t 15), none⟩])
    (.seq (.dreg [⟨(some 16), .mv (.t 0), none⟩,
      ⟨(some 17), .mv (.t 5), none⟩,
      ⟨(some 18), .ia 3 (.t 16) (.t 17), none⟩,
      ⟨(some 19), .ld true 3 (.t 18), none⟩,
      ⟨(some 20), .mv (.t 1), none⟩,
      ⟨(some 21), .mv (.t 5), none⟩,
      ⟨(some 22), .ia 3 (.t 20) (.t 21), none⟩,
      ⟨(some 23), .ld true 3 (.t 22), none⟩,
      ⟨(some 24), .bin .neq (.agg [1, 1, 1]) (.t 19) (.t 23), none⟩] [0, 0, 3, 7, 0, 0, 48, 112, 255])
    (.cond (.t 24)
      (.seq (.reg [⟨(some 4), .mv (.k (.w (.d (.s (.bool false))))), none⟩])
      .ret)
      .skip))))
  (.reg [⟨(some 25), .bin .add .one (.t 13) (.k (.w (.d (.s (.int .i64 1))))), none⟩,
    ⟨(some 13), .mv (.t 25), none⟩]))))
def F176_L0 : C := .loop F176_B0
def F176 : Fn := ⟨26, [.tmp 4],
  (.seq (.reg [⟨(some 4), .mv (.k (.w (.d (.s (.bool false))))), none⟩])
  (.seq (.seq (.reg [⟨(some 6), .mv (.t 0), none⟩,
    ⟨(some 7), .lenl (.t 6), none⟩,
    ⟨(some 8), .mv (.t 1), none⟩,
    ⟨(some 9), .lenl (.t 8), none⟩,
    ⟨(some 10), .bin .neq .one (.t 7) (.t 9), none⟩])
  (.cond (.t 10)
    (.seq (.reg [⟨(some 4), .mv (.k (.w (.d (.s (.bool false))))), none⟩])
    .ret)
    .skip))
  (.seq (.seq (.reg [⟨(some 11), .mv (.t 0), none⟩,
    ⟨(some 12), .lenl (.t 11), none⟩,
    ⟨(some 13), .mv (.k (.w (.d (.s (.int .i64 0))))), none⟩])
  (.block 0
    F176_L0))
  (.seq (.reg [⟨(some 4), .mv (.k (.w (.d (.s (.bool true))))), none⟩])
  .ret))))⟩

/- loop.example/stile/spec.l9Flat -/
def F218_B0 : C :=
  (.seq (.seq (.reg [⟨(some 10), .mv (.t 6), none⟩,
    ⟨(some 11), .mv (.t 1), none⟩,
    ⟨(some 12), .lenl (.t 11), none⟩,
    ⟨(some 13), .bin .lss .one (.t 10) (.t 12), none⟩])
  (.cond (.t 13)
    .skip
    (.exit 0)))
  (.seq (.block 1
    (.seq (.reg [⟨(some 16), .mv (.t 1), none⟩,
      ⟨(some 17), .mv (.t 6), none⟩,
      ⟨(some 18), .ia 4 (.t 16) (.t 17), none⟩,
      ⟨(some 19), .ld true 4 (.t 18), none⟩,
      ⟨(some 20), .call (.k (.w (.fn 214 []))) [(.t 19)], none⟩,
      ⟨(some 7), .new [(.d (.s (.int .i64 0))), (.d (.s (.int .i64 0))), .nil, .nil], none⟩,
      ⟨none, .st 4 (.t 7) (.t 20), none⟩])
    (.seq (.reg [⟨(some 21), .fa 0 (.t 7), none⟩,
      ⟨(some 22), .ld false 1 (.t 21), none⟩,
      ⟨(some 23), .mv (.t 0), none⟩,
      ⟨(some 24), .bin .eql .one (.t 22) (.t 23), none⟩])
    (.cond (.t 24)
      (.reg [⟨(some 25), .fa 3 (.t 5), none⟩,
        ⟨(some 26), .ld false 1 (.t 25), none⟩,
        ⟨(some 27), .fa 3 (.t 7), none⟩,
        ⟨(some 28), .ld false 1 (.t 27), none⟩,
        ⟨(some 29), .app 4 64 [(.s (.int .i64 0)), (.s (.int .i64 0)), (.l 0 []), (.l 0 [])] (.t 26) (.t 28), none⟩,
        ⟨(some 30), .fa 3 (.t 5), none⟩,
        ⟨none, .st 1 (.t 30) (.t 29), none⟩])
      (.reg [⟨(some 31), .fa 3 (.t 5), none⟩,
        ⟨(some 32), .ld false 1 (.t 31), none⟩,
        ⟨(some 33), .ld true 4 (.t 7), none⟩,
        ⟨(some 34), .bsl 4 1 [(.s (.int .i64 0)), (.s (.int .i64 0)), (.l 0 []), (.l 0 [])] [(0, (.t 33))], none⟩,
        ⟨(some 35), .app 4 64 [(.s (.int .i64 0)), (.s (.int .i64 0)), (.l 0 []), (.l 0 [])] (.t 32) (.t 34), none⟩,
        ⟨(some 36), .fa 3 (.t 5), none⟩,
        ⟨none, .st 1 (.t 36) (.t 35), none⟩])))))
  (.reg [⟨(some 14), .mv (.t 6), none⟩,
    ⟨(some 15), .bin .add .one (.t 14) (.k (.w (.d (.s (.int .i64 1))))), none⟩,
    ⟨(some 6), .mv (.t 15), none⟩])))
def F218_L0 : C := .loop F218_B0
def F218 : Fn := ⟨46, [.cell 4 true 4],
  (.seq (.reg [⟨(some 4), .new [(.d (.s (.int .i64 0))), (.d (.s (.int .i64 0))), .nil, .nil], none⟩])
  (.seq (.reg [⟨(some 8), .mv (.t 0), none⟩,
    ⟨(some 9), .bld [(.d (.s (.int .i64 0))), (.d (.s (.int .i64 0))), .nil, .nil] [(0, 1, (.t 8))], none⟩,
    ⟨(some 5), .new [(.d (.s (.int .i64 0))), (.d (.s (.int .i64 0))), .nil, .nil], none⟩,
    ⟨none, .st 4 (.t 5) (.t 9), none⟩])
  (.seq (.seq (.reg [⟨(some 6), .mv (.k (.w (.d (.s (.int .i64 0))))), none⟩])
  (.block 0
    F218_L0))
  (.seq (.seq (.reg [⟨(some 37), .fa 3 (.t 5), none⟩,
    ⟨(some 38), .ld false 1 (.t 37), none⟩,
    ⟨(some 39), .lenl (.t 38), none⟩,
    ⟨(some 40), .bin .eql .one (.t 39) (.k (.w (.d (.s (.int .i64 1))))), none⟩])
  (.cond (.t 40)
    (.seq (.reg [⟨(some 41), .fa 3 (.t 5), none⟩,
      ⟨(some 42), .ld false 1 (.t 41), none⟩,
      ⟨(some 43), .ia 4 (.t 42) (.k (.w (.d (.s (.int .i64 0))))), none⟩,
      ⟨(some 44), .ld true 4 (.t 43), none⟩,
      ⟨none, .st 4 (.t 4) (.t 44), none⟩])
    .ret)
    .skip))
  (.seq (.reg [⟨(some 45), .ld true 4 (.t 5), none⟩,
    ⟨none, .st 4 (.t 4) (.t 45), none⟩])
  .ret)))))⟩

/- loop.example/stile/impl.ElemIsContact -/
def F137 : Fn := ⟨45, [.tmp 2],
  (.seq (.reg [⟨(some 1), .box 2 (.t 0), none⟩,
    ⟨(some 2), .mv (.k (.w (.d (.s (.bool false))))), none⟩])
  (.seq (.seq (.dreg [⟨(some 3), .fa 0 (.t 1), none⟩,
    ⟨(some 4), .ld false 1 (.t 3), none⟩,
    ⟨(some 5), .call (.k (.w (.fn 60 []))) [(.t 4), (.k (.w (.d (.s (.int .i64 1))))), (.k (.w (.d (.s (.int .i64 10)))))], none⟩,
    ⟨(some 6), .un .not (.t 5), none⟩,
    ⟨(some 7), .mv (.t 6), none⟩,
    ⟨(some 8), .fa 1 (.t 1), (some (7, false))⟩,
    ⟨(some 9), .ld false 1 (.t 8), (some (7, false))⟩,
    ⟨(some 10), .lenl (.t 9), (some (7, false))⟩,
    ⟨(some 11), .fa 0 (.t 1), (some (7, false))⟩,
    ⟨(some 12), .ld false 1 (.t 11), (some (7, false))⟩,
    ⟨(some 13), .call (.k (.w (.fn 159 []))) [(.t 12)], (some (7, false))⟩,
    ⟨(some 14), .bin .neq .one (.t 10) (.t 13), (some (7, false))⟩,
    ⟨(some 15), .pick (.t 7) (.k (.w (.d (.s (.bool true))))) (.t 14), none⟩] [0, 1, 3, 7, 15, 31, 63, 127, 31, 287, 799, 2047, 4095])
  (.cond (.t 15)
    (.seq (.reg [⟨(some 2), .mv (.k (.w (.d (.s (.bool false))))), none⟩])
    .ret)
    .skip))
  (.seq (.seq (.reg [⟨(some 16), .fa 0 (.t 1), none⟩,
    ⟨(some 17), .ld false 1 (.t 16), none⟩])
  (.block 0
    (.seq (.seq (.reg [⟨(some 19), .bin .eql .one (.t 17) (.k (.w (.d (.s (.int .i64 1))))), none⟩,
      ⟨(some 18), .mv (.t 19), none⟩])
    (.cond (.t 18)
      .skip
      (.reg [⟨(some 20), .bin .eql .one (.t 17) (.k (.w (.d (.s (.int .i64 2))))), none⟩,
        ⟨(some 18), .mv (.t 20), none⟩])))
    (.cond (.t 18)
      (.seq (.reg [⟨(some 21), .fa 1 (.t 1), none⟩,
        ⟨(some 22), .ld false 1 (.t 21), none⟩,
        ⟨(some 23), .ia 3 (.t 22) (.k (.w (.d (.s (.int .i64 0))))), none⟩,
        ⟨(some 24), .ld true 3 (.t 23), none⟩,
        ⟨(some 25), .call (.k (.w (.fn 160 []))) [(.t 24)], none⟩,
        ⟨(some 2), .mv (.t 25), none⟩])
      .ret)
      (.seq (.seq (.reg [⟨(some 27), .bin .eql .one (.t 17) (.k (.w (.d (.s (.int .i64 3))))), none⟩,
        ⟨(some 26), .mv (.t 27), none⟩])
      (.cond (.t 26)
        .skip
        (.reg [⟨(some 28), .bin .eql .one (.t 17) (.k (.w (.d (.s (.int .i64 4))))), none⟩,
          ⟨(some 26), .mv (.t 28), none⟩])))
      (.cond (.t 26)
        (.seq (.reg [⟨(some 29), .fa 1 (.t 1), none⟩,
          ⟨(some 30), .ld false 1 (.t 29), none⟩,
          ⟨(some 31), .ia 3 (.t 30) (.k (.w (.d (.s (.int .i64 0))))), none⟩,
          ⟨(some 32), .ld true 3 (.t 31), none⟩,
          ⟨(some 33), .call (.k (.w (.fn 160 []))) [(.t 32)], none⟩,
          ⟨(some 34), .mv (.t 33), none⟩,
          ⟨(some 35), .fa 1 (.t 1), (some (34, true))⟩,
          ⟨(some 36), .ld false 1 (.t 35), (some (34, true))⟩,
          ⟨(some 37), .ia 3 (.t 36) (.k (.w (.d (.s (.int .i64 1))))), (some (34, true))⟩,
          ⟨(some 38), .ld true 3 (.t 37), (some (34, true))⟩,
          ⟨(some 39), .bsl 1 1 [(.s (.int .i64 0))] [(0, (.k (.w (.d (.s (.int .i64 5))))))], (some (34, true))⟩,
          ⟨(some 40), .call (.k (.w (.fn 161 []))) [(.t 38), (.t 39)], (some (34, true))⟩,
          ⟨(some 41), .pick (.t 34) (.t 40) (.k (.w (.d (.s (.bool false))))), none⟩,
          ⟨(some 2), .mv (.t 41), none⟩])
        .ret)
        .skip))))))
  (.seq (.reg [⟨(some 42), .fa 1 (.t 1), none⟩,
    ⟨(some 43), .ld false 1 (.t 42), none⟩,
    ⟨(some 44), .call (.k (.w (.fn 162 []))) [(.t 43)], none⟩,
    ⟨(some 2), .mv (.t 44), none⟩])
  .ret))))⟩

/- loop.example/stile/impl.in -/
def F60 : Fn := ⟨15, [.tmp 6],
  (.seq (.reg [⟨(some 6), .mv (.k (.w (.d (.s (.bool false))))), none⟩])
  (.seq (.reg [⟨(some 7), .mv (.t 0), none⟩,
    ⟨(some 8), .mv (.t 1), none⟩,
    ⟨(some 9), .bin .geq .one (.t 7) (.t 8), none⟩,
    ⟨(some 10), .mv (.t 9), none⟩,
    ⟨(some 11), .mv (.t 0), (some (10, true))⟩,
    ⟨(some 12), .mv (.t 2), (some (10, true))⟩,
    ⟨(some 13), .bin .leq .one (.t 11) (.t 12), (some (10, true))⟩,
    ⟨(some 14), .pick (.t 10) (.t 13) (.k (.w (.d (.s (.bool false))))), none⟩,
    ⟨(some 6), .mv (.t 14), none⟩])
  .ret))⟩

/- slices.IndexFunc[[]loop.example/stile/impl.Elem,loop.example/stile/impl.Elem] -/
def F199_B0 : C :=
  (.seq (.reg [⟨(some 9), .bin .lss .one (.t 8) (.t 7), none⟩])
  (.seq (.cond (.t 9)
    .skip
    (.exit 0))
  (.seq (.block 1
    (.seq (.reg [⟨(some 10), .mv (.t 8), none⟩,
      ⟨(some 5), .mv (.t 10), none⟩])
    (.seq (.reg [⟨(some 11), .mv (.t 1), none⟩,
      ⟨(some 12), .mv (.t 0), none⟩,
      ⟨(some 13), .mv (.t 5), none⟩,
      ⟨(some 14), .ia 2 (.t 12) (.t 13), none⟩,
      ⟨(some 15), .ld true 2 (.t 14), none⟩,
      ⟨(some 16), .call (.t 11) [(.t 15)], none⟩])
    (.cond (.t 16)
      (.seq (.reg [⟨(some 17), .mv (.t 5), none⟩,
        ⟨(some 4), .mv (.t 17), none⟩])
      .ret)
      .skip))))
  (.reg [⟨(some 18), .bin .add .one (.t 8) (.k (.w (.d (.s (.int .i64 1))))), none⟩,
    ⟨(some 8), .mv (.t 18), none⟩]))))
def F199_L0 : C := .loop F199_B0
def F199 : Fn := ⟨19, [.tmp 4],
  (.seq (.reg [⟨(some 4), .mv (.k (.w (.d (.s (.int .i64 0))))), none⟩])
  (.seq (.seq (.reg [⟨(some 6), .mv (.t 0), none⟩,
    ⟨(some 7), .lenl (.t 6), none⟩,
    ⟨(some 8), .mv (.k (.w (.d (.s (.int .i64 0))))), none⟩])
  (.block 0
    F199_L0))
  (.seq (.reg [⟨(some 4), .mv (.k (.w (.d (.s (.int .i64 (-1)))))), none⟩])
  .ret)))⟩

/- loop.example/stile/impl.ElemIsCoil -/
def F200 : Fn := ⟨128, [.tmp 2],
  (.seq (.reg [⟨(some 1), .box 2 (.t 0), none⟩,
    ⟨(some 2), .mv (.k (.w (.d (.s (.bool false))))), none⟩])
  (.seq (.seq (.dreg [⟨(some 6), .fa 0 (.t 1), none⟩,
    ⟨(some 7), .ld false 1 (.t 6), none⟩,
    ⟨(some 8), .call (.k (.w (.fn 60 []))) [(.t 7), (.k (.w (.d (.s (.int .i64 21))))), (.k (.w (.d (.s (.int .i64 37)))))], none⟩,
    ⟨(some 9), .un .not (.t 8), none⟩,
    ⟨(some 10), .mv (.t 9), none⟩,
    ⟨(some 11), .fa 1 (.t 1), (some (10, false))⟩,
    ⟨(some 12), .ld false 1 (.t 11), (some (10, false))⟩,
    ⟨(some 13), .lenl (.t 12), (some (10, false))⟩,
    ⟨(some 14), .fa 0 (.t 1), (some (10, false))⟩,
    ⟨(some 15), .ld false 1 (.t 14), (some (10, false))⟩,
    ⟨(some 16), .call (.k (.w (.fn 159 []))) [(.t 15)], (some (10, false))⟩,
    ⟨(some 17), .bin .neq .one (.t 13) (.t 16), (some (10, false))⟩,
    ⟨(some 18), .pick (.t 10) (.k (.w (.d (.s (.bool true))))) (.t 17), none⟩] [0, 1, 3, 7, 15, 31, 63, 127, 31, 287, 799, 2047, 4095])
  (.cond (.t 18)
    (.seq (.reg [⟨(some 2), .mv (.k (.w (.d (.s (.bool false))))), none⟩])
    .ret)
    .skip))
  (.seq (.dreg [⟨(some 19), .fa 1 (.t 1), none⟩,
    ⟨(some 20), .ld false 1 (.t 19), none⟩,
    ⟨(some 21), .ia 3 (.t 20) (.k (.w (.d (.s (.int .i64 0))))), none⟩,
    ⟨(some 22), .ld true 3 (.t 21), none⟩,
    ⟨(some 23), .fa 1 (.t 1), none⟩,
    ⟨(some 24), .ld false 1 (.t 23), none⟩,
    ⟨(some 25), .sl 3 (.t 24) (some (.k (.w (.d (.s (.int .i64 1)))))) none none, none⟩,
    ⟨(some 3), .new [(.d (.s (.int .i64 0))), (.d (.s (.int .i64 0))), (.d (.s (.int .i64 0)))], none⟩,
    ⟨(some 4), .new [.nil], none⟩,
    ⟨none, .st 3 (.t 3) (.t 22), none⟩,
    ⟨none, .st 1 (.t 4) (.t 25), none⟩] [0, 1, 3, 7, 0, 16, 48, 0, 0, 399, 1023])
  (.seq (.reg [⟨(some 26), .mkf 202 [(.t 4)], none⟩,
    ⟨(some 5), .mv (.t 26), none⟩])
  (.seq (.seq (.reg [⟨(some 27), .fa 0 (.t 1), none⟩,
    ⟨(some 28), .ld false 1 (.t 27), none⟩])
  (.block 0
    (.seq (.reg [⟨(some 30), .bin .eql .one (.t 28) (.k (.w (.d (.s (.int .i64 21))))), none⟩,
      ⟨(some 29), .mv (.t 30), none⟩])
    (.cond (.t 29)
      (.seq (.reg [⟨(some 31), .ld true 3 (.t 3), none⟩,
        ⟨(some 32), .bsl 1 2 [(.s (.int .i64 0))] [(0, (.k (.w (.d (.s (.int .i64 2)))))), (1, (.k (.w (.d (.s (.int .i64 3))))))], none⟩,
        ⟨(some 33), .call (.k (.w (.fn 161 []))) [(.t 31), (.t 32)], none⟩,
        ⟨(some 2), .mv (.t 33), none⟩])
      .ret)
      (.seq (.reg [⟨(some 35), .bin .eql .one (.t 28) (.k (.w (.d (.s (.int .i64 22))))), none⟩,
        ⟨(some 34), .mv (.t 35), none⟩])
      (.cond (.t 34)
        (.seq (.reg [⟨(some 36), .ld true 3 (.t 3), none⟩,
          ⟨(some 37), .bsl 1 3 [(.s (.int .i64 0))] [(0, (.k (.w (.d (.s (.int .i64 2)))))), (1, (.k (.w (.d (.s (.int .i64 3)))))), (2, (.k (.w (.d (.s (.int .i64 4))))))], none⟩,
          ⟨(some 38), .call (.k (.w (.fn 161 []))) [(.t 36), (.t 37)], none⟩,
          ⟨(some 2), .mv (.t 38), none⟩])
        .ret)
        (.seq (.reg [⟨(some 40), .bin .eql .one (.t 28) (.k (.w (.d (.s (.int .i64 23))))), none⟩,
          ⟨(some 39), .mv (.t 40), none⟩])
        (.cond (.t 39)
          (.seq (.reg [⟨(some 41), .ld true 3 (.t 3), none⟩,
            ⟨(some 42), .bsl 1 5 [(.s (.int .i64 0))] [(0, (.k (.w (.d (.s (.int .i64 2)))))), (1, (.k (.w (.d (.s (.int .i64 3)))))), (2, (.k (.w (.d (.s (.int .i64 4)))))), (3, (.k (.w (.d (.s (.int .i64 7)))))), (4, (.k (.w (.d (.s (.int .i64 8))))))], none⟩,
            ⟨(some 43), .call (.k (.w (.fn 161 []))) [(.t 41), (.t 42)], none⟩,
            ⟨(some 2), .mv (.t 43), none⟩])
          .ret)
          (.seq (.reg [⟨(some 45), .bin .eql .one (.t 28) (.k (.w (.d (.s (.int .i64 24))))), none⟩,
            ⟨(some 44), .mv (.t 45), none⟩])
          (.cond (.t 44)
            (.seq (.reg [⟨(some 46), .ld true 3 (.t 3), none⟩,
              ⟨(some 47), .bsl 1 2 [(.s (.int .i64 0))] [(0, (.k (.w (.d (.s (.int .i64 2)))))), (1, (.k (.w (.d (.s (.int .i64 3))))))], none⟩,
              ⟨(some 48), .call (.k (.w (.fn 161 []))) [(.t 46), (.t 47)], none⟩,
              ⟨(some 49), .mv (.t 48), none⟩,
              ⟨(some 50), .ld false 1 (.t 4), (some (49, true))⟩,
              ⟨(some 51), .ia 3 (.t 50) (.k (.w (.d (.s (.int .i64 0))))), (some (49, true))⟩,
              ⟨(some 52), .ld true 3 (.t 51), (some (49, true))⟩,
              ⟨(some 53), .bsl 1 1 [(.s (.int .i64 0))] [(0, (.k (.w (.d (.s (.int .i64 5))))))], (some (49, true))⟩,
              ⟨(some 54), .call (.k (.w (.fn 161 []))) [(.t 52), (.t 53)], (some (49, true))⟩,
              ⟨(some 55), .pick (.t 49) (.t 54) (.k (.w (.d (.s (.bool false))))), none⟩,
              ⟨(some 2), .mv (.t 55), none⟩])
            .ret)
            (.seq (.reg [⟨(some 57), .bin .eql .one (.t 28) (.k (.w (.d (.s (.int .i64 25))))), none⟩,
              ⟨(some 56), .mv (.t 57), none⟩])
            (.cond (.t 56)
              (.seq (.reg [⟨(some 58), .ld true 3 (.t 3), none⟩,
                ⟨(some 59), .bsl 1 1 [(.s (.int .i64 0))] [(0, (.k (.w (.d (.s (.int .i64 4))))))], none⟩,
                ⟨(some 60), .call (.k (.w (.fn 161 []))) [(.t 58), (.t 59)], none⟩,
                ⟨(some 2), .mv (.t 60), none⟩])
              .ret)
              (.seq (.seq (.reg [⟨(some 62), .bin .eql .one (.t 28) (.k (.w (.d (.s (.int .i64 26))))), none⟩,
                ⟨(some 61), .mv (.t 62), none⟩])
              (.cond (.t 61)
                .skip
                (.seq (.reg [⟨(some 63), .bin .eql .one (.t 28) (.k (.w (.d (.s (.int .i64 27))))), none⟩,
                  ⟨(some 61), .mv (.t 63), none⟩])
                (.cond (.t 61)
                  .skip
                  (.reg [⟨(some 64), .bin .eql .one (.t 28) (.k (.w (.d (.s (.int .i64 28))))), none⟩,
                    ⟨(some 61), .mv (.t 64), none⟩])))))
              (.cond (.t 61)
                (.seq (.reg [⟨(some 65), .ld true 3 (.t 3), none⟩,
                  ⟨(some 66), .bsl 1 1 [(.s (.int .i64 0))] [(0, (.k (.w (.d (.s (.int .i64 7))))))], none⟩,
                  ⟨(some 67), .call (.k (.w (.fn 161 []))) [(.t 65), (.t 66)], none⟩,
                  ⟨(some 68), .mv (.t 67), none⟩,
                  ⟨(some 69), .mv (.t 5), (some (68, true))⟩,
                  ⟨(some 70), .call (.t 69) [], (some (68, true))⟩,
                  ⟨(some 71), .pick (.t 68) (.t 70) (.k (.w (.d (.s (.bool false))))), none⟩,
                  ⟨(some 2), .mv (.t 71), none⟩])
                .ret)
                (.seq (.reg [⟨(some 73), .bin .eql .one (.t 28) (.k (.w (.d (.s (.int .i64 29))))), none⟩,
                  ⟨(some 72), .mv (.t 73), none⟩])
                (.cond (.t 72)
                  (.seq (.reg [⟨(some 74), .ld true 3 (.t 3), none⟩,
                    ⟨(some 75), .bsl 1 1 [(.s (.int .i64 0))] [(0, (.k (.w (.d (.s (.int .i64 8))))))], none⟩,
                    ⟨(some 76), .call (.k (.w (.fn 161 []))) [(.t 74), (.t 75)], none⟩,
                    ⟨(some 77), .mv (.t 76), none⟩,
                    ⟨(some 78), .mv (.t 5), (some (77, true))⟩,
                    ⟨(some 79), .call (.t 78) [], (some (77, true))⟩,
                    ⟨(some 80), .pick (.t 77) (.t 79) (.k (.w (.d (.s (.bool false))))), none⟩,
                    ⟨(some 2), .mv (.t 80), none⟩])
                  .ret)
                  (.seq (.reg [⟨(some 82), .bin .eql .one (.t 28) (.k (.w (.d (.s (.int .i64 35))))), none⟩,
                    ⟨(some 81), .mv (.t 82), none⟩])
                  (.cond (.t 81)
                    (.seq (.reg [⟨(some 83), .ld true 3 (.t 3), none⟩,
                      ⟨(some 84), .bsl 1 1 [(.s (.int .i64 0))] [(0, (.k (.w (.d (.s (.int .i64 9))))))], none⟩,
                      ⟨(some 85), .call (.k (.w (.fn 161 []))) [(.t 83), (.t 84)], none⟩,
                      ⟨(some 86), .mv (.t 85), none⟩,
                      ⟨(some 87), .ld false 1 (.t 4), (some (86, true))⟩,
                      ⟨(some 88), .call (.k (.w (.fn 183 []))) [(.t 87), (.k (.w (.fn 184 [])))], (some (86, true))⟩,
                      ⟨(some 89), .pick (.t 86) (.t 88) (.k (.w (.d (.s (.bool false))))), none⟩,
                      ⟨(some 2), .mv (.t 89), none⟩])
                    .ret)
                    (.seq (.reg [⟨(some 91), .bin .eql .one (.t 28) (.k (.w (.d (.s (.int .i64 36))))), none⟩,
                      ⟨(some 90), .mv (.t 91), none⟩])
                    (.cond (.t 90)
                      (.seq (.reg [⟨(some 92), .ld true 3 (.t 3), none⟩,
                        ⟨(some 93), .bsl 1 1 [(.s (.int .i64 0))] [(0, (.k (.w (.d (.s (.int .i64 10))))))], none⟩,
                        ⟨(some 94), .call (.k (.w (.fn 161 []))) [(.t 92), (.t 93)], none⟩,
                        ⟨(some 95), .mv (.t 94), none⟩,
                        ⟨(some 96), .ld false 1 (.t 4), (some (95, true))⟩,
                        ⟨(some 97), .ia 3 (.t 96) (.k (.w (.d (.s (.int .i64 0))))), (some (95, true))⟩,
                        ⟨(some 98), .ld true 3 (.t 97), (some (95, true))⟩,
                        ⟨(some 99), .call (.k (.w (.fn 184 []))) [(.t 98)], (some (95, true))⟩,
                        ⟨(some 100), .pick (.t 95) (.t 99) (.k (.w (.d (.s (.bool false))))), none⟩,
                        ⟨(some 2), .mv (.t 100), none⟩])
                      .ret)
                      (.seq (.reg [⟨(some 102), .bin .eql .one (.t 28) (.k (.w (.d (.s (.int .i64 37))))), none⟩,
                        ⟨(some 101), .mv (.t 102), none⟩])
                      (.cond (.t 101)
                        (.seq (.reg [⟨(some 103), .ld true 3 (.t 3), none⟩,
                          ⟨(some 104), .bsl 1 1 [(.s (.int .i64 0))] [(0, (.k (.w (.d (.s (.int .i64 9))))))], none⟩,
                          ⟨(some 105), .call (.k (.w (.fn 161 []))) [(.t 103), (.t 104)], none⟩,
                          ⟨(some 106), .mv (.t 105), none⟩,
                          ⟨(some 107), .ld false 1 (.t 4), (some (106, true))⟩,
                          ⟨(some 108), .ia 3 (.t 107) (.k (.w (.d (.s (.int .i64 0))))), (some (106, true))⟩,
                          ⟨(some 109), .ld true 3 (.t 108), (some (106, true))⟩,
                          ⟨(some 110), .call (.k (.w (.fn 185 []))) [(.t 109)], (some (106, true))⟩,
                          ⟨(some 111), .pick (.t 106) (.t 110) (.k (.w (.d (.s (.bool false))))), none⟩,
                          ⟨(some 2), .mv (.t 111), none⟩])
                        .ret)
                        .skip))))))))))))))))))))))
  (.seq (.reg [⟨(some 112), .ld true 3 (.t 3), none⟩,
    ⟨(some 113), .bsl 1 1 [(.s (.int .i64 0))] [(0, (.k (.w (.d (.s (.int .i64 9))))))], none⟩,
    ⟨(some 114), .call (.k (.w (.fn 161 []))) [(.t 112), (.t 113)], none⟩,
    ⟨(some 115), .mv (.t 114), none⟩,
    ⟨(some 116), .ld false 1 (.t 4), (some (115, true))⟩,
    ⟨(some 117), .call (.k (.w (.fn 183 []))) [(.t 116), (.k (.w (.fn 184 [])))], (some (115, true))⟩,
    ⟨(some 118), .pick (.t 115) (.t 117) (.k (.w (.d (.s (.bool false))))), none⟩,
    ⟨(some 119), .mv (.t 118), none⟩,
    ⟨(some 120), .ld true 3 (.t 3), (some (119, false))⟩,
    ⟨(some 121), .bsl 1 1 [(.s (.int .i64 0))] [(0, (.k (.w (.d (.s (.int .i64 10))))))], (some (119, false))⟩,
    ⟨(some 122), .call (.k (.w (.fn 161 []))) [(.t 120), (.t 121)], (some (119, false))⟩,
    ⟨(some 123), .mv (.t 122), (some (119, false))⟩,
    ⟨(some 124), .ld false 1 (.t 4), (some (123, true))⟩,
    ⟨(some 125), .call (.k (.w (.fn 183 []))) [(.t 124), (.k (.w (.fn 185 [])))], (some (123, true))⟩,
    ⟨(some 126), .pick (.t 123) (.t 125) (.k (.w (.d (.s (.bool false))))), (some (119, false))⟩,
    ⟨(some 127), .pick (.t 119) (.k (.w (.d (.s (.bool true))))) (.t 126), none⟩,
    ⟨(some 2), .mv (.t 127), none⟩])
  .ret))))))⟩

/- loop.example/stile/laws.szElem -/
def F226 : Fn := ⟨12, [.tmp 4],
  (.seq (.reg [⟨(some 2), .box 2 (.t 0), none⟩,
    ⟨(some 4), .mv (.k (.w (.d (.s (.int .i64 0))))), none⟩])
  (.seq (.reg [⟨(some 5), .fa 1 (.t 2), none⟩,
    ⟨(some 6), .ld false 1 (.t 5), none⟩,
    ⟨(some 7), .mv (.t 1), none⟩,
    ⟨(some 8), .call (.k (.w (.fn 236 []))) [(.t 6), (.t 7)], none⟩,
    ⟨(some 1), .mv (.t 8), none⟩])
  (.seq (.seq (.reg [⟨(some 9), .mv (.t 1), none⟩,
    ⟨(some 10), .bin .lss .one (.t 9) (.k (.w (.d (.s (.int .i64 0))))), none⟩])
  (.cond (.t 10)
    (.seq (.reg [⟨(some 4), .mv (.k (.w (.d (.s (.int .i64 (-1)))))), none⟩])
    .ret)
    .skip))
  (.seq (.reg [⟨(some 11), .mv (.t 1), none⟩,
    ⟨(some 4), .mv (.t 11), none⟩])
  .ret))))⟩

/- loop.example/stile/laws.szNetS -/
def F227_B0 : C :=
  (.seq (.seq (.reg [⟨(some 12), .mv (.t 5), none⟩,
    ⟨(some 13), .mv (.t 0), none⟩,
    ⟨(some 14), .lenl (.t 13), none⟩,
    ⟨(some 15), .bin .lss .one (.t 12) (.t 14), none⟩])
  (.cond (.t 15)
    .skip
    (.exit 0)))
  (.seq (.block 1
    (.seq (.reg [⟨(some 18), .mv (.t 0), none⟩,
      ⟨(some 19), .mv (.t 5), none⟩,
      ⟨(some 20), .ia 4 (.t 18) (.t 19), none⟩,
      ⟨(some 21), .ld true 4 (.t 20), none⟩,
      ⟨(some 22), .mv (.t 1), none⟩,
      ⟨(some 23), .call (.k (.w (.fn 220 []))) [(.t 21), (.t 22)], none⟩,
      ⟨(some 1), .mv (.t 23), none⟩])
    (.seq (.reg [⟨(some 24), .mv (.t 1), none⟩,
      ⟨(some 25), .bin .lss .one (.t 24) (.k (.w (.d (.s (.int .i64 0))))), none⟩])
    (.cond (.t 25)
      (.seq (.reg [⟨(some 4), .mv (.k (.w (.d (.s (.int .i64 (-1)))))), none⟩])
      .ret)
      .skip))))
  (.reg [⟨(some 16), .mv (.t 5), none⟩,
    ⟨(some 17), .bin .add .one (.t 16) (.k (.w (.d (.s (.int .i64 1))))), none⟩,
    ⟨(some 5), .mv (.t 17), none⟩])))
def F227_L0 : C := .loop F227_B0
def F227 : Fn := ⟨27, [.tmp 4],
  (.seq (.reg [⟨(some 4), .mv (.k (.w (.d (.s (.int .i64 0))))), none⟩])
  (.seq (.reg [⟨(some 6), .mv (.t 1), none⟩,
    ⟨(some 7), .mv (.t 0), none⟩,
    ⟨(some 8), .lenl (.t 7), none⟩,
    ⟨(some 9), .bin .sub .one (.t 6) (.t 8), none⟩,
    ⟨(some 1), .mv (.t 9), none⟩])
  (.seq (.seq (.reg [⟨(some 10), .mv (.t 1), none⟩,
    ⟨(some 11), .bin .lss .one (.t 10) (.k (.w (.d (.s (.int .i64 0))))), none⟩])
  (.cond (.t 11)
    (.seq (.reg [⟨(some 4), .mv (.k (.w (.d (.s (.int .i64 (-1)))))), none⟩])
    .ret)
    .skip))
  (.seq (.seq (.reg [⟨(some 5), .mv (.k (.w (.d (.s (.int .i64 0))))), none⟩])
  (.block 0
    F227_L0))
  (.seq (.reg [⟨(some 26), .mv (.t 1), none⟩,
    ⟨(some 4), .mv (.t 26), none⟩])
  .ret)))))⟩

/- loop.example/stile/laws.toElem -/
def F228 : Fn := ⟨12, [.cell 2 true 2],
  (.seq (.reg [⟨(some 1), .box 2 (.t 0), none⟩,
    ⟨(some 2), .new [(.d (.s (.int .i64 0))), .nil], none⟩])
  (.seq (.reg [⟨(some 3), .new [(.d (.s (.int .i64 0))), .nil], none⟩])
  (.seq (.reg [⟨(some 4), .fa 0 (.t 1), none⟩,
    ⟨(some 5), .ld false 1 (.t 4), none⟩,
    ⟨(some 6), .fa 0 (.t 3), none⟩,
    ⟨none, .st 1 (.t 6) (.t 5), none⟩])
  (.seq (.reg [⟨(some 7), .fa 1 (.t 1), none⟩,
    ⟨(some 8), .ld false 1 (.t 7), none⟩,
    ⟨(some 9), .call (.k (.w (.fn 237 []))) [(.t 8)], none⟩,
    ⟨(some 10), .fa 1 (.t 3), none⟩,
    ⟨none, .st 1 (.t 10) (.t 9), none⟩])
  (.seq (.reg [⟨(some 11), .ld true 2 (.t 3), none⟩,
    ⟨none, .st 2 (.t 2) (.t 11), none⟩])
  .ret)))))⟩

/- loop.example/stile/laws.toNetS -/
def F229_B0 : C :=
  (.seq (.seq (.reg [⟨(some 8), .mv (.t 4), none⟩,
    ⟨(some 9), .mv (.t 0), none⟩,
    ⟨(some 10), .lenl (.t 9), none⟩,
    ⟨(some 11), .bin .lss .one (.t 8) (.t 10), none⟩])
  (.cond (.t 11)
    .skip
    (.exit 0)))
  (.seq (.block 1
    (.reg [⟨(some 14), .mv (.t 3), none⟩,
      ⟨(some 15), .mv (.t 4), none⟩,
      ⟨(some 16), .mv (.t 0), none⟩,
      ⟨(some 17), .mv (.t 4), none⟩,
      ⟨(some 18), .ia 4 (.t 16) (.t 17), none⟩,
      ⟨(some 19), .ld true 4 (.t 18), none⟩,
      ⟨(some 20), .call (.k (.w (.fn 221 []))) [(.t 19)], none⟩,
      ⟨(some 21), .ia 4 (.t 14) (.t 15), none⟩,
      ⟨none, .st 4 (.t 21) (.t 20), none⟩]))
  (.reg [⟨(some 12), .mv (.t 4), none⟩,
    ⟨(some 13), .bin .add .one (.t 12) (.k (.w (.d (.s (.int .i64 1))))), none⟩,
    ⟨(some 4), .mv (.t 13), none⟩])))
def F229_L0 : C := .loop F229_B0
def F229 : Fn := ⟨23, [.tmp 2],
  (.seq (.reg [⟨(some 2), .mv (.k (.w .nil)), none⟩])
  (.seq (.reg [⟨(some 5), .mv (.t 0), none⟩,
    ⟨(some 6), .lenl (.t 5), none⟩,
    ⟨(some 7), .msl 4 64 [(.s (.int .i64 0)), (.s (.int .i64 0)), (.l 0 []), (.l 0 [])] (.t 6) (.t 6), none⟩,
    ⟨(some 3), .mv (.t 7), none⟩])
  (.seq (.seq (.reg [⟨(some 4), .mv (.k (.w (.d (.s (.int .i64 0))))), none⟩])
  (.block 0
    F229_L0))
  (.seq (.reg [⟨(some 22), .mv (.t 3), none⟩,
    ⟨(some 2), .mv (.t 22), none⟩])
  .ret))))⟩

/- loop.example/stile/laws.eqElem -/
def F230 : Fn := ⟨16, [.tmp 4],
  (.seq (.reg [⟨(some 2), .box 2 (.t 0), none⟩,
    ⟨(some 3), .box 2 (.t 1), none⟩,
    ⟨(some 4), .mv (.k (.w (.d (.s (.bool false))))), none⟩])
  (.seq (.seq (.reg [⟨(some 5), .fa 0 (.t 2), none⟩,
    ⟨(some 6), .ld false 1 (.t 5), none⟩,
    ⟨(some 7), .fa 0 (.t 3), none⟩,
    ⟨(some 8), .ld false 1 (.t 7), none⟩,
    ⟨(some 9), .bin .neq .one (.t 6) (.t 8), none⟩])
  (.cond (.t 9)
    (.seq (.reg [⟨(some 4), .mv (.k (.w (.d (.s (.bool false))))), none⟩])
    .ret)
    .skip))
  (.seq (.seq (.reg [⟨(some 10), .fa 1 (.t 2), none⟩,
    ⟨(some 11), .ld false 1 (.t 10), none⟩,
    ⟨(some 12), .fa 1 (.t 3), none⟩,
    ⟨(some 13), .ld false 1 (.t 12), none⟩,
    ⟨(some 14), .call (.k (.w (.fn 238 []))) [(.t 11), (.t 13)], none⟩,
    ⟨(some 15), .un .not (.t 14), none⟩])
  (.cond (.t 15)
    (.seq (.reg [⟨(some 4), .mv (.k (.w (.d (.s (.bool false))))), none⟩])
    .ret)
    .skip))
  (.seq (.reg [⟨(some 4), .mv (.k (.w (.d (.s (.bool true))))), none⟩])
  .ret))))⟩

/- loop.example/stile/laws.eqNetS -/
def F231_B0 : C :=
  (.seq (.seq (.reg [⟨(some 11), .mv (.t 5), none⟩,
    ⟨(some 12), .mv (.t 0), none⟩,
    ⟨(some 13), .lenl (.t 12), none⟩,
    ⟨(some 14), .bin .lss .one (.t 11) (.t 13), none⟩])
  (.cond (.t 14)
    .skip
    (.exit 0)))
  (.seq (.block 1
    (.seq (.dreg [⟨(some 17), .mv (.t 0), none⟩,
      ⟨(some 18), .mv (.t 5), none⟩,
      ⟨(some 19), .ia 4 (.t 17) (.t 18), none⟩,
      ⟨(some 20), .ld true 4 (.t 19), none⟩,
      ⟨(some 21), .mv (.t 1), none⟩,
      ⟨(some 22), .mv (.t 5), none⟩,
      ⟨(some 23), .ia 4 (.t 21) (.t 22), none⟩,
      ⟨(some 24), .ld true 4 (.t 23), none⟩,
      ⟨(some 25), .call (.k (.w (.fn 223 []))) [(.t 20), (.t 24)], none⟩,
      ⟨(some 26), .un .not (.t 25), none⟩] [0, 0, 3, 7, 0, 0, 48, 112, 255, 511])
    (.cond (.t 26)
      (.seq (.reg [⟨(some 4), .mv (.k (.w (.d (.s (.bool false))))), none⟩])
      .ret)
      .skip)))
  (.reg [⟨(some 15), .mv (.t 5), none⟩,
    ⟨(some 16), .bin .add .one (.t 15) (.k (.w (.d (.s (.int .i64 1))))), none⟩,
    ⟨(some 5), .mv (.t 16), none⟩])))
def F231_L0 : C := .loop F231_B0
def F231 : Fn := ⟨27, [.tmp 4],
  (.seq (.reg [⟨(some 4), .mv (.k (.w (.d (.s (.bool false))))), none⟩])
  (.seq (.seq (.reg [⟨(some 6), .mv (.t 0), none⟩,
    ⟨(some 7), .lenl (.t 6), none⟩,
    ⟨(some 8), .mv (.t 1), none⟩,
    ⟨(some 9), .lenl (.t 8), none⟩,
    ⟨(some 10), .bin .neq .one (.t 7) (.t 9), none⟩])
  (.cond (.t 10)
    (.seq (.reg [⟨(some 4), .mv (.k (.w (.d (.s (.bool false))))), none⟩])
    .ret)
    .skip))
  (.seq (.seq (.reg [⟨(some 5), .mv (.k (.w (.d (.s (.int .i64 0))))), none⟩])
  (.block 0
    F231_L0))
  (.seq (.reg [⟨(some 4), .mv (.k (.w (.d (.s (.bool true))))), none⟩])
  .ret))))⟩

/- loop.example/stile/spec.l7Net -/
def F115_B0 : C :=
  (.seq (.seq (.reg [⟨(some 38), .mv (.t 8), none⟩,
    ⟨(some 39), .mv (.t 7), none⟩,
    ⟨(some 40), .bin .lss .one (.t 38) (.t 39), none⟩])
  (.cond (.t 40)
    .skip
    (.exit 0)))
  (.seq (.block 1
    (.dreg [⟨(some 43), .fa 3 (.t 6), none⟩,
      ⟨(some 44), .ld false 1 (.t 43), none⟩,
      ⟨(some 45), .mv (.t 0), none⟩,
      ⟨(some 46), .mv (.t 1), none⟩,
      ⟨(some 47), .bin .sub .one (.t 46) (.k (.w (.d (.s (.int .i64 1))))), none⟩,
      ⟨(some 48), .call (.k (.w (.fn 115 []))) [(.t 45), (.t 47)], none⟩,
      ⟨(some 49), .bsl 4 1 [(.s (.int .i64 0)), (.s (.int .i64 0)), (.l 0 []), (.l 0 [])] [(0, (.t 48))], none⟩,
      ⟨(some 50), .app 4 64 [(.s (.int .i64 0)), (.s (.int .i64 0)), (.l 0 []), (.l 0 [])] (.t 44) (.t 49), none⟩,
      ⟨(some 51), .fa 3 (.t 6), none⟩,
      ⟨none, .st 1 (.t 51) (.t 50), none⟩] [0, 1, 0, 0, 8, 28, 60, 127, 255, 511]))
  (.reg [⟨(some 41), .mv (.t 8), none⟩,
    ⟨(some 42), .bin .add .one (.t 41) (.k (.w (.d (.s (.int .i64 1))))), none⟩,
    ⟨(some 8), .mv (.t 42), none⟩])))
def F115_L0 : C := .loop F115_B0
def F115 : Fn := ⟨53, [.cell 4 true 4],
  (.seq (.reg [⟨(some 4), .new [(.d (.s (.int .i64 0))), (.d (.s (.int .i64 0))), .nil, .nil], none⟩])
  (.seq (.reg [⟨(some 9), .mv (.t 0), none⟩,
    ⟨(some 10), .call (.k (.w (.fn 67 []))) [(.t 9), (.k (.w (.d (.s (.int .i64 7)))))], none⟩,
    ⟨(some 5), .mv (.t 10), none⟩])
  (.seq (.seq (.reg [⟨(some 11), .mv (.t 1), none⟩,
    ⟨(some 12), .bin .leq .one (.t 11) (.k (.w (.d (.s (.int .i64 0))))), none⟩,
    ⟨(some 13), .mv (.t 12), none⟩,
    ⟨(some 14), .mv (.t 5), (some (13, false))⟩,
    ⟨(some 15), .bin .lss .one (.t 14) (.k (.w (.d (.s (.int .i64 3))))), (some (13, false))⟩,
    ⟨(some 16), .pick (.t 13) (.k (.w (.d (.s (.bool true))))) (.t 15), none⟩])
  (.cond (.t 16)
    (.seq (.reg [⟨(some 17), .mv (.t 0), none⟩,
      ⟨(some 18), .call (.k (.w (.fn 134 []))) [(.t 17)], none⟩,
      ⟨(some 19), .bld [(.d (.s (.int .i64 0))), (.d (.s (.int .i64 0))), .nil, .nil] [(0, 1, (.k (.w (.d (.s (.int .i64 1)))))), (1, 2, (.t 18))], none⟩,
      ⟨none, .st 4 (.t 4) (.t 19), none⟩])
    .ret)
    .skip))
  (.seq (.seq (.reg [⟨(some 20), .mv (.t 5), none⟩,
    ⟨(some 21), .bin .eql .one (.t 20) (.k (.w (.d (.s (.int .i64 6))))), none⟩])
  (.cond (.t 21)
    (.seq (.reg [⟨(some 22), .mv (.t 0), none⟩,
      ⟨(some 23), .mv (.t 1), none⟩,
      ⟨(some 24), .bin .sub .one (.t 23) (.k (.w (.d (.s (.int .i64 1))))), none⟩,
      ⟨(some 25), .call (.k (.w (.fn 115 []))) [(.t 22), (.t 24)], none⟩,
      ⟨(some 26), .bsl 4 1 [(.s (.int .i64 0)), (.s (.int .i64 0)), (.l 0 []), (.l 0 [])] [(0, (.t 25))], none⟩,
      ⟨(some 27), .bld [(.d (.s (.int .i64 0))), (.d (.s (.int .i64 0))), .nil, .nil] [(0, 1, (.k (.w (.d (.s (.int .i64 4)))))), (3, 1, (.t 26))], none⟩,
      ⟨none, .st 4 (.t 4) (.t 27), none⟩])
    .ret)
    .skip))
  (.seq (.reg [⟨(some 28), .mv (.t 5), none⟩,
    ⟨(some 29), .bin .rem .one (.t 28) (.k (.w (.d (.s (.int .i64 2))))), none⟩,
    ⟨(some 30), .bin .add .one (.k (.w (.d (.s (.int .i64 2))))) (.t 29), none⟩,
    ⟨(some 31), .bld [(.d (.s (.int .i64 0))), (.d (.s (.int .i64 0))), .nil, .nil] [(0, 1, (.t 30))], none⟩,
    ⟨(some 6), .new [(.d (.s (.int .i64 0))), (.d (.s (.int .i64 0))), .nil, .nil], none⟩,
    ⟨none, .st 4 (.t 6) (.t 31), none⟩])
  (.seq (.reg [⟨(some 32), .mv (.t 0), none⟩,
    ⟨(some 33), .call (.k (.w (.fn 67 []))) [(.t 32), (.k (.w (.d (.s (.int .i64 2)))))], none⟩,
    ⟨(some 34), .bin .add .one (.k (.w (.d (.s (.int .i64 2))))) (.t 33), none⟩,
    ⟨(some 7), .mv (.t 34), none⟩])
  (.seq (.seq (.reg [⟨(some 35), .mv (.t 0), none⟩,
    ⟨(some 36), .call (.k (.w (.fn 67 []))) [(.t 35), (.k (.w (.d (.s (.int .i64 8)))))], none⟩,
    ⟨(some 37), .bin .eql .one (.t 36) (.k (.w (.d (.s (.int .i64 0))))), none⟩])
  (.cond (.t 37)
    (.reg [⟨(some 7), .mv (.k (.w (.d (.s (.int .i64 1))))), none⟩])
    .skip))
  (.seq (.seq (.reg [⟨(some 8), .mv (.k (.w (.d (.s (.int .i64 0))))), none⟩])
  (.block 0
    F115_L0))
  (.seq (.reg [⟨(some 52), .ld true 4 (.t 6), none⟩,
    ⟨none, .st 4 (.t 4) (.t 52), none⟩])
  .ret)))))))))⟩

/- loop.example/stile/spec.DevSize -/
def F180 : Fn := ⟨18, [.tmp 2],
  (.seq (.reg [⟨(some 2), .mv (.k (.w (.d (.s (.int .i64 0))))), none⟩])
  (.seq (.seq (.reg [⟨(some 3), .mv (.t 0), none⟩])
  (.block 0
    (.seq (.seq (.reg [⟨(some 5), .bin .eql .one (.t 3) (.k (.w (.d (.s (.int .i64 1))))), none⟩,
      ⟨(some 4), .mv (.t 5), none⟩])
    (.cond (.t 4)
      .skip
      (.seq (.reg [⟨(some 6), .bin .eql .one (.t 3) (.k (.w (.d (.s (.int .i64 2))))), none⟩,
        ⟨(some 4), .mv (.t 6), none⟩])
      (.cond (.t 4)
        .skip
        (.seq (.reg [⟨(some 7), .bin .eql .one (.t 3) (.k (.w (.d (.s (.int .i64 5))))), none⟩,
          ⟨(some 4), .mv (.t 7), none⟩])
        (.cond (.t 4)
          .skip
          (.reg [⟨(some 8), .bin .eql .one (.t 3) (.k (.w (.d (.s (.int .i64 9))))), none⟩,
            ⟨(some 4), .mv (.t 8), none⟩])))))))
    (.cond (.t 4)
      (.seq (.reg [⟨(some 2), .mv (.k (.w (.d (.s (.int .i64 32))))), none⟩])
      .ret)
      (.seq (.reg [⟨(some 10), .bin .eql .one (.t 3) (.k (.w (.d (.s (.int .i64 3))))), none⟩,
        ⟨(some 9), .mv (.t 10), none⟩])
      (.cond (.t 9)
        (.seq (.reg [⟨(some 2), .mv (.k (.w (.d (.s (.int .i64 64))))), none⟩])
        .ret)
        (.seq (.seq (.reg [⟨(some 12), .bin .eql .one (.t 3) (.k (.w (.d (.s (.int .i64 4))))), none⟩,
          ⟨(some 11), .mv (.t 12), none⟩])
        (.cond (.t 11)
          .skip
          (.seq (.reg [⟨(some 13), .bin .eql .one (.t 3) (.k (.w (.d (.s (.int .i64 7))))), none⟩,
            ⟨(some 11), .mv (.t 13), none⟩])
          (.cond (.t 11)
            .skip
            (.seq (.reg [⟨(some 14), .bin .eql .one (.t 3) (.k (.w (.d (.s (.int .i64 8))))), none⟩,
              ⟨(some 11), .mv (.t 14), none⟩])
            (.cond (.t 11)
              .skip
              (.reg [⟨(some 15), .bin .eql .one (.t 3) (.k (.w (.d (.s (.int .i64 10))))), none⟩,
                ⟨(some 11), .mv (.t 15), none⟩])))))))
        (.cond (.t 11)
          (.seq (.reg [⟨(some 2), .mv (.k (.w (.d (.s (.int .i64 16))))), none⟩])
          .ret)
          (.seq (.reg [⟨(some 17), .bin .eql .one (.t 3) (.k (.w (.d (.s (.int .i64 6))))), none⟩,
            ⟨(some 16), .mv (.t 17), none⟩])
          (.cond (.t 16)
            (.seq (.reg [⟨(some 2), .mv (.k (.w (.d (.s (.int .i64 5))))), none⟩])
            .ret)
            .skip))))))))))
  (.seq (.reg [⟨(some 2), .mv (.k (.w (.d (.s (.int .i64 0))))), none⟩])
  .ret)))⟩

/- loop.example/stile/spec.l2Any -/
def F129 : Fn := ⟨16, [.cell 2 true 3],
  (.seq (.reg [⟨(some 2), .new [(.d (.s (.int .i64 0))), (.d (.s (.int .i64 0))), (.d (.s (.int .i64 0)))], none⟩])
  (.seq (.reg [⟨(some 4), .mv (.t 0), none⟩,
    ⟨(some 5), .mv (.t 0), none⟩,
    ⟨(some 6), .call (.k (.w (.fn 67 []))) [(.t 5), (.k (.w (.d (.s (.int .i64 13)))))], none⟩,
    ⟨(some 7), .bin .add .one (.k (.w (.d (.s (.int .i64 1))))) (.t 6), none⟩,
    ⟨(some 8), .call (.k (.w (.fn 153 []))) [(.t 4), (.t 7)], none⟩,
    ⟨(some 3), .new [(.d (.s (.int .i64 0))), (.d (.s (.int .i64 0))), (.d (.s (.int .i64 0)))], none⟩,
    ⟨none, .st 3 (.t 3) (.t 8), none⟩])
  (.seq (.seq (.reg [⟨(some 9), .mv (.t 0), none⟩,
    ⟨(some 10), .call (.k (.w (.fn 67 []))) [(.t 9), (.k (.w (.d (.s (.int .i64 20)))))], none⟩,
    ⟨(some 11), .bin .eql .one (.t 10) (.k (.w (.d (.s (.int .i64 0))))), none⟩])
  (.cond (.t 11)
    (.seq (.reg [⟨(some 12), .mv (.t 0), none⟩,
      ⟨(some 13), .ld true 3 (.t 3), none⟩,
      ⟨(some 14), .call (.k (.w (.fn 154 []))) [(.t 12), (.t 13)], none⟩,
      ⟨none, .st 3 (.t 2) (.t 14), none⟩])
    .ret)
    .skip))
  (.seq (.reg [⟨(some 15), .ld true 3 (.t 3), none⟩,
    ⟨none, .st 3 (.t 2) (.t 15), none⟩])
  .ret))))⟩

/- loop.example/stile/spec.l2Spoilt -/
def F154 : Fn := ⟨43, [.cell 4 true 3],
  (.seq (.reg [⟨(some 3), .box 3 (.t 1), none⟩,
    ⟨(some 4), .new [(.d (.s (.int .i64 0))), (.d (.s (.int .i64 0))), (.d (.s (.int .i64 0)))], none⟩])
  (.seq (.seq (.reg [⟨(some 5), .mv (.t 0), none⟩,
    ⟨(some 6), .call (.k (.w (.fn 67 []))) [(.t 5), (.k (.w (.d (.s (.int .i64 6)))))], none⟩])
  (.block 0
    (.seq (.reg [⟨(some 12), .bin .eql .one (.t 6) (.k (.w (.d (.s (.int .i64 0))))), none⟩,
      ⟨(some 11), .mv (.t 12), none⟩])
    (.cond (.t 11)
      (.reg [⟨(some 13), .mv (.t 0), none⟩,
        ⟨(some 14), .call (.k (.w (.fn 67 []))) [(.t 13), (.k (.w (.d (.s (.int .i64 16)))))], none⟩,
        ⟨(some 15), .bin .sub .one (.t 14) (.k (.w (.d (.s (.int .i64 1))))), none⟩,
        ⟨(some 16), .fa 0 (.t 3), none⟩,
        ⟨none, .st 1 (.t 16) (.t 15), none⟩])
      (.seq (.reg [⟨(some 18), .bin .eql .one (.t 6) (.k (.w (.d (.s (.int .i64 1))))), none⟩,
        ⟨(some 17), .mv (.t 18), none⟩])
      (.cond (.t 17)
        (.reg [⟨(some 19), .mv (.t 0), none⟩,
          ⟨(some 20), .bsl 1 16 [(.s (.int .i64 0))] [(0, (.k (.w (.d (.s (.int .i64 (-1))))))), (1, (.k (.w (.d (.s (.int .i64 4)))))), (2, (.k (.w (.d (.s (.int .i64 5)))))), (3, (.k (.w (.d (.s (.int .i64 15)))))), (4, (.k (.w (.d (.s (.int .i64 16)))))), (5, (.k (.w (.d (.s (.int .i64 31)))))), (6, (.k (.w (.d (.s (.int .i64 32)))))), (7, (.k (.w (.d (.s (.int .i64 63)))))), (8, (.k (.w (.d (.s (.int .i64 64)))))), (9, (.k (.w (.d (.s (.int .i64 255)))))), (10, (.k (.w (.d (.s (.int .i64 32768)))))), (11, (.k (.w (.d (.s (.int .i64 (-32769))))))), (12, (.k (.w (.d (.s (.int .i64 1000000000)))))), (13, (.k (.w (.d (.s (.int .i64 (-1000000000))))))), (14, (.k (.w (.d (.s (.int .i64 20)))))), (15, (.k (.w (.d (.s (.int .i64 10))))))], none⟩,
          ⟨(some 21), .call (.k (.w (.fn 96 []))) [(.t 19), (.t 20)], none⟩,
          ⟨(some 22), .fa 1 (.t 3), none⟩,
          ⟨none, .st 1 (.t 22) (.t 21), none⟩])
        (.seq (.reg [⟨(some 24), .bin .eql .one (.t 6) (.k (.w (.d (.s (.int .i64 2))))), none⟩,
          ⟨(some 23), .mv (.t 24), none⟩])
        (.cond (.t 23)
          (.reg [⟨(some 25), .mv (.t 0), none⟩,
            ⟨(some 26), .bsl 1 5 [(.s (.int .i64 0))] [(0, (.k (.w (.d (.s (.int .i64 (-1))))))), (1, (.k (.w (.d (.s (.int .i64 0)))))), (2, (.k (.w (.d (.s (.int .i64 1)))))), (3, (.k (.w (.d (.s (.int .i64 6)))))), (4, (.k (.w (.d (.s (.int .i64 7))))))], none⟩,
            ⟨(some 27), .call (.k (.w (.fn 96 []))) [(.t 25), (.t 26)], none⟩,
            ⟨(some 28), .fa 2 (.t 3), none⟩,
            ⟨none, .st 1 (.t 28) (.t 27), none⟩])
          (.seq (.reg [⟨(some 30), .bin .eql .one (.t 6) (.k (.w (.d (.s (.int .i64 3))))), none⟩,
            ⟨(some 29), .mv (.t 30), none⟩])
          (.cond (.t 29)
            (.reg [⟨(some 31), .fa 0 (.t 3), none⟩,
              ⟨(some 32), .ld false 1 (.t 31), none⟩,
              ⟨(some 33), .call (.k (.w (.fn 180 []))) [(.t 32)], none⟩,
              ⟨(some 34), .fa 1 (.t 3), none⟩,
              ⟨none, .st 1 (.t 34) (.t 33), none⟩])
            (.seq (.reg [⟨(some 36), .bin .eql .one (.t 6) (.k (.w (.d (.s (.int .i64 4))))), none⟩,
              ⟨(some 35), .mv (.t 36), none⟩])
            (.cond (.t 35)
              (.reg [⟨(some 37), .fa 0 (.t 3), none⟩,
                ⟨(some 38), .ld false 1 (.t 37), none⟩,
                ⟨(some 39), .call (.k (.w (.fn 180 []))) [(.t 38)], none⟩,
                ⟨(some 40), .bin .sub .one (.t 39) (.k (.w (.d (.s (.int .i64 1))))), none⟩,
                ⟨(some 41), .fa 1 (.t 3), none⟩,
                ⟨none, .st 1 (.t 41) (.t 40), none⟩])
              (.reg [⟨(some 7), .fa 1 (.t 3), none⟩,
                ⟨(some 8), .ld false 1 (.t 7), none⟩,
                ⟨(some 9), .un .neg (.t 8), none⟩,
                ⟨(some 10), .fa 1 (.t 3), none⟩,
                ⟨none, .st 1 (.t 10) (.t 9), none⟩])))))))))))))
  (.seq (.reg [⟨(some 42), .ld true 3 (.t 3), none⟩,
    ⟨none, .st 3 (.t 4) (.t 42), none⟩])
  .ret)))⟩

/- loop.example/stile/spec.DevIsBit -/
def F187 : Fn := ⟨25, [.tmp 2],
  (.seq (.reg [⟨(some 1), .box 3 (.t 0), none⟩,
    ⟨(some 2), .mv (.k (.w (.d (.s (.bool false))))), none⟩])
  (.seq (.reg [⟨(some 3), .ld true 3 (.t 1), none⟩,
    ⟨(some 4), .call (.k (.w (.fn 188 []))) [(.t 3)], none⟩,
    ⟨(some 5), .mv (.t 4), none⟩,
    ⟨(some 6), .fa 0 (.t 1), (some (5, true))⟩,
    ⟨(some 7), .ld false 1 (.t 6), (some (5, true))⟩,
    ⟨(some 8), .bin .leq .one (.t 7) (.k (.w (.d (.s (.int .i64 4))))), (some (5, true))⟩,
    ⟨(some 9), .mv (.t 8), (some (5, true))⟩,
    ⟨(some 10), .fa 0 (.t 1), (some (9, false))⟩,
    ⟨(some 11), .ld false 1 (.t 10), (some (9, false))⟩,
    ⟨(some 12), .bin .eql .one (.t 11) (.k (.w (.d (.s (.int .i64 6))))), (some (9, false))⟩,
    ⟨(some 13), .pick (.t 9) (.k (.w (.d (.s (.bool true))))) (.t 12), (some (5, true))⟩,
    ⟨(some 14), .mv (.t 13), (some (5, true))⟩,
    ⟨(some 15), .fa 0 (.t 1), (some (14, false))⟩,
    ⟨(some 16), .ld false 1 (.t 15), (some (14, false))⟩,
    ⟨(some 17), .bin .eql .one (.t 16) (.k (.w (.d (.s (.int .i64 7))))), (some (14, false))⟩,
    ⟨(some 18), .pick (.t 14) (.k (.w (.d (.s (.bool true))))) (.t 17), (some (5, true))⟩,
    ⟨(some 19), .mv (.t 18), (some (5, true))⟩,
    ⟨(some 20), .fa 0 (.t 1), (some (19, false))⟩,
    ⟨(some 21), .ld false 1 (.t 20), (some (19, false))⟩,
    ⟨(some 22), .bin .eql .one (.t 21) (.k (.w (.d (.s (.int .i64 8))))), (some (19, false))⟩,
    ⟨(some 23), .pick (.t 19) (.k (.w (.d (.s (.bool true))))) (.t 22), (some (5, true))⟩,
    ⟨(some 24), .pick (.t 5) (.t 23) (.k (.w (.d (.s (.bool false))))), none⟩,
    ⟨(some 2), .mv (.t 24), none⟩])
  .ret))⟩

/- loop.example/stile/spec.DevOk -/
def F188 : Fn := ⟨82, [.tmp 2],
  (.seq (.reg [⟨(some 1), .box 3 (.t 0), none⟩,
    ⟨(some 2), .mv (.k (.w (.d (.s (.bool false))))), none⟩])
  (.seq (.seq (.reg [⟨(some 3), .fa 0 (.t 1), none⟩,
    ⟨(some 4), .ld false 1 (.t 3), none⟩])
  (.block 0
    (.seq (.reg [⟨(some 6), .bin .eql .one (.t 4) (.k (.w (.d (.s (.int .i64 11))))), none⟩,
      ⟨(some 5), .mv (.t 6), none⟩])
    (.cond (.t 5)
      (.seq (.reg [⟨(some 7), .fa 1 (.t 1), none⟩,
        ⟨(some 8), .ld false 1 (.t 7), none⟩,
        ⟨(some 9), .bin .geq .one (.t 8) (.k (.w (.d (.s (.int .i64 (-32768)))))), none⟩,
        ⟨(some 10), .mv (.t 9), none⟩,
        ⟨(some 11), .fa 1 (.t 1), (some (10, true))⟩,
        ⟨(some 12), .ld false 1 (.t 11), (some (10, true))⟩,
        ⟨(some 13), .bin .leq .one (.t 12) (.k (.w (.d (.s (.int .i64 32767))))), (some (10, true))⟩,
        ⟨(some 14), .pick (.t 10) (.t 13) (.k (.w (.d (.s (.bool false))))), none⟩,
        ⟨(some 15), .mv (.t 14), none⟩,
        ⟨(some 16), .fa 2 (.t 1), (some (15, true))⟩,
        ⟨(some 17), .ld false 1 (.t 16), (some (15, true))⟩,
        ⟨(some 18), .bin .eql .one (.t 17) (.k (.w (.d (.s (.int .i64 0))))), (some (15, true))⟩,
        ⟨(some 19), .pick (.t 15) (.t 18) (.k (.w (.d (.s (.bool false))))), none⟩,
        ⟨(some 2), .mv (.t 19), none⟩])
      .ret)
      (.seq (.reg [⟨(some 21), .bin .eql .one (.t 4) (.k (.w (.d (.s (.int .i64 12))))), none⟩,
        ⟨(some 20), .mv (.t 21), none⟩])
      (.cond (.t 20)
        (.seq (.reg [⟨(some 22), .fa 1 (.t 1), none⟩,
          ⟨(some 23), .ld false 1 (.t 22), none⟩,
          ⟨(some 24), .bin .geq .one (.t 23) (.k (.w (.d (.s (.int .i64 (-999999999)))))), none⟩,
          ⟨(some 25), .mv (.t 24), none⟩,
          ⟨(some 26), .fa 1 (.t 1), (some (25, true))⟩,
          ⟨(some 27), .ld false 1 (.t 26), (some (25, true))⟩,
          ⟨(some 28), .bin .leq .one (.t 27) (.k (.w (.d (.s (.int .i64 999999999))))), (some (25, true))⟩,
          ⟨(some 29), .pick (.t 25) (.t 28) (.k (.w (.d (.s (.bool false))))), none⟩,
          ⟨(some 30), .mv (.t 29), none⟩,
          ⟨(some 31), .fa 2 (.t 1), (some (30, true))⟩,
          ⟨(some 32), .ld false 1 (.t 31), (some (30, true))⟩,
          ⟨(some 33), .bin .geq .one (.t 32) (.k (.w (.d (.s (.int .i64 1))))), (some (30, true))⟩,
          ⟨(some 34), .pick (.t 30) (.t 33) (.k (.w (.d (.s (.bool false))))), none⟩,
          ⟨(some 35), .mv (.t 34), none⟩,
          ⟨(some 36), .fa 2 (.t 1), (some (35, true))⟩,
          ⟨(some 37), .ld false 1 (.t 36), (some (35, true))⟩,
          ⟨(some 38), .bin .leq .one (.t 37) (.k (.w (.d (.s (.int .i64 6))))), (some (35, true))⟩,
          ⟨(some 39), .pick (.t 35) (.t 38) (.k (.w (.d (.s (.bool false))))), none⟩,
          ⟨(some 40), .mv (.t 39), none⟩,
          ⟨(some 41), .fa 2 (.t 1), (some (40, true))⟩,
          ⟨(some 42), .ld false 1 (.t 41), (some (40, true))⟩,
          ⟨(some 43), .bin .eql .one (.t 42) (.k (.w (.d (.s (.int .i64 1))))), (some (40, true))⟩,
          ⟨(some 44), .mv (.t 43), (some (40, true))⟩,
          ⟨(some 45), .fa 1 (.t 1), (some (44, false))⟩,
          ⟨(some 46), .ld false 1 (.t 45), (some (44, false))⟩,
          ⟨(some 47), .bin .rem .one (.t 46) (.k (.w (.d (.s (.int .i64 10))))), (some (44, false))⟩,
          ⟨(some 48), .bin .neq .one (.t 47) (.k (.w (.d (.s (.int .i64 0))))), (some (44, false))⟩,
          ⟨(some 49), .pick (.t 44) (.k (.w (.d (.s (.bool true))))) (.t 48), (some (40, true))⟩,
          ⟨(some 50), .pick (.t 40) (.t 49) (.k (.w (.d (.s (.bool false))))), none⟩,
          ⟨(some 2), .mv (.t 50), none⟩])
        .ret)
        (.seq (.reg [⟨(some 52), .bin .eql .one (.t 4) (.k (.w (.d (.s (.int .i64 13))))), none⟩,
          ⟨(some 51), .mv (.t 52), none⟩])
        (.cond (.t 51)
          (.seq (.reg [⟨(some 53), .fa 1 (.t 1), none⟩,
            ⟨(some 54), .ld false 1 (.t 53), none⟩,
            ⟨(some 55), .bin .geq .one (.t 54) (.k (.w (.d (.s (.int .i64 0))))), none⟩,
            ⟨(some 56), .mv (.t 55), none⟩,
            ⟨(some 57), .fa 1 (.t 1), (some (56, true))⟩,
            ⟨(some 58), .ld false 1 (.t 57), (some (56, true))⟩,
            ⟨(some 59), .bin .leq .one (.t 58) (.k (.w (.d (.s (.int .i64 3))))), (some (56, true))⟩,
            ⟨(some 60), .pick (.t 56) (.t 59) (.k (.w (.d (.s (.bool false))))), none⟩,
            ⟨(some 61), .mv (.t 60), none⟩,
            ⟨(some 62), .fa 2 (.t 1), (some (61, true))⟩,
            ⟨(some 63), .ld false 1 (.t 62), (some (61, true))⟩,
            ⟨(some 64), .bin .eql .one (.t 63) (.k (.w (.d (.s (.int .i64 0))))), (some (61, true))⟩,
            ⟨(some 65), .pick (.t 61) (.t 64) (.k (.w (.d (.s (.bool false))))), none⟩,
            ⟨(some 2), .mv (.t 65), none⟩])
          .ret)
          .skip))))))))
  (.seq (.dreg [⟨(some 66), .fa 1 (.t 1), none⟩,
    ⟨(some 67), .ld false 1 (.t 66), none⟩,
    ⟨(some 68), .bin .geq .one (.t 67) (.k (.w (.d (.s (.int .i64 0))))), none⟩,
    ⟨(some 69), .mv (.t 68), none⟩,
    ⟨(some 70), .fa 1 (.t 1), (some (69, true))⟩,
    ⟨(some 71), .ld false 1 (.t 70), (some (69, true))⟩,
    ⟨(some 72), .fa 0 (.t 1), (some (69, true))⟩,
    ⟨(some 73), .ld false 1 (.t 72), (some (69, true))⟩,
    ⟨(some 74), .call (.k (.w (.fn 180 []))) [(.t 73)], (some (69, true))⟩,
    ⟨(some 75), .bin .lss .one (.t 71) (.t 74), (some (69, true))⟩,
    ⟨(some 76), .pick (.t 69) (.t 75) (.k (.w (.d (.s (.bool false))))), none⟩,
    ⟨(some 77), .mv (.t 76), none⟩,
    ⟨(some 78), .fa 2 (.t 1), (some (77, true))⟩,
    ⟨(some 79), .ld false 1 (.t 78), (some (77, true))⟩,
    ⟨(some 80), .bin .eql .one (.t 79) (.k (.w (.d (.s (.int .i64 0))))), (some (77, true))⟩,
    ⟨(some 81), .pick (.t 77) (.t 80) (.k (.w (.d (.s (.bool false))))), none⟩,
    ⟨(some 2), .mv (.t 81), none⟩] [0, 1, 3, 7, 15, 31, 15, 79, 207, 511, 1023, 2047, 4095, 8191, 16383, 32767, 65535])
  .ret)))⟩

/- loop.example/stile/impl.clone[loop.example/stile/impl.Net] -/
def F140 : Fn := ⟨6, [.tmp 2],
  (.seq (.reg [⟨(some 2), .mv (.k (.w .nil)), none⟩])
  (.seq (.reg [⟨(some 3), .mv (.t 0), none⟩,
    ⟨(some 4), .call (.k (.w (.fn 164 []))) [(.t 3)], none⟩,
    ⟨(some 5), .call (.k (.w (.fn 165 []))) [(.t 4)], none⟩,
    ⟨(some 2), .mv (.t 5), none⟩])
  .ret))⟩

/- slices.Clone[[]loop.example/stile/impl.Elem,loop.example/stile/impl.Elem] -/
def F191 : Fn := ⟨8, [.tmp 2],
  (.seq (.reg [⟨(some 2), .mv (.k (.w .nil)), none⟩])
  (.seq (.seq (.reg [⟨(some 3), .mv (.t 0), none⟩,
    ⟨(some 4), .bin .eql .sl (.t 3) (.k (.w .nil)), none⟩])
  (.cond (.t 4)
    (.seq (.reg [⟨(some 2), .mv (.k (.w .nil)), none⟩])
    .ret)
    .skip))
  (.seq (.reg [⟨(some 5), .bsl 2 0 [(.s (.int .i64 0)), (.l 0 [])] [], none⟩,
    ⟨(some 6), .mv (.t 0), none⟩,
    ⟨(some 7), .app 2 32 [(.s (.int .i64 0)), (.l 0 [])] (.t 5) (.t 6), none⟩,
    ⟨(some 2), .mv (.t 7), none⟩])
  .ret)))⟩

/- slices.Clip[[]loop.example/stile/impl.Elem,loop.example/stile/impl.Elem] -/
def F192 : Fn := ⟨9, [.tmp 2],
  (.seq (.reg [⟨(some 2), .mv (.k (.w .nil)), none⟩])
  (.seq (.reg [⟨(some 3), .mv (.t 0), none⟩,
    ⟨(some 4), .mv (.t 0), none⟩,
    ⟨(some 5), .lenl (.t 4), none⟩,
    ⟨(some 6), .mv (.t 0), none⟩,
    ⟨(some 7), .lenl (.t 6), none⟩,
    ⟨(some 8), .sl 2 (.t 3) none (some (.t 5)) (some (.t 7)), none⟩,
    ⟨(some 2), .mv (.t 8), none⟩])
  .ret))⟩

/- loop.example/stile/impl.clone[loop.example/stile/impl.DevArg] -/
def F186 : Fn := ⟨6, [.tmp 2],
  (.seq (.reg [⟨(some 2), .mv (.k (.w .nil)), none⟩])
  (.seq (.reg [⟨(some 3), .mv (.t 0), none⟩,
    ⟨(some 4), .call (.k (.w (.fn 197 []))) [(.t 3)], none⟩,
    ⟨(some 5), .call (.k (.w (.fn 198 []))) [(.t 4)], none⟩,
    ⟨(some 2), .mv (.t 5), none⟩])
  .ret))⟩

/- loop.example/stile/impl.ElemArity -/
def F159 : Fn := ⟨20, [.tmp 2],
  (.seq (.reg [⟨(some 2), .mv (.k (.w (.d (.s (.int .i64 0))))), none⟩])
  (.seq (.block 0
    (.seq (.seq (.reg [⟨(some 4), .mv (.t 0), none⟩,
      ⟨(some 5), .bin .eql .one (.t 4) (.k (.w (.d (.s (.int .i64 1))))), none⟩,
      ⟨(some 3), .mv (.t 5), none⟩])
    (.cond (.t 3)
      .skip
      (.seq (.reg [⟨(some 6), .mv (.t 0), none⟩,
        ⟨(some 7), .bin .eql .one (.t 6) (.k (.w (.d (.s (.int .i64 2))))), none⟩,
        ⟨(some 3), .mv (.t 7), none⟩])
      (.cond (.t 3)
        .skip
        (.seq (.reg [⟨(some 8), .mv (.t 0), none⟩,
          ⟨(some 9), .call (.k (.w (.fn 60 []))) [(.t 8), (.k (.w (.d (.s (.int .i64 21))))), (.k (.w (.d (.s (.int .i64 23)))))], none⟩,
          ⟨(some 3), .mv (.t 9), none⟩])
        (.cond (.t 3)
          .skip
          (.reg [⟨(some 10), .mv (.t 0), none⟩,
            ⟨(some 11), .bin .eql .one (.t 10) (.k (.w (.d (.s (.int .i64 25))))), none⟩,
            ⟨(some 3), .mv (.t 11), none⟩])))))))
    (.cond (.t 3)
      (.seq (.reg [⟨(some 2), .mv (.k (.w (.d (.s (.int .i64 1))))), none⟩])
      .ret)
      (.seq (.reg [⟨(some 13), .mv (.t 0), none⟩,
        ⟨(some 14), .call (.k (.w (.fn 60 []))) [(.t 13), (.k (.w (.d (.s (.int .i64 31))))), (.k (.w (.d (.s (.int .i64 35)))))], none⟩,
        ⟨(some 12), .mv (.t 14), none⟩])
      (.cond (.t 12)
        (.seq (.reg [⟨(some 2), .mv (.k (.w (.d (.s (.int .i64 3))))), none⟩])
        .ret)
        (.seq (.seq (.reg [⟨(some 16), .mv (.t 0), none⟩,
          ⟨(some 17), .call (.k (.w (.fn 60 []))) [(.t 16), (.k (.w (.d (.s (.int .i64 3))))), (.k (.w (.d (.s (.int .i64 10)))))], none⟩,
          ⟨(some 15), .mv (.t 17), none⟩])
        (.cond (.t 15)
          .skip
          (.reg [⟨(some 18), .mv (.t 0), none⟩,
            ⟨(some 19), .call (.k (.w (.fn 60 []))) [(.t 18), (.k (.w (.d (.s (.int .i64 24))))), (.k (.w (.d (.s (.int .i64 37)))))], none⟩,
            ⟨(some 15), .mv (.t 19), none⟩])))
        (.cond (.t 15)
          (.seq (.reg [⟨(some 2), .mv (.k (.w (.d (.s (.int .i64 2))))), none⟩])
          .ret)
          .skip)))))))
  (.seq (.reg [⟨(some 2), .mv (.k (.w (.d (.s (.int .i64 0))))), none⟩])
  .ret)))⟩

/- loop.example/stile/impl.DevIsBit -/
def F160 : Fn := ⟨6, [.tmp 2],
  (.seq (.reg [⟨(some 1), .box 3 (.t 0), none⟩,
    ⟨(some 2), .mv (.k (.w (.d (.s (.bool false))))), none⟩])
  (.seq (.reg [⟨(some 3), .ld true 3 (.t 1), none⟩,
    ⟨(some 4), .bsl 1 7 [(.s (.int .i64 0))] [(0, (.k (.w (.d (.s (.int .i64 1)))))), (1, (.k (.w (.d (.s (.int .i64 2)))))), (2, (.k (.w (.d (.s (.int .i64 3)))))), (3, (.k (.w (.d (.s (.int .i64 4)))))), (4, (.k (.w (.d (.s (.int .i64 6)))))), (5, (.k (.w (.d (.s (.int .i64 7)))))), (6, (.k (.w (.d (.s (.int .i64 8))))))], none⟩,
    ⟨(some 5), .call (.k (.w (.fn 161 []))) [(.t 3), (.t 4)], none⟩,
    ⟨(some 2), .mv (.t 5), none⟩])
  .ret))⟩

/- (loop.example/stile/impl.DevArg).kindIs -/
def F161 : Fn := ⟨13, [.tmp 4],
  (.seq (.reg [⟨(some 2), .box 3 (.t 0), none⟩,
    ⟨(some 4), .mv (.k (.w (.d (.s (.bool false))))), none⟩])
  (.seq (.reg [⟨(some 5), .ld true 3 (.t 2), none⟩,
    ⟨(some 6), .call (.k (.w (.fn 181 []))) [(.t 5)], none⟩,
    ⟨(some 7), .mv (.t 6), none⟩,
    ⟨(some 8), .mv (.t 1), (some (7, true))⟩,
    ⟨(some 9), .fa 0 (.t 2), (some (7, true))⟩,
    ⟨(some 10), .ld false 1 (.t 9), (some (7, true))⟩,
    ⟨(some 11), .call (.k (.w (.fn 182 []))) [(.t 8), (.t 10)], (some (7, true))⟩,
    ⟨(some 12), .pick (.t 7) (.t 11) (.k (.w (.d (.s (.bool false))))), none⟩,
    ⟨(some 4), .mv (.t 12), none⟩])
  .ret))⟩

/- loop.example/stile/impl.numbers -/
def F162 : Fn := ⟨9, [.tmp 2],
  (.seq (.reg [⟨(some 2), .mv (.k (.w (.d (.s (.bool false))))), none⟩])
  (.seq (.reg [⟨(some 3), .mv (.t 0), none⟩,
    ⟨(some 4), .call (.k (.w (.fn 183 []))) [(.t 3), (.k (.w (.fn 184 [])))], none⟩,
    ⟨(some 5), .mv (.t 4), none⟩,
    ⟨(some 6), .mv (.t 0), (some (5, false))⟩,
    ⟨(some 7), .call (.k (.w (.fn 183 []))) [(.t 6), (.k (.w (.fn 185 [])))], (some (5, false))⟩,
    ⟨(some 8), .pick (.t 5) (.k (.w (.d (.s (.bool true))))) (.t 7), none⟩,
    ⟨(some 2), .mv (.t 8), none⟩])
  .ret))⟩

/- loop.example/stile/impl.ElemIsCoil$1 -/
def F202 : Fn := ⟨14, [.tmp 1],
  (.seq (.reg [⟨(some 1), .mv (.k (.w (.d (.s (.bool false))))), none⟩])
  (.seq (.reg [⟨(some 2), .ld false 1 (.t 0), none⟩,
    ⟨(some 3), .ia 3 (.t 2) (.k (.w (.d (.s (.int .i64 0))))), none⟩,
    ⟨(some 4), .ld true 3 (.t 3), none⟩,
    ⟨(some 5), .bsl 1 1 [(.s (.int .i64 0))] [(0, (.k (.w (.d (.s (.int .i64 11))))))], none⟩,
    ⟨(some 6), .call (.k (.w (.fn 161 []))) [(.t 4), (.t 5)], none⟩,
    ⟨(some 7), .mv (.t 6), none⟩,
    ⟨(some 8), .ld false 1 (.t 0), (some (7, true))⟩,
    ⟨(some 9), .ia 3 (.t 8) (.k (.w (.d (.s (.int .i64 0))))), (some (7, true))⟩,
    ⟨(some 10), .fa 1 (.t 9), (some (7, true))⟩,
    ⟨(some 11), .ld false 1 (.t 10), (some (7, true))⟩,
    ⟨(some 12), .bin .geq .one (.t 11) (.k (.w (.d (.s (.int .i64 0))))), (some (7, true))⟩,
    ⟨(some 13), .pick (.t 7) (.t 12) (.k (.w (.d (.s (.bool false))))), none⟩,
    ⟨(some 1), .mv (.t 13), none⟩])
  .ret))⟩

/- loop.example/stile/impl.all -/
def F183 : Fn := ⟨9, [.tmp 4],
  (.seq (.reg [⟨(some 3), .box 1 (.t 1), none⟩,
    ⟨(some 4), .mv (.k (.w (.d (.s (.bool false))))), none⟩])
  (.seq (.reg [⟨(some 5), .mv (.t 0), none⟩,
    ⟨(some 6), .mkf 195 [(.t 3)], none⟩,
    ⟨(some 7), .call (.k (.w (.fn 196 []))) [(.t 5), (.t 6)], none⟩,
    ⟨(some 8), .un .not (.t 7), none⟩,
    ⟨(some 4), .mv (.t 8), none⟩])
  .ret))⟩

/- loop.example/stile/impl.DevIsWhole -/
def F184 : Fn := ⟨6, [.tmp 2],
  (.seq (.reg [⟨(some 1), .box 3 (.t 0), none⟩,
    ⟨(some 2), .mv (.k (.w (.d (.s (.bool false))))), none⟩])
  (.seq (.reg [⟨(some 3), .ld true 3 (.t 1), none⟩,
    ⟨(some 4), .bsl 1 4 [(.s (.int .i64 0))] [(0, (.k (.w (.d (.s (.int .i64 7)))))), (1, (.k (.w (.d (.s (.int .i64 8)))))), (2, (.k (.w (.d (.s (.int .i64 9)))))), (3, (.k (.w (.d (.s (.int .i64 11))))))], none⟩,
    ⟨(some 5), .call (.k (.w (.fn 161 []))) [(.t 3), (.t 4)], none⟩,
    ⟨(some 2), .mv (.t 5), none⟩])
  .ret))⟩

/- loop.example/stile/impl.DevIsReal -/
def F185 : Fn := ⟨6, [.tmp 2],
  (.seq (.reg [⟨(some 1), .box 3 (.t 0), none⟩,
    ⟨(some 2), .mv (.k (.w (.d (.s (.bool false))))), none⟩])
  (.seq (.reg [⟨(some 3), .ld true 3 (.t 1), none⟩,
    ⟨(some 4), .bsl 1 3 [(.s (.int .i64 0))] [(0, (.k (.w (.d (.s (.int .i64 10)))))), (1, (.k (.w (.d (.s (.int .i64 12)))))), (2, (.k (.w (.d (.s (.int .i64 13))))))], none⟩,
    ⟨(some 5), .call (.k (.w (.fn 161 []))) [(.t 3), (.t 4)], none⟩,
    ⟨(some 2), .mv (.t 5), none⟩])
  .ret))⟩

/- loop.example/stile/laws.szDevArgS -/
def F236 : Fn := ⟨12, [.tmp 4],
  (.seq (.reg [⟨(some 4), .mv (.k (.w (.d (.s (.int .i64 0))))), none⟩])
  (.seq (.reg [⟨(some 5), .mv (.t 1), none⟩,
    ⟨(some 6), .mv (.t 0), none⟩,
    ⟨(some 7), .lenl (.t 6), none⟩,
    ⟨(some 8), .bin .sub .one (.t 5) (.t 7), none⟩,
    ⟨(some 1), .mv (.t 8), none⟩])
  (.seq (.seq (.reg [⟨(some 9), .mv (.t 1), none⟩,
    ⟨(some 10), .bin .lss .one (.t 9) (.k (.w (.d (.s (.int .i64 0))))), none⟩])
  (.cond (.t 10)
    (.seq (.reg [⟨(some 4), .mv (.k (.w (.d (.s (.int .i64 (-1)))))), none⟩])
    .ret)
    .skip))
  (.seq (.reg [⟨(some 11), .mv (.t 1), none⟩,
    ⟨(some 4), .mv (.t 11), none⟩])
  .ret))))⟩

/- loop.example/stile/laws.toDevArgS -/
def F237_B0 : C :=
  (.seq (.seq (.reg [⟨(some 8), .mv (.t 4), none⟩,
    ⟨(some 9), .mv (.t 0), none⟩,
    ⟨(some 10), .lenl (.t 9), none⟩,
    ⟨(some 11), .bin .lss .one (.t 8) (.t 10), none⟩])
  (.cond (.t 11)
    .skip
    (.exit 0)))
  (.seq (.block 1
    (.reg [⟨(some 14), .mv (.t 3), none⟩,
      ⟨(some 15), .mv (.t 4), none⟩,
      ⟨(some 16), .mv (.t 0), none⟩,
      ⟨(some 17), .mv (.t 4), none⟩,
      ⟨(some 18), .ia 3 (.t 16) (.t 17), none⟩,
      ⟨(some 19), .ld true 3 (.t 18), none⟩,
      ⟨(some 20), .call (.k (.w (.fn 241 []))) [(.t 19)], none⟩,
      ⟨(some 21), .ia 3 (.t 14) (.t 15), none⟩,
      ⟨none, .st 3 (.t 21) (.t 20), none⟩]))
  (.reg [⟨(some 12), .mv (.t 4), none⟩,
    ⟨(some 13), .bin .add .one (.t 12) (.k (.w (.d (.s (.int .i64 1))))), none⟩,
    ⟨(some 4), .mv (.t 13), none⟩])))
def F237_L0 : C := .loop F237_B0
def F237 : Fn := ⟨23, [.tmp 2],
  (.seq (.reg [⟨(some 2), .mv (.k (.w .nil)), none⟩])
  (.seq (.reg [⟨(some 5), .mv (.t 0), none⟩,
    ⟨(some 6), .lenl (.t 5), none⟩,
    ⟨(some 7), .msl 3 24 [(.s (.int .i64 0)), (.s (.int .i64 0)), (.s (.int .i64 0))] (.t 6) (.t 6), none⟩,
    ⟨(some 3), .mv (.t 7), none⟩])
  (.seq (.seq (.reg [⟨(some 4), .mv (.k (.w (.d (.s (.int .i64 0))))), none⟩])
  (.block 0
    F237_L0))
  (.seq (.reg [⟨(some 22), .mv (.t 3), none⟩,
    ⟨(some 2), .mv (.t 22), none⟩])
  .ret))))⟩

/- loop.example/stile/laws.eqDevArgS -/
def F238_B0 : C :=
  (.seq (.seq (.reg [⟨(some 11), .mv (.t 5), none⟩,
    ⟨(some 12), .mv (.t 0), none⟩,
    ⟨(some 13), .lenl (.t 12), none⟩,
    ⟨(some 14), .bin .lss .one (.t 11) (.t 13), none⟩])
  (.cond (.t 14)
    .skip
    (.exit 0)))
  (.seq (.block 1
    (.seq (.dreg [⟨(some 17), .mv (.t 0), none⟩,
      ⟨(some 18), .mv (.t 5), none⟩,
      ⟨(some 19), .ia 3 (.t 17) (.t 18), none⟩,
      ⟨(some 20), .ld true 3 (.t 19), none⟩,
      ⟨(some 21), .mv (.t 1), none⟩,
      ⟨(some 22), .mv (.t 5), none⟩,
      ⟨(some 23), .ia 3 (.t 21) (.t 22), none⟩,
      ⟨(some 24), .ld true 3 (.t 23), none⟩,
      ⟨(some 25), .call (.k (.w (.fn 242 []))) [(.t 20), (.t 24)], none⟩,
      ⟨(some 26), .un .not (.t 25), none⟩] [0, 0, 3, 7, 0, 0, 48, 112, 255, 511])
    (.cond (.t 26)
      (.seq (.reg [⟨(some 4), .mv (.k (.w (.d (.s (.bool false))))), none⟩])
      .ret)
      .skip)))
  (.reg [⟨(some 15), .mv (.t 5), none⟩,
    ⟨(some 16), .bin .add .one (.t 15) (.k (.w (.d (.s (.int .i64 1))))), none⟩,
    ⟨(some 5), .mv (.t 16), none⟩])))
def F238_L0 : C := .loop F238_B0
def F238 : Fn := ⟨27, [.tmp 4],
  (.seq (.reg [⟨(some 4), .mv (.k (.w (.d (.s (.bool false))))), none⟩])
  (.seq (.seq (.reg [⟨(some 6), .mv (.t 0), none⟩,
    ⟨(some 7), .lenl (.t 6), none⟩,
    ⟨(some 8), .mv (.t 1), none⟩,
    ⟨(some 9), .lenl (.t 8), none⟩,
    ⟨(some 10), .bin .neq .one (.t 7) (.t 9), none⟩])
  (.cond (.t 10)
    (.seq (.reg [⟨(some 4), .mv (.k (.w (.d (.s (.bool false))))), none⟩])
    .ret)
    .skip))
  (.seq (.seq (.reg [⟨(some 5), .mv (.k (.w (.d (.s (.int .i64 0))))), none⟩])
  (.block 0
    F238_L0))
  (.seq (.reg [⟨(some 4), .mv (.k (.w (.d (.s (.bool true))))), none⟩])
  .ret))))⟩

/- slices.Clone[[]loop.example/stile/impl.Net,loop.example/stile/impl.Net] -/
def F164 : Fn := ⟨8, [.tmp 2],
  (.seq (.reg [⟨(some 2), .mv (.k (.w .nil)), none⟩])
  (.seq (.seq (.reg [⟨(some 3), .mv (.t 0), none⟩,
    ⟨(some 4), .bin .eql .sl (.t 3) (.k (.w .nil)), none⟩])
  (.cond (.t 4)
    (.seq (.reg [⟨(some 2), .mv (.k (.w .nil)), none⟩])
    .ret)
    .skip))
  (.seq (.reg [⟨(some 5), .bsl 4 0 [(.s (.int .i64 0)), (.s (.int .i64 0)), (.l 0 []), (.l 0 [])] [], none⟩,
    ⟨(some 6), .mv (.t 0), none⟩,
    ⟨(some 7), .app 4 64 [(.s (.int .i64 0)), (.s (.int .i64 0)), (.l 0 []), (.l 0 [])] (.t 5) (.t 6), none⟩,
    ⟨(some 2), .mv (.t 7), none⟩])
  .ret)))⟩

/- slices.Clip[[]loop.example/stile/impl.Net,loop.example/stile/impl.Net] -/
def F165 : Fn := ⟨9, [.tmp 2],
  (.seq (.reg [⟨(some 2), .mv (.k (.w .nil)), none⟩])
  (.seq (.reg [⟨(some 3), .mv (.t 0), none⟩,
    ⟨(some 4), .mv (.t 0), none⟩,
    ⟨(some 5), .lenl (.t 4), none⟩,
    ⟨(some 6), .mv (.t 0), none⟩,
    ⟨(some 7), .lenl (.t 6), none⟩,
    ⟨(some 8), .sl 4 (.t 3) none (some (.t 5)) (some (.t 7)), none⟩,
    ⟨(some 2), .mv (.t 8), none⟩])
  .ret))⟩

/- slices.Clone[[]loop.example/stile/impl.DevArg,loop.example/stile/impl.DevArg] -/
def F197 : Fn := ⟨8, [.tmp 2],
  (.seq (.reg [⟨(some 2), .mv (.k (.w .nil)), none⟩])
  (.seq (.seq (.reg [⟨(some 3), .mv (.t 0), none⟩,
    ⟨(some 4), .bin .eql .sl (.t 3) (.k (.w .nil)), none⟩])
  (.cond (.t 4)
    (.seq (.reg [⟨(some 2), .mv (.k (.w .nil)), none⟩])
    .ret)
    .skip))
  (.seq (.reg [⟨(some 5), .bsl 3 0 [(.s (.int .i64 0)), (.s (.int .i64 0)), (.s (.int .i64 0))] [], none⟩,
    ⟨(some 6), .mv (.t 0), none⟩,
    ⟨(some 7), .app 3 24 [(.s (.int .i64 0)), (.s (.int .i64 0)), (.s (.int .i64 0))] (.t 5) (.t 6), none⟩,
    ⟨(some 2), .mv (.t 7), none⟩])
  .ret)))⟩

/- slices.Clip[[]loop.example/stile/impl.DevArg,loop.example/stile/impl.DevArg] -/
def F198 : Fn := ⟨9, [.tmp 2],
  (.seq (.reg [⟨(some 2), .mv (.k (.w .nil)), none⟩])
  (.seq (.reg [⟨(some 3), .mv (.t 0), none⟩,
    ⟨(some 4), .mv (.t 0), none⟩,
    ⟨(some 5), .lenl (.t 4), none⟩,
    ⟨(some 6), .mv (.t 0), none⟩,
    ⟨(some 7), .lenl (.t 6), none⟩,
    ⟨(some 8), .sl 3 (.t 3) none (some (.t 5)) (some (.t 7)), none⟩,
    ⟨(some 2), .mv (.t 8), none⟩])
  .ret))⟩

/- loop.example/stile/impl.DevOk -/
def F181 : Fn := ⟨65, [.tmp 2],
  (.seq (.reg [⟨(some 1), .box 3 (.t 0), none⟩,
    ⟨(some 2), .mv (.k (.w (.d (.s (.bool false))))), none⟩])
  (.seq (.seq (.reg [⟨(some 3), .fa 0 (.t 1), none⟩,
    ⟨(some 4), .ld false 1 (.t 3), none⟩])
  (.block 0
    (.seq (.reg [⟨(some 6), .bin .eql .one (.t 4) (.k (.w (.d (.s (.int .i64 11))))), none⟩,
      ⟨(some 5), .mv (.t 6), none⟩])
    (.cond (.t 5)
      (.seq (.reg [⟨(some 7), .fa 1 (.t 1), none⟩,
        ⟨(some 8), .ld false 1 (.t 7), none⟩,
        ⟨(some 9), .call (.k (.w (.fn 60 []))) [(.t 8), (.k (.w (.d (.s (.int .i64 (-32768)))))), (.k (.w (.d (.s (.int .i64 32767)))))], none⟩,
        ⟨(some 10), .mv (.t 9), none⟩,
        ⟨(some 11), .fa 2 (.t 1), (some (10, true))⟩,
        ⟨(some 12), .ld false 1 (.t 11), (some (10, true))⟩,
        ⟨(some 13), .bin .eql .one (.t 12) (.k (.w (.d (.s (.int .i64 0))))), (some (10, true))⟩,
        ⟨(some 14), .pick (.t 10) (.t 13) (.k (.w (.d (.s (.bool false))))), none⟩,
        ⟨(some 2), .mv (.t 14), none⟩])
      .ret)
      (.seq (.reg [⟨(some 16), .bin .eql .one (.t 4) (.k (.w (.d (.s (.int .i64 12))))), none⟩,
        ⟨(some 15), .mv (.t 16), none⟩])
      (.cond (.t 15)
        (.seq (.reg [⟨(some 17), .fa 1 (.t 1), none⟩,
          ⟨(some 18), .ld false 1 (.t 17), none⟩,
          ⟨(some 19), .call (.k (.w (.fn 60 []))) [(.t 18), (.k (.w (.d (.s (.int .i64 (-999999999)))))), (.k (.w (.d (.s (.int .i64 999999999)))))], none⟩,
          ⟨(some 20), .mv (.t 19), none⟩,
          ⟨(some 21), .fa 2 (.t 1), (some (20, true))⟩,
          ⟨(some 22), .ld false 1 (.t 21), (some (20, true))⟩,
          ⟨(some 23), .call (.k (.w (.fn 60 []))) [(.t 22), (.k (.w (.d (.s (.int .i64 1))))), (.k (.w (.d (.s (.int .i64 6)))))], (some (20, true))⟩,
          ⟨(some 24), .pick (.t 20) (.t 23) (.k (.w (.d (.s (.bool false))))), none⟩,
          ⟨(some 25), .mv (.t 24), none⟩,
          ⟨(some 26), .fa 2 (.t 1), (some (25, true))⟩,
          ⟨(some 27), .ld false 1 (.t 26), (some (25, true))⟩,
          ⟨(some 28), .bin .eql .one (.t 27) (.k (.w (.d (.s (.int .i64 1))))), (some (25, true))⟩,
          ⟨(some 29), .mv (.t 28), (some (25, true))⟩,
          ⟨(some 30), .fa 1 (.t 1), (some (29, false))⟩,
          ⟨(some 31), .ld false 1 (.t 30), (some (29, false))⟩,
          ⟨(some 32), .bin .rem .one (.t 31) (.k (.w (.d (.s (.int .i64 10))))), (some (29, false))⟩,
          ⟨(some 33), .bin .neq .one (.t 32) (.k (.w (.d (.s (.int .i64 0))))), (some (29, false))⟩,
          ⟨(some 34), .pick (.t 29) (.k (.w (.d (.s (.bool true))))) (.t 33), (some (25, true))⟩,
          ⟨(some 35), .pick (.t 25) (.t 34) (.k (.w (.d (.s (.bool false))))), none⟩,
          ⟨(some 2), .mv (.t 35), none⟩])
        .ret)
        (.seq (.reg [⟨(some 37), .bin .eql .one (.t 4) (.k (.w (.d (.s (.int .i64 13))))), none⟩,
          ⟨(some 36), .mv (.t 37), none⟩])
        (.cond (.t 36)
          (.seq (.reg [⟨(some 38), .fa 1 (.t 1), none⟩,
            ⟨(some 39), .ld false 1 (.t 38), none⟩,
            ⟨(some 40), .ld false 1 (.g 0), none⟩,
            ⟨(some 41), .lenl (.t 40), none⟩,
            ⟨(some 42), .bin .sub .one (.t 41) (.k (.w (.d (.s (.int .i64 1))))), none⟩,
            ⟨(some 43), .call (.k (.w (.fn 60 []))) [(.t 39), (.k (.w (.d (.s (.int .i64 0))))), (.t 42)], none⟩,
            ⟨(some 44), .mv (.t 43), none⟩,
            ⟨(some 45), .fa 2 (.t 1), (some (44, true))⟩,
            ⟨(some 46), .ld false 1 (.t 45), (some (44, true))⟩,
            ⟨(some 47), .bin .eql .one (.t 46) (.k (.w (.d (.s (.int .i64 0))))), (some (44, true))⟩,
            ⟨(some 48), .pick (.t 44) (.t 47) (.k (.w (.d (.s (.bool false))))), none⟩,
            ⟨(some 2), .mv (.t 48), none⟩])
          .ret)
          .skip))))))))
  (.seq (.dreg [⟨(some 49), .fa 1 (.t 1), none⟩,
    ⟨(some 50), .ld false 1 (.t 49), none⟩,
    ⟨(some 51), .bin .geq .one (.t 50) (.k (.w (.d (.s (.int .i64 0))))), none⟩,
    ⟨(some 52), .mv (.t 51), none⟩,
    ⟨(some 53), .fa 1 (.t 1), (some (52, true))⟩,
    ⟨(some 54), .ld false 1 (.t 53), (some (52, true))⟩,
    ⟨(some 55), .fa 0 (.t 1), (some (52, true))⟩,
    ⟨(some 56), .ld false 1 (.t 55), (some (52, true))⟩,
    ⟨(some 57), .call (.k (.w (.fn 193 []))) [(.t 56)], (some (52, true))⟩,
    ⟨(some 58), .bin .lss .one (.t 54) (.t 57), (some (52, true))⟩,
    ⟨(some 59), .pick (.t 52) (.t 58) (.k (.w (.d (.s (.bool false))))), none⟩,
    ⟨(some 60), .mv (.t 59), none⟩,
    ⟨(some 61), .fa 2 (.t 1), (some (60, true))⟩,
    ⟨(some 62), .ld false 1 (.t 61), (some (60, true))⟩,
    ⟨(some 63), .bin .eql .one (.t 62) (.k (.w (.d (.s (.int .i64 0))))), (some (60, true))⟩,
    ⟨(some 64), .pick (.t 60) (.t 63) (.k (.w (.d (.s (.bool false))))), none⟩,
    ⟨(some 2), .mv (.t 64), none⟩] [0, 1, 3, 7, 15, 31, 15, 79, 207, 511, 1023, 2047, 4095, 8191, 16383, 32767, 65535])
  .ret)))⟩

/- slices.Contains[[]int,int] -/
def F182 : Fn := ⟨9, [.tmp 4],
  (.seq (.reg [⟨(some 4), .mv (.k (.w (.d (.s (.bool false))))), none⟩])
  (.seq (.reg [⟨(some 5), .mv (.t 0), none⟩,
    ⟨(some 6), .mv (.t 1), none⟩,
    ⟨(some 7), .call (.k (.w (.fn 194 []))) [(.t 5), (.t 6)], none⟩,
    ⟨(some 8), .bin .geq .one (.t 7) (.k (.w (.d (.s (.int .i64 0))))), none⟩,
    ⟨(some 4), .mv (.t 8), none⟩])
  .ret))⟩

/- loop.example/stile/impl.all$1 -/
def F195 : Fn := ⟨8, [.tmp 3],
  (.seq (.reg [⟨(some 2), .box 3 (.t 0), none⟩,
    ⟨(some 3), .mv (.k (.w (.d (.s (.bool false))))), none⟩])
  (.seq (.reg [⟨(some 4), .ld false 1 (.t 1), none⟩,
    ⟨(some 5), .ld true 3 (.t 2), none⟩,
    ⟨(some 6), .call (.t 4) [(.t 5)], none⟩,
    ⟨(some 7), .un .not (.t 6), none⟩,
    ⟨(some 3), .mv (.t 7), none⟩])
  .ret))⟩

/- slices.ContainsFunc[[]loop.example/stile/impl.DevArg,loop.example/stile/impl.DevArg] -/
def F196 : Fn := ⟨9, [.tmp 4],
  (.seq (.reg [⟨(some 4), .mv (.k (.w (.d (.s (.bool false))))), none⟩])
  (.seq (.reg [⟨(some 5), .mv (.t 0), none⟩,
    ⟨(some 6), .mv (.t 1), none⟩,
    ⟨(some 7), .call (.k (.w (.fn 201 []))) [(.t 5), (.t 6)], none⟩,
    ⟨(some 8), .bin .geq .one (.t 7) (.k (.w (.d (.s (.int .i64 0))))), none⟩,
    ⟨(some 4), .mv (.t 8), none⟩])
  .ret))⟩

/- loop.example/stile/laws.toDevArg -/
def F241 : Fn := ⟨14, [.cell 2 true 3],
  (.seq (.reg [⟨(some 1), .box 3 (.t 0), none⟩,
    ⟨(some 2), .new [(.d (.s (.int .i64 0))), (.d (.s (.int .i64 0))), (.d (.s (.int .i64 0)))], none⟩])
  (.seq (.reg [⟨(some 3), .new [(.d (.s (.int .i64 0))), (.d (.s (.int .i64 0))), (.d (.s (.int .i64 0)))], none⟩])
  (.seq (.reg [⟨(some 4), .fa 0 (.t 1), none⟩,
    ⟨(some 5), .ld false 1 (.t 4), none⟩,
    ⟨(some 6), .fa 0 (.t 3), none⟩,
    ⟨none, .st 1 (.t 6) (.t 5), none⟩])
  (.seq (.reg [⟨(some 7), .fa 1 (.t 1), none⟩,
    ⟨(some 8), .ld false 1 (.t 7), none⟩,
    ⟨(some 9), .fa 1 (.t 3), none⟩,
    ⟨none, .st 1 (.t 9) (.t 8), none⟩])
  (.seq (.reg [⟨(some 10), .fa 2 (.t 1), none⟩,
    ⟨(some 11), .ld false 1 (.t 10), none⟩,
    ⟨(some 12), .fa 2 (.t 3), none⟩,
    ⟨none, .st 1 (.t 12) (.t 11), none⟩])
  (.seq (.reg [⟨(some 13), .ld true 3 (.t 3), none⟩,
    ⟨none, .st 3 (.t 2) (.t 13), none⟩])
  .ret))))))⟩

/- loop.example/stile/laws.eqDevArg -/
def F242 : Fn := ⟨20, [.tmp 4],
  (.seq (.reg [⟨(some 2), .box 3 (.t 0), none⟩,
    ⟨(some 3), .box 3 (.t 1), none⟩,
    ⟨(some 4), .mv (.k (.w (.d (.s (.bool false))))), none⟩])
  (.seq (.seq (.reg [⟨(some 5), .fa 0 (.t 2), none⟩,
    ⟨(some 6), .ld false 1 (.t 5), none⟩,
    ⟨(some 7), .fa 0 (.t 3), none⟩,
    ⟨(some 8), .ld false 1 (.t 7), none⟩,
    ⟨(some 9), .bin .neq .one (.t 6) (.t 8), none⟩])
  (.cond (.t 9)
    (.seq (.reg [⟨(some 4), .mv (.k (.w (.d (.s (.bool false))))), none⟩])
    .ret)
    .skip))
  (.seq (.seq (.reg [⟨(some 10), .fa 1 (.t 2), none⟩,
    ⟨(some 11), .ld false 1 (.t 10), none⟩,
    ⟨(some 12), .fa 1 (.t 3), none⟩,
    ⟨(some 13), .ld false 1 (.t 12), none⟩,
    ⟨(some 14), .bin .neq .one (.t 11) (.t 13), none⟩])
  (.cond (.t 14)
    (.seq (.reg [⟨(some 4), .mv (.k (.w (.d (.s (.bool false))))), none⟩])
    .ret)
    .skip))
  (.seq (.seq (.reg [⟨(some 15), .fa 2 (.t 2), none⟩,
    ⟨(some 16), .ld false 1 (.t 15), none⟩,
    ⟨(some 17), .fa 2 (.t 3), none⟩,
    ⟨(some 18), .ld false 1 (.t 17), none⟩,
    ⟨(some 19), .bin .neq .one (.t 16) (.t 18), none⟩])
  (.cond (.t 19)
    (.seq (.reg [⟨(some 4), .mv (.k (.w (.d (.s (.bool false))))), none⟩])
    .ret)
    .skip))
  (.seq (.reg [⟨(some 4), .mv (.k (.w (.d (.s (.bool true))))), none⟩])
  .ret)))))⟩

/- loop.example/stile/impl.DevSize -/
def F193 : Fn := ⟨10, [.tmp 2],
  (.seq (.reg [⟨(some 2), .mv (.k (.w (.d (.s (.int .i64 0))))), none⟩])
  (.seq (.seq (.reg [⟨(some 3), .mv (.t 0), none⟩,
    ⟨(some 4), .call (.k (.w (.fn 60 []))) [(.t 3), (.k (.w (.d (.s (.int .i64 1))))), (.k (.w (.d (.s (.int .i64 10)))))], none⟩,
    ⟨(some 5), .un .not (.t 4), none⟩])
  (.cond (.t 5)
    (.seq (.reg [⟨(some 2), .mv (.k (.w (.d (.s (.int .i64 0))))), none⟩])
    .ret)
    .skip))
  (.seq (.reg [⟨(some 6), .ld false 1 (.g 1), none⟩,
    ⟨(some 7), .mv (.t 0), none⟩,
    ⟨(some 8), .ia 1 (.t 6) (.t 7), none⟩,
    ⟨(some 9), .ld false 1 (.t 8), none⟩,
    ⟨(some 2), .mv (.t 9), none⟩])
  .ret)))⟩

/- slices.Index[[]int,int] -/
def F194_B0 : C :=
  (.seq (.reg [⟨(some 9), .bin .lss .one (.t 8) (.t 7), none⟩])
  (.seq (.cond (.t 9)
    .skip
    (.exit 0))
  (.seq (.block 1
    (.seq (.reg [⟨(some 10), .mv (.t 8), none⟩,
      ⟨(some 5), .mv (.t 10), none⟩])
    (.seq (.reg [⟨(some 11), .mv (.t 1), none⟩,
      ⟨(some 12), .mv (.t 0), none⟩,
      ⟨(some 13), .mv (.t 5), none⟩,
      ⟨(some 14), .ia 1 (.t 12) (.t 13), none⟩,
      ⟨(some 15), .ld false 1 (.t 14), none⟩,
      ⟨(some 16), .bin .eql .one (.t 11) (.t 15), none⟩])
    (.cond (.t 16)
      (.seq (.reg [⟨(some 17), .mv (.t 5), none⟩,
        ⟨(some 4), .mv (.t 17), none⟩])
      .ret)
      .skip))))
  (.reg [⟨(some 18), .bin .add .one (.t 8) (.k (.w (.d (.s (.int .i64 1))))), none⟩,
    ⟨(some 8), .mv (.t 18), none⟩]))))
def F194_L0 : C := .loop F194_B0
def F194 : Fn := ⟨19, [.tmp 4],
  (.seq (.reg [⟨(some 4), .mv (.k (.w (.d (.s (.int .i64 0))))), none⟩])
  (.seq (.seq (.reg [⟨(some 6), .mv (.t 0), none⟩,
    ⟨(some 7), .lenl (.t 6), none⟩,
    ⟨(some 8), .mv (.k (.w (.d (.s (.int .i64 0))))), none⟩])
  (.block 0
    F194_L0))
  (.seq (.reg [⟨(some 4), .mv (.k (.w (.d (.s (.int .i64 (-1)))))), none⟩])
  .ret)))⟩

/- slices.IndexFunc[[]loop.example/stile/impl.DevArg,loop.example/stile/impl.DevArg] -/
def F201_B0 : C :=
  (.seq (.reg [⟨(some 9), .bin .lss .one (.t 8) (.t 7), none⟩])
  (.seq (.cond (.t 9)
    .skip
    (.exit 0))
  (.seq (.block 1
    (.seq (.reg [⟨(some 10), .mv (.t 8), none⟩,
      ⟨(some 5), .mv (.t 10), none⟩])
    (.seq (.reg [⟨(some 11), .mv (.t 1), none⟩,
      ⟨(some 12), .mv (.t 0), none⟩,
      ⟨(some 13), .mv (.t 5), none⟩,
      ⟨(some 14), .ia 3 (.t 12) (.t 13), none⟩,
      ⟨(some 15), .ld true 3 (.t 14), none⟩,
      ⟨(some 16), .call (.t 11) [(.t 15)], none⟩])
    (.cond (.t 16)
      (.seq (.reg [⟨(some 17), .mv (.t 5), none⟩,
        ⟨(some 4), .mv (.t 17), none⟩])
      .ret)
      .skip))))
  (.reg [⟨(some 18), .bin .add .one (.t 8) (.k (.w (.d (.s (.int .i64 1))))), none⟩,
    ⟨(some 8), .mv (.t 18), none⟩]))))
def F201_L0 : C := .loop F201_B0
def F201 : Fn := ⟨19, [.tmp 4],
  (.seq (.reg [⟨(some 4), .mv (.k (.w (.d (.s (.int .i64 0))))), none⟩])
  (.seq (.seq (.reg [⟨(some 6), .mv (.t 0), none⟩,
    ⟨(some 7), .lenl (.t 6), none⟩,
    ⟨(some 8), .mv (.k (.w (.d (.s (.int .i64 0))))), none⟩])
  (.block 0
    F201_L0))
  (.seq (.reg [⟨(some 4), .mv (.k (.w (.d (.s (.int .i64 (-1)))))), none⟩])
  .ret)))⟩

def tab : List (Nat × Fn) := [(60, F60), (65, F65), (67, F67), (96, F96), (106, F106), (107, F107), (108, F108), (109, F109), (110, F110), (111, F111), (115, F115), (116, F116), (117, F117), (118, F118), (119, F119), (120, F120), (121, F121), (122, F122), (123, F123), (124, F124), (125, F125), (126, F126), (127, F127), (128, F128), (129, F129), (134, F134), (135, F135), (136, F136), (137, F137), (138, F138), (139, F139), (140, F140), (141, F141), (142, F142), (143, F143), (144, F144), (145, F145), (146, F146), (147, F147), (148, F148), (149, F149), (150, F150), (151, F151), (152, F152), (153, F153), (154, F154), (155, F155), (156, F156), (157, F157), (158, F158), (159, F159), (160, F160), (161, F161), (162, F162), (163, F163), (164, F164), (165, F165), (166, F166), (167, F167), (168, F168), (169, F169), (170, F170), (171, F171), (172, F172), (173, F173), (174, F174), (175, F175), (176, F176), (177, F177), (178, F178), (179, F179), (180, F180), (181, F181), (182, F182), (183, F183), (184, F184), (185, F185), (186, F186), (187, F187), (188, F188), (189, F189), (190, F190), (191, F191), (192, F192), (193, F193), (194, F194), (195, F195), (196, F196), (197, F197), (198, F198), (199, F199), (200, F200), (201, F201), (202, F202), (203, F203), (204, F204), (205, F205), (206, F206), (207, F207), (208, F208), (209, F209), (210, F210), (211, F211), (212, F212), (213, F213), (214, F214), (215, F215), (216, F216), (217, F217), (218, F218), (220, F220), (221, F221), (223, F223), (226, F226), (227, F227), (228, F228), (229, F229), (230, F230), (231, F231), (233, F233), (235, F235), (236, F236), (237, F237), (238, F238), (239, F239), (240, F240), (241, F241), (242, F242), (243, F243), (244, F244), (245, F245), (246, F246), (247, F247), (248, F248), (249, F249), (250, F250), (251, F251), (252, F252), (253, F253), (254, F254), (255, F255), (256, F256), (257, F257), (258, F258)]
def FT : Tab := fun n => tab.lookup n
theorem FT_60 : FT 60 = some F60 := rfl
theorem FT_65 : FT 65 = some F65 := rfl
theorem FT_67 : FT 67 = some F67 := rfl
theorem FT_96 : FT 96 = some F96 := rfl
theorem FT_106 : FT 106 = some F106 := rfl
theorem FT_107 : FT 107 = some F107 := rfl
theorem FT_108 : FT 108 = some F108 := rfl
theorem FT_109 : FT 109 = some F109 := rfl
theorem FT_110 : FT 110 = some F110 := rfl
theorem FT_111 : FT 111 = some F111 := rfl
theorem FT_115 : FT 115 = some F115 := rfl
theorem FT_116 : FT 116 = some F116 := rfl
theorem FT_117 : FT 117 = some F117 := rfl
theorem FT_118 : FT 118 = some F118 := rfl
theorem FT_119 : FT 119 = some F119 := rfl
theorem FT_120 : FT 120 = some F120 := rfl
theorem FT_121 : FT 121 = some F121 := rfl
theorem FT_122 : FT 122 = some F122 := rfl
theorem FT_123 : FT 123 = some F123 := rfl
theorem FT_124 : FT 124 = some F124 := rfl
theorem FT_125 : FT 125 = some F125 := rfl
theorem FT_126 : FT 126 = some F126 := rfl
theorem FT_127 : FT 127 = some F127 := rfl
theorem FT_128 : FT 128 = some F128 := rfl
theorem FT_129 : FT 129 = some F129 := rfl
theorem FT_134 : FT 134 = some F134 := rfl
theorem FT_135 : FT 135 = some F135 := rfl
theorem FT_136 : FT 136 = some F136 := rfl
theorem FT_137 : FT 137 = some F137 := rfl
theorem FT_138 : FT 138 = some F138 := rfl
theorem FT_139 : FT 139 = some F139 := rfl
theorem FT_140 : FT 140 = some F140 := rfl
theorem FT_141 : FT 141 = some F141 := rfl
theorem FT_142 : FT 142 = some F142 := rfl
theorem FT_143 : FT 143 = some F143 := rfl
theorem FT_144 : FT 144 = some F144 := rfl
theorem FT_145 : FT 145 = some F145 := rfl
theorem FT_146 : FT 146 = some F146 := rfl
theorem FT_147 : FT 147 = some F147 := rfl
theorem FT_148 : FT 148 = some F148 := rfl
theorem FT_149 : FT 149 = some F149 := rfl
theorem FT_150 : FT 150 = some F150 := rfl
theorem FT_151 : FT 151 = some F151 := rfl
theorem FT_152 : FT 152 = some F152 := rfl
theorem FT_153 : FT 153 = some F153 := rfl
theorem FT_154 : FT 154 = some F154 := rfl
theorem FT_155 : FT 155 = some F155 := rfl
theorem FT_156 : FT 156 = some F156 := rfl
theorem FT_157 : FT 157 = some F157 := rfl
theorem FT_158 : FT 158 = some F158 := rfl
theorem FT_159 : FT 159 = some F159 := rfl
theorem FT_160 : FT 160 = some F160 := rfl
theorem FT_161 : FT 161 = some F161 := rfl
theorem FT_162 : FT 162 = some F162 := rfl
theorem FT_163 : FT 163 = some F163 := rfl
theorem FT_164 : FT 164 = some F164 := rfl
theorem FT_165 : FT 165 = some F165 := rfl
theorem FT_166 : FT 166 = some F166 := rfl
theorem FT_167 : FT 167 = some F167 := rfl
theorem FT_168 : FT 168 = some F168 := rfl
theorem FT_169 : FT 169 = some F169 := rfl
theorem FT_170 : FT 170 = some F170 := rfl
theorem FT_171 : FT 171 = some F171 := rfl
theorem FT_172 : FT 172 = some F172 := rfl
theorem FT_173 : FT 173 = some F173 := rfl
theorem FT_174 : FT 174 = some F174 := rfl
theorem FT_175 : FT 175 = some F175 := rfl
theorem FT_176 : FT 176 = some F176 := rfl
theorem FT_177 : FT 177 = some F177 := rfl
theorem FT_178 : FT 178 = some F178 := rfl
theorem FT_179 : FT 179 = some F179 := rfl
theorem FT_180 : FT 180 = some F180 := rfl
theorem FT_181 : FT 181 = some F181 := rfl
theorem FT_182 : FT 182 = some F182 := rfl
theorem FT_183 : FT 183 = some F183 := rfl
theorem FT_184 : FT 184 = some F184 := rfl
theorem FT_185 : FT 185 = some F185 := rfl
theorem FT_186 : FT 186 = some F186 := rfl
theorem FT_187 : FT 187 = some F187 := rfl
theorem FT_188 : FT 188 = some F188 := rfl
theorem FT_189 : FT 189 = some F189 := rfl
theorem FT_190 : FT 190 = some F190 := rfl
theorem FT_191 : FT 191 = some F191 := rfl
theorem FT_192 : FT 192 = some F192 := rfl
theorem FT_193 : FT 193 = some F193 := rfl
theorem FT_194 : FT 194 = some F194 := rfl
theorem FT_195 : FT 195 = some F195 := rfl
theorem FT_196 : FT 196 = some F196 := rfl
theorem FT_197 : FT 197 = some F197 := rfl
theorem FT_198 : FT 198 = some F198 := rfl
theorem FT_199 : FT 199 = some F199 := rfl
theorem FT_200 : FT 200 = some F200 := rfl
theorem FT_201 : FT 201 = some F201 := rfl
theorem FT_202 : FT 202 = some F202 := rfl
theorem FT_203 : FT 203 = some F203 := rfl
theorem FT_204 : FT 204 = some F204 := rfl
theorem FT_205 : FT 205 = some F205 := rfl
theorem FT_206 : FT 206 = some F206 := rfl
theorem FT_207 : FT 207 = some F207 := rfl
theorem FT_208 : FT 208 = some F208 := rfl
theorem FT_209 : FT 209 = some F209 := rfl
theorem FT_210 : FT 210 = some F210 := rfl
theorem FT_211 : FT 211 = some F211 := rfl
theorem FT_212 : FT 212 = some F212 := rfl
theorem FT_213 : FT 213 = some F213 := rfl
theorem FT_214 : FT 214 = some F214 := rfl
theorem FT_215 : FT 215 = some F215 := rfl
theorem FT_216 : FT 216 = some F216 := rfl
theorem FT_217 : FT 217 = some F217 := rfl
theorem FT_218 : FT 218 = some F218 := rfl
theorem FT_220 : FT 220 = some F220 := rfl
theorem FT_221 : FT 221 = some F221 := rfl
theorem FT_223 : FT 223 = some F223 := rfl
theorem FT_226 : FT 226 = some F226 := rfl
theorem FT_227 : FT 227 = some F227 := rfl
theorem FT_228 : FT 228 = some F228 := rfl
theorem FT_229 : FT 229 = some F229 := rfl
theorem FT_230 : FT 230 = some F230 := rfl
theorem FT_231 : FT 231 = some F231 := rfl
theorem FT_233 : FT 233 = some F233 := rfl
theorem FT_235 : FT 235 = some F235 := rfl
theorem FT_236 : FT 236 = some F236 := rfl
theorem FT_237 : FT 237 = some F237 := rfl
theorem FT_238 : FT 238 = some F238 := rfl
theorem FT_239 : FT 239 = some F239 := rfl
theorem FT_240 : FT 240 = some F240 := rfl
theorem FT_241 : FT 241 = some F241 := rfl
theorem FT_242 : FT 242 = some F242 := rfl
theorem FT_243 : FT 243 = some F243 := rfl
theorem FT_244 : FT 244 = some F244 := rfl
theorem FT_245 : FT 245 = some F245 := rfl
theorem FT_246 : FT 246 = some F246 := rfl
theorem FT_247 : FT 247 = some F247 := rfl
theorem FT_248 : FT 248 = some F248 := rfl
theorem FT_249 : FT 249 = some F249 := rfl
theorem FT_250 : FT 250 = some F250 := rfl
theorem FT_251 : FT 251 = some F251 := rfl
theorem FT_252 : FT 252 = some F252 := rfl
theorem FT_253 : FT 253 = some F253 := rfl
theorem FT_254 : FT 254 = some F254 := rfl
theorem FT_255 : FT 255 = some F255 := rfl
theorem FT_256 : FT 256 = some F256 := rfl
theorem FT_257 : FT 257 = some F257 := rfl
theorem FT_258 : FT 258 = some F258 := rfl
end Go.VM
