/- The functions of the seat, all of them, are those of the machine. Conditions: none. -/
import Derived.Test.YthkednnfadhidaaVMS
import Derived.Test.YthkednnfadhidaaVM32
import Derived.Test.YthkednnfadhidaaVM31

namespace Go.VM
open Go.Proofs
set_option maxRecDepth 100000
theorem at_1 : Try.prog.funcs[fidOf cidTab 1]? = some Try.f3 := by rw [show fidOf cidTab 1 = 3 from by kernel_rfl]; exact Try.func3
theorem at_2 : Try.prog.funcs[fidOf cidTab 2]? = some Try.f4 := by rw [show fidOf cidTab 2 = 4 from by kernel_rfl]; exact Try.func4
theorem at_3 : Try.prog.funcs[fidOf cidTab 3]? = some Try.f5 := by rw [show fidOf cidTab 3 = 5 from by kernel_rfl]; exact Try.func5
theorem at_4 : Try.prog.funcs[fidOf cidTab 4]? = some Try.f6 := by rw [show fidOf cidTab 4 = 6 from by kernel_rfl]; exact Try.func6
theorem at_5 : Try.prog.funcs[fidOf cidTab 5]? = some Try.f7 := by rw [show fidOf cidTab 5 = 7 from by kernel_rfl]; exact Try.func7
theorem at_6 : Try.prog.funcs[fidOf cidTab 6]? = some Try.f8 := by rw [show fidOf cidTab 6 = 8 from by kernel_rfl]; exact Try.func8
theorem at_7 : Try.prog.funcs[fidOf cidTab 7]? = some Try.f9 := by rw [show fidOf cidTab 7 = 9 from by kernel_rfl]; exact Try.func9
theorem at_8 : Try.prog.funcs[fidOf cidTab 8]? = some Try.f10 := by rw [show fidOf cidTab 8 = 10 from by kernel_rfl]; exact Try.func10
theorem at_9 : Try.prog.funcs[fidOf cidTab 9]? = some Try.f11 := by rw [show fidOf cidTab 9 = 11 from by kernel_rfl]; exact Try.func11
theorem at_10 : Try.prog.funcs[fidOf cidTab 10]? = some Try.f12 := by rw [show fidOf cidTab 10 = 12 from by kernel_rfl]; exact Try.func12
theorem at_11 : Try.prog.funcs[fidOf cidTab 11]? = some Try.f13 := by rw [show fidOf cidTab 11 = 13 from by kernel_rfl]; exact Try.func13
theorem at_12 : Try.prog.funcs[fidOf cidTab 12]? = some Try.f14 := by rw [show fidOf cidTab 12 = 14 from by kernel_rfl]; exact Try.func14
theorem at_13 : Try.prog.funcs[fidOf cidTab 13]? = some Try.f15 := by rw [show fidOf cidTab 13 = 15 from by kernel_rfl]; exact Try.func15
theorem at_14 : Try.prog.funcs[fidOf cidTab 14]? = some Try.f16 := by rw [show fidOf cidTab 14 = 16 from by kernel_rfl]; exact Try.func16
theorem at_15 : Try.prog.funcs[fidOf cidTab 15]? = some Try.f17 := by rw [show fidOf cidTab 15 = 17 from by kernel_rfl]; exact Try.func17
theorem at_16 : Try.prog.funcs[fidOf cidTab 16]? = some Try.f19 := by rw [show fidOf cidTab 16 = 19 from by kernel_rfl]; exact Try.func19
theorem at_17 : Try.prog.funcs[fidOf cidTab 17]? = some Try.f18 := by rw [show fidOf cidTab 17 = 18 from by kernel_rfl]; exact Try.func18
theorem at_18 : Try.prog.funcs[fidOf cidTab 18]? = some Try.f20 := by rw [show fidOf cidTab 18 = 20 from by kernel_rfl]; exact Try.func20
theorem at_19 : Try.prog.funcs[fidOf cidTab 19]? = some Try.f21 := by rw [show fidOf cidTab 19 = 21 from by kernel_rfl]; exact Try.func21
theorem at_20 : Try.prog.funcs[fidOf cidTab 20]? = some Try.f22 := by rw [show fidOf cidTab 20 = 22 from by kernel_rfl]; exact Try.func22
theorem at_21 : Try.prog.funcs[fidOf cidTab 21]? = some Try.f23 := by rw [show fidOf cidTab 21 = 23 from by kernel_rfl]; exact Try.func23
theorem at_22 : Try.prog.funcs[fidOf cidTab 22]? = some Try.f24 := by rw [show fidOf cidTab 22 = 24 from by kernel_rfl]; exact Try.func24
theorem at_23 : Try.prog.funcs[fidOf cidTab 23]? = some Try.f25 := by rw [show fidOf cidTab 23 = 25 from by kernel_rfl]; exact Try.func25
theorem at_24 : Try.prog.funcs[fidOf cidTab 24]? = some Try.f26 := by rw [show fidOf cidTab 24 = 26 from by kernel_rfl]; exact Try.func26
theorem at_25 : Try.prog.funcs[fidOf cidTab 25]? = some Try.f27 := by rw [show fidOf cidTab 25 = 27 from by kernel_rfl]; exact Try.func27
theorem at_26 : Try.prog.funcs[fidOf cidTab 26]? = some Try.f28 := by rw [show fidOf cidTab 26 = 28 from by kernel_rfl]; exact Try.func28
theorem at_27 : Try.prog.funcs[fidOf cidTab 27]? = some Try.f29 := by rw [show fidOf cidTab 27 = 29 from by kernel_rfl]; exact Try.func29
theorem at_28 : Try.prog.funcs[fidOf cidTab 28]? = some Try.f31 := by rw [show fidOf cidTab 28 = 31 from by kernel_rfl]; exact Try.func31
theorem at_29 : Try.prog.funcs[fidOf cidTab 29]? = some Try.f32 := by rw [show fidOf cidTab 29 = 32 from by kernel_rfl]; exact Try.func32
theorem at_30 : Try.prog.funcs[fidOf cidTab 30]? = some Try.f30 := by rw [show fidOf cidTab 30 = 30 from by kernel_rfl]; exact Try.func30
theorem at_31 : Try.prog.funcs[fidOf cidTab 31]? = some Try.f33 := by rw [show fidOf cidTab 31 = 33 from by kernel_rfl]; exact Try.func33
theorem at_32 : Try.prog.funcs[fidOf cidTab 32]? = some Try.f34 := by rw [show fidOf cidTab 32 = 34 from by kernel_rfl]; exact Try.func34
theorem at_33 : Try.prog.funcs[fidOf cidTab 33]? = some Try.f35 := by rw [show fidOf cidTab 33 = 35 from by kernel_rfl]; exact Try.func35
theorem at_34 : Try.prog.funcs[fidOf cidTab 34]? = some Try.f36 := by rw [show fidOf cidTab 34 = 36 from by kernel_rfl]; exact Try.func36
theorem at_35 : Try.prog.funcs[fidOf cidTab 35]? = some Try.f37 := by rw [show fidOf cidTab 35 = 37 from by kernel_rfl]; exact Try.func37
theorem at_36 : Try.prog.funcs[fidOf cidTab 36]? = some Try.f38 := by rw [show fidOf cidTab 36 = 38 from by kernel_rfl]; exact Try.func38
theorem at_37 : Try.prog.funcs[fidOf cidTab 37]? = some Try.f39 := by rw [show fidOf cidTab 37 = 39 from by kernel_rfl]; exact Try.func39
theorem at_38 : Try.prog.funcs[fidOf cidTab 38]? = some Try.f40 := by rw [show fidOf cidTab 38 = 40 from by kernel_rfl]; exact Try.func40
theorem at_39 : Try.prog.funcs[fidOf cidTab 39]? = some Try.f41 := by rw [show fidOf cidTab 39 = 41 from by kernel_rfl]; exact Try.func41
theorem at_40 : Try.prog.funcs[fidOf cidTab 40]? = some Try.f42 := by rw [show fidOf cidTab 40 = 42 from by kernel_rfl]; exact Try.func42
theorem at_41 : Try.prog.funcs[fidOf cidTab 41]? = some Try.f43 := by rw [show fidOf cidTab 41 = 43 from by kernel_rfl]; exact Try.func43
theorem at_42 : Try.prog.funcs[fidOf cidTab 42]? = some Try.f44 := by rw [show fidOf cidTab 42 = 44 from by kernel_rfl]; exact Try.func44
theorem at_43 : Try.prog.funcs[fidOf cidTab 43]? = some Try.f45 := by rw [show fidOf cidTab 43 = 45 from by kernel_rfl]; exact Try.func45
theorem at_44 : Try.prog.funcs[fidOf cidTab 44]? = some Try.f46 := by rw [show fidOf cidTab 44 = 46 from by kernel_rfl]; exact Try.func46
theorem at_45 : Try.prog.funcs[fidOf cidTab 45]? = some Try.f47 := by rw [show fidOf cidTab 45 = 47 from by kernel_rfl]; exact Try.func47
theorem at_46 : Try.prog.funcs[fidOf cidTab 46]? = some Try.f48 := by rw [show fidOf cidTab 46 = 48 from by kernel_rfl]; exact Try.func48
theorem at_47 : Try.prog.funcs[fidOf cidTab 47]? = some Try.f49 := by rw [show fidOf cidTab 47 = 49 from by kernel_rfl]; exact Try.func49
theorem at_48 : Try.prog.funcs[fidOf cidTab 48]? = some Try.f50 := by rw [show fidOf cidTab 48 = 50 from by kernel_rfl]; exact Try.func50
theorem at_49 : Try.prog.funcs[fidOf cidTab 49]? = some Try.f52 := by rw [show fidOf cidTab 49 = 52 from by kernel_rfl]; exact Try.func52
theorem at_50 : Try.prog.funcs[fidOf cidTab 50]? = some Try.f51 := by rw [show fidOf cidTab 50 = 51 from by kernel_rfl]; exact Try.func51
theorem at_51 : Try.prog.funcs[fidOf cidTab 51]? = some Try.f53 := by rw [show fidOf cidTab 51 = 53 from by kernel_rfl]; exact Try.func53
theorem at_52 : Try.prog.funcs[fidOf cidTab 52]? = some Try.f54 := by rw [show fidOf cidTab 52 = 54 from by kernel_rfl]; exact Try.func54
theorem at_53 : Try.prog.funcs[fidOf cidTab 53]? = some Try.f55 := by rw [show fidOf cidTab 53 = 55 from by kernel_rfl]; exact Try.func55
theorem at_54 : Try.prog.funcs[fidOf cidTab 54]? = some Try.f56 := by rw [show fidOf cidTab 54 = 56 from by kernel_rfl]; exact Try.func56
theorem at_55 : Try.prog.funcs[fidOf cidTab 55]? = some Try.f57 := by rw [show fidOf cidTab 55 = 57 from by kernel_rfl]; exact Try.func57
theorem at_56 : Try.prog.funcs[fidOf cidTab 56]? = some Try.f58 := by rw [show fidOf cidTab 56 = 58 from by kernel_rfl]; exact Try.func58
theorem at_57 : Try.prog.funcs[fidOf cidTab 57]? = some Try.f59 := by rw [show fidOf cidTab 57 = 59 from by kernel_rfl]; exact Try.func59
theorem at_58 : Try.prog.funcs[fidOf cidTab 58]? = some Try.f61 := by rw [show fidOf cidTab 58 = 61 from by kernel_rfl]; exact Try.func61
theorem at_59 : Try.prog.funcs[fidOf cidTab 59]? = some Try.f60 := by rw [show fidOf cidTab 59 = 60 from by kernel_rfl]; exact Try.func60
theorem at_60 : Try.prog.funcs[fidOf cidTab 60]? = some Try.f62 := by rw [show fidOf cidTab 60 = 62 from by kernel_rfl]; exact Try.func62
theorem at_61 : Try.prog.funcs[fidOf cidTab 61]? = some Try.f63 := by rw [show fidOf cidTab 61 = 63 from by kernel_rfl]; exact Try.func63
theorem at_62 : Try.prog.funcs[fidOf cidTab 62]? = some Try.f64 := by rw [show fidOf cidTab 62 = 64 from by kernel_rfl]; exact Try.func64
theorem at_63 : Try.prog.funcs[fidOf cidTab 63]? = some Try.f65 := by rw [show fidOf cidTab 63 = 65 from by kernel_rfl]; exact Try.func65
theorem at_64 : Try.prog.funcs[fidOf cidTab 64]? = some Try.f66 := by rw [show fidOf cidTab 64 = 66 from by kernel_rfl]; exact Try.func66
theorem at_65 : Try.prog.funcs[fidOf cidTab 65]? = some Try.f67 := by rw [show fidOf cidTab 65 = 67 from by kernel_rfl]; exact Try.func67
theorem at_66 : Try.prog.funcs[fidOf cidTab 66]? = some Try.f68 := by rw [show fidOf cidTab 66 = 68 from by kernel_rfl]; exact Try.func68
theorem at_67 : Try.prog.funcs[fidOf cidTab 67]? = some Try.f69 := by rw [show fidOf cidTab 67 = 69 from by kernel_rfl]; exact Try.func69
theorem at_68 : Try.prog.funcs[fidOf cidTab 68]? = some Try.f70 := by rw [show fidOf cidTab 68 = 70 from by kernel_rfl]; exact Try.func70
theorem at_69 : Try.prog.funcs[fidOf cidTab 69]? = some Try.f71 := by rw [show fidOf cidTab 69 = 71 from by kernel_rfl]; exact Try.func71
theorem at_70 : Try.prog.funcs[fidOf cidTab 70]? = some Try.f72 := by rw [show fidOf cidTab 70 = 72 from by kernel_rfl]; exact Try.func72
theorem at_71 : Try.prog.funcs[fidOf cidTab 71]? = some Try.f73 := by rw [show fidOf cidTab 71 = 73 from by kernel_rfl]; exact Try.func73
theorem at_72 : Try.prog.funcs[fidOf cidTab 72]? = some Try.f74 := by rw [show fidOf cidTab 72 = 74 from by kernel_rfl]; exact Try.func74
theorem at_73 : Try.prog.funcs[fidOf cidTab 73]? = some Try.f76 := by rw [show fidOf cidTab 73 = 76 from by kernel_rfl]; exact Try.func76
theorem at_74 : Try.prog.funcs[fidOf cidTab 74]? = some Try.f75 := by rw [show fidOf cidTab 74 = 75 from by kernel_rfl]; exact Try.func75
theorem at_75 : Try.prog.funcs[fidOf cidTab 75]? = some Try.f77 := by rw [show fidOf cidTab 75 = 77 from by kernel_rfl]; exact Try.func77
theorem at_76 : Try.prog.funcs[fidOf cidTab 76]? = some Try.f78 := by rw [show fidOf cidTab 76 = 78 from by kernel_rfl]; exact Try.func78
theorem at_77 : Try.prog.funcs[fidOf cidTab 77]? = some Try.f79 := by rw [show fidOf cidTab 77 = 79 from by kernel_rfl]; exact Try.func79
theorem at_78 : Try.prog.funcs[fidOf cidTab 78]? = some Try.f80 := by rw [show fidOf cidTab 78 = 80 from by kernel_rfl]; exact Try.func80
theorem at_79 : Try.prog.funcs[fidOf cidTab 79]? = some Try.f81 := by rw [show fidOf cidTab 79 = 81 from by kernel_rfl]; exact Try.func81
theorem at_80 : Try.prog.funcs[fidOf cidTab 80]? = some Try.f82 := by rw [show fidOf cidTab 80 = 82 from by kernel_rfl]; exact Try.func82
theorem at_81 : Try.prog.funcs[fidOf cidTab 81]? = some Try.f83 := by rw [show fidOf cidTab 81 = 83 from by kernel_rfl]; exact Try.func83
theorem at_82 : Try.prog.funcs[fidOf cidTab 82]? = some Try.f84 := by rw [show fidOf cidTab 82 = 84 from by kernel_rfl]; exact Try.func84
theorem at_83 : Try.prog.funcs[fidOf cidTab 83]? = some Try.f85 := by rw [show fidOf cidTab 83 = 85 from by kernel_rfl]; exact Try.func85
theorem at_84 : Try.prog.funcs[fidOf cidTab 84]? = some Try.f86 := by rw [show fidOf cidTab 84 = 86 from by kernel_rfl]; exact Try.func86
theorem at_85 : Try.prog.funcs[fidOf cidTab 85]? = some Try.f87 := by rw [show fidOf cidTab 85 = 87 from by kernel_rfl]; exact Try.func87
theorem at_86 : Try.prog.funcs[fidOf cidTab 86]? = some Try.f88 := by rw [show fidOf cidTab 86 = 88 from by kernel_rfl]; exact Try.func88
theorem at_87 : Try.prog.funcs[fidOf cidTab 87]? = some Try.f89 := by rw [show fidOf cidTab 87 = 89 from by kernel_rfl]; exact Try.func89
theorem at_88 : Try.prog.funcs[fidOf cidTab 88]? = some Try.f92 := by rw [show fidOf cidTab 88 = 92 from by kernel_rfl]; exact Try.func92
theorem at_89 : Try.prog.funcs[fidOf cidTab 89]? = some Try.f90 := by rw [show fidOf cidTab 89 = 90 from by kernel_rfl]; exact Try.func90
theorem at_90 : Try.prog.funcs[fidOf cidTab 90]? = some Try.f91 := by rw [show fidOf cidTab 90 = 91 from by kernel_rfl]; exact Try.func91
theorem at_91 : Try.prog.funcs[fidOf cidTab 91]? = some Try.f93 := by rw [show fidOf cidTab 91 = 93 from by kernel_rfl]; exact Try.func93
theorem at_92 : Try.prog.funcs[fidOf cidTab 92]? = some Try.f94 := by rw [show fidOf cidTab 92 = 94 from by kernel_rfl]; exact Try.func94
theorem at_93 : Try.prog.funcs[fidOf cidTab 93]? = some Try.f96 := by rw [show fidOf cidTab 93 = 96 from by kernel_rfl]; exact Try.func96
theorem at_94 : Try.prog.funcs[fidOf cidTab 94]? = some Try.f95 := by rw [show fidOf cidTab 94 = 95 from by kernel_rfl]; exact Try.func95
theorem at_95 : Try.prog.funcs[fidOf cidTab 95]? = some Try.f97 := by rw [show fidOf cidTab 95 = 97 from by kernel_rfl]; exact Try.func97
theorem at_96 : Try.prog.funcs[fidOf cidTab 96]? = some Try.f98 := by rw [show fidOf cidTab 96 = 98 from by kernel_rfl]; exact Try.func98
theorem at_97 : Try.prog.funcs[fidOf cidTab 97]? = some Try.f99 := by rw [show fidOf cidTab 97 = 99 from by kernel_rfl]; exact Try.func99
theorem at_98 : Try.prog.funcs[fidOf cidTab 98]? = some Try.f100 := by rw [show fidOf cidTab 98 = 100 from by kernel_rfl]; exact Try.func100
theorem at_99 : Try.prog.funcs[fidOf cidTab 99]? = some Try.f101 := by rw [show fidOf cidTab 99 = 101 from by kernel_rfl]; exact Try.func101
theorem at_100 : Try.prog.funcs[fidOf cidTab 100]? = some Try.f102 := by rw [show fidOf cidTab 100 = 102 from by kernel_rfl]; exact Try.func102
theorem at_101 : Try.prog.funcs[fidOf cidTab 101]? = some Try.f103 := by rw [show fidOf cidTab 101 = 103 from by kernel_rfl]; exact Try.func103
theorem strips : ∀ p ∈ tab, ∃ fn, Try.prog.funcs[fidOf cidTab p.1]? = some fn ∧ stripF Try.prog (cidOf cidTab) fn = some p.2 := by
  simp only [tab, List.forall_mem_cons]
  exact ⟨⟨_, at_1, strip_1⟩, ⟨_, at_2, strip_2⟩, ⟨_, at_3, strip_3⟩, ⟨_, at_4, strip_4⟩, ⟨_, at_5, strip_5⟩, ⟨_, at_6, strip_6⟩, ⟨_, at_7, strip_7⟩, ⟨_, at_8, strip_8⟩, ⟨_, at_9, strip_9⟩, ⟨_, at_10, strip_10⟩, ⟨_, at_11, strip_11⟩, ⟨_, at_12, strip_12⟩, ⟨_, at_13, strip_13⟩, ⟨_, at_14, strip_14⟩, ⟨_, at_15, strip_15⟩, ⟨_, at_16, strip_16⟩, ⟨_, at_17, strip_17⟩, ⟨_, at_18, strip_18⟩, ⟨_, at_19, strip_19⟩, ⟨_, at_20, strip_20⟩, ⟨_, at_21, strip_21⟩, ⟨_, at_22, strip_22⟩, ⟨_, at_23, strip_23⟩, ⟨_, at_24, strip_24⟩, ⟨_, at_25, strip_25⟩, ⟨_, at_26, strip_26⟩, ⟨_, at_27, strip_27⟩, ⟨_, at_28, strip_28⟩, ⟨_, at_29, strip_29⟩, ⟨_, at_30, strip_30⟩, ⟨_, at_31, strip_31⟩, ⟨_, at_32, strip_32⟩, ⟨_, at_33, strip_33⟩, ⟨_, at_34, strip_34⟩, ⟨_, at_35, strip_35⟩, ⟨_, at_36, strip_36⟩, ⟨_, at_37, strip_37⟩, ⟨_, at_38, strip_38⟩, ⟨_, at_39, strip_39⟩, ⟨_, at_40, strip_40⟩, ⟨_, at_41, strip_41⟩, ⟨_, at_42, strip_42⟩, ⟨_, at_43, strip_43⟩, ⟨_, at_44, strip_44⟩, ⟨_, at_45, strip_45⟩, ⟨_, at_46, strip_46⟩, ⟨_, at_47, strip_47⟩, ⟨_, at_48, strip_48⟩, ⟨_, at_49, strip_49⟩, ⟨_, at_50, strip_50⟩, ⟨_, at_51, strip_51⟩, ⟨_, at_52, strip_52⟩, ⟨_, at_53, strip_53⟩, ⟨_, at_54, strip_54⟩, ⟨_, at_55, strip_55⟩, ⟨_, at_56, strip_56⟩, ⟨_, at_57, strip_57⟩, ⟨_, at_58, strip_58⟩, ⟨_, at_59, strip_59⟩, ⟨_, at_60, strip_60⟩, ⟨_, at_61, strip_61⟩, ⟨_, at_62, strip_62⟩, ⟨_, at_63, strip_63⟩, ⟨_, at_64, strip_64⟩, ⟨_, at_65, strip_65⟩, ⟨_, at_66, strip_66⟩, ⟨_, at_67, strip_67⟩, ⟨_, at_68, strip_68⟩, ⟨_, at_69, strip_69⟩, ⟨_, at_70, strip_70⟩, ⟨_, at_71, strip_71⟩, ⟨_, at_72, strip_72⟩, ⟨_, at_73, strip_73⟩, ⟨_, at_74, strip_74⟩, ⟨_, at_75, strip_75⟩, ⟨_, at_76, strip_76⟩, ⟨_, at_77, strip_77⟩, ⟨_, at_78, strip_78⟩, ⟨_, at_79, strip_79⟩, ⟨_, at_80, strip_80⟩, ⟨_, at_81, strip_81⟩, ⟨_, at_82, strip_82⟩, ⟨_, at_83, strip_83⟩, ⟨_, at_84, strip_84⟩, ⟨_, at_85, strip_85⟩, ⟨_, at_86, strip_86⟩, ⟨_, at_87, strip_87⟩, ⟨_, at_88, strip_88⟩, ⟨_, at_89, strip_89⟩, ⟨_, at_90, strip_90⟩, ⟨_, at_91, strip_91⟩, ⟨_, at_92, strip_92⟩, ⟨_, at_93, strip_93⟩, ⟨_, at_94, strip_94⟩, ⟨_, at_95, strip_95⟩, ⟨_, at_96, strip_96⟩, ⟨_, at_97, strip_97⟩, ⟨_, at_98, strip_98⟩, ⟨_, at_99, strip_99⟩, ⟨_, at_100, strip_100⟩, ⟨_, at_101, strip_101⟩, fun _ h => absurd h List.not_mem_nil⟩
theorem cid_ok : ∀ f, fidOf cidTab (cidOf cidTab f) = f := fid_cid (by kernel_rfl)
theorem mix : Try.prog.follows .mixedOrders = true := by kernel_rfl
theorem FT_ok : ∀ f F, FT f = some F → ∃ fn, Try.prog.funcs[fidOf cidTab f]? = some fn ∧ stripF Try.prog (cidOf cidTab) fn = some F := tab_ok strips
theorem orc_ok : ∀ f args s r, orc f = true → ans f args = some r → CallOK Try.prog (fidOf cidTab) (fun _ => none) f args [] s r := by
  intro f args s r hf hr
  have key : ∀ sz bytes zero, FT f = some (cloneF sz bytes zero) → zero.length = sz → cloneIds.lookup f = some (sz, bytes) → CallOK Try.prog (fidOf cidTab) (fun _ => none) f args [] s r := by
    intro sz bytes zero h1 h2 h3
    obtain ⟨fn, a1, a2⟩ := FT_ok f _ h1
    unfold ans at hr
    rw [h3] at hr
    split at hr
    · rename_i e
      cases e
      split at hr
      · rename_i hc
        simp only [Bool.and_eq_true] at hc
        cases hr
        exact clone_ok cid_ok mix a1 a2 h2 hc.1 hc.2
      · cases hr
    · cases hr
  unfold orc at hf
  have h93 : f = 93 := by
    by_cases e : f = 93
    · exact e
    · have : cloneIds.lookup f = none := by simp [cloneIds, List.lookup, show (f == 93) = false from by simpa using e]
      rw [this] at hf; cases hf
  subst h93
  exact key 1 1 [.s (.int .u8 0)] rfl rfl rfl
theorem go_ok (n f : Nat) (args : List V) (bs : List Box) (s : Sup) (r : Res) : go n f args bs s = some r → CallOK Try.prog (fidOf cidTab) (fun _ => none) f args bs s r :=
  run_ok cid_ok mix FT_ok orc_ok n f args bs s r
end Go.VM
