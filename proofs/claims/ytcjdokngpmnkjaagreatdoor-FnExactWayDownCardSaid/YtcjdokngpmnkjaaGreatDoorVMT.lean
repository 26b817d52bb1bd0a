/- The functions of the seat, all of them, are those of the machine. Conditions: none. -/
import Derived.Test.YtcjdokngpmnkjaaGreatDoorVMS
import Derived.Test.YtcjdokngpmnkjaaGreatDoorVM29
import Derived.Test.YtcjdokngpmnkjaaGreatDoorVM31

namespace Go.VM
open Go.Proofs
set_option maxRecDepth 100000
theorem fs {c k : Nat} {fn : Func} {F : Fn} (h1 : fidOf cidTab c = k) (h2 : Tryz.prog.funcs[k]? = some fn) (h3 : stripF Tryz.prog (cidOf cidTab) fn = some F) : ∃ fn, Tryz.prog.funcs[fidOf cidTab c]? = some fn ∧ stripF Tryz.prog (cidOf cidTab) fn = some F := ⟨fn, by rw [h1]; exact h2, h3⟩
theorem strips : ∀ p ∈ tab, ∃ fn, Tryz.prog.funcs[fidOf cidTab p.1]? = some fn ∧ stripF Tryz.prog (cidOf cidTab) fn = some p.2 := by
  simp only [tab, List.forall_mem_cons]
  exact ⟨fs (by kernel_rfl) Tryz.func156 s60, fs (by kernel_rfl) Tryz.func20 s106, fs (by kernel_rfl) Tryz.func62 s107, fs (by kernel_rfl) Tryz.func52 s108, fs (by kernel_rfl) Tryz.func96 s118, fs (by kernel_rfl) Tryz.func208 s119, fs (by kernel_rfl) Tryz.func203 s120, fs (by kernel_rfl) Tryz.func63 s121, fs (by kernel_rfl) Tryz.func131 s122, fs (by kernel_rfl) Tryz.func59 s123, fs (by kernel_rfl) Tryz.func104 s124, fs (by kernel_rfl) Tryz.func83 s125, fs (by kernel_rfl) Tryz.func157 s137, fs (by kernel_rfl) Tryz.func159 s138, fs (by kernel_rfl) Tryz.func97 s139, fs (by kernel_rfl) Tryz.func219 s140, fs (by kernel_rfl) Tryz.func124 s141, fs (by kernel_rfl) Tryz.func132 s142, fs (by kernel_rfl) Tryz.func133 s143, fs (by kernel_rfl) Tryz.func101 s144, fs (by kernel_rfl) Tryz.func127 s145, fs (by kernel_rfl) Tryz.func166 s146, fs (by kernel_rfl) Tryz.func148 s147, fs (by kernel_rfl) Tryz.func182 s158, fs (by kernel_rfl) Tryz.func191 s159, fs (by kernel_rfl) Tryz.func192 s160, fs (by kernel_rfl) Tryz.func193 s161, fs (by kernel_rfl) Tryz.func194 s162, fs (by kernel_rfl) Tryz.func161 s163, fs (by kernel_rfl) Tryz.func228 s164, fs (by kernel_rfl) Tryz.func227 s165, fs (by kernel_rfl) Tryz.func162 s166, fs (by kernel_rfl) Tryz.func183 s167, fs (by kernel_rfl) Tryz.func184 s168, fs (by kernel_rfl) Tryz.func185 s169, fs (by kernel_rfl) Tryz.func186 s170, fs (by kernel_rfl) Tryz.func41 s171, fs (by kernel_rfl) Tryz.func180 s172, fs (by kernel_rfl) Tryz.func103 s173, fs (by kernel_rfl) Tryz.func204 s174, fs (by kernel_rfl) Tryz.func188 s180, fs (by kernel_rfl) Tryz.func213 s181, fs (by kernel_rfl) Tryz.func214 s182, fs (by kernel_rfl) Tryz.func196 s183, fs (by kernel_rfl) Tryz.func197 s184, fs (by kernel_rfl) Tryz.func198 s185, fs (by kernel_rfl) Tryz.func199 s186, fs (by kernel_rfl) Tryz.func200 s187, fs (by kernel_rfl) Tryz.func201 s188, fs (by kernel_rfl) Tryz.func209 s189, fs (by kernel_rfl) Tryz.func210 s190, fs (by kernel_rfl) Tryz.func221 s191, fs (by kernel_rfl) Tryz.func220 s192, fs (by kernel_rfl) Tryz.func224 s193, fs (by kernel_rfl) Tryz.func225 s194, fs (by kernel_rfl) Tryz.func216 s195, fs (by kernel_rfl) Tryz.func215 s196, fs (by kernel_rfl) Tryz.func218 s197, fs (by kernel_rfl) Tryz.func217 s198, fs (by kernel_rfl) Tryz.func223 s199, fs (by kernel_rfl) Tryz.func158 s200, fs (by kernel_rfl) Tryz.func226 s201, fs (by kernel_rfl) Tryz.func195 s202, fs (by kernel_rfl) Tryz.func18 s208, fs (by kernel_rfl) Tryz.func58 s211, fs (by kernel_rfl) Tryz.func123 s213, fs (by kernel_rfl) Tryz.func125 s214, fs (by kernel_rfl) Tryz.func126 s215, fs (by kernel_rfl) Tryz.func179 s218, fs (by kernel_rfl) Tryz.func112 s220, fs (by kernel_rfl) Tryz.func115 s221, fs (by kernel_rfl) Tryz.func119 s223, fs (by kernel_rfl) Tryz.func167 s226, fs (by kernel_rfl) Tryz.func174 s227, fs (by kernel_rfl) Tryz.func173 s228, fs (by kernel_rfl) Tryz.func175 s229, fs (by kernel_rfl) Tryz.func138 s230, fs (by kernel_rfl) Tryz.func176 s231, fs (by kernel_rfl) Tryz.func71 s233, fs (by kernel_rfl) Tryz.func205 s236, fs (by kernel_rfl) Tryz.func206 s237, fs (by kernel_rfl) Tryz.func187 s238, fs (by kernel_rfl) Tryz.func70 s239, fs (by kernel_rfl) Tryz.func73 s240, fs (by kernel_rfl) Tryz.func222 s241, fs (by kernel_rfl) Tryz.func212 s242, fs (by kernel_rfl) Tryz.func12 s244, fs (by kernel_rfl) Tryz.func14 s245, fs (by kernel_rfl) Tryz.func16 s247, fs (by kernel_rfl) Tryz.func47 s248, fs (by kernel_rfl) Tryz.func51 s249, fs (by kernel_rfl) Tryz.func55 s250, fs (by kernel_rfl) Tryz.func113 s251, fs (by kernel_rfl) Tryz.func116 s252, fs (by kernel_rfl) Tryz.func120 s253, fs (by kernel_rfl) Tryz.func25 s255, fs (by kernel_rfl) Tryz.func72 s257, fs (by kernel_rfl) Tryz.func6 s262, fs (by kernel_rfl) Tryz.func13 s268, fs (by kernel_rfl) Tryz.func15 s269, fs (by kernel_rfl) Tryz.func19 s271, fs (by kernel_rfl) Tryz.func23 s274, fs (by kernel_rfl) Tryz.func24 s275, fs (by kernel_rfl) Tryz.func26 s276, fs (by kernel_rfl) Tryz.func27 s277, fs (by kernel_rfl) Tryz.func28 s278, fs (by kernel_rfl) Tryz.func33 s283, fs (by kernel_rfl) Tryz.func49 s292, fs (by kernel_rfl) Tryz.func50 s293, fs (by kernel_rfl) Tryz.func48 s294, fs (by kernel_rfl) Tryz.func53 s295, fs (by kernel_rfl) Tryz.func54 s296, fs (by kernel_rfl) Tryz.func61 s297, fs (by kernel_rfl) Tryz.func60 s298, fs (by kernel_rfl) Tryz.func67 s301, fs (by kernel_rfl) Tryz.func68 s302, fs (by kernel_rfl) Tryz.func69 s303, fs (by kernel_rfl) Tryz.func74 s304, fs (by kernel_rfl) Tryz.func79 s309, fs (by kernel_rfl) Tryz.func114 s325, fs (by kernel_rfl) Tryz.func117 s326, fs (by kernel_rfl) Tryz.func118 s327, fs (by kernel_rfl) Tryz.func128 s328, fs (by kernel_rfl) Tryz.func129 s329, fs (by kernel_rfl) Tryz.func130 s330, fs (by kernel_rfl) Tryz.func135 s331, fs (by kernel_rfl) Tryz.func136 s332, fs (by kernel_rfl) Tryz.func137 s333, fs (by kernel_rfl) Tryz.func139 s334, fs (by kernel_rfl) Tryz.func181 s348, fs (by kernel_rfl) Tryz.func211 s350, fun _ h => absurd h List.not_mem_nil⟩
theorem cid_ok : ∀ f, fidOf cidTab (cidOf cidTab f) = f := fid_cid (by kernel_rfl)
theorem mix : Tryz.prog.follows .mixedOrders = true := by kernel_rfl
theorem FT_ok : ∀ f F, FT f = some F → ∃ fn, Tryz.prog.funcs[fidOf cidTab f]? = some fn ∧ stripF Tryz.prog (cidOf cidTab) fn = some F := tab_ok strips
theorem orc_ok : ∀ f args s r, orc f = true → ans f args = some r → CallOK Tryz.prog (fidOf cidTab) GT f args [] s r := by
  intro f args s r hf hr; have key : ∀ sz bytes zero, FT f = some (cloneF sz bytes zero) → zero.length = sz → cloneIds.lookup f = some (sz, bytes) → CallOK Tryz.prog (fidOf cidTab) GT f args [] s r := by
    intro sz bytes zero h1 h2 h3; obtain ⟨fn, a1, a2⟩ := FT_ok f _ h1; unfold ans at hr; rw [h3] at hr; split at hr
    · rename_i e
      cases e
      split at hr
      · rename_i hc
        simp only [Bool.and_eq_true] at hc; cases hr
        exact clone_ok cid_ok mix a1 a2 h2 hc.1 hc.2
      · cases hr
    · cases hr
  unfold orc at hf; have hcase : f = 164 ∨ f = 191 ∨ f = 197 := by
    by_cases e1 : f = 164
    · exact .inl e1
    by_cases e2 : f = 191
    · exact .inr (.inl e2)
    by_cases e3 : f = 197
    · exact .inr (.inr e3)
    have : cloneIds.lookup f = none := by simp [cloneIds, List.lookup, show (f == 164) = false from by simpa using e1, show (f == 191) = false from by simpa using e2, show (f == 197) = false from by simpa using e3]
    rw [this] at hf; cases hf
  rcases hcase with rfl | rfl | rfl
  · exact key 4 64 [.s (.int .i64 0), .s (.int .i64 0), .l 0 [], .l 0 []] rfl rfl rfl
  · exact key 2 32 [.s (.int .i64 0), .l 0 []] rfl rfl rfl
  · exact key 3 24 [.s (.int .i64 0), .s (.int .i64 0), .s (.int .i64 0)] rfl rfl rfl
theorem go_ok (n f : Nat) (args : List V) (bs : List Box) (s : Sup) (r : Res) : go n f args bs s = some r → CallOK Tryz.prog (fidOf cidTab) GT f args bs s r :=
  run2_ok cid_ok mix FT_ok orc_ok n f args bs s r
end Go.VM
