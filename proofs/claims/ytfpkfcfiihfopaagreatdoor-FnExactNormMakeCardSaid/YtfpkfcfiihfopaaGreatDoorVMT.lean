/- The functions of the seat, all of them, are those of the machine. Conditions: none. -/
import Derived.Test.YtfpkfcfiihfopaaGreatDoorVMS
import Derived.Test.YtfpkfcfiihfopaaGreatDoorVM29
import Derived.Test.YtfpkfcfiihfopaaGreatDoorVM31

namespace Go.VM
open Go.Proofs
set_option maxRecDepth 100000
theorem fs {c k : Nat} {fn : Func} {F : Fn} (h1 : fidOf cidTab c = k) (h2 : Tryz.prog.funcs[k]? = some fn) (h3 : stripF Tryz.prog (cidOf cidTab) fn = some F) : ∃ fn, Tryz.prog.funcs[fidOf cidTab c]? = some fn ∧ stripF Tryz.prog (cidOf cidTab) fn = some F := ⟨fn, by rw [h1]; exact h2, h3⟩
theorem strips : ∀ p ∈ tab, ∃ fn, Tryz.prog.funcs[fidOf cidTab p.1]? = some fn ∧ stripF Tryz.prog (cidOf cidTab) fn = some p.2 := by
  simp only [tab, List.forall_mem_cons]
  exact ⟨fs (by kernel_rfl) Tryz.func135 s60, fs (by kernel_rfl) Tryz.func18 s106, fs (by kernel_rfl) Tryz.func38 s107, fs (by kernel_rfl) Tryz.func8 s108, fs (by kernel_rfl) Tryz.func106 s118, fs (by kernel_rfl) Tryz.func107 s119, fs (by kernel_rfl) Tryz.func76 s120, fs (by kernel_rfl) Tryz.func39 s121, fs (by kernel_rfl) Tryz.func66 s122, fs (by kernel_rfl) Tryz.func21 s123, fs (by kernel_rfl) Tryz.func23 s124, fs (by kernel_rfl) Tryz.func22 s125, fs (by kernel_rfl) Tryz.func143 s137, fs (by kernel_rfl) Tryz.func112 s138, fs (by kernel_rfl) Tryz.func47 s139, fs (by kernel_rfl) Tryz.func113 s140, fs (by kernel_rfl) Tryz.func41 s141, fs (by kernel_rfl) Tryz.func67 s142, fs (by kernel_rfl) Tryz.func68 s143, fs (by kernel_rfl) Tryz.func98 s144, fs (by kernel_rfl) Tryz.func46 s145, fs (by kernel_rfl) Tryz.func49 s146, fs (by kernel_rfl) Tryz.func48 s147, fs (by kernel_rfl) Tryz.func100 s158, fs (by kernel_rfl) Tryz.func145 s159, fs (by kernel_rfl) Tryz.func172 s160, fs (by kernel_rfl) Tryz.func147 s161, fs (by kernel_rfl) Tryz.func173 s162, fs (by kernel_rfl) Tryz.func74 s163, fs (by kernel_rfl) Tryz.func154 s164, fs (by kernel_rfl) Tryz.func153 s165, fs (by kernel_rfl) Tryz.func99 s166, fs (by kernel_rfl) Tryz.func101 s167, fs (by kernel_rfl) Tryz.func102 s168, fs (by kernel_rfl) Tryz.func103 s169, fs (by kernel_rfl) Tryz.func104 s170, fs (by kernel_rfl) Tryz.func72 s171, fs (by kernel_rfl) Tryz.func73 s172, fs (by kernel_rfl) Tryz.func75 s173, fs (by kernel_rfl) Tryz.func77 s174, fs (by kernel_rfl) Tryz.func171 s180, fs (by kernel_rfl) Tryz.func174 s181, fs (by kernel_rfl) Tryz.func137 s182, fs (by kernel_rfl) Tryz.func148 s183, fs (by kernel_rfl) Tryz.func149 s184, fs (by kernel_rfl) Tryz.func150 s185, fs (by kernel_rfl) Tryz.func111 s186, fs (by kernel_rfl) Tryz.func140 s187, fs (by kernel_rfl) Tryz.func141 s188, fs (by kernel_rfl) Tryz.func108 s189, fs (by kernel_rfl) Tryz.func109 s190, fs (by kernel_rfl) Tryz.func115 s191, fs (by kernel_rfl) Tryz.func114 s192, fs (by kernel_rfl) Tryz.func181 s193, fs (by kernel_rfl) Tryz.func170 s194, fs (by kernel_rfl) Tryz.func176 s195, fs (by kernel_rfl) Tryz.func175 s196, fs (by kernel_rfl) Tryz.func152 s197, fs (by kernel_rfl) Tryz.func151 s198, fs (by kernel_rfl) Tryz.func144 s199, fs (by kernel_rfl) Tryz.func110 s200, fs (by kernel_rfl) Tryz.func182 s201, fs (by kernel_rfl) Tryz.func146 s202, fs (by kernel_rfl) Tryz.func6 s208, fs (by kernel_rfl) Tryz.func19 s211, fs (by kernel_rfl) Tryz.func40 s213, fs (by kernel_rfl) Tryz.func42 s214, fs (by kernel_rfl) Tryz.func43 s215, fs (by kernel_rfl) Tryz.func69 s218, fs (by kernel_rfl) Tryz.func36 s220, fs (by kernel_rfl) Tryz.func44 s221, fs (by kernel_rfl) Tryz.func50 s223, fs (by kernel_rfl) Tryz.func64 s226, fs (by kernel_rfl) Tryz.func65 s227, fs (by kernel_rfl) Tryz.func70 s228, fs (by kernel_rfl) Tryz.func71 s229, fs (by kernel_rfl) Tryz.func63 s230, fs (by kernel_rfl) Tryz.func78 s231, fs (by kernel_rfl) Tryz.func26 s233, fs (by kernel_rfl) Tryz.func29 s235, fs (by kernel_rfl) Tryz.func97 s236, fs (by kernel_rfl) Tryz.func105 s237, fs (by kernel_rfl) Tryz.func96 s238, fs (by kernel_rfl) Tryz.func25 s239, fs (by kernel_rfl) Tryz.func28 s240, fs (by kernel_rfl) Tryz.func142 s241, fs (by kernel_rfl) Tryz.func139 s242, fs (by kernel_rfl) Tryz.func5 s244, fs (by kernel_rfl) Tryz.func7 s245, fs (by kernel_rfl) Tryz.func9 s247, fs (by kernel_rfl) Tryz.func17 s248, fs (by kernel_rfl) Tryz.func20 s249, fs (by kernel_rfl) Tryz.func24 s250, fs (by kernel_rfl) Tryz.func37 s251, fs (by kernel_rfl) Tryz.func45 s252, fs (by kernel_rfl) Tryz.func51 s253, fs (by kernel_rfl) Tryz.func3 s254, fs (by kernel_rfl) Tryz.func10 s255, fs (by kernel_rfl) Tryz.func11 s256, fs (by kernel_rfl) Tryz.func27 s257, fs (by kernel_rfl) Tryz.func30 s258, fun _ h => absurd h List.not_mem_nil⟩
theorem cid_ok : ∀ f, fidOf cidTab (cidOf cidTab f) = f := fid_cid (by kernel_rfl)
theorem mix : Tryz.prog.follows .mixedOrders = true := by kernel_rfl
theorem FT_ok : ∀ f F, FT f = some F → ∃ fn, Tryz.prog.funcs[fidOf cidTab f]? = some fn ∧ stripF Tryz.prog (cidOf cidTab) fn = some F := tab_ok strips
theorem orc_ok : ∀ f args s r, orc f = true → ans f args = some r → CallOK Tryz.prog (fidOf cidTab) GT f args [] s r := by
  intro f args s r hf hr; have key : ∀ sz bytes zero, FT f = some (cloneF sz bytes zero) → zero.length = sz → cloneIds.lookup f = some (sz, bytes) → CallOK Tryz.prog (fidOf cidTab) GT f args [] s r := by
    intro sz bytes zero h1 h2 h3; obtain ⟨fn, a1, a2⟩ := FT_ok f _ h1; unfold ans at hr; rw [h3] at hr; split at hr
    · rename_i e
      cases e
      split at hr
      · rename_i hc
        simp only [Bool.and_eq_true] at hc; cases hr
        exact clone_ok cid_ok mix a1 a2 h2 hc.1 hc.2
      · cases hr
    · cases hr
  unfold orc at hf; have hcase : f = 164 ∨ f = 191 ∨ f = 197 := by
    by_cases e1 : f = 164
    · exact .inl e1
    by_cases e2 : f = 191
    · exact .inr (.inl e2)
    by_cases e3 : f = 197
    · exact .inr (.inr e3)
    have : cloneIds.lookup f = none := by simp [cloneIds, List.lookup, show (f == 164) = false from by simpa using e1, show (f == 191) = false from by simpa using e2, show (f == 197) = false from by simpa using e3]
    rw [this] at hf; cases hf
  rcases hcase with rfl | rfl | rfl
  · exact key 4 64 [.s (.int .i64 0), .s (.int .i64 0), .l 0 [], .l 0 []] rfl rfl rfl
  · exact key 2 32 [.s (.int .i64 0), .l 0 []] rfl rfl rfl
  · exact key 3 24 [.s (.int .i64 0), .s (.int .i64 0), .s (.int .i64 0)] rfl rfl rfl
theorem go_ok (n f : Nat) (args : List V) (bs : List Box) (s : Sup) (r : Res) : go n f args bs s = some r → CallOK Tryz.prog (fidOf cidTab) GT f args bs s r :=
  run2_ok cid_ok mix FT_ok orc_ok n f args bs s r
end Go.VM
