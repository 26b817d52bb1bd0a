/- The functions of the seat, all of them, are those of the machine. Conditions: none. -/
import Derived.Test.YtfpkfcfiihfopaaDoorBVMS
import Derived.Test.YtfpkfcfiihfopaaDoorBVM29
import Derived.Test.YtfpkfcfiihfopaaDoorBVM31

namespace Go.VM
open Go.Proofs
set_option maxRecDepth 100000
theorem fs {c k : Nat} {fn : Func} {F : Fn} (h1 : fidOf cidTab c = k) (h2 : Tryd.prog.funcs[k]? = some fn) (h3 : stripF Tryd.prog (cidOf cidTab) fn = some F) : ∃ fn, Tryd.prog.funcs[fidOf cidTab c]? = some fn ∧ stripF Tryd.prog (cidOf cidTab) fn = some F := ⟨fn, by rw [h1]; exact h2, h3⟩
theorem strips : ∀ p ∈ tab, ∃ fn, Tryd.prog.funcs[fidOf cidTab p.1]? = some fn ∧ stripF Tryd.prog (cidOf cidTab) fn = some p.2 := by
  simp only [tab, List.forall_mem_cons]
  exact ⟨fs (by kernel_rfl) Tryd.func104 s60, fs (by kernel_rfl) Tryd.func50 s118, fs (by kernel_rfl) Tryd.func44 s137, fs (by kernel_rfl) Tryd.func113 s138, fs (by kernel_rfl) Tryd.func70 s139, fs (by kernel_rfl) Tryd.func118 s143, fs (by kernel_rfl) Tryd.func46 s144, fs (by kernel_rfl) Tryd.func88 s158, fs (by kernel_rfl) Tryd.func108 s159, fs (by kernel_rfl) Tryd.func109 s160, fs (by kernel_rfl) Tryd.func110 s161, fs (by kernel_rfl) Tryd.func111 s162, fs (by kernel_rfl) Tryd.func75 s163, fs (by kernel_rfl) Tryd.func36 s166, fs (by kernel_rfl) Tryd.func156 s167, fs (by kernel_rfl) Tryd.func72 s168, fs (by kernel_rfl) Tryd.func37 s169, fs (by kernel_rfl) Tryd.func157 s170, fs (by kernel_rfl) Tryd.func160 s173, fs (by kernel_rfl) Tryd.func142 s180, fs (by kernel_rfl) Tryd.func151 s181, fs (by kernel_rfl) Tryd.func152 s182, fs (by kernel_rfl) Tryd.func126 s183, fs (by kernel_rfl) Tryd.func127 s184, fs (by kernel_rfl) Tryd.func153 s185, fs (by kernel_rfl) Tryd.func125 s186, fs (by kernel_rfl) Tryd.func89 s187, fs (by kernel_rfl) Tryd.func90 s188, fs (by kernel_rfl) Tryd.func170 s193, fs (by kernel_rfl) Tryd.func175 s194, fs (by kernel_rfl) Tryd.func164 s195, fs (by kernel_rfl) Tryd.func163 s196, fs (by kernel_rfl) Tryd.func162 s197, fs (by kernel_rfl) Tryd.func161 s198, fs (by kernel_rfl) Tryd.func121 s200, fs (by kernel_rfl) Tryd.func176 s201, fs (by kernel_rfl) Tryd.func159 s202, fs (by kernel_rfl) Tryd.func13 s223, fs (by kernel_rfl) Tryd.func14 s224, fs (by kernel_rfl) Tryd.func15 s225, fs (by kernel_rfl) Tryd.func27 s226, fs (by kernel_rfl) Tryd.func29 s228, fs (by kernel_rfl) Tryd.func31 s230, fs (by kernel_rfl) Tryd.func53 s231, fs (by kernel_rfl) Tryd.func32 s232, fs (by kernel_rfl) Tryd.func54 s233, fs (by kernel_rfl) Tryd.func33 s234, fs (by kernel_rfl) Tryd.func55 s235, fs (by kernel_rfl) Tryd.func71 s236, fs (by kernel_rfl) Tryd.func74 s237, fs (by kernel_rfl) Tryd.func78 s238, fs (by kernel_rfl) Tryd.func63 s239, fs (by kernel_rfl) Tryd.func79 s240, fs (by kernel_rfl) Tryd.func124 s241, fs (by kernel_rfl) Tryd.func129 s242, fs (by kernel_rfl) Tryd.func21 s275, fs (by kernel_rfl) Tryd.func22 s276, fs (by kernel_rfl) Tryd.func26 s287, fs (by kernel_rfl) Tryd.func25 s288, fs (by kernel_rfl) Tryd.func16 s289, fs (by kernel_rfl) Tryd.func18 s290, fs (by kernel_rfl) Tryd.func62 s303, fs (by kernel_rfl) Tryd.func68 s315, fs (by kernel_rfl) Tryd.func69 s316, fs (by kernel_rfl) Tryd.func65 s317, fs (by kernel_rfl) Tryd.func66 s318, fs (by kernel_rfl) Tryd.func67 s319, fs (by kernel_rfl) Tryd.func56 s320, fs (by kernel_rfl) Tryd.func59 s321, fs (by kernel_rfl) Tryd.func119 s331, fs (by kernel_rfl) Tryd.func122 s336, fs (by kernel_rfl) Tryd.func123 s341, fs (by kernel_rfl) Tryd.func120 s342, fs (by kernel_rfl) Tryd.func158 s349, fs (by kernel_rfl) Tryd.func5 s387, fun _ h => absurd h List.not_mem_nil⟩
theorem cid_ok : ∀ f, fidOf cidTab (cidOf cidTab f) = f := fid_cid (by kernel_rfl)
theorem mix : Tryd.prog.follows .mixedOrders = true := by kernel_rfl
theorem FT_ok : ∀ f F, FT f = some F → ∃ fn, Tryd.prog.funcs[fidOf cidTab f]? = some fn ∧ stripF Tryd.prog (cidOf cidTab) fn = some F := tab_ok strips
theorem orc_ok : ∀ f args s r, orc f = true → ans f args = some r → CallOK Tryd.prog (fidOf cidTab) GT f args [] s r := by
  intro f args s r hf hr; have key : ∀ sz bytes zero, FT f = some (cloneF sz bytes zero) → zero.length = sz → cloneIds.lookup f = some (sz, bytes) → CallOK Tryd.prog (fidOf cidTab) GT f args [] s r := by
    intro sz bytes zero h1 h2 h3; obtain ⟨fn, a1, a2⟩ := FT_ok f _ h1; unfold ans at hr; rw [h3] at hr; split at hr
    · rename_i e
      cases e
      split at hr
      · rename_i hc
        simp only [Bool.and_eq_true] at hc; cases hr
        exact clone_ok cid_ok mix a1 a2 h2 hc.1 hc.2
      · cases hr
    · cases hr
  unfold orc at hf; have hcase : f = 197 := by
    by_cases e0 : f = 197
    · exact e0
    have : cloneIds.lookup f = none := by simp [cloneIds, List.lookup, show (f == 197) = false from by simpa using e0]
    rw [this] at hf; cases hf
  subst hcase; exact key 3 24 [.s (.int .i64 0), .s (.int .i64 0), .s (.int .i64 0)] rfl rfl rfl
theorem go_ok (n f : Nat) (args : List V) (bs : List Box) (s : Sup) (r : Res) : go n f args bs s = some r → CallOK Tryd.prog (fidOf cidTab) GT f args bs s r :=
  run2_ok cid_ok mix FT_ok orc_ok n f args bs s r
end Go.VM
