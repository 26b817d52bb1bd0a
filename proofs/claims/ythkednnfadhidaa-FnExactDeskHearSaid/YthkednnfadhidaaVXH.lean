/- The value machine: what a desk hears, run over the seat. Conditions: none. -/
import Derived.Test.YthkednnfadhidaaVXT
import Derived.Test.YthkednnfadhidaaVL10

namespace Go.VM
open Go.Proofs

theorem goQ_ok (n f : Nat) (args : List V) (bs : List Box) (s : Sup) (r : Res) : goQ n f args bs s = some r → CallOK Try.prog (fidOf cidTab) (fun _ => none) f args bs s r := by
  unfold goQ
  intro h
  split at h
  · rename_i e
    subst e
    obtain ⟨fn, h1, h2⟩ := FT_ok 92 F92 FT_92
    exact runMv_ok cid_ok mix (brw_ok (go_ok n)) h1 h2 h
  · exact go_ok n f args bs s r h
theorem goU_ok (n f : Nat) (args : List V) (bs : List Box) (s : Sup) (r : Res) : goU n f args bs s = some r → CallOK Try.prog (fidOf cidTab) (fun _ => none) f args bs s r := by
  unfold goU
  intro h
  split at h
  · exact goM_ok n f args bs s r h
  · split at h
    · exact go_ok n f args bs s r h
    · split at h
      · rename_i e
        subst e
        have h' : brw (fun f args bs s => if f = 51 then runMv (goQ n) modeQ (fun _ => none) n F51 args bs s else none) 51 args bs s = some r := by
          rw [← h]; unfold brw; simp only [if_true]
        refine brw_ok (fun f args bs s r h => ?_) 51 args bs s r h'
        split at h
        · rename_i e
          subst e
          obtain ⟨fn, h1, h2⟩ := FT_ok 51 F51 FT_51
          exact runMv_ok cid_ok mix (goQ_ok n) h1 h2 h
        · cases h
      · exact brw_ok (go_ok n) f args bs s r h
theorem goUT_ok {n f : Nat} (args : List V) (bs : List Box) (s : Sup) (r : Res) : goUT n f args bs s = some r → CallOK Try.prog (fidOf cidTab) (fun _ => none) f args bs s r := by
  unfold goUT
  intro h
  split at h
  · rename_i F hF
    obtain ⟨fn, h1, h2⟩ := FT_ok f F hF
    exact runF_ok cid_ok mix (goU_ok n) h1 h2 h
  · cases h
end Go.VM
