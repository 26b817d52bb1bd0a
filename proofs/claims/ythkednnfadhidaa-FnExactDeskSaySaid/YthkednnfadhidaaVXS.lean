/- The value machine: what a desk says, run over the seat. Conditions: none. -/
import Derived.Test.YthkednnfadhidaaVXT
import Derived.Test.YthkednnfadhidaaVL6

namespace Go.VM
open Go.Proofs

theorem goZ_ok (n f : Nat) (args : List V) (bs : List Box) (s : Sup) (r : Res) : goZ n f args bs s = some r → CallOK Try.prog (fidOf cidTab) (fun _ => none) f args bs s r := by
  unfold goZ
  intro h
  split at h
  · rename_i e
    subst e
    obtain ⟨fn, h1, h2⟩ := FT_ok 97 F97 FT_97
    exact runMv_ok cid_ok mix (go_ok n) h1 h2 h
  · exact go_ok n f args bs s r h
theorem goS_ok (n f : Nat) (args : List V) (bs : List Box) (s : Sup) (r : Res) : goS n f args bs s = some r → CallOK Try.prog (fidOf cidTab) (fun _ => none) f args bs s r := by
  unfold goS
  intro h
  split at h
  · rename_i e
    subst e
    obtain ⟨fn, h1, h2⟩ := FT_ok 79 F79 FT_79
    exact runMv_ok cid_ok mix (goZ_ok n) h1 h2 h
  · exact go_ok n f args bs s r h
theorem goE_ok (n f : Nat) (args : List V) (bs : List Box) (s : Sup) (r : Res) : goE n f args bs s = some r → CallOK Try.prog (fidOf cidTab) (fun _ => none) f args bs s r := by
  unfold goE
  intro h
  split at h
  · exact goM_ok n f args bs s r h
  · split at h
    · exact go_ok n f args bs s r h
    · split at h
      · rename_i e
        subst e
        have h' : brw (fun f args bs s => if f = 35 then runMv (goS n) mode (fun _ => none) n F35 args bs s else none) 35 args bs s = some r := by
          rw [← h]; unfold brw; simp only [if_true]
        refine brw_ok (fun f args bs s r h => ?_) 35 args bs s r h'
        split at h
        · rename_i e
          subst e
          obtain ⟨fn, h1, h2⟩ := FT_ok 35 F35 FT_35
          exact runMv_ok cid_ok mix (goS_ok n) h1 h2 h
        · cases h
      · exact brw_ok (go_ok n) f args bs s r h
theorem goET_ok {n f : Nat} (args : List V) (bs : List Box) (s : Sup) (r : Res) : goET n f args bs s = some r → CallOK Try.prog (fidOf cidTab) (fun _ => none) f args bs s r := by
  unfold goET
  intro h
  split at h
  · rename_i F hF
    obtain ⟨fn, h1, h2⟩ := FT_ok f F hF
    exact runF_ok cid_ok mix (goE_ok n) h1 h2 h
  · cases h
end Go.VM
