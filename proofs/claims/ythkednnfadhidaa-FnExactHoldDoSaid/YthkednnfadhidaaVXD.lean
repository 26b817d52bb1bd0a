/- The value machine: one write to a store, run over the seat. Conditions: none. -/
import Derived.Test.YthkednnfadhidaaVXT
import Derived.Test.YthkednnfadhidaaVL5

namespace Go.VM
open Go.Proofs

theorem goY_ok (n f : Nat) (args : List V) (bs : List Box) (s : Sup) (r : Res) : goY n f args bs s = some r → CallOK Try.prog (fidOf cidTab) (fun _ => none) f args bs s r := by
  unfold goY
  intro h
  split at h
  · rename_i e
    subst e
    obtain ⟨fn, h1, h2⟩ := FT_ok 12 F12 FT_12
    exact runMv_ok cid_ok mix (go_ok n) h1 h2 h
  · exact go_ok n f args bs s r h
theorem goD_ok (n f : Nat) (args : List V) (bs : List Box) (s : Sup) (r : Res) : goD n f args bs s = some r → CallOK Try.prog (fidOf cidTab) (fun _ => none) f args bs s r := by
  unfold goD
  intro h
  split at h
  · exact goM_ok n f args bs s r h
  · split at h
    · exact go_ok n f args bs s r h
    · split at h
      · rename_i e
        subst e
        have h' : brw (fun f args bs s => if f = 25 then runMv (goY n) mode (fun _ => none) n F25 args bs s else none) 25 args bs s = some r := by
          rw [← h]; unfold brw; simp only [if_true]
        refine brw_ok (fun f args bs s r h => ?_) 25 args bs s r h'
        split at h
        · rename_i e
          subst e
          obtain ⟨fn, h1, h2⟩ := FT_ok 25 F25 FT_25
          exact runMv_ok cid_ok mix (goY_ok n) h1 h2 h
        · cases h
      · exact brw_ok (go_ok n) f args bs s r h
theorem goDT_ok {n f : Nat} (args : List V) (bs : List Box) (s : Sup) (r : Res) : goDT n f args bs s = some r → CallOK Try.prog (fidOf cidTab) (fun _ => none) f args bs s r := by
  unfold goDT
  intro h
  split at h
  · rename_i F hF
    obtain ⟨fn, h1, h2⟩ := FT_ok f F hF
    exact runF_ok cid_ok mix (goD_ok n) h1 h2 h
  · cases h
end Go.VM
