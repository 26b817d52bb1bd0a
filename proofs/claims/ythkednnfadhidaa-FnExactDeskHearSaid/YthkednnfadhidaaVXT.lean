/- The value machine: the laws of exactness, run over the seat. Conditions: none. -/
import Derived.Test.YthkednnfadhidaaVMT
import Derived.Test.YthkednnfadhidaaVX1

namespace Go.VM
open Go.Proofs

theorem goM_ok (n f : Nat) (args : List V) (bs : List Box) (s : Sup) (r : Res) : goM n f args bs s = some r → CallOK Try.prog (fidOf cidTab) (fun _ => none) f args bs s r :=
  run_ok cid_ok mix FT_ok (fun _ _ _ _ h => by cases h) n f args bs s r
theorem goB_ok (n f : Nat) (args : List V) (bs : List Box) (s : Sup) (r : Res) : goB n f args bs s = some r → CallOK Try.prog (fidOf cidTab) (fun _ => none) f args bs s r := by
  unfold goB
  intro h
  split at h
  · split at h
    · rename_i F hF
      obtain ⟨fn, h1, h2⟩ := FT_ok f F hF
      exact runMv_ok cid_ok mix (go_ok n) h1 h2 h
    · cases h
  · exact go_ok n f args bs s r h
theorem goX_ok (n f : Nat) (args : List V) (bs : List Box) (s : Sup) (r : Res) : goX n f args bs s = some r → CallOK Try.prog (fidOf cidTab) (fun _ => none) f args bs s r := by
  unfold goX
  intro h
  split at h
  · exact goM_ok n f args bs s r h
  · split at h
    · exact go_ok n f args bs s r h
    · exact brw_ok (goB_ok n) f args bs s r h
theorem goT_ok {n f : Nat} (args : List V) (bs : List Box) (s : Sup) (r : Res) : goT n f args bs s = some r → CallOK Try.prog (fidOf cidTab) (fun _ => none) f args bs s r := by
  unfold goT
  intro h
  split at h
  · rename_i F hF
    obtain ⟨fn, h1, h2⟩ := FT_ok f F hF
    exact runF_ok cid_ok mix (goX_ok n) h1 h2 h
  · cases h
end Go.VM
