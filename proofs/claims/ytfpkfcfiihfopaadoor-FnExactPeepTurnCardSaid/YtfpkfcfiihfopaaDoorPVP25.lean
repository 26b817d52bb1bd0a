/- The law of exactness for BackNet: its struct lies in cells. Conditions: none. -/
import Derived.Test.YtfpkfcfiihfopaaDoorPVK7

namespace Go.VM
set_option linter.unusedVariables false
set_option linter.unusedSimpArgs false
set_option maxHeartbeats 4000000
theorem agg_cells {row : List D} {N : Nat} {w : World} {v : Value} (h : (Kind.agg row).Rd N w v) : ∃ arr, v = .agg arr ∧ arr.size = row.length ∧ ∀ x ∈ arr.toList, x.oneCell' = true := by
 obtain ⟨_, arr, rfl, hs, hr⟩ := h; refine ⟨arr, rfl, hs, fun x hx => ?_⟩
 obtain ⟨i, hi, e⟩ := List.getElem_of_mem hx; have hi' : i < arr.size := by simpa using hi
 have hlt : i < row.length := by omega
 obtain ⟨y, hy, q⟩ := hr i row[i] (List.getElem?_eq_getElem hlt); have : y = x := by
  rw [Array.getElem?_eq_getElem hi'] at hy; rw [← e]; simpa using hy.symm
 subst this; exact q.oneCell
section
variable {P : Program} {fid : Nat → FuncId} {cid : FuncId → Nat} {w0 w : World}
end
end Go.VM
