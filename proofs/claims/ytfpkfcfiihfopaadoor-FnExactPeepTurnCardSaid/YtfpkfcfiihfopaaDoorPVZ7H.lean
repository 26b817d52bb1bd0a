/- Copies of the program's, with stamps: what is handed out is new, every slice under a stamp of its own. Conditions: none. -/
import Derived.Test.YtfpkfcfiihfopaaDoorPVP2
import Derived.Test.YtfpkfcfiihfopaaDoorPVY8
import Derived.Test.YtfpkfcfiihfopaaDoorPVT1
import Derived.Test.YtfpkfcfiihfopaaDoorPVZ1

namespace Go.VM
set_option linter.unusedSimpArgs false
set_option linter.unusedVariables false
set_option maxHeartbeats 16000000
theorem er_argRows (l : List Arg) : erR (argRows l) = argRows l := by
 induction l with
 | nil => rfl
 | cons a r ih => simp only [argRows, List.map_cons, erR] at ih ⊢; rw [ih]; simp [erL, D.er, Arg.row]
theorem sts_argRows (l : List Arg) : stsR (argRows l) = [] := by
 induction l with
 | nil => rfl
 | cons a r ih => simp only [argRows, List.map_cons, stsR] at ih ⊢; rw [ih]; simp [stsL_c, stsL_n, sts_s, Arg.row]
theorem cp_elem {n : Nat} (hn : 4 ≤ n) (e : El) (hl : e.as.length < 2 ^ 30) : MkEl n 163 [elX e] e := by
 obtain ⟨n, rfl⟩ : ∃ k, n = k + 1 := ⟨n - 1, by omega⟩; obtain ⟨op, as⟩ := e; have w : ∀ s, goS n 186 [.w (asW as)] [] s = some ⟨.w (.own 0 0 as.length (some as.length)), [], [.row none 3 (argRows as) 0]⟩ := fun s => by rw [gos_go rfl]; exact run_cloneA (n := n) (by omega) as hl s
 refine ⟨fun s => restS (restS s) 0, fun _ => argRows as, fun s => ⟨?_, er_argRows as, fun hi => ?_⟩⟩
 · simp [gos_of FT_163 rfl, F163, w]
 · exact Past.lastL (by rw [sts_argRows]; exact (past_0 hi).weak.weak) 0
set_option maxHeartbeats 4000000
set_option maxHeartbeats 8000000
end Go.VM
