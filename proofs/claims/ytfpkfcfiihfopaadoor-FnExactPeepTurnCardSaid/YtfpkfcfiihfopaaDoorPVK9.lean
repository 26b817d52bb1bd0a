/- Regions that run in an order that is drawn. Conditions: none. -/
import Derived.Test.YtfpkfcfiihfopaaDoorPVM52
import Derived.Test.YtfpkfcfiihfopaaDoorPVK7

namespace Go.VM
set_option linter.unusedVariables false
theorem mregs_cons {P : Program} {fid : Nat → FuncId} {N : Nat} {o : RO} {r : List RO} {τ : Nat → Value} {w : World} {K : (Nat → Value) → World → Prop} (h : mregs P fid N (o :: r) τ w K) : mregs P fid N [o] τ w fun τ' w' => mregs P fid N r τ' w' K := by
 simp only [mregs] at h ⊢; exact h
theorem mdr_eq {P : Program} {fid : Nat → FuncId} {N : Nat} {o0 o1 o2 o3 o4 : RO} {τ : Nat → Value} {w : World} {K : (Nat → Value) → World → Prop}
 (h1 : mregs P fid N [o0, o1, o2, o3, o4] τ w K) (h2 : mregs P fid N [o1] τ w fun τ' w' => mregs P fid N [o0, o2, o3, o4] τ' w' K ∧ mregs P fid N [o2, o0, o3, o4] τ' w' K) : mdr P fid N [o0, o1, o2, o3, o4] [0, 0, 2, 7, 15] 5 (List.range 5) τ w K := by
 have c0 : List.range 5 = [0, 1, 2, 3, 4] := rfl; rw [c0]; intro i hi hp; simp only [List.mem_cons, List.not_mem_nil, or_false] at hi; rcases hi with rfl | rfl | rfl | rfl | rfl
 · refine mregs_mono _ (fun τ' w' h1 => ?_) (mregs_cons h1)
   have ce : [0, 1, 2, 3, 4].erase 0 = [1, 2, 3, 4] := by decide
   show mdr _ _ _ _ _ _ ([0, 1, 2, 3, 4].erase 0) _ _ _
   rw [ce]; intro i hi hp; simp only [List.mem_cons, List.not_mem_nil, or_false] at hi; rcases hi with rfl | rfl | rfl | rfl
   · refine mregs_mono _ (fun τ' w' h1 => ?_) (mregs_cons h1)
     have ce : [1, 2, 3, 4].erase 1 = [2, 3, 4] := by decide
     show mdr _ _ _ _ _ _ ([1, 2, 3, 4].erase 1) _ _ _
     rw [ce]; intro i hi hp; simp only [List.mem_cons, List.not_mem_nil, or_false] at hi; rcases hi with rfl | rfl | rfl
     · refine mregs_mono _ (fun τ' w' h1 => ?_) (mregs_cons h1)
       have ce : [2, 3, 4].erase 2 = [3, 4] := by decide
       show mdr _ _ _ _ _ _ ([2, 3, 4].erase 2) _ _ _
       rw [ce]; intro i hi hp; simp only [List.mem_cons, List.not_mem_nil, or_false] at hi; rcases hi with rfl | rfl
       · refine mregs_mono _ (fun τ' w' h1 => ?_) (mregs_cons h1)
         have ce : [3, 4].erase 3 = [4] := by decide
         show mdr _ _ _ _ _ _ ([3, 4].erase 3) _ _ _
         rw [ce]; intro i hi hp; simp only [List.mem_cons, List.not_mem_nil, or_false] at hi; subst hi; exact mregs_mono _ (fun τ' w' h => h) h1
       · exact absurd (hp 3 (by decide) (by decide)) (by decide)
     · exact absurd (hp 2 (by decide) (by decide)) (by decide)
     · exact absurd (hp 2 (by decide) (by decide)) (by decide)
   · exact absurd (hp 1 (by decide) (by decide)) (by decide)
   · exact absurd (hp 1 (by decide) (by decide)) (by decide)
   · exact absurd (hp 1 (by decide) (by decide)) (by decide)
 · refine mregs_mono _ (fun τ' w' hh => ?_) h2
   obtain ⟨h2, h3⟩ := hh; have ce : [0, 1, 2, 3, 4].erase 1 = [0, 2, 3, 4] := by decide
   show mdr _ _ _ _ _ _ ([0, 1, 2, 3, 4].erase 1) _ _ _
   rw [ce]; intro i hi hp; simp only [List.mem_cons, List.not_mem_nil, or_false] at hi; rcases hi with rfl | rfl | rfl | rfl
   · refine mregs_mono _ (fun τ' w' h2 => ?_) (mregs_cons h2)
     have ce : [0, 2, 3, 4].erase 0 = [2, 3, 4] := by decide
     show mdr _ _ _ _ _ _ ([0, 2, 3, 4].erase 0) _ _ _
     rw [ce]; intro i hi hp; simp only [List.mem_cons, List.not_mem_nil, or_false] at hi; rcases hi with rfl | rfl | rfl
     · refine mregs_mono _ (fun τ' w' h2 => ?_) (mregs_cons h2)
       have ce : [2, 3, 4].erase 2 = [3, 4] := by decide
       show mdr _ _ _ _ _ _ ([2, 3, 4].erase 2) _ _ _
       rw [ce]; intro i hi hp; simp only [List.mem_cons, List.not_mem_nil, or_false] at hi; rcases hi with rfl | rfl
       · refine mregs_mono _ (fun τ' w' h2 => ?_) (mregs_cons h2)
         have ce : [3, 4].erase 3 = [4] := by decide
         show mdr _ _ _ _ _ _ ([3, 4].erase 3) _ _ _
         rw [ce]; intro i hi hp; simp only [List.mem_cons, List.not_mem_nil, or_false] at hi; subst hi; exact mregs_mono _ (fun τ' w' h => h) h2
       · exact absurd (hp 3 (by decide) (by decide)) (by decide)
     · exact absurd (hp 2 (by decide) (by decide)) (by decide)
     · exact absurd (hp 2 (by decide) (by decide)) (by decide)
   · refine mregs_mono _ (fun τ' w' h3 => ?_) (mregs_cons h3)
     have ce : [0, 2, 3, 4].erase 2 = [0, 3, 4] := by decide
     show mdr _ _ _ _ _ _ ([0, 2, 3, 4].erase 2) _ _ _
     rw [ce]; intro i hi hp; simp only [List.mem_cons, List.not_mem_nil, or_false] at hi; rcases hi with rfl | rfl | rfl
     · refine mregs_mono _ (fun τ' w' h3 => ?_) (mregs_cons h3)
       have ce : [0, 3, 4].erase 0 = [3, 4] := by decide
       show mdr _ _ _ _ _ _ ([0, 3, 4].erase 0) _ _ _
       rw [ce]; intro i hi hp; simp only [List.mem_cons, List.not_mem_nil, or_false] at hi; rcases hi with rfl | rfl
       · refine mregs_mono _ (fun τ' w' h3 => ?_) (mregs_cons h3)
         have ce : [3, 4].erase 3 = [4] := by decide
         show mdr _ _ _ _ _ _ ([3, 4].erase 3) _ _ _
         rw [ce]; intro i hi hp; simp only [List.mem_cons, List.not_mem_nil, or_false] at hi; subst hi; exact mregs_mono _ (fun τ' w' h => h) h3
       · exact absurd (hp 3 (by decide) (by decide)) (by decide)
     · exact absurd (hp 0 (by decide) (by decide)) (by decide)
     · exact absurd (hp 0 (by decide) (by decide)) (by decide)
   · exact absurd (hp 0 (by decide) (by decide)) (by decide)
   · exact absurd (hp 0 (by decide) (by decide)) (by decide)
 · exact absurd (hp 1 (by decide) (by decide)) (by decide)
 · exact absurd (hp 0 (by decide) (by decide)) (by decide)
 · exact absurd (hp 0 (by decide) (by decide)) (by decide)
end Go.VM

/- The laws of exactness over kinds of data: structs as arguments and results, all in cells. Conditions: none. -/
namespace Go.VM
set_option linter.unusedVariables false
set_option linter.unusedSimpArgs false
set_option maxHeartbeats 4000000
theorem mbox_cell {w : World} {n : Nat} {arr : Array Value} {K : Value → World → Prop} (hs : arr.size = n)
 (hK : ∀ w', Tou Old w w' → CellA w' w.heap.size arr → K (.pointer (some ⟨w.heap.size, 0, none⟩)) w') : mbox n w K (some (.agg arr)) :=
 ⟨by simpa [Value.cells] using hs, fun t => hK _ (alloc_tou w arr t) ⟨by show _ < (w.heap.push _).size; simp, fun j => alloc_cell w arr t j⟩⟩
theorem tou_drawn (w : World) : Tou Old w { w with drawn := w.drawn + 1 } := ⟨Nat.le_refl _, rfl, rfl, rfl, fun _ _ _ => rfl, fun _ h => h⟩
section
variable {P : Program} {fid : Nat → FuncId} {cid : FuncId → Nat}
theorem mwp_testd {N n t : Nat} {b : Bool} {ops : List RO} {bf : List Nat} {rest : C} {τ : Nat → Value} {w : World} {K : Ex → (Nat → Value) → World → Prop} {Q : (Nat → Value) → Prop} (hmix : P.follows .mixedOrders = true)
 (hd : ∀ K', (∀ τ' w', τ' t = .bool false → Q τ' → Tou Old w w' → K' τ' w') → mdr P fid N ops bf ops.length (List.range ops.length) τ { w with drawn := w.drawn + 1 } K')
 (hr : ∀ τ' w', Q τ' → Tou Old w w' → mwp P fid N n rest τ' w' K) : mwp P fid N n (.seq (.seq (.dreg ops bf) (.cond (.t t) (sR [oT 2 b] .ret) .skip)) rest) τ w K := by
 simp only [mwp]; refine ⟨hmix, hd _ fun τ' w' h1 h2 h3 => ?_⟩
 refine ⟨fun _ => ⟨false, by simp [mval, h1], by simp, fun _ => ⟨fun _ => hr τ' w' h2 h3, by simp⟩⟩, by simp⟩
end
end Go.VM
