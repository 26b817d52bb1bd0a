/- The value machine: a table of functions of which some lend their slices to what they call. Conditions: none. -/
import Derived.Test.YtfpkfcfiihfopaaDoorPVMC
import Derived.Test.YtfpkfcfiihfopaaDoorPVM30
import Derived.Test.YtfpkfcfiihfopaaDoorPVM40

namespace Go.VM
set_option linter.unusedVariables false
def brwEnd (bs : List Box) (r : Res) (news : List Box) : Option Res := if r.bs.isEmpty && r.v.flat then some ⟨r.v.ren (fun k => k + bs.length), bs, news⟩ else none
def brwCall (call : CallT) (f : Nat) (bs : List Box) (s : Sup) (args : List V) : Option Res :=
 if args.all (fun x => x.names.isEmpty) then bnd (call f args [] (fun k => s (2 * k + 1))) fun r => bnd (cleanL r.news) (brwEnd bs r) else none
theorem brw_at (call : CallT) (f : Nat) (args : List V) (bs : List Box) (s : Sup) :
 brw call f args bs s = bnd2 (frzA false (fun k => s (2 * k)) ⟨nth .dead bs, 0, []⟩ args) fun args' _ => brwCall call f bs s args' := by
 unfold brw; rw [show (fun b => bs.getD b .dead) = nth .dead bs from funext (nth_eq _ _)]; cases frzA false (fun k => s (2 * k)) ⟨nth .dead bs, 0, []⟩ args with
 | none => rfl
 | some p =>
  obtain ⟨a, z⟩ := p; simp only [bnd2_some, brwCall]; split
  · generalize call f a [] (fun k => s (2 * k + 1)) = x
    cases x with
    | none => rfl
    | some r =>
     simp only [bnd_some]; cases cleanL r.news with
     | none => rfl
     | some news => simp only [bnd_some, brwEnd]
  · rfl
@[simp] theorem cleanL_nil : cleanL [] = some [] := rfl
def lend (BR : Nat → Bool) (call : CallT) : CallT := fun g a b s => if BR g then brw call g a b s else call g a b s
def run2 (FT : Tab) (O : Nat → Bool) (A : Orc) (M : Nat → Mode) (SP BR : Nat → Bool) (M2 : Nat → Mode) (G : Nat → Option (List D)) : Nat → CallT
 | 0, _, _, _, _ => none
 | n + 1, f, args, bs, s => if O f then (match bs with | [] => A f args | _ => none) else
  match FT f with
  | some F => if SP f then runF (lend BR (run2 FT O A M SP BR M2 G n)) M2 G n f F args bs s else runF (run2 FT O A M SP BR M2 G n) M G n f F args bs s
  | none => none
section
variable {P : Program} {fid : Nat → FuncId} {cid : FuncId → Nat} {G : Nat → Option (List D)} {M M2 : Nat → Mode} {SP BR : Nat → Bool}
theorem lend_ok {call : CallT} (hcall : ∀ f args bs s r, call f args bs s = some r → CallOK P fid G f args bs s r) :
 ∀ f args bs s r, lend BR call f args bs s = some r → CallOK P fid G f args bs s r := by
 intro f args bs s r h; unfold lend at h; split at h
 · exact brw_ok hcall f args bs s r h
 · exact hcall f args bs s r h
theorem run2_ok {FT : Tab} {O : Nat → Bool} {A : Orc} (hcid : ∀ f, fid (cid f) = f) (hmix : P.follows .mixedOrders = true)
 (hFT : ∀ f F, FT f = some F → ∃ fn, P.funcs[fid f]? = some fn ∧ stripF P cid fn = some F)
 (hA : ∀ f args s r, O f = true → A f args = some r → CallOK P fid G f args [] s r) :
 ∀ (n f : Nat) (args : List V) (bs : List Box) (s : Sup) (r : Res), run2 FT O A M SP BR M2 G n f args bs s = some r → CallOK P fid G f args bs s r
 | 0, f, args, bs, s, r, h => by cases h
 | n + 1, f, args, bs, s, r, h => by
  simp only [run2] at h; split at h
  · rename_i ho
    split at h
    · exact hA f args s r ho h
    · cases h
  · split at h
    · rename_i F hF
      obtain ⟨fn, h1, h2⟩ := hFT f F hF; split at h
      · exact runF_ok hcid hmix (lend_ok (run2_ok hcid hmix hFT hA n)) h1 h2 h
      · exact runF_ok hcid hmix (run2_ok hcid hmix hFT hA n) h1 h2 h
    · cases h
end
end Go.VM
