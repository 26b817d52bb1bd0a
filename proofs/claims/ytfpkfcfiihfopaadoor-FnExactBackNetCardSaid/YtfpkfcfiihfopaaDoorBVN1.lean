/- The laws of exactness, by the shape of their code: one slice in, one slice out. Conditions: none. -/
import Derived.Test.YtfpkfcfiihfopaaDoorBVP6
import Derived.Test.YtfpkfcfiihfopaaDoorBVM31
import Derived.Test.YtfpkfcfiihfopaaDoorBVM50
import Derived.Test.YtfpkfcfiihfopaaDoorBVT1

namespace Go.VM
set_option linter.unusedVariables false
set_option linter.unusedSimpArgs false
set_option maxHeartbeats 4000000
section
variable {P : Program} {fid : Nat → FuncId} {cid : FuncId → Nat}
theorem mwp_sR {N n : Nat} {ops : List RO} {rest : C} {τ : Nat → Value} {w : World} {K : Ex → (Nat → Value) → World → Prop} (h : mregs P fid N ops τ w fun τ' w' => mwp P fid N n rest τ' w' K) : mwp P fid N n (sR ops rest) τ w K := by
 simp only [sR, mwp]; exact mregs_mono ops (fun τ' w' h => ⟨fun _ => h, fun e => absurd rfl e⟩) h
theorem mwp_test {N n t : Nat} {b : Bool} {ops : List RO} {rest : C} {τ : Nat → Value} {w : World} {K : Ex → (Nat → Value) → World → Prop} (h : mregs P fid N ops τ w fun τ' w' => τ' t = .bool false ∧ mwp P fid N n rest τ' w' K) :
 mwp P fid N n (.seq (sR ops (.cond (.t t) (sR [oT 2 b] .ret) .skip)) rest) τ w K := by
 unfold mwp; refine mwp_sR (mregs_mono ops (fun τ' w' ⟨h1, h2⟩ => ?_) h)
 unfold mwp; exact ⟨false, by simp [mval, h1], fun h => (by cases h), fun _ => ⟨fun _ => h2, fun h => absurd rfl h⟩⟩
theorem mwp_out {N n t : Nat} {b : Bool} {ops : List RO} {rest : C} {τ : Nat → Value} {w : World} {K : Ex → (Nat → Value) → World → Prop} (hN : 2 < N) (h : mregs P fid N ops τ w fun τ' w' => τ' t = .bool true ∧ K .ret (upd τ' 2 (.bool b)) w') :
 mwp P fid N n (.seq (sR ops (.cond (.t t) (sR [oT 2 b] .ret) .skip)) rest) τ w K := by
 unfold mwp; refine mwp_sR (mregs_mono ops (fun τ' w' ⟨h1, h2⟩ => ?_) h)
 unfold mwp; refine ⟨true, by simp [mval, h1], fun _ => mwp_sR ?_, fun h => (by cases h)⟩
 simp only [oT, oo, xb, mregs, mstep, mval, mmv, mput, if_pos hN]; exact ⟨_, rfl, fun h => (by cases h), fun _ => h2⟩
theorem stay {Q : (Nat → Value) → Prop} {N n : Nat} {c : C} {τ : Nat → Value} {w : World} {K : Ex → (Nat → Value) → World → Prop} (h : Q τ) (k : ∀ τ, Q τ → mwp P fid N n c τ w K) : mwp P fid N n c τ w K := k τ h
structure Sound (P : Program) (fid : Nat → FuncId) (w0 : World) (a : Value) (rowsA : List (List D)) (szA toA eqA markA : Nat) : Prop where
 to : ∀ w, Tou (fun b => w0.heap.size ≤ b) w0 w → MC P fid toA [a] w fun v w' => ∃ ζ st R, New w w' ζ v (.l st R) ∧ erR R = rowsA
 eq : ∀ N M u v w, Tou (fun b => w0.heap.size ≤ b) w0 w → Rd N w u (.l 0 rowsA) → Rd M w v (.l 0 rowsA) → MC P fid eqA [u, v] w fun r w' => r = .bool true ∧ Tou Old w w'
 mark : ∀ R, erR R = rowsA → MarkOK P fid markA R
mutual
theorem D.ct_er : ∀ d : D, d.er.ct = d.ct
 | .s _ => rfl
 | .l _ rows => by simp only [D.er, D.ct]; exact ctR_er rows
theorem ctL_er : ∀ l : List D, ctL (erL l) = ctL l
 | [] => rfl
 | x :: r => by simp only [erL, ctL]; rw [D.ct_er x, ctL_er r]
theorem ctR_er : ∀ l : List (List D), ctR (erR l) = ctR l
 | [] => rfl
 | x :: r => by simp only [erR, ctR]; rw [ctL_er x, ctR_er r]
end
theorem Tou.old {S : Nat → Prop} {a b : World} (h : Tou Old a b) : Tou S a b := h.mono fun _ h => h.elim
theorem New.rd {w w' : World} {ζ : Nat → Option Nat} {v : Value} {st : Nat} {R : List (List D)} {rows : List (List D)} (h : New w w' ζ v (.l st R)) (e : erR R = rows) : Rd w'.heap.size w' v (.l 0 rows) := by
 subst e; exact h.own.read
theorem Own.rd {w : World} {ζ : Nat → Option Nat} {v : Value} {st : Nat} {R : List (List D)} {rows : List (List D)} (h : Own w ζ v (.l st R)) (e : erR R = rows) : Rd w.heap.size w v (.l 0 rows) := by
 subst e; exact h.read
end
end Go.VM

/- The laws of exactness, by the shape of their code: one slice in, a slice and a scalar out. Conditions: none. -/
namespace Go.VM
set_option linter.unusedVariables false
set_option linter.unusedSimpArgs false
set_option maxHeartbeats 4000000
section
variable {P : Program} {fid : Nat → FuncId} {cid : FuncId → Nat}
end
end Go.VM

/- The stamped machine of the seat: which functions put stamps on what they make. Conditions: none. -/
namespace Go.VM
def stP : List Nat := [237, 228, 229, 221, 252, 249, 245, 290, 321, 163, 147, 139, 125, 330, 120, 306]
def stH : List Nat := [273, 297, 271, 298, 285, 105, 108, 279, 335, 287, 375]
def isS (f : Nat) : Bool := stP.contains f || stH.contains f
def modeT (f : Nat) : Mode := { stamp := stP.contains f, inout := inouts.contains f }
def goS (n : Nat) : CallT := runS FT isS go modeT GT n
theorem gos_of {f : Nat} {F : Fn} (hF : FT f = some F) (hs : isS f = true := by rfl) {n : Nat} {args : List V} {bs : List Box} {s : Sup} : goS (n + 1) f args bs s = runF (goS n) modeT GT n f F args bs s := by
 unfold goS; simp only [runS, hF, hs, if_true]
theorem gos_go {f : Nat} (hs : isS f = false) {n : Nat} : goS n f = go n f := by
 funext args bs s
 unfold goS; cases n <;> simp only [runS, hs, Bool.false_eq_true, if_false]
theorem execS_go {N n m : Nat} {c : C} {st : St} (hc : c.calls (fun f => !isS f && ((modeT f).inout == (mode f).inout)) = true) : execC (goS m) modeT GT false N n c st = execC (go m) mode GT false N n c st := by
 refine execC_like (p := fun f => !isS f && ((modeT f).inout == (mode f).inout)) (fun f hf => ?_) N n c st hc
 simp only [Bool.and_eq_true, Bool.not_eq_true', beq_iff_eq] at hf; exact ⟨gos_go hf.1, hf.2⟩
attribute [simp] modeT stP
end Go.VM

/- Ladders: which operands, contacts, coils, nets and arms are right, and their normal form; in plain words. Conditions: none. -/
namespace Go.VM
set_option linter.unusedVariables false
set_option linter.unusedSimpArgs false
def devSize (k : Int) : Int :=
 if k = 1 then 32 else if k = 2 then 32 else if k = 3 then 64 else if k = 4 then 16 else if k = 5 then 32 else if k = 6 then 5 else if k = 7 then 16 else if k = 8 then 16 else if k = 9 then 32 else if k = 10 then 16 else 0
def Arg.ok (a : Arg) : Bool :=
 if a.k = 11 then decide (-32768 ≤ a.n ∧ a.n ≤ 32767 ∧ a.p = 0)
 else if a.k = 12 then decide (-999999999 ≤ a.n ∧ a.n ≤ 999999999 ∧ 1 ≤ a.p ∧ a.p ≤ 6 ∧ (a.p = 1 ∨ a.n.tmod 10 ≠ 0))
 else if a.k = 13 then decide (0 ≤ a.n ∧ a.n ≤ 3 ∧ a.p = 0)
 else decide (0 ≤ a.n ∧ a.n < devSize a.k ∧ a.p = 0)
def Arg.isK (a : Arg) (l : List Int) : Bool := a.ok && l.contains a.k
def Arg.bit (a : Arg) : Bool := a.isK [1, 2, 3, 4, 6, 7, 8]
def Arg.whole (a : Arg) : Bool := a.isK [7, 8, 9, 11]
def Arg.real (a : Arg) : Bool := a.isK [10, 12, 13]
def arity (op : Int) : Int :=
 if op = 1 ∨ op = 2 ∨ (21 ≤ op ∧ op ≤ 23) ∨ op = 25 then 1 else if 31 ≤ op ∧ op ≤ 35 then 3 else if (3 ≤ op ∧ op ≤ 10) ∨ (24 ≤ op ∧ op ≤ 37) then 2 else 0
def El.contact (e : El) : Bool := match e.as with
 | [a] => decide (e.op = 1 ∨ e.op = 2) && a.bit
 | [a, b] => if e.op = 3 ∨ e.op = 4 then a.bit && b.isK [5] else decide (5 ≤ e.op ∧ e.op ≤ 10) && (a.whole && b.whole || a.real && b.real)
 | _ => false
def Arg.preset (b : Arg) : Bool := b.isK [11] && decide (0 ≤ b.n)
def El.coil (e : El) : Bool := match e.as with
 | [a] => if e.op = 21 then a.isK [2, 3] else if e.op = 22 then a.isK [2, 3, 4] else if e.op = 23 then a.isK [2, 3, 4, 7, 8] else if e.op = 25 then a.isK [4] else false
 | [a, b] => if e.op = 24 then a.isK [2, 3] && b.isK [5] else if 26 ≤ e.op ∧ e.op ≤ 28 then a.isK [7] && b.preset else if e.op = 29 then a.isK [8] && b.preset
  else if e.op = 30 then a.isK [9] && b.whole || a.isK [10] && b.real else if e.op = 36 then a.isK [10] && b.whole else if e.op = 37 then a.isK [9] && b.real else false
 | [a, b, c] => if 31 ≤ e.op ∧ e.op ≤ 34 then a.isK [9] && (b.whole && c.whole) || a.isK [10] && (b.real && c.real) else if e.op = 35 then a.isK [9] && (b.whole && c.whole) else false
 | _ => false
def Net.kind : Net → Int | .mk k _ _ _ => k
def Net.op : Net → Int | .mk _ o _ _ => o
def Net.as : Net → List Arg | .mk _ _ a _ => a
def Net.kids : Net → List Net | .mk _ _ _ ks => ks
mutual
def Net.size : Net → Nat
 | .mk _ _ _ ks => 1 + netsSize ks
def netsSize : List Net → Nat
 | [] => 0
 | n :: r => n.size + netsSize r
end
def Net.none (n : Net) : Bool := decide (n.kind = 0 ∧ n.op = 0 ∧ n.as = [] ∧ n.kids.length = 0)
mutual
def Net.wrong : Net → Int
 | .mk k op as ks => if k = 1 then (if 0 < ks.length then 2 else if El.contact ⟨op, as⟩ then 0 else 3)
  else if ¬ (2 ≤ k ∧ k ≤ 4) ∨ ¬ (op = 0 ∧ as = []) ∨ ks.length = 0 ∨ (k = 4 ∧ 1 < ks.length) then 2 else netsWrong ks
def netsWrong : List Net → Int
 | [] => 0
 | n :: r => if n.wrong ≠ 0 then n.wrong else netsWrong r
end
theorem netsWrong_mem : ∀ {l : List Net}, netsWrong l = 0 → ∀ n ∈ l, n.wrong = 0
 | [], h, n, hn => by cases hn
 | m :: r, h, n, hn => by
  unfold netsWrong at h; split at h
  · rename_i hne; exact absurd h hne
  · rename_i hz
    rcases List.mem_cons.1 hn with rfl | hn
    · simpa using hz
    · exact netsWrong_mem h n hn
theorem netsWrong_of : ∀ {l : List Net}, (∀ n ∈ l, n.wrong = 0) → netsWrong l = 0
 | [], h => by simp [netsWrong]
 | m :: r, h => by
  unfold netsWrong; rw [if_neg (by simp [h m (List.mem_cons_self ..)])]; exact netsWrong_of fun n hn => h n (List.mem_cons_of_mem _ hn)
def Net.open (k : Int) (x : Net) : List Net := if x.kind = k then x.kids else [x]
/- As a normal form is. -/
mutual
def Net.wn : Net → Bool
 | .mk k op as ks => netsWn k ks && decide (k = 1 ∨ k = 4 ∨ 1 < ks.length)
def netsWn (k : Int) : List Net → Bool
 | [] => true
 | n :: r => !(decide (n.kind = k ∧ k ≠ 4)) && n.wn && netsWn k r
end
theorem netsWn_all (k : Int) : ∀ l : List Net, netsWn k l = true ↔ ∀ n ∈ l, ¬ (n.kind = k ∧ k ≠ 4) ∧ n.wn = true
 | [] => by simp [netsWn]
 | n :: r => by
  simp only [netsWn, netsWn_all k r, List.forall_mem_cons, Bool.and_eq_true, Bool.not_eq_true', decide_eq_false_iff_not]
theorem right_kids {k op : Int} {as : List Arg} {ks : List Net} (h : Net.wrong (.mk k op as ks) = 0) (hk : k ≠ 1) :
 (k = 2 ∨ k = 3 ∨ k = 4) ∧ op = 0 ∧ as = [] ∧ ks ≠ [] ∧ (k = 4 → ks.length = 1) ∧ ∀ n ∈ ks, n.wrong = 0 := by
 unfold Net.wrong at h; rw [if_neg hk] at h; split at h
 · simp at h
 · rename_i hc
   simp only [not_or, Decidable.not_not] at hc; obtain ⟨h1, h2, h3, h4⟩ := hc; refine ⟨by omega, h2.1, h2.2, fun e => h3 (by simp [e]), fun e => ?_, netsWrong_mem h⟩
   have : ¬ 1 < ks.length := fun hl => h4 ⟨e, hl⟩
   omega
theorem right_mk {k : Int} {ks : List Net} (hk : k = 2 ∨ k = 3 ∨ k = 4) (h0 : ks ≠ []) (h1 : k = 4 → ks.length = 1) (h : ∀ n ∈ ks, n.wrong = 0) : Net.wrong (.mk k 0 [] ks) = 0 := by
 unfold Net.wrong; rw [if_neg (by omega), if_neg ?_]
 · exact netsWrong_of h
 · have : ks.length ≠ 0 := fun e => h0 (List.eq_nil_of_length_eq_zero e)
   simp only [not_or, Decidable.not_not]; exact ⟨by omega, by simp, this, fun ⟨e, hl⟩ => by have := h1 e; omega⟩
theorem netsSize_append : ∀ l m : List Net, netsSize (l ++ m) = netsSize l + netsSize m
 | [], m => by simp [netsSize]
 | n :: r, m => by simp [netsSize, netsSize_append r m]; omega
/- What is right stays right in its normal form, which is as a normal form is, and not larger. -/
/- What is right and as a normal form is, is its own normal form. -/
end Go.VM
