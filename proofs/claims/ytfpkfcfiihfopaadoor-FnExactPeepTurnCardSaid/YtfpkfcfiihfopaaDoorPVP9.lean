/- The laws of exactness, by the shape of their code: one slice in, one slice out. Conditions: none. -/
import Derived.Test.YtfpkfcfiihfopaaDoorPVP6
import Derived.Test.YtfpkfcfiihfopaaDoorPVP18

namespace Go.VM
set_option linter.unusedVariables false
set_option linter.unusedSimpArgs false
set_option maxHeartbeats 4000000
section
variable {P : Program} {fid : Nat → FuncId} {cid : FuncId → Nat}
theorem mwp_sR {N n : Nat} {ops : List RO} {rest : C} {τ : Nat → Value} {w : World} {K : Ex → (Nat → Value) → World → Prop} (h : mregs P fid N ops τ w fun τ' w' => mwp P fid N n rest τ' w' K) : mwp P fid N n (sR ops rest) τ w K := by
 simp only [sR, mwp]; exact mregs_mono ops (fun τ' w' h => ⟨fun _ => h, fun e => absurd rfl e⟩) h
theorem mwp_test {N n t : Nat} {b : Bool} {ops : List RO} {rest : C} {τ : Nat → Value} {w : World} {K : Ex → (Nat → Value) → World → Prop} (h : mregs P fid N ops τ w fun τ' w' => τ' t = .bool false ∧ mwp P fid N n rest τ' w' K) :
 mwp P fid N n (.seq (sR ops (.cond (.t t) (sR [oT 2 b] .ret) .skip)) rest) τ w K := by
 unfold mwp; refine mwp_sR (mregs_mono ops (fun τ' w' ⟨h1, h2⟩ => ?_) h)
 unfold mwp; exact ⟨false, by simp [mval, h1], fun h => (by cases h), fun _ => ⟨fun _ => h2, fun h => absurd rfl h⟩⟩
theorem mwp_out {N n t : Nat} {b : Bool} {ops : List RO} {rest : C} {τ : Nat → Value} {w : World} {K : Ex → (Nat → Value) → World → Prop} (hN : 2 < N) (h : mregs P fid N ops τ w fun τ' w' => τ' t = .bool true ∧ K .ret (upd τ' 2 (.bool b)) w') :
 mwp P fid N n (.seq (sR ops (.cond (.t t) (sR [oT 2 b] .ret) .skip)) rest) τ w K := by
 unfold mwp; refine mwp_sR (mregs_mono ops (fun τ' w' ⟨h1, h2⟩ => ?_) h)
 unfold mwp; refine ⟨true, by simp [mval, h1], fun _ => mwp_sR ?_, fun h => (by cases h)⟩
 simp only [oT, oo, xb, mregs, mstep, mval, mmv, mput, if_pos hN]; exact ⟨_, rfl, fun h => (by cases h), fun _ => h2⟩
theorem stay {Q : (Nat → Value) → Prop} {N n : Nat} {c : C} {τ : Nat → Value} {w : World} {K : Ex → (Nat → Value) → World → Prop} (h : Q τ) (k : ∀ τ, Q τ → mwp P fid N n c τ w K) : mwp P fid N n c τ w K := k τ h
mutual
theorem D.ct_er : ∀ d : D, d.er.ct = d.ct
 | .s _ => rfl
 | .l _ rows => by simp only [D.er, D.ct]; exact ctR_er rows
theorem ctL_er : ∀ l : List D, ctL (erL l) = ctL l
 | [] => rfl
 | x :: r => by simp only [erL, ctL]; rw [D.ct_er x, ctL_er r]
theorem ctR_er : ∀ l : List (List D), ctR (erR l) = ctR l
 | [] => rfl
 | x :: r => by simp only [erR, ctR]; rw [ctL_er x, ctR_er r]
end
theorem Tou.old {S : Nat → Prop} {a b : World} (h : Tou Old a b) : Tou S a b := h.mono fun _ h => h.elim
theorem New.rd {w w' : World} {ζ : Nat → Option Nat} {v : Value} {st : Nat} {R : List (List D)} {rows : List (List D)} (h : New w w' ζ v (.l st R)) (e : erR R = rows) : Rd w'.heap.size w' v (.l 0 rows) := by
 subst e; exact h.own.read
theorem Own.rd {w : World} {ζ : Nat → Option Nat} {v : Value} {st : Nat} {R : List (List D)} {rows : List (List D)} (h : Own w ζ v (.l st R)) (e : erR R = rows) : Rd w.heap.size w v (.l 0 rows) := by
 subst e; exact h.read
end
end Go.VM

/- The laws of exactness, by the shape of their code: one slice in, a slice and a scalar out. Conditions: none. -/
namespace Go.VM
set_option linter.unusedVariables false
set_option linter.unusedSimpArgs false
set_option maxHeartbeats 4000000
section
variable {P : Program} {fid : Nat → FuncId} {cid : FuncId → Nat}
end
end Go.VM

/- Ladders and lists of instructions in the laws of exactness: marked, held, compared, made. Conditions: none. -/
namespace Go.VM
set_option linter.unusedVariables false
set_option linter.unusedSimpArgs false
set_option maxHeartbeats 4000000
theorem er_s {d : D} {v : Value} (h : d.er = .s v) : d = .s v := by
 cases d with
 | s u => exact h
 | l st rows => cases h
theorem er_l {d : D} {X : List (List D)} (h : d.er = .l 0 X) : ∃ st R, d = .l st R ∧ erR R = X := by
 cases d with
 | s u => cases h
 | l st rows => simp only [D.er, D.l.injEq, true_and] at h; exact ⟨st, rows, rfl, h⟩
theorem erL_c {row : List D} {x : D} {r : List D} (h : erL row = x :: r) : ∃ d q, row = d :: q ∧ d.er = x ∧ erL q = r := by
 cases row with
 | nil => cases h
 | cons d q => simp only [erL, List.cons.injEq] at h; exact ⟨d, q, rfl, h.1, h.2⟩
theorem erL_n {row : List D} (h : erL row = []) : row = [] := by
 cases row with
 | nil => rfl
 | cons d q => cases h
theorem er_mem {R X : List (List D)} (h : erR R = X) {row : List D} (hr : row ∈ R) : erL row ∈ X := by
 obtain ⟨i, hi⟩ := List.mem_iff_getElem?.1 hr; have : (erR R)[i]? = some (erL row) := by rw [erR_get, hi]; rfl
 rw [h] at this; exact List.mem_of_getElem? this
theorem er_len {R X : List (List D)} (h : erR R = X) : R.length = X.length := by rw [← h, erR_length]
section
variable {P : Program} {fid : Nat → FuncId} {cid : FuncId → Nat}
structure Env (P : Program) (fid : Nat → FuncId) (cid : FuncId → Nat) : Prop where
 cidOk : ∀ f, fid (cid f) = f
 ft : ∀ f F, FT f = some F → ∃ fn, P.funcs[fid f]? = some fn ∧ stripF P cid fn = some F
 goOk : ∀ n f args bs s r, go n f args bs s = some r → CallOK P fid GT f args bs s r
 gosOk : ∀ n f args bs s r, goS n f args bs s = some r → CallOK P fid GT f args bs s r
theorem Env.mark (E : Env P fid cid) {f sz : Nat} {fds : List Fd} (hF : FT f = some (markF sz fds)) {R : List (List D)} (hsz : ∀ row ∈ R, row.length = sz) (hfd : ∀ row ∈ R, FdOK P fid 0 fds row) (hl : R.length < 2 ^ 62) : MarkOK P fid f R := by
 obtain ⟨fn, h1, h2⟩ := E.ft f _ hF; exact markF_ok E.cidOk h1 h2 hsz hfd hl
theorem Env.held (E : Env P fid cid) {f sz : Nat} {fds : List Fd} (hF : FT f = some (heldF sz fds)) {R : List (List D)} (hsz : ∀ row ∈ R, row.length = sz) (hfd : ∀ row ∈ R, HdOK P fid 0 fds row) (hl : R.length < 2 ^ 62) : HeldOK P fid f R := by
 obtain ⟨fn, h1, h2⟩ := E.ft f _ hF; exact heldF_ok E.cidOk h1 h2 hsz hfd hl
theorem mark_args (E : Env P fid cid) {l : List Arg} {R : List (List D)} (h : erR R = argRows l) (hl : l.length < 2 ^ 62) : MarkOK P fid 239 R := by
 have key : ∀ row ∈ R, ∃ a b c, row = [.s a, .s b, .s c] := fun row hr => by
  have hm := er_mem h hr; simp only [argRows, List.mem_map] at hm; obtain ⟨a, -, ha⟩ := hm; obtain ⟨d1, q1, rfl, e1, h1⟩ := erL_c ha.symm; obtain ⟨d2, q2, rfl, e2, h2⟩ := erL_c h1; obtain ⟨d3, q3, rfl, e3, h3⟩ := erL_c h2; rw [er_s e1, er_s e2, er_s e3, erL_n h3]; exact ⟨_, _, _, rfl⟩
 refine E.mark (sz := 3) (fds := [.sc [0], .sc [1], .sc [2]]) rfl (fun row hr => ?_) (fun row hr => ?_) (by rw [er_len h]; simpa using hl)
 · obtain ⟨a, b, c, rfl⟩ := key row hr; rfl
 · obtain ⟨a, b, c, rfl⟩ := key row hr; simp [FdOK]
theorem held_args (E : Env P fid cid) {l : List Arg} {R : List (List D)} (h : erR R = argRows l) (hl : l.length < 2 ^ 62) : HeldOK P fid 240 R := by
 have key : ∀ row ∈ R, ∃ a b c, row = [.s a, .s b, .s c] := fun row hr => by
  have hm := er_mem h hr; simp only [argRows, List.mem_map] at hm; obtain ⟨a, -, ha⟩ := hm; obtain ⟨d1, q1, rfl, e1, h1⟩ := erL_c ha.symm; obtain ⟨d2, q2, rfl, e2, h2⟩ := erL_c h1; obtain ⟨d3, q3, rfl, e3, h3⟩ := erL_c h2; rw [er_s e1, er_s e2, er_s e3, erL_n h3]; exact ⟨_, _, _, rfl⟩
 refine E.held (sz := 3) (fds := [.sc [0], .sc [1], .sc [2]]) rfl (fun row hr => ?_) (fun row hr => ?_) (by rw [er_len h]; simpa using hl)
 · obtain ⟨a, b, c, rfl⟩ := key row hr; rfl
 · obtain ⟨a, b, c, rfl⟩ := key row hr; simp [HdOK]
end
theorem ct_args : ∀ l : List Arg, ctR (argRows l) = 3 * l.length
 | [] => rfl
 | a :: r => by
  have := ct_args r; simp only [argRows, List.map_cons, ctR] at this ⊢; rw [this]; simp [ctL, D.ct, Arg.row]; omega
end Go.VM
