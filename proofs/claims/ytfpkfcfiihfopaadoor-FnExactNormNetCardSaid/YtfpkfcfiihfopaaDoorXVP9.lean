/- Ladders and lists of instructions in the laws of exactness: marked, held, compared, made. Conditions: none. -/
import Derived.Test.YtfpkfcfiihfopaaDoorXVP8
import Derived.Test.YtfpkfcfiihfopaaDoorXVP5

namespace Go.VM
set_option linter.unusedVariables false
set_option linter.unusedSimpArgs false
set_option maxHeartbeats 4000000
theorem er_s {d : D} {v : Value} (h : d.er = .s v) : d = .s v := by
 cases d with
 | s u => exact h
 | l st rows => cases h
theorem er_l {d : D} {X : List (List D)} (h : d.er = .l 0 X) : ∃ st R, d = .l st R ∧ erR R = X := by
 cases d with
 | s u => cases h
 | l st rows => simp only [D.er, D.l.injEq, true_and] at h; exact ⟨st, rows, rfl, h⟩
theorem erL_c {row : List D} {x : D} {r : List D} (h : erL row = x :: r) : ∃ d q, row = d :: q ∧ d.er = x ∧ erL q = r := by
 cases row with
 | nil => cases h
 | cons d q => simp only [erL, List.cons.injEq] at h; exact ⟨d, q, rfl, h.1, h.2⟩
theorem erL_n {row : List D} (h : erL row = []) : row = [] := by
 cases row with
 | nil => rfl
 | cons d q => cases h
theorem er_mem {R X : List (List D)} (h : erR R = X) {row : List D} (hr : row ∈ R) : erL row ∈ X := by
 obtain ⟨i, hi⟩ := List.mem_iff_getElem?.1 hr; have : (erR R)[i]? = some (erL row) := by rw [erR_get, hi]; rfl
 rw [h] at this; exact List.mem_of_getElem? this
theorem er_len {R X : List (List D)} (h : erR R = X) : R.length = X.length := by rw [← h, erR_length]
section
variable {P : Program} {fid : Nat → FuncId} {cid : FuncId → Nat}
structure Env (P : Program) (fid : Nat → FuncId) (cid : FuncId → Nat) : Prop where
 cidOk : ∀ f, fid (cid f) = f
 ft : ∀ f F, FT f = some F → ∃ fn, P.funcs[fid f]? = some fn ∧ stripF P cid fn = some F
 goOk : ∀ n f args bs s r, go n f args bs s = some r → CallOK P fid GT f args bs s r
 gosOk : ∀ n f args bs s r, goS n f args bs s = some r → CallOK P fid GT f args bs s r
theorem Env.mark (E : Env P fid cid) {f sz : Nat} {fds : List Fd} (hF : FT f = some (markF sz fds)) {R : List (List D)} (hsz : ∀ row ∈ R, row.length = sz) (hfd : ∀ row ∈ R, FdOK P fid 0 fds row) (hl : R.length < 2 ^ 62) : MarkOK P fid f R := by
 obtain ⟨fn, h1, h2⟩ := E.ft f _ hF; exact markF_ok E.cidOk h1 h2 hsz hfd hl
theorem Env.held (E : Env P fid cid) {f sz : Nat} {fds : List Fd} (hF : FT f = some (heldF sz fds)) {R : List (List D)} (hsz : ∀ row ∈ R, row.length = sz) (hfd : ∀ row ∈ R, HdOK P fid 0 fds row) (hl : R.length < 2 ^ 62) : HeldOK P fid f R := by
 obtain ⟨fn, h1, h2⟩ := E.ft f _ hF; exact heldF_ok E.cidOk h1 h2 hsz hfd hl
theorem mark_args (E : Env P fid cid) {l : List Arg} {R : List (List D)} (h : erR R = argRows l) (hl : l.length < 2 ^ 62) : MarkOK P fid 239 R := by
 have key : ∀ row ∈ R, ∃ a b c, row = [.s a, .s b, .s c] := fun row hr => by
  have hm := er_mem h hr; simp only [argRows, List.mem_map] at hm; obtain ⟨a, -, ha⟩ := hm; obtain ⟨d1, q1, rfl, e1, h1⟩ := erL_c ha.symm; obtain ⟨d2, q2, rfl, e2, h2⟩ := erL_c h1; obtain ⟨d3, q3, rfl, e3, h3⟩ := erL_c h2; rw [er_s e1, er_s e2, er_s e3, erL_n h3]; exact ⟨_, _, _, rfl⟩
 refine E.mark (sz := 3) (fds := [.sc [0], .sc [1], .sc [2]]) rfl (fun row hr => ?_) (fun row hr => ?_) (by rw [er_len h]; simpa using hl)
 · obtain ⟨a, b, c, rfl⟩ := key row hr; rfl
 · obtain ⟨a, b, c, rfl⟩ := key row hr; simp [FdOK]
theorem held_args (E : Env P fid cid) {l : List Arg} {R : List (List D)} (h : erR R = argRows l) (hl : l.length < 2 ^ 62) : HeldOK P fid 240 R := by
 have key : ∀ row ∈ R, ∃ a b c, row = [.s a, .s b, .s c] := fun row hr => by
  have hm := er_mem h hr; simp only [argRows, List.mem_map] at hm; obtain ⟨a, -, ha⟩ := hm; obtain ⟨d1, q1, rfl, e1, h1⟩ := erL_c ha.symm; obtain ⟨d2, q2, rfl, e2, h2⟩ := erL_c h1; obtain ⟨d3, q3, rfl, e3, h3⟩ := erL_c h2; rw [er_s e1, er_s e2, er_s e3, erL_n h3]; exact ⟨_, _, _, rfl⟩
 refine E.held (sz := 3) (fds := [.sc [0], .sc [1], .sc [2]]) rfl (fun row hr => ?_) (fun row hr => ?_) (by rw [er_len h]; simpa using hl)
 · obtain ⟨a, b, c, rfl⟩ := key row hr; rfl
 · obtain ⟨a, b, c, rfl⟩ := key row hr; simp [HdOK]
theorem net_row {row : List D} {k op : Int} {as : List Arg} {ks : List Net} (h : erL row = (Net.mk k op as ks).row) : ∃ a b st R st2 R2, row = [.s a, .s b, .l st R, .l st2 R2] ∧ erR R = argRows as ∧ erR R2 = netRows ks := by
 simp only [Net.row] at h; obtain ⟨d1, q1, rfl, e1, h1⟩ := erL_c h; obtain ⟨d2, q2, rfl, e2, h2⟩ := erL_c h1; obtain ⟨d3, q3, rfl, e3, h3⟩ := erL_c h2; obtain ⟨d4, q4, rfl, e4, h4⟩ := erL_c h3; obtain ⟨st, R, rfl, hR⟩ := er_l e3; obtain ⟨st2, R2, rfl, hR2⟩ := er_l e4; rw [er_s e1, er_s e2, erL_n h4]; exact ⟨_, _, _, _, _, _, rfl, hR, hR2⟩
theorem mark_nets (E : Env P fid cid) : ∀ (m : Nat) {l : List Net} {R : List (List D)}, netsWt l ≤ m → m < 2 ^ 62 → erR R = netRows l → MarkOK P fid 233 R := by
 intro m
 induction m with
 | zero =>
  intro l R hw hm h; have e : l = [] := by
   cases l with
   | nil => rfl
   | cons a r => have := a.wt_pos; simp [netsWt] at hw; omega
  subst e; have hR : R = [] := by have := er_len h; simpa [netRows] using this
  subst hR; exact E.mark (sz := 4) (fds := [.sc [0], .sc [1, 0], .sb [1, 1] 239, .sb [3] 233]) rfl (by simp) (by simp) (by simp)
 | succ m ih =>
  intro l R hw hm h; have hlen := netsWt_len l; refine E.mark (sz := 4) (fds := [.sc [0], .sc [1, 0], .sb [1, 1] 239, .sb [3] 233]) rfl (fun row hr => ?_) (fun row hr => ?_) (by rw [er_len h]; simp; omega)
  all_goals
   have hmm := er_mem h hr; simp only [netRows_map, List.mem_map] at hmm; obtain ⟨⟨k, op, as, ks⟩, he, hrow⟩ := hmm; obtain ⟨a, b, st, R1, st2, R2, rfl, h1, h2⟩ := net_row hrow.symm
  · rfl
  · have hx := netsWt_mem he
    simp only [Net.wt] at hx; simp only [FdOK]; exact ⟨by simp, by simp, by simp, mark_args E h1 (by omega), by simp, ih (by omega) (by omega) h2, trivial⟩
theorem held_nets (E : Env P fid cid) : ∀ (m : Nat) {l : List Net} {R : List (List D)}, netsWt l ≤ m → m < 2 ^ 62 → erR R = netRows l → HeldOK P fid 235 R := by
 intro m
 induction m with
 | zero =>
  intro l R hw hm h; have e : l = [] := by
   cases l with
   | nil => rfl
   | cons a r => have := a.wt_pos; simp [netsWt] at hw; omega
  subst e; have hR : R = [] := by have := er_len h; simpa [netRows] using this
  subst hR; exact E.held (sz := 4) (fds := [.sc [0], .sc [1, 0], .sb [1, 1] 240, .sb [3] 235]) rfl (by simp) (by simp) (by simp)
 | succ m ih =>
  intro l R hw hm h; have hlen := netsWt_len l; refine E.held (sz := 4) (fds := [.sc [0], .sc [1, 0], .sb [1, 1] 240, .sb [3] 235]) rfl (fun row hr => ?_) (fun row hr => ?_) (by rw [er_len h]; simp; omega)
  all_goals
   have hmm := er_mem h hr; simp only [netRows_map, List.mem_map] at hmm; obtain ⟨⟨k, op, as, ks⟩, he, hrow⟩ := hmm; obtain ⟨a, b, st, R1, st2, R2, rfl, h1, h2⟩ := net_row hrow.symm
  · rfl
  · have hx := netsWt_mem he
    simp only [Net.wt] at hx; simp only [HdOK]; exact ⟨by simp, by simp, by simp, held_args E h1 (by omega), by simp, ih (by omega) (by omega) h2, trivial⟩
end
theorem ct_args : ∀ l : List Arg, ctR (argRows l) = 3 * l.length
 | [] => rfl
 | a :: r => by
  have := ct_args r; simp only [argRows, List.map_cons, ctR] at this ⊢; rw [this]; simp [ctL, D.ct, Arg.row]; omega
mutual
theorem ct_net : ∀ t : Net, ctL t.row ≤ 3 * t.wt
 | .mk k op as ks => by
  have h1 := ct_args as; have h2 := ct_nets ks; simp only [Net.row, ctL, D.ct, Net.wt, h1]; omega
theorem ct_nets : ∀ l : List Net, ctR (netRows l) ≤ 3 * netsWt l
 | [] => by simp [netRows, ctR]
 | a :: r => by
  have h1 := ct_net a; have h2 := ct_nets r; simp only [netRows, ctR, netsWt]; omega
end
end Go.VM
