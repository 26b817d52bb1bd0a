/- Ladders and lists of instructions in the laws of exactness: marked, held, compared, made. Conditions: none. -/
import Derived.Test.YtfpkfcfiihfopaaGreatDoorVN1
import Derived.Test.YtfpkfcfiihfopaaGreatDoorVP5

namespace Go.VM
set_option linter.unusedVariables false
set_option linter.unusedSimpArgs false
set_option maxHeartbeats 4000000
theorem er_s {d : D} {v : Value} (h : d.er = .s v) : d = .s v := by
 cases d with
 | s u => exact h
 | l st rows => cases h
theorem er_l {d : D} {X : List (List D)} (h : d.er = .l 0 X) : ∃ st R, d = .l st R ∧ erR R = X := by
 cases d with
 | s u => cases h
 | l st rows => simp only [D.er, D.l.injEq, true_and] at h; exact ⟨st, rows, rfl, h⟩
theorem erL_c {row : List D} {x : D} {r : List D} (h : erL row = x :: r) : ∃ d q, row = d :: q ∧ d.er = x ∧ erL q = r := by
 cases row with
 | nil => cases h
 | cons d q => simp only [erL, List.cons.injEq] at h; exact ⟨d, q, rfl, h.1, h.2⟩
theorem erL_n {row : List D} (h : erL row = []) : row = [] := by
 cases row with
 | nil => rfl
 | cons d q => cases h
theorem er_mem {R X : List (List D)} (h : erR R = X) {row : List D} (hr : row ∈ R) : erL row ∈ X := by
 obtain ⟨i, hi⟩ := List.mem_iff_getElem?.1 hr; have : (erR R)[i]? = some (erL row) := by rw [erR_get, hi]; rfl
 rw [h] at this; exact List.mem_of_getElem? this
theorem er_len {R X : List (List D)} (h : erR R = X) : R.length = X.length := by rw [← h, erR_length]
section
variable {P : Program} {fid : Nat → FuncId} {cid : FuncId → Nat}
structure Env (P : Program) (fid : Nat → FuncId) (cid : FuncId → Nat) : Prop where
 cidOk : ∀ f, fid (cid f) = f
 ft : ∀ f F, FT f = some F → ∃ fn, P.funcs[fid f]? = some fn ∧ stripF P cid fn = some F
 goOk : ∀ n f args bs s r, go n f args bs s = some r → CallOK P fid GT f args bs s r
 gosOk : ∀ n f args bs s r, goS n f args bs s = some r → CallOK P fid GT f args bs s r
theorem Env.mark (E : Env P fid cid) {f sz : Nat} {fds : List Fd} (hF : FT f = some (markF sz fds)) {R : List (List D)} (hsz : ∀ row ∈ R, row.length = sz) (hfd : ∀ row ∈ R, FdOK P fid 0 fds row) (hl : R.length < 2 ^ 62) : MarkOK P fid f R := by
 obtain ⟨fn, h1, h2⟩ := E.ft f _ hF; exact markF_ok E.cidOk h1 h2 hsz hfd hl
theorem Env.held (E : Env P fid cid) {f sz : Nat} {fds : List Fd} (hF : FT f = some (heldF sz fds)) {R : List (List D)} (hsz : ∀ row ∈ R, row.length = sz) (hfd : ∀ row ∈ R, HdOK P fid 0 fds row) (hl : R.length < 2 ^ 62) : HeldOK P fid f R := by
 obtain ⟨fn, h1, h2⟩ := E.ft f _ hF; exact heldF_ok E.cidOk h1 h2 hsz hfd hl
theorem mark_args (E : Env P fid cid) {l : List Arg} {R : List (List D)} (h : erR R = argRows l) (hl : l.length < 2 ^ 62) : MarkOK P fid 239 R := by
 have key : ∀ row ∈ R, ∃ a b c, row = [.s a, .s b, .s c] := fun row hr => by
  have hm := er_mem h hr; simp only [argRows, List.mem_map] at hm; obtain ⟨a, -, ha⟩ := hm; obtain ⟨d1, q1, rfl, e1, h1⟩ := erL_c ha.symm; obtain ⟨d2, q2, rfl, e2, h2⟩ := erL_c h1; obtain ⟨d3, q3, rfl, e3, h3⟩ := erL_c h2; rw [er_s e1, er_s e2, er_s e3, erL_n h3]; exact ⟨_, _, _, rfl⟩
 refine E.mark (sz := 3) (fds := [.sc [0], .sc [1], .sc [2]]) rfl (fun row hr => ?_) (fun row hr => ?_) (by rw [er_len h]; simpa using hl)
 · obtain ⟨a, b, c, rfl⟩ := key row hr; rfl
 · obtain ⟨a, b, c, rfl⟩ := key row hr; simp [FdOK]
theorem held_args (E : Env P fid cid) {l : List Arg} {R : List (List D)} (h : erR R = argRows l) (hl : l.length < 2 ^ 62) : HeldOK P fid 240 R := by
 have key : ∀ row ∈ R, ∃ a b c, row = [.s a, .s b, .s c] := fun row hr => by
  have hm := er_mem h hr; simp only [argRows, List.mem_map] at hm; obtain ⟨a, -, ha⟩ := hm; obtain ⟨d1, q1, rfl, e1, h1⟩ := erL_c ha.symm; obtain ⟨d2, q2, rfl, e2, h2⟩ := erL_c h1; obtain ⟨d3, q3, rfl, e3, h3⟩ := erL_c h2; rw [er_s e1, er_s e2, er_s e3, erL_n h3]; exact ⟨_, _, _, rfl⟩
 refine E.held (sz := 3) (fds := [.sc [0], .sc [1], .sc [2]]) rfl (fun row hr => ?_) (fun row hr => ?_) (by rw [er_len h]; simpa using hl)
 · obtain ⟨a, b, c, rfl⟩ := key row hr; rfl
 · obtain ⟨a, b, c, rfl⟩ := key row hr; simp [HdOK]
theorem el_row {row : List D} {e : El} (h : erL row = e.row) : ∃ a st R, row = [.s a, .l st R] ∧ erR R = argRows e.as := by
 obtain ⟨d1, q1, rfl, e1, h1⟩ := erL_c h; obtain ⟨d2, q2, rfl, e2, h2⟩ := erL_c h1; obtain ⟨st, R, rfl, hR⟩ := er_l e2; rw [er_s e1, erL_n h2]; exact ⟨_, _, _, rfl, hR⟩
theorem net_row {row : List D} {k op : Int} {as : List Arg} {ks : List Net} (h : erL row = (Net.mk k op as ks).row) : ∃ a b st R st2 R2, row = [.s a, .s b, .l st R, .l st2 R2] ∧ erR R = argRows as ∧ erR R2 = netRows ks := by
 simp only [Net.row] at h; obtain ⟨d1, q1, rfl, e1, h1⟩ := erL_c h; obtain ⟨d2, q2, rfl, e2, h2⟩ := erL_c h1; obtain ⟨d3, q3, rfl, e3, h3⟩ := erL_c h2; obtain ⟨d4, q4, rfl, e4, h4⟩ := erL_c h3; obtain ⟨st, R, rfl, hR⟩ := er_l e3; obtain ⟨st2, R2, rfl, hR2⟩ := er_l e4; rw [er_s e1, er_s e2, erL_n h4]; exact ⟨_, _, _, _, _, _, rfl, hR, hR2⟩
theorem arm_row {row : List D} {k op : Int} {as : List Arg} {nks : List Net} {cs : List El} {ks : List Arm} (h : erL row = (Arm.mk (.mk k op as nks) cs ks).row) :
 ∃ a b st R st2 R2 st3 R3 st4 R4, row = [.s a, .s b, .l st R, .l st2 R2, .l st3 R3, .l st4 R4] ∧ erR R = argRows as ∧ erR R2 = netRows nks ∧ erR R3 = elRows cs ∧ erR R4 = armRows ks := by
 simp only [Arm.row] at h; obtain ⟨d1, q1, rfl, e1, h1⟩ := erL_c h; obtain ⟨d2, q2, rfl, e2, h2⟩ := erL_c h1; obtain ⟨d3, q3, rfl, e3, h3⟩ := erL_c h2; obtain ⟨d4, q4, rfl, e4, h4⟩ := erL_c h3; obtain ⟨d5, q5, rfl, e5, h5⟩ := erL_c h4; obtain ⟨d6, q6, rfl, e6, h6⟩ := erL_c h5; obtain ⟨st, R, rfl, hR⟩ := er_l e3; obtain ⟨st2, R2, rfl, hR2⟩ := er_l e4; obtain ⟨st3, R3, rfl, hR3⟩ := er_l e5; obtain ⟨st4, R4, rfl, hR4⟩ := er_l e6; rw [er_s e1, er_s e2, erL_n h6]; exact ⟨_, _, _, _, _, _, _, _, _, _, rfl, hR, hR2, hR3, hR4⟩
theorem mark_els (E : Env P fid cid) {l : List El} {R : List (List D)} (h : erR R = elRows l) (hl : elsWt l < 2 ^ 62) : MarkOK P fid 257 R := by
 have hlen := elsWt_len l; refine E.mark (sz := 2) (fds := [.sc [0], .sb [1] 239]) rfl (fun row hr => ?_) (fun row hr => ?_) (by rw [er_len h]; simp; omega)
 all_goals
  have hm := er_mem h hr; simp only [elRows, List.mem_map] at hm; obtain ⟨e, he, hrow⟩ := hm; obtain ⟨a, st, R', rfl, hR⟩ := el_row hrow.symm
 · rfl
 · have hw := elsWt_mem he
   simp only [El.wt] at hw; simp only [FdOK]; exact ⟨by simp, by simp, mark_args E hR (by omega), trivial⟩
theorem held_els (E : Env P fid cid) {l : List El} {R : List (List D)} (h : erR R = elRows l) (hl : elsWt l < 2 ^ 62) : HeldOK P fid 258 R := by
 have hlen := elsWt_len l; refine E.held (sz := 2) (fds := [.sc [0], .sb [1] 240]) rfl (fun row hr => ?_) (fun row hr => ?_) (by rw [er_len h]; simp; omega)
 all_goals
  have hm := er_mem h hr; simp only [elRows, List.mem_map] at hm; obtain ⟨e, he, hrow⟩ := hm; obtain ⟨a, st, R', rfl, hR⟩ := el_row hrow.symm
 · rfl
 · have hw := elsWt_mem he
   simp only [El.wt] at hw; simp only [HdOK]; exact ⟨by simp, by simp, held_args E hR (by omega), trivial⟩
theorem mark_nets (E : Env P fid cid) : ∀ (m : Nat) {l : List Net} {R : List (List D)}, netsWt l ≤ m → m < 2 ^ 62 → erR R = netRows l → MarkOK P fid 233 R := by
 intro m
 induction m with
 | zero =>
  intro l R hw hm h; have e : l = [] := by
   cases l with
   | nil => rfl
   | cons a r => have := a.wt_pos; simp [netsWt] at hw; omega
  subst e; have hR : R = [] := by have := er_len h; simpa [netRows] using this
  subst hR; exact E.mark (sz := 4) (fds := [.sc [0], .sc [1, 0], .sb [1, 1] 239, .sb [3] 233]) rfl (by simp) (by simp) (by simp)
 | succ m ih =>
  intro l R hw hm h; have hlen := netsWt_len l; refine E.mark (sz := 4) (fds := [.sc [0], .sc [1, 0], .sb [1, 1] 239, .sb [3] 233]) rfl (fun row hr => ?_) (fun row hr => ?_) (by rw [er_len h]; simp; omega)
  all_goals
   have hmm := er_mem h hr; simp only [netRows_map, List.mem_map] at hmm; obtain ⟨⟨k, op, as, ks⟩, he, hrow⟩ := hmm; obtain ⟨a, b, st, R1, st2, R2, rfl, h1, h2⟩ := net_row hrow.symm
  · rfl
  · have hx := netsWt_mem he
    simp only [Net.wt] at hx; simp only [FdOK]; exact ⟨by simp, by simp, by simp, mark_args E h1 (by omega), by simp, ih (by omega) (by omega) h2, trivial⟩
theorem held_nets (E : Env P fid cid) : ∀ (m : Nat) {l : List Net} {R : List (List D)}, netsWt l ≤ m → m < 2 ^ 62 → erR R = netRows l → HeldOK P fid 235 R := by
 intro m
 induction m with
 | zero =>
  intro l R hw hm h; have e : l = [] := by
   cases l with
   | nil => rfl
   | cons a r => have := a.wt_pos; simp [netsWt] at hw; omega
  subst e; have hR : R = [] := by have := er_len h; simpa [netRows] using this
  subst hR; exact E.held (sz := 4) (fds := [.sc [0], .sc [1, 0], .sb [1, 1] 240, .sb [3] 235]) rfl (by simp) (by simp) (by simp)
 | succ m ih =>
  intro l R hw hm h; have hlen := netsWt_len l; refine E.held (sz := 4) (fds := [.sc [0], .sc [1, 0], .sb [1, 1] 240, .sb [3] 235]) rfl (fun row hr => ?_) (fun row hr => ?_) (by rw [er_len h]; simp; omega)
  all_goals
   have hmm := er_mem h hr; simp only [netRows_map, List.mem_map] at hmm; obtain ⟨⟨k, op, as, ks⟩, he, hrow⟩ := hmm; obtain ⟨a, b, st, R1, st2, R2, rfl, h1, h2⟩ := net_row hrow.symm
  · rfl
  · have hx := netsWt_mem he
    simp only [Net.wt] at hx; simp only [HdOK]; exact ⟨by simp, by simp, by simp, held_args E h1 (by omega), by simp, ih (by omega) (by omega) h2, trivial⟩
theorem mark_arms (E : Env P fid cid) : ∀ (m : Nat) {l : List Arm} {R : List (List D)}, armsWt l ≤ m → m < 2 ^ 62 → erR R = armRows l → MarkOK P fid 255 R := by
 intro m
 induction m with
 | zero =>
  intro l R hw hm h; have e : l = [] := by
   cases l with
   | nil => rfl
   | cons a r => have := a.wt_pos; simp [armsWt] at hw; omega
  subst e; have hR : R = [] := by have := er_len h; simpa [armRows] using this
  subst hR; exact E.mark (sz := 6) (fds := [.sc [0, 0], .sc [0, 1, 0], .sb [0, 1, 1] 239, .sb [0, 3] 233, .sb [4] 257, .sb [5] 255]) rfl (by simp) (by simp) (by simp)
 | succ m ih =>
  intro l R hw hm h; have hlen := armsWt_len l; refine E.mark (sz := 6) (fds := [.sc [0, 0], .sc [0, 1, 0], .sb [0, 1, 1] 239, .sb [0, 3] 233, .sb [4] 257, .sb [5] 255]) rfl (fun row hr => ?_) (fun row hr => ?_) (by rw [er_len h]; simp; omega)
  all_goals
   have hmm := er_mem h hr; simp only [armRows_map, List.mem_map] at hmm; obtain ⟨⟨⟨k, op, as, nks⟩, cs, ks⟩, he, hrow⟩ := hmm; obtain ⟨a, b, st, R1, st2, R2, st3, R3, st4, R4, rfl, h1, h2, h3, h4⟩ := arm_row hrow.symm
  · rfl
  · have hx := armsWt_mem he
    simp only [Arm.wt, Net.wt] at hx; simp only [FdOK]; exact ⟨by simp, by simp, by simp, mark_args E h1 (by omega), by simp, mark_nets E (netsWt nks) (Nat.le_refl _) (by omega) h2, by simp, mark_els E h3 (by omega), by simp, ih (by omega) (by omega) h4, trivial⟩
theorem held_arms (E : Env P fid cid) : ∀ (m : Nat) {l : List Arm} {R : List (List D)}, armsWt l ≤ m → m < 2 ^ 62 → erR R = armRows l → HeldOK P fid 256 R := by
 intro m
 induction m with
 | zero =>
  intro l R hw hm h; have e : l = [] := by
   cases l with
   | nil => rfl
   | cons a r => have := a.wt_pos; simp [armsWt] at hw; omega
  subst e; have hR : R = [] := by have := er_len h; simpa [armRows] using this
  subst hR; exact E.held (sz := 6) (fds := [.sc [0, 0], .sc [0, 1, 0], .sb [0, 1, 1] 240, .sb [0, 3] 235, .sb [4] 258, .sb [5] 256]) rfl (by simp) (by simp) (by simp)
 | succ m ih =>
  intro l R hw hm h; have hlen := armsWt_len l; refine E.held (sz := 6) (fds := [.sc [0, 0], .sc [0, 1, 0], .sb [0, 1, 1] 240, .sb [0, 3] 235, .sb [4] 258, .sb [5] 256]) rfl (fun row hr => ?_) (fun row hr => ?_) (by rw [er_len h]; simp; omega)
  all_goals
   have hmm := er_mem h hr; simp only [armRows_map, List.mem_map] at hmm; obtain ⟨⟨⟨k, op, as, nks⟩, cs, ks⟩, he, hrow⟩ := hmm; obtain ⟨a, b, st, R1, st2, R2, st3, R3, st4, R4, rfl, h1, h2, h3, h4⟩ := arm_row hrow.symm
  · rfl
  · have hx := armsWt_mem he
    simp only [Arm.wt, Net.wt] at hx; simp only [HdOK]; exact ⟨by simp, by simp, by simp, held_args E h1 (by omega), by simp, held_nets E (netsWt nks) (Nat.le_refl _) (by omega) h2, by simp, held_els E h3 (by omega), by simp, ih (by omega) (by omega) h4, trivial⟩
end
theorem ct_args : ∀ l : List Arg, ctR (argRows l) = 3 * l.length
 | [] => rfl
 | a :: r => by
  have := ct_args r; simp only [argRows, List.map_cons, ctR] at this ⊢; rw [this]; simp [ctL, D.ct, Arg.row]; omega
theorem ct_els : ∀ l : List El, ctR (elRows l) ≤ 3 * elsWt l
 | [] => by simp [elRows, ctR]
 | a :: r => by
  have := ct_els r; have h2 := ct_args a.as; simp only [elRows, List.map_cons, ctR, elsWt, El.wt] at this ⊢; simp only [ctL, D.ct, El.row, h2]; omega
mutual
theorem ct_net : ∀ t : Net, ctL t.row ≤ 3 * t.wt
 | .mk k op as ks => by
  have h1 := ct_args as; have h2 := ct_nets ks; simp only [Net.row, ctL, D.ct, Net.wt, h1]; omega
theorem ct_nets : ∀ l : List Net, ctR (netRows l) ≤ 3 * netsWt l
 | [] => by simp [netRows, ctR]
 | a :: r => by
  have h1 := ct_net a; have h2 := ct_nets r; simp only [netRows, ctR, netsWt]; omega
end
mutual
theorem ct_arm : ∀ a : Arm, ctL a.row ≤ 3 * a.wt
 | .mk (.mk k op as nks) cs ks => by
  have h1 := ct_args as; have h2 := ct_nets nks; have h3 := ct_els cs; have h4 := ct_arms ks; simp only [Arm.row, ctL, D.ct, Arm.wt, Net.wt, h1]; omega
theorem ct_arms : ∀ l : List Arm, ctR (armRows l) ≤ 3 * armsWt l
 | [] => by simp [armRows, ctR]
 | a :: r => by
  have h1 := ct_arm a; have h2 := ct_arms r; simp only [armRows, ctR, armsWt]; omega
end
end Go.VM

/- The document's lists out of ladders: nets. Conditions: none. -/
namespace Go.VM
set_option linter.unusedSimpArgs false
set_option linter.unusedVariables false
set_option maxHeartbeats 16000000
def OwnE (st : St) (t : Nat) (L : List Ins) : Prop := ∃ b c, 0 < b ∧ b < st.g ∧ st.τ t = .w (.own b 0 L.length c) ∧ st.H b = .row none 3 (insRows L) 0
theorem OwnE.mk {st : St} {t n b : Nat} {L : List Ins} {c : Option Nat} (h2 : st.τ t = .w (.own b 0 n c)) (h0 : 0 < b) (h1 : b < st.g) (hn : n = L.length) (h3 : st.H b = .row none 3 (insRows L) 0) : OwnE st t L :=
 ⟨b, c, h0, h1, by rw [h2, hn], h3⟩
theorem OwnE.keep {st st' : St} {t : Nat} {L : List Ins} (h : OwnE st t L) (e : st'.τ t = st.τ t) (eH : ∀ b, b < st.g → st'.H b = st.H b) (hg : st.g ≤ st'.g) : OwnE st' t L := by
 obtain ⟨b, c, h0, h1, h2, h3⟩ := h; exact ⟨b, c, h0, by omega, e.trans h2, (eH b h1).trans h3⟩
end Go.VM

/- The laws of exactness for WayPlain and WayDown. Conditions: none. -/
namespace Go.VM
set_option linter.unusedVariables false
set_option linter.unusedSimpArgs false
set_option maxHeartbeats 4000000
theorem er_rows {α : Type} {row : α → List D} (h : ∀ a, erL (row a) = row a) : ∀ l : List α, erR (l.map row) = l.map row
 | [] => rfl
 | a :: r => by simp only [List.map_cons, erR]; rw [h a, er_rows h r]
theorem er_elRows (l : List El) : erR (elRows l) = elRows l := er_rows (fun a => by simp [erL, D.er, El.row, er_argRows]) l
mutual
theorem er_netRow : ∀ t : Net, erL t.row = t.row
 | .mk k op as ks => by simp only [Net.row, erL, D.er, er_argRows, er_netRows ks]
theorem er_netRows : ∀ l : List Net, erR (netRows l) = netRows l
 | [] => rfl
 | a :: r => by simp only [netRows, erR, er_netRow a, er_netRows r]
end
mutual
theorem er_armRow : ∀ t : Arm, erL t.row = t.row
 | .mk (.mk k op as nks) cs ks => by simp only [Arm.row, erL, D.er, er_argRows, er_netRows nks, er_elRows, er_armRows ks]
theorem er_armRows : ∀ l : List Arm, erR (armRows l) = armRows l
 | [] => rfl
 | a :: r => by simp only [armRows, erR, er_armRow a, er_armRows r]
end
def sup0 : Sup := fun k => k + 1
theorem sup0_ne (k : Nat) : sup0 k ≠ 0 := Nat.succ_ne_zero k
theorem sup0_inj : Inj sup0 := fun a b e => Nat.succ.inj e
abbrev OnW (w0 w : World) : Prop := Tou (fun b => w0.heap.size ≤ b) w0 w
section
variable {P : Program} {fid : Nat → FuncId} {cid : FuncId → Nat} {w0 w : World}
theorem glob_at (hg : Glob GT (ctxN w0.heap.size w0)) (hw : OnW w0 w) : Glob GT (ctxN w.heap.size w) := hg.up (Nat.le_refl _) hw (fun _ h => h) hw.size
theorem Rd.here {N : Nat} {v : Value} {d : D} (h : Rd N w v d) : Rel w (fun b _ => b < w.heap.size) (fun _ => none) v d := (h.up h.1 (Nat.le_refl _)).2
theorem Env.call (E : Env P fid cid) (hg : Glob GT (ctxN w0.heap.size w0)) (hw : OnW w0 w) {f n : Nat} {args : List V} {r : Res} (h : go n f args [] sup0 = some r) {vs : List Value} (hl : vs.length = args.length) (hr : ∀ (i : Nat) (x : V), args[i]? = some x → ∃ v : Value, vs[i]? = some v ∧ VRel fid (ctxN w.heap.size w) v x) :
 MC P fid f vs w fun u w' => ∃ κ', κ'.w = w' ∧ Out fid (ctxN w.heap.size w) [] sup0 κ' r u :=
 call_at (E.goOk _ _ _ _ _ _ h) sup0_ne sup0_inj (Nat.le_refl _) (glob_at hg hw) hl hr
theorem Env.call1 (E : Env P fid cid) (hg : Glob GT (ctxN w0.heap.size w0)) (hw : OnW w0 w) {f n : Nat} {d : D} {r : Res} (h : go n f [.w (.d d)] [] sup0 = some r) {N : Nat} {v : Value} (hv : Rd N w v d) :
 MC P fid f [v] w fun u w' => ∃ κ', κ'.w = w' ∧ Out fid (ctxN w.heap.size w) [] sup0 κ' r u :=
 E.call hg hw h rfl fun i x hx => by
  match i with
  | 0 => simp at hx; subst hx; exact ⟨v, rfl, hv.here⟩
  | i + 1 => simp at hx
theorem Env.call2 (E : Env P fid cid) (hg : Glob GT (ctxN w0.heap.size w0)) (hw : OnW w0 w) {f n : Nat} {d e : D} {r : Res} (h : go n f [.w (.d d), .w (.d e)] [] sup0 = some r) {N M : Nat} {u v : Value} (hu : Rd N w u d) (hv : Rd M w v e) :
 MC P fid f [u, v] w fun u w' => ∃ κ', κ'.w = w' ∧ Out fid (ctxN w.heap.size w) [] sup0 κ' r u :=
 E.call hg hw h rfl fun i x hx => by
  match i with
  | 0 => simp at hx; subst hx; exact ⟨u, rfl, hu.here⟩
  | 1 => simp at hx; subst hx; exact ⟨v, rfl, hv.here⟩
  | i + 2 => simp at hx
theorem Env.calls (E : Env P fid cid) (hg : Glob GT (ctxN w0.heap.size w0)) (hw : OnW w0 w) {f n : Nat} {d : D} {r : Res} (h : goS n f [.w (.d d)] [] sup0 = some r) {N : Nat} {v : Value} (hv : Rd N w v d) :
 MC P fid f [v] w fun u w' => ∃ κ', κ'.w = w' ∧ Out fid (ctxN w.heap.size w) [] sup0 κ' r u :=
 call_at (E.gosOk _ _ _ _ _ _ h) sup0_ne sup0_inj (Nat.le_refl _) (glob_at hg hw) rfl fun i x hx => by
  match i with
  | 0 => simp at hx; subst hx; exact ⟨v, rfl, hv.here⟩
  | i + 1 => simp at hx
theorem out_s {N : Nat} {s : Sup} {κ' : Ctx} {v x : Value} (O : Out fid (ctxN N w) [] s κ' ⟨.w (.d (.s x)), [], []⟩ v) : v = x := by
 have h : Rel κ'.w κ'.Im κ'.ζ v (.s x) := O.v; cases h; rfl
theorem rd_of {N : Nat} {s : Sup} {κ' : Ctx} {r : Res} {u v : Value} {d : D} (O : Out fid (ctxN N w) [] s κ' r u) (h : Rel κ'.w κ'.Im κ'.ζ v d) (e : d.er = d) : Rd κ'.w.heap.size κ'.w v d := by
 have := (Rel.top h).size.er (ζ' := fun _ => none); rw [e] at this; exact ⟨Nat.le_refl _, this⟩
theorem sound_arms (E : Env P fid cid) (hg : Glob GT (ctxN w0.heap.size w0)) {l : List Arm} (hl : armsWt l ≤ 2 ^ 21) {a : Value} (ha : Rd w0.heap.size w0 a (.l 0 (armRows l))) : Sound P fid w0 a (armRows l) 244 245 247 255 where
 to := fun w hw => by
  obtain ⟨t, R, h⟩ := mk_arms (armsWt l) l (Nat.le_refl _) (by omega) _ (Nat.le_refl _); obtain ⟨h1, h2, h3⟩ := h sup0; refine (E.calls hg hw h1 (ha.tou hw fun _ h => h)).mono ?_
  rintro v w' ⟨κ', rfl, O⟩; exact ⟨κ'.ζ, _, _, out_own sup0_ne O (h3 sup0_inj), h2⟩
 eq := fun N M u v w hw hu hv => by
  have h := same_arms (armsWt l) l (Nat.le_refl _) (by omega) _ (Nat.le_refl _) sup0; refine (E.call2 hg hw h hu hv).mono ?_
  rintro r w' ⟨κ', rfl, O⟩; exact ⟨out_s O, out_tou O⟩
 mark := fun R hR => mark_arms E (armsWt l) (Nat.le_refl _) (by omega) hR
theorem glob_in {κ : Ctx} {bs : List Box} {s : Sup} (hI : In fid GT κ bs s) (hG : ∀ g row, GT g = some row → erL row = row) : Glob GT (ctxN κ.w.heap.size κ.w) := by
 intro g row hg; obtain ⟨h1, h2⟩ := hI.glob g row hg; refine ⟨h1, fun j x hj => ?_⟩
 obtain ⟨a, y, hy, q⟩ := h2 j x hj; refine ⟨h1, y, hy, ?_⟩
 have e : x.er = x := by
  have h := hG g row hg; have h3 : (erL row)[j]? = some x.er := by rw [erL_get, hj]; rfl
  rw [h, hj] at h3; exact (Option.some.inj h3).symm
 have := Rel.er (ζ' := fun _ => none) (Rel.size (Rel.top q)); rw [e] at this; exact this
theorem rd_in {κ : Ctx} {v : Value} {d : D} (h : VRel fid κ v (.w (.d d))) (e : d.er = d) : Rd κ.w.heap.size κ.w v d := by
 have h' : Rel κ.w κ.Im κ.ζ v d := h; have := Rel.er (ζ' := fun _ => none) (Rel.size (Rel.top h')); rw [e] at this; exact ⟨Nat.le_refl _, this⟩
theorem sz_call (E : Env P fid cid) (hg : Glob GT (ctxN w0.heap.size w0)) {l : List Arm} (hf : dFits (.l 0 (armRows l))) {a : Value} (ha : Rd w0.heap.size w0 a (.l 0 (armRows l))) :
 MC P fid 244 [a, .int .i64 1048576] w0 fun v w' => Tou Old w0 w' ∧ ∃ k : Int, v = .int .i64 k ∧ (0 ≤ k → armsWt l ≤ 2 ^ 21) := by
 have h := sz_arms (armsWt l) l (Nat.le_refl _) hf _ (Nat.le_refl _) 1048576 (by omega) sup0; refine (E.call hg (Tou.refl _ _) h rfl (vs := [a, .int .i64 1048576]) fun i x hx => ?_).mono ?_
 · match i with
   | 0 => simp at hx; subst hx; exact ⟨a, rfl, ha.here⟩
   | 1 => simp at hx; subst hx; exact ⟨_, rfl, Rel.s _ rfl⟩
   | i + 2 => simp at hx
 · rintro v w' ⟨κ', rfl, O⟩
   refine ⟨out_tou O, _, out_s O, fun hk => ?_⟩
   by_cases hle : armsD l ≤ 1048576
   · have hW := arms_W l
     simp only [armsD] at hle; omega
   · rw [if_neg hle] at hk; omega
end
end Go.VM
