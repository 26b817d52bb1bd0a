/- WayDown, run. Conditions: none. -/
import Derived.Test.YtcjdokngpmnkjaaGreatDoorVY11
import Derived.Test.YtcjdokngpmnkjaaGreatDoorVY4
import Derived.Test.YtcjdokngpmnkjaaGreatDoorVS2
import Derived.Test.YtcjdokngpmnkjaaGreatDoorVP8

namespace Go.VM
set_option linter.unusedSimpArgs false
set_option linter.unusedVariables false
set_option maxHeartbeats 16000000
def downCode (l : List Arm) : Int := if treeCode l = 0 then if 16 < bitsOf (normOf l) ∨ 8 < forksOf (normOf l) then 2 else 0 else 1
def downList (l : List Arm) : List Ins := if downCode l = 0 then plainOf (normOf l) else []
theorem execC_past {call : CallT} {M : Nat → Mode} {G : Nat → Option (List D)} {stamp : Bool} {N n : Nat} {s0 : Sup} {U : List Nat} : ∀ (c : C) {st st' : St} {e : Ex}, execC call M G stamp N n c st = some (e, st') → Past s0 st.s U → Past s0 st'.s U
 | .skip, st, st', e, h, hp => by simp only [execC, Option.some.injEq, Prod.mk.injEq] at h; rw [← h.2]; exact hp
 | .reg ops, st, st', e, h, hp => by
  simp only [execC] at h; split at h
  · simp only [Option.some.injEq, Prod.mk.injEq] at h; rw [← h.2]; exact hp.weak
  · cases h
 | .dreg ops _, st, st', e, h, hp => by
  simp only [execC] at h; split at h
  · split at h
    · simp only [Option.some.injEq, Prod.mk.injEq] at h; rw [← h.2]; exact hp.weak
    · cases h
  · cases h
 | .seq a b, st, st', e, h, hp => by
  simp only [execC] at h; split at h
  · rename_i st1 h1
    exact execC_past b h (execC_past a h1 hp)
  · exact execC_past a h hp
 | .cond x a b, st, st', e, h, hp => by
  simp only [execC] at h; split at h
  · split at h
    · exact execC_past a h hp
    · exact execC_past b h hp
  · cases h
 | .block id c, st, st', e, h, hp => by
  simp only [execC] at h; split at h
  · rename_i i st1 h1
    split at h
    · simp only [Option.some.injEq, Prod.mk.injEq] at h; rw [← h.2]; exact execC_past c h1 hp
    · simp only [Option.some.injEq, Prod.mk.injEq] at h; rw [← h.2]; exact execC_past c h1 hp
  · exact execC_past c h hp
 | .loop c, st, st', e, h, hp => by
  simp only [execC] at h; have key : ∀ (m : Nat) (st : St), iter (execC call M G stamp N n c) m st = some (e, st') → Past s0 st.s U → Past s0 st'.s U := by
   intro m
   induction m with
   | zero => intro st h _; cases h
   | succ m ih =>
    intro st h hp; simp only [iter] at h; split at h
    · rename_i st1 h1
      exact ih st1 h (execC_past c h1 hp)
    · exact execC_past c h hp
  exact key n st h hp
 | .exit id, st, st', e, h, hp => by simp only [execC, Option.some.injEq, Prod.mk.injEq] at h; rw [← h.2]; exact hp
 | .ret, st, st', e, h, hp => by simp only [execC, Option.some.injEq, Prod.mk.injEq] at h; rw [← h.2]; exact hp
 | .bad, st, st', e, h, hp => by cases h
theorem ps_plain (l : List Arm) (hm : armsWt l < 2 ^ 25) (hr : ∀ a ∈ l, a.wrong true = 0) (h0 : treeCode l = 0) (n : Nat) (hn : 5 * armsWt l + 100 ≤ n) : MakesL n 297 [.w (ksW l)] (insRows (plainOf (armsNorm l))) := by
 obtain ⟨n, rfl⟩ : ∃ k, n = k + 2 := ⟨n - 2, by omega⟩; have e : normOf l = armsNorm l := by unfold normOf; rw [if_pos h0]
 have w0 : ∀ s, goS (n + 1) 124 [.w (ksW l)] [] s = some ⟨.w (ksW (armsNorm l)), [], []⟩ := fun s => by rw [gos_go rfl]; exact run_normed l (by omega) hr (n + 1) (by omega) s
 have hright := normOf_right l; have hwt := normOf_wt l; rw [e] at hright hwt; generalize armsNorm l = y at w0 hright hwt; have hlen := armsWt_len y; have hlp := len_plainOf y hright; have hsz := armsSize_le y; have hc : ∀ x ∈ y, ∀ s, go (n + 1) 329 [armX x] [] s = some ⟨.w (isW x.tail), [], []⟩ := fun x hx s => run_tail (armsWt y) x (armsWt_mem hx) (by omega) (arm_weak (hright x hx)) (n + 1) (by omega) s
 have hb : ∀ x ∈ y, ∀ s, ∃ c, go (n + 1) 328 [netX x.net] [] s = some (insOwn x.net.begins c) := fun x hx s => by
  have h1 := armsWt_mem hx; obtain ⟨xn, xc, xk⟩ := x; obtain ⟨k1, k2, -, -, -⟩ := arm_right (hright _ hx); have hnw : xn.wrong = 0 := by rcases k2 with k2 | k2; rw [k1 rfl] at k2; cases k2; exact k2
  simp only [Arm.wt] at h1; exact ⟨_, run_begins (armsWt y) xn (by omega) (by omega) hnw (n + 1) (by omega) s⟩
 obtain ⟨t, R, w2⟩ := cp_list (n := n) (plainOf y) (fun x hx => by have := plain_args y x hx; omega) (by omega) (by omega) (by omega); have v2 := fun s => (w2 s).1
 refine .of fun s => ?_
 simp [gos_of (n := n + 1) FT_297 rfl, F297, w0]; rw [execS_go rfl]; generalize hst : St.mk _ _ _ _ = st; obtain ⟨e, ⟨τ', H', g', s'⟩, hx, -, rfl, hg, hacc⟩ := loop297_0 (n := n + 1) y hc hb (by omega) (by omega) (by omega) st (by simp [← hst]) (by simp [← hst]) (by simp [← hst]) (by rw [← hst]; exact ⟨by simp, .inl ⟨rfl, by simp⟩⟩); have hp : Inj s → Past s s' [] := fun hi => execC_past _ hx (by rw [← hst]; exact (past_0 hi).weak.weak.weak)
 simp only at hg hacc; clear hst; generalize plainOf y = L at hacc w2 v2; have tkL := take_insRows L; refine ⟨t fun k => subS s' 1 (2 * k + 1), R fun k => subS s' 1 (2 * k + 1), ?_, (w2 _).2.1, fun hi => by simpa using ((hp hi).call 1 (w2 _).2.2).fr⟩
 rcases hacc with ⟨rfl, h3⟩ | ⟨b, hb0, hbq, hbg, h3, hB⟩
 · have w3 : ∀ s, goS (n + 1) 330 [.w (.d (.l 0 []))] [] s = some ⟨.w (.d (.l (t s) (R s))), [], []⟩ := fun s => v2 s
   simp [hx, h3, w3, insRows]
 · simp [hx, h3, hB, tkL, insRows_length, v2]
theorem insRow_allS {L : List Ins} {R : List (List D)} (h : erR R = insRows L) : ∀ r ∈ R, r.length = 3 := by
 intro r hr; obtain ⟨i, hi⟩ := List.mem_iff_getElem?.1 hr; have : (erR R)[i]? = some (erL r) := by rw [erR_get, hi]; rfl
 rw [h] at this; have hm := List.mem_of_getElem? this; simp only [insRows, List.mem_map] at hm; obtain ⟨a, _, ha⟩ := hm; have : (erL r).length = 3 := by rw [← ha]; rfl
 simpa using this
theorem ps_clip {n : Nat} {t : Nat} {R : List (List D)} (h3 : ∀ r ∈ R, r.length = 3) (s : Sup) : goS (n + 1) 298 [.w (.d (.l t R))] [] s = some ⟨.w (.d (.l t R)), [], []⟩ := by
 have al := eq_true h3; simp [gos_of (n := n) FT_298 rfl, F298, al]
theorem ps_WayDown (l : List Arm) (hm : armsWt l < 2 ^ 25) (n : Nat) (hn : 6 * armsWt l + 500 ≤ n) (s : Sup) : ∃ t R, goS n 271 [.w (ksW l)] [] s = some ⟨.tup [(false, [.d (.l t R)]), (false, [iW (downCode l)])], [], []⟩ ∧ erR R = insRows (downList l) ∧ (Inj s → Fr s (D.l t R).sts) := by
 obtain ⟨n, rfl⟩ : ∃ k, n = k + 2 := ⟨n - 2, by omega⟩; have w1 := run_accepted l (by omega) (n + 1) (by omega); have g1 : goS (n + 1) 123 = go (n + 1) 123 := gos_go rfl
 by_cases h : treeCode l = 0
 · obtain ⟨t, R, w2⟩ := ps_plain l hm (treeCode_right h) h (n + 1) (by omega)
   have e : normOf l = armsNorm l := by unfold normOf; rw [if_pos h]
   have w3 := run_WayBits l hm (n + 1) (by omega); have w4 := run_WayForks l hm (n + 1) (by omega); have g3 : goS (n + 1) 269 = go (n + 1) 269 := gos_go rfl; have g4 : goS (n + 1) 283 = go (n + 1) 283 := gos_go rfl; rw [← e] at w2; have v2 := fun s => (w2 s).1
   have w5 := fun s s' => ps_clip (n := n) (t := t s) (insRow_allS (w2 s).2.1) s'
   have w2' := fun s => (w2 s).2
   clear w2; unfold downList downCode; rw [if_pos h]; generalize normOf l = y at w2' v2 w3 w4 w5
   by_cases hb : 16 < bitsOf y
   · have hb' : ((16 : Int) < (bitsOf y : Int)) = True := eq_true (by omega)
     exact ⟨0, [], by simp [gos_of (n := n + 1) FT_271 rfl, F271, g1, g3, g4, w1, h, w3, w4, hb, hb'], by simp [hb, insRows, erR], fun _ => by simp [D.sts, Fr]⟩
   · have hb' : ((16 : Int) < (bitsOf y : Int)) = False := eq_false (by omega)
     by_cases hf : 8 < forksOf y
     · have hf' : ((8 : Int) < (forksOf y : Int)) = True := eq_true (by omega)
       exact ⟨0, [], by simp [gos_of (n := n + 1) FT_271 rfl, F271, g1, g3, g4, w1, h, w3, w4, hb, hb', hf, hf'], by simp [hb, hf, insRows, erR], fun _ => by simp [D.sts, Fr]⟩
     · have hf' : ((8 : Int) < (forksOf y : Int)) = False := eq_false (by omega)
       refine ⟨t fun k => subS (restS (restS (restS s))) 1 (2 * k + 1), R fun k => subS (restS (restS (restS s))) 1 (2 * k + 1), ?_, by simp [hb, hf, (w2' _).1], fun hi => by simpa using (((past_0 hi).weak.weak.weak).call 1 (w2' _).2).fr⟩
       simp [gos_of (n := n + 1) FT_271 rfl, F271, g1, g3, g4, w1, h, v2, w3, w4, w5, hb, hb', hf, hf']
 · unfold downList downCode
   rw [if_neg h]; exact ⟨0, [], by simp [gos_of (n := n + 1) FT_271 rfl, F271, g1, w1, h], by simp [insRows, erR], fun _ => by simp [D.sts, Fr]⟩
end Go.VM

/- Ladders and lists of instructions in the laws of exactness: marked, held, compared, made. Conditions: none. -/
namespace Go.VM
set_option linter.unusedVariables false
set_option linter.unusedSimpArgs false
set_option maxHeartbeats 4000000
theorem er_s {d : D} {v : Value} (h : d.er = .s v) : d = .s v := by
 cases d with
 | s u => exact h
 | l st rows => cases h
theorem er_l {d : D} {X : List (List D)} (h : d.er = .l 0 X) : ∃ st R, d = .l st R ∧ erR R = X := by
 cases d with
 | s u => cases h
 | l st rows => simp only [D.er, D.l.injEq, true_and] at h; exact ⟨st, rows, rfl, h⟩
theorem erL_c {row : List D} {x : D} {r : List D} (h : erL row = x :: r) : ∃ d q, row = d :: q ∧ d.er = x ∧ erL q = r := by
 cases row with
 | nil => cases h
 | cons d q => simp only [erL, List.cons.injEq] at h; exact ⟨d, q, rfl, h.1, h.2⟩
theorem erL_n {row : List D} (h : erL row = []) : row = [] := by
 cases row with
 | nil => rfl
 | cons d q => cases h
theorem er_mem {R X : List (List D)} (h : erR R = X) {row : List D} (hr : row ∈ R) : erL row ∈ X := by
 obtain ⟨i, hi⟩ := List.mem_iff_getElem?.1 hr; have : (erR R)[i]? = some (erL row) := by rw [erR_get, hi]; rfl
 rw [h] at this; exact List.mem_of_getElem? this
theorem er_len {R X : List (List D)} (h : erR R = X) : R.length = X.length := by rw [← h, erR_length]
section
variable {P : Program} {fid : Nat → FuncId} {cid : FuncId → Nat}
structure Env (P : Program) (fid : Nat → FuncId) (cid : FuncId → Nat) : Prop where
 cidOk : ∀ f, fid (cid f) = f
 ft : ∀ f F, FT f = some F → ∃ fn, P.funcs[fid f]? = some fn ∧ stripF P cid fn = some F
 goOk : ∀ n f args bs s r, go n f args bs s = some r → CallOK P fid GT f args bs s r
 gosOk : ∀ n f args bs s r, goS n f args bs s = some r → CallOK P fid GT f args bs s r
theorem Env.mark (E : Env P fid cid) {f sz : Nat} {fds : List Fd} (hF : FT f = some (markF sz fds)) {R : List (List D)} (hsz : ∀ row ∈ R, row.length = sz) (hfd : ∀ row ∈ R, FdOK P fid 0 fds row) (hl : R.length < 2 ^ 62) : MarkOK P fid f R := by
 obtain ⟨fn, h1, h2⟩ := E.ft f _ hF; exact markF_ok E.cidOk h1 h2 hsz hfd hl
theorem Env.held (E : Env P fid cid) {f sz : Nat} {fds : List Fd} (hF : FT f = some (heldF sz fds)) {R : List (List D)} (hsz : ∀ row ∈ R, row.length = sz) (hfd : ∀ row ∈ R, HdOK P fid 0 fds row) (hl : R.length < 2 ^ 62) : HeldOK P fid f R := by
 obtain ⟨fn, h1, h2⟩ := E.ft f _ hF; exact heldF_ok E.cidOk h1 h2 hsz hfd hl
theorem mark_args (E : Env P fid cid) {l : List Arg} {R : List (List D)} (h : erR R = argRows l) (hl : l.length < 2 ^ 62) : MarkOK P fid 239 R := by
 have key : ∀ row ∈ R, ∃ a b c, row = [.s a, .s b, .s c] := fun row hr => by
  have hm := er_mem h hr; simp only [argRows, List.mem_map] at hm; obtain ⟨a, -, ha⟩ := hm; obtain ⟨d1, q1, rfl, e1, h1⟩ := erL_c ha.symm; obtain ⟨d2, q2, rfl, e2, h2⟩ := erL_c h1; obtain ⟨d3, q3, rfl, e3, h3⟩ := erL_c h2; rw [er_s e1, er_s e2, er_s e3, erL_n h3]; exact ⟨_, _, _, rfl⟩
 refine E.mark (sz := 3) (fds := [.sc [0], .sc [1], .sc [2]]) rfl (fun row hr => ?_) (fun row hr => ?_) (by rw [er_len h]; simpa using hl)
 · obtain ⟨a, b, c, rfl⟩ := key row hr; rfl
 · obtain ⟨a, b, c, rfl⟩ := key row hr; simp [FdOK]
theorem held_args (E : Env P fid cid) {l : List Arg} {R : List (List D)} (h : erR R = argRows l) (hl : l.length < 2 ^ 62) : HeldOK P fid 240 R := by
 have key : ∀ row ∈ R, ∃ a b c, row = [.s a, .s b, .s c] := fun row hr => by
  have hm := er_mem h hr; simp only [argRows, List.mem_map] at hm; obtain ⟨a, -, ha⟩ := hm; obtain ⟨d1, q1, rfl, e1, h1⟩ := erL_c ha.symm; obtain ⟨d2, q2, rfl, e2, h2⟩ := erL_c h1; obtain ⟨d3, q3, rfl, e3, h3⟩ := erL_c h2; rw [er_s e1, er_s e2, er_s e3, erL_n h3]; exact ⟨_, _, _, rfl⟩
 refine E.held (sz := 3) (fds := [.sc [0], .sc [1], .sc [2]]) rfl (fun row hr => ?_) (fun row hr => ?_) (by rw [er_len h]; simpa using hl)
 · obtain ⟨a, b, c, rfl⟩ := key row hr; rfl
 · obtain ⟨a, b, c, rfl⟩ := key row hr; simp [HdOK]
theorem el_row {row : List D} {e : El} (h : erL row = e.row) : ∃ a st R, row = [.s a, .l st R] ∧ erR R = argRows e.as := by
 obtain ⟨d1, q1, rfl, e1, h1⟩ := erL_c h; obtain ⟨d2, q2, rfl, e2, h2⟩ := erL_c h1; obtain ⟨st, R, rfl, hR⟩ := er_l e2; rw [er_s e1, erL_n h2]; exact ⟨_, _, _, rfl, hR⟩
theorem ins_row {row : List D} {x : Ins} (h : erL row = x.row) : ∃ a b st R, row = [.s a, .s b, .l st R] ∧ erR R = argRows x.e.as := by
 obtain ⟨d1, q1, rfl, e1, h1⟩ := erL_c h; obtain ⟨d2, q2, rfl, e2, h2⟩ := erL_c h1; obtain ⟨d3, q3, rfl, e3, h3⟩ := erL_c h2; obtain ⟨st, R, rfl, hR⟩ := er_l e3; rw [er_s e1, er_s e2, erL_n h3]; exact ⟨_, _, _, _, rfl, hR⟩
theorem net_row {row : List D} {k op : Int} {as : List Arg} {ks : List Net} (h : erL row = (Net.mk k op as ks).row) : ∃ a b st R st2 R2, row = [.s a, .s b, .l st R, .l st2 R2] ∧ erR R = argRows as ∧ erR R2 = netRows ks := by
 simp only [Net.row] at h; obtain ⟨d1, q1, rfl, e1, h1⟩ := erL_c h; obtain ⟨d2, q2, rfl, e2, h2⟩ := erL_c h1; obtain ⟨d3, q3, rfl, e3, h3⟩ := erL_c h2; obtain ⟨d4, q4, rfl, e4, h4⟩ := erL_c h3; obtain ⟨st, R, rfl, hR⟩ := er_l e3; obtain ⟨st2, R2, rfl, hR2⟩ := er_l e4; rw [er_s e1, er_s e2, erL_n h4]; exact ⟨_, _, _, _, _, _, rfl, hR, hR2⟩
theorem arm_row {row : List D} {k op : Int} {as : List Arg} {nks : List Net} {cs : List El} {ks : List Arm} (h : erL row = (Arm.mk (.mk k op as nks) cs ks).row) :
 ∃ a b st R st2 R2 st3 R3 st4 R4, row = [.s a, .s b, .l st R, .l st2 R2, .l st3 R3, .l st4 R4] ∧ erR R = argRows as ∧ erR R2 = netRows nks ∧ erR R3 = elRows cs ∧ erR R4 = armRows ks := by
 simp only [Arm.row] at h; obtain ⟨d1, q1, rfl, e1, h1⟩ := erL_c h; obtain ⟨d2, q2, rfl, e2, h2⟩ := erL_c h1; obtain ⟨d3, q3, rfl, e3, h3⟩ := erL_c h2; obtain ⟨d4, q4, rfl, e4, h4⟩ := erL_c h3; obtain ⟨d5, q5, rfl, e5, h5⟩ := erL_c h4; obtain ⟨d6, q6, rfl, e6, h6⟩ := erL_c h5; obtain ⟨st, R, rfl, hR⟩ := er_l e3; obtain ⟨st2, R2, rfl, hR2⟩ := er_l e4; obtain ⟨st3, R3, rfl, hR3⟩ := er_l e5; obtain ⟨st4, R4, rfl, hR4⟩ := er_l e6; rw [er_s e1, er_s e2, erL_n h6]; exact ⟨_, _, _, _, _, _, _, _, _, _, rfl, hR, hR2, hR3, hR4⟩
theorem mark_els (E : Env P fid cid) {l : List El} {R : List (List D)} (h : erR R = elRows l) (hl : elsWt l < 2 ^ 62) : MarkOK P fid 257 R := by
 have hlen := elsWt_len l; refine E.mark (sz := 2) (fds := [.sc [0], .sb [1] 239]) rfl (fun row hr => ?_) (fun row hr => ?_) (by rw [er_len h]; simp; omega)
 all_goals
  have hm := er_mem h hr; simp only [elRows, List.mem_map] at hm; obtain ⟨e, he, hrow⟩ := hm; obtain ⟨a, st, R', rfl, hR⟩ := el_row hrow.symm
 · rfl
 · have hw := elsWt_mem he
   simp only [El.wt] at hw; simp only [FdOK]; exact ⟨by simp, by simp, mark_args E hR (by omega), trivial⟩
theorem mark_ins (E : Env P fid cid) {l : List Ins} {R : List (List D)} (h : erR R = insRows l) (ha : ∀ x ∈ l, x.e.as.length < 2 ^ 62) (hl : l.length < 2 ^ 62) : MarkOK P fid 276 R := by
 refine E.mark (sz := 3) (fds := [.sc [0], .sc [1, 0], .sb [1, 1] 239]) rfl (fun row hr => ?_) (fun row hr => ?_) (by rw [er_len h]; simpa [insRows] using hl)
 all_goals
  have hm := er_mem h hr; simp only [insRows, List.mem_map] at hm; obtain ⟨e, he, hrow⟩ := hm; obtain ⟨a, b, st, R', rfl, hR⟩ := ins_row hrow.symm
 · rfl
 · simp only [FdOK]
   exact ⟨by simp, by simp, by simp, mark_args E hR (ha e he), trivial⟩
theorem held_ins (E : Env P fid cid) {l : List Ins} {R : List (List D)} (h : erR R = insRows l) (ha : ∀ x ∈ l, x.e.as.length < 2 ^ 62) (hl : l.length < 2 ^ 62) : HeldOK P fid 277 R := by
 refine E.held (sz := 3) (fds := [.sc [0], .sc [1, 0], .sb [1, 1] 240]) rfl (fun row hr => ?_) (fun row hr => ?_) (by rw [er_len h]; simpa [insRows] using hl)
 all_goals
  have hm := er_mem h hr; simp only [insRows, List.mem_map] at hm; obtain ⟨e, he, hrow⟩ := hm; obtain ⟨a, b, st, R', rfl, hR⟩ := ins_row hrow.symm
 · rfl
 · simp only [HdOK]
   exact ⟨by simp, by simp, by simp, held_args E hR (ha e he), trivial⟩
theorem mark_nets (E : Env P fid cid) : ∀ (m : Nat) {l : List Net} {R : List (List D)}, netsWt l ≤ m → m < 2 ^ 62 → erR R = netRows l → MarkOK P fid 233 R := by
 intro m
 induction m with
 | zero =>
  intro l R hw hm h; have e : l = [] := by
   cases l with
   | nil => rfl
   | cons a r => have := a.wt_pos; simp [netsWt] at hw; omega
  subst e; have hR : R = [] := by have := er_len h; simpa [netRows] using this
  subst hR; exact E.mark (sz := 4) (fds := [.sc [0], .sc [1, 0], .sb [1, 1] 239, .sb [3] 233]) rfl (by simp) (by simp) (by simp)
 | succ m ih =>
  intro l R hw hm h; have hlen := netsWt_len l; refine E.mark (sz := 4) (fds := [.sc [0], .sc [1, 0], .sb [1, 1] 239, .sb [3] 233]) rfl (fun row hr => ?_) (fun row hr => ?_) (by rw [er_len h]; simp; omega)
  all_goals
   have hmm := er_mem h hr; simp only [netRows_map, List.mem_map] at hmm; obtain ⟨⟨k, op, as, ks⟩, he, hrow⟩ := hmm; obtain ⟨a, b, st, R1, st2, R2, rfl, h1, h2⟩ := net_row hrow.symm
  · rfl
  · have hx := netsWt_mem he
    simp only [Net.wt] at hx; simp only [FdOK]; exact ⟨by simp, by simp, by simp, mark_args E h1 (by omega), by simp, ih (by omega) (by omega) h2, trivial⟩
theorem mark_arms (E : Env P fid cid) : ∀ (m : Nat) {l : List Arm} {R : List (List D)}, armsWt l ≤ m → m < 2 ^ 62 → erR R = armRows l → MarkOK P fid 255 R := by
 intro m
 induction m with
 | zero =>
  intro l R hw hm h; have e : l = [] := by
   cases l with
   | nil => rfl
   | cons a r => have := a.wt_pos; simp [armsWt] at hw; omega
  subst e; have hR : R = [] := by have := er_len h; simpa [armRows] using this
  subst hR; exact E.mark (sz := 6) (fds := [.sc [0, 0], .sc [0, 1, 0], .sb [0, 1, 1] 239, .sb [0, 3] 233, .sb [4] 257, .sb [5] 255]) rfl (by simp) (by simp) (by simp)
 | succ m ih =>
  intro l R hw hm h; have hlen := armsWt_len l; refine E.mark (sz := 6) (fds := [.sc [0, 0], .sc [0, 1, 0], .sb [0, 1, 1] 239, .sb [0, 3] 233, .sb [4] 257, .sb [5] 255]) rfl (fun row hr => ?_) (fun row hr => ?_) (by rw [er_len h]; simp; omega)
  all_goals
   have hmm := er_mem h hr; simp only [armRows_map, List.mem_map] at hmm; obtain ⟨⟨⟨k, op, as, nks⟩, cs, ks⟩, he, hrow⟩ := hmm; obtain ⟨a, b, st, R1, st2, R2, st3, R3, st4, R4, rfl, h1, h2, h3, h4⟩ := arm_row hrow.symm
  · rfl
  · have hx := armsWt_mem he
    simp only [Arm.wt, Net.wt] at hx; simp only [FdOK]; exact ⟨by simp, by simp, by simp, mark_args E h1 (by omega), by simp, mark_nets E (netsWt nks) (Nat.le_refl _) (by omega) h2, by simp, mark_els E h3 (by omega), by simp, ih (by omega) (by omega) h4, trivial⟩
end
theorem ct_args : ∀ l : List Arg, ctR (argRows l) = 3 * l.length
 | [] => rfl
 | a :: r => by
  have := ct_args r; simp only [argRows, List.map_cons, ctR] at this ⊢; rw [this]; simp [ctL, D.ct, Arg.row]; omega
theorem ct_els : ∀ l : List El, ctR (elRows l) ≤ 3 * elsWt l
 | [] => by simp [elRows, ctR]
 | a :: r => by
  have := ct_els r; have h2 := ct_args a.as; simp only [elRows, List.map_cons, ctR, elsWt, El.wt] at this ⊢; simp only [ctL, D.ct, El.row, h2]; omega
mutual
theorem ct_net : ∀ t : Net, ctL t.row ≤ 3 * t.wt
 | .mk k op as ks => by
  have h1 := ct_args as; have h2 := ct_nets ks; simp only [Net.row, ctL, D.ct, Net.wt, h1]; omega
theorem ct_nets : ∀ l : List Net, ctR (netRows l) ≤ 3 * netsWt l
 | [] => by simp [netRows, ctR]
 | a :: r => by
  have h1 := ct_net a; have h2 := ct_nets r; simp only [netRows, ctR, netsWt]; omega
end
mutual
theorem ct_arm : ∀ a : Arm, ctL a.row ≤ 3 * a.wt
 | .mk (.mk k op as nks) cs ks => by
  have h1 := ct_args as; have h2 := ct_nets nks; have h3 := ct_els cs; have h4 := ct_arms ks; simp only [Arm.row, ctL, D.ct, Arm.wt, Net.wt, h1]; omega
theorem ct_arms : ∀ l : List Arm, ctR (armRows l) ≤ 3 * armsWt l
 | [] => by simp [armRows, ctR]
 | a :: r => by
  have h1 := ct_arm a; have h2 := ct_arms r; simp only [armRows, ctR, armsWt]; omega
end
theorem ct_ins (m : Nat) : ∀ l : List Ins, (∀ x ∈ l, x.e.as.length ≤ m) → ctR (insRows l) ≤ l.length * (2 + 3 * m)
 | [], _ => by simp [insRows, ctR]
 | a :: r, h => by
  have h1 := ct_ins m r fun x hx => h x (List.mem_cons_of_mem _ hx)
  have h2 := ct_args a.e.as; have h3 := h a (List.mem_cons_self ..); simp only [insRows, List.map_cons, ctR] at h1 ⊢; rw [List.length_cons, Nat.add_mul, Nat.one_mul]; simp only [ctL, D.ct, Ins.row, h2]; omega
end Go.VM
