/- Whether two lists of lists of instructions are the same. Conditions: none. -/
import Derived.Test.YtfpkfcfiihfopaaDoorVP10
import Derived.Test.YtfpkfcfiihfopaaDoorVP15
import Derived.Test.YtfpkfcfiihfopaaDoorVP11
import Derived.Test.YtfpkfcfiihfopaaDoorVP19

namespace Go.VM
set_option linter.unusedVariables false
set_option linter.unusedSimpArgs false
set_option maxHeartbeats 8000000
def eqL_B0 (c : Nat) : C := (.seq (.seq (.reg [om 11 5, om 12 0, oo 13 (.lenl (.t 12)), oo 14 (.bin .lss .one (.t 11) (.t 13))]) (.cond (.t 14) .skip (.exit 0))) (.seq (.block 1 (.seq (.dreg [om 17 0, om 18 5, oo 19 (.ia 1 (.t 17) (.t 18)), oo 20 (.ld false 1 (.t 19)), om 21 1, om 22 5, oo 23 (.ia 1 (.t 21) (.t 22)), oo 24 (.ld false 1 (.t 23)), oo 25 (.call (xf c) [(.t 20), (.t 24)]), oo 26 (.un .not (.t 25))] [0, 0, 3, 7, 0, 0, 48, 112, 255, 511]) (.cond (.t 26) (.seq (.reg [oo 4 (.mv (xb false))]) .ret) .skip))) (.reg [om 15 5, oo 16 (.bin .add .one (.t 15) (xi 1)), om 5 16])))
def eqL_L0 (c : Nat) : C := .loop (eqL_B0 c)
def eqL (c : Nat) : Fn := ⟨27, [.tmp 4], (.seq (.reg [oo 4 (.mv (xb false))]) (.seq (.seq (.reg [om 6 0, oo 7 (.lenl (.t 6)), om 8 1, oo 9 (.lenl (.t 8)), oo 10 (.bin .neq .one (.t 7) (.t 9))]) (.cond (.t 10) (.seq (.reg [oo 4 (.mv (xb false))]) .ret) .skip)) (.seq (.seq (.reg [oo 5 (.mv (xi 0))]) (.block 0 (eqL_L0 c))) (.seq (.reg [oo 4 (.mv (xb true))]) .ret))))⟩
theorem run_eqL {f c n : Nat} (hF : FT f = some (eqL c)) (hof : orc f = false := by rfl) (hsf : spIds.contains f = false := by rfl) (hm : mode f = {} := by rfl) (hci : (mode c).inout = false := by rfl) (rows : List (List D)) (hr : ∀ r ∈ rows, ∃ d, r = [d] ∧ ∀ s, go n c [.w (.d d), .w (.d d)] [] s = some ⟨bV true, [], []⟩)
 (hl : rows.length < 2 ^ 60) (hn : rows.length < n) (s : Sup) : go (n + 1) f [.w (.d (.l 0 rows)), .w (.d (.l 0 rows))] [] s = some ⟨bV true, [], []⟩ := by
 simp [-mode, go_of hF hof hsf, eqL, hm]; generalize hst : St.mk _ _ _ _ = st; have key : ∃ e st', execC (go n) mode GT false 27 n (eqL_L0 c) st = some (e, st') ∧ e ≠ .normal ∧ e = .exit 0 := by
  rw [eqL_L0, execC_loop]; refine iter_rule (fun k st => ∃ i, i + k = rows.length ∧ st.τ 0 = .w (.d (.l 0 rows)) ∧ st.τ 1 = .w (.d (.l 0 rows)) ∧ st.τ 5 = iV i) ?_ n rows.length st hn ⟨0, by omega, by simp [← hst], by simp [← hst], by simp [← hst]⟩
  clear hst; rintro k ⟨τ, H, g, s⟩ ⟨i, hk, h0, h1, h5⟩; simp only at h0 h1 h5; cases k with
  | zero =>
   have : i = rows.length := by omega
   subst this; refine ⟨.exit 0, ?_⟩
   simp [-getElem?_pos, eqL_B0, h0, h1, h5]
  | succ k =>
   have hlt : i < rows.length := by omega
   have hlt' : ((i : Int) < (rows.length : Int)) = True := eq_true (by omega); have hgt := List.getElem?_eq_getElem hlt; have hmem := List.getElem_mem hlt; have hw := wrap_succ (i := i) (by omega); obtain ⟨d, hd, w⟩ := hr _ hmem; rw [hd] at hgt; refine ⟨.normal, ?_⟩
   simp [-getElem?_pos, -mode, hci, eqL_B0, h0, h1, h5, hlt, hlt', hgt, w, hw]; exact ⟨k, by omega, i + 1, by omega, by simp⟩
 obtain ⟨e, ⟨τ', H', g', s'⟩, hx, -, rfl⟩ := key; clear hst; simp [-mode, hx, hm]
theorem same_rungs {f n m : Nat} (hF : FT f = some (eqL 275)) (hof : orc f = false := by rfl) (hsf : spIds.contains f = false := by rfl) (hmo : mode f = {} := by rfl) (L : List (List Ins)) (ha : ∀ p ∈ L, p.length ≤ 1000 ∧ ∀ x ∈ p, x.e.as.length ≤ m) (hm : m < 2 ^ 30) (hn : 1000 + m + 9 ≤ n) (hL : L.length ≤ 1000) (s : Sup) : go (n + 1) f [.w (rgW L), .w (rgW L)] [] s = some ⟨bV true, [], []⟩ := by
 refine run_eqL (rows := rgRows L) hF hof hsf hmo rfl (fun r hr => ?_) (by simp [rgRows]; omega) (by simp [rgRows]; omega) s
 simp only [rgRows, List.mem_map] at hr; obtain ⟨p, hp, rfl⟩ := hr; obtain ⟨h1, h2⟩ := ha p hp; exact ⟨_, rfl, fun s => same_list p m h2 hm (by omega) (by omega) s⟩
end Go.VM

/- What the law of exactness for SureRungs wants. Conditions: none. -/
namespace Go.VM
set_option linter.unusedVariables false
set_option linter.unusedSimpArgs false
set_option maxHeartbeats 4000000
theorem rungsGo_mem : ∀ (l acc : List Ins), ∀ p ∈ rungsGo acc l, p.length ≤ acc.length + l.length ∧ ∀ x ∈ p, x ∈ acc ∨ x ∈ l
 | [], acc, p, h => by simp [rungsGo] at h
 | i :: r, acc, p, h => by
  unfold rungsGo at h; split at h
  · rcases List.mem_cons.1 h with rfl | h
    · refine ⟨by simp, fun x hx => ?_⟩
      rcases List.mem_append.1 hx with hx | hx
      · exact .inl hx
      · simp at hx; subst hx; exact .inr (by simp)
    · obtain ⟨h1, h2⟩ := rungsGo_mem r [] p h
      refine ⟨by simp at h1 ⊢; omega, fun x hx => ?_⟩
      rcases h2 x hx with h | h
      · cases h
      · exact .inr (by simp [h])
  · obtain ⟨h1, h2⟩ := rungsGo_mem r (acc ++ [i]) p h
    refine ⟨by simp at h1 ⊢; omega, fun x hx => ?_⟩
    rcases h2 x hx with h | h
    · rcases List.mem_append.1 h with h | h
      · exact .inl h
      · simp at h; subst h; exact .inr (by simp)
    · exact .inr (by simp [h])
theorem rungsL_mem {l : List Ins} {p : List Ins} (h : p ∈ rungsL l) : p.length ≤ l.length ∧ ∀ x ∈ p, x ∈ l := by
 obtain ⟨h1, h2⟩ := rungsGo_mem l [] p h; refine ⟨by simpa using h1, fun x hx => ?_⟩
 rcases h2 x hx with h | h
 · cases h
 · exact h
theorem ct_rg (m k : Nat) : ∀ L : List (List Ins), (∀ p ∈ L, p.length ≤ k ∧ ∀ x ∈ p, x.e.as.length ≤ m) → ctR (rgRows L) ≤ L.length * (k * (2 + 3 * m))
 | [], _ => by simp [rgRows, ctR]
 | p :: r, h => by
  have h1 := ct_rg m k r fun q hq => h q (List.mem_cons_of_mem _ hq)
  obtain ⟨h2, h3⟩ := h p (List.mem_cons_self ..); have h4 := ct_ins m p h3; have h5 : p.length * (2 + 3 * m) ≤ k * (2 + 3 * m) := Nat.mul_le_mul_right _ h2; rw [List.length_cons, Nat.add_mul, Nat.one_mul]; simp only [rgRows, List.map_cons, ctR, ctL, D.ct] at h1 ⊢; omega
theorem er_rgRows (L : List (List Ins)) : erR (rgRows L) = rgRows L := er_rows (row := fun p => [.l 0 (insRows p)]) (fun a => by simp [erL, D.er, er_insRows]) L
theorem rg_row {row : List D} {p : List Ins} (h : erL row = [.l 0 (insRows p)]) : ∃ st R, row = [.l st R] ∧ erR R = insRows p := by
 obtain ⟨d1, q1, rfl, e1, h1⟩ := erL_c h; obtain ⟨st, R, rfl, hR⟩ := er_l e1; rw [erL_n h1]; exact ⟨_, _, rfl, hR⟩
section
variable {P : Program} {fid : Nat → FuncId} {cid : FuncId → Nat} {w0 w : World}
theorem mark_rg (E : Env P fid cid) {f : Nat} (hF : FT f = some (markF 1 [.sb [] 276])) {L : List (List Ins)} {R : List (List D)} (h : erR R = rgRows L) (ha : ∀ p ∈ L, p.length < 2 ^ 62 ∧ ∀ x ∈ p, x.e.as.length < 2 ^ 62) (hl : L.length < 2 ^ 62) : MarkOK P fid f R := by
 refine E.mark hF (fun row hr => ?_) (fun row hr => ?_) (by rw [er_len h]; simpa [rgRows] using hl)
 all_goals
  have hm := er_mem h hr; simp only [rgRows, List.mem_map] at hm; obtain ⟨p, hp, hrow⟩ := hm; obtain ⟨st, R', rfl, hR⟩ := rg_row hrow.symm
 · rfl
 · simp only [FdOK]
   exact ⟨by simp, mark_ins E hR (fun x hx => (ha p hp).2 x hx) (ha p hp).1, trivial⟩
theorem held_rg (E : Env P fid cid) {f : Nat} (hF : FT f = some (heldF 1 [.sb [] 277])) {L : List (List Ins)} {R : List (List D)} (h : erR R = rgRows L) (ha : ∀ p ∈ L, p.length < 2 ^ 62 ∧ ∀ x ∈ p, x.e.as.length < 2 ^ 62) (hl : L.length < 2 ^ 62) : HeldOK P fid f R := by
 refine E.held hF (fun row hr => ?_) (fun row hr => ?_) (by rw [er_len h]; simpa [rgRows] using hl)
 all_goals
  have hm := er_mem h hr; simp only [rgRows, List.mem_map] at hm; obtain ⟨p, hp, hrow⟩ := hm; obtain ⟨st, R', rfl, hR⟩ := rg_row hrow.symm
 · rfl
 · simp only [HdOK]
   exact ⟨by simp, held_ins E hR (fun x hx => (ha p hp).2 x hx) (ha p hp).1, trivial⟩
theorem law_SureRungs (E : Env P fid cid) (hG : ∀ g row, GT g = some row → erL row = row) {c0 fE fM fH : Nat} (hlaw : FT c0 = some ⟨69, [.tmp 2], lawA 289 290 323 279 fE 275 276 fM fH⟩) (hM : FT fM = some (markF 1 [.sb [] 276])) (hH : FT fH = some (heldF 1 [.sb [] 277]))
 (hE : FT fE = some (eqL 275)) (ho : orc fE = false) (hs : spIds.contains fE = false) (hmo : mode fE = {})
 {l : List Ins} (hf : dFits (.l 0 (insRows l))) : CallOK P fid GT c0 [.w (isW l)] [] sup0 ⟨sV (.bool true), [], []⟩ := by
 obtain ⟨fn, hfn, hF⟩ := E.ft c0 _ hlaw; refine law_ok (fun κ vs hI hl hr => ?_) (enters_of hfn hF)
 obtain ⟨v, hv, hrel⟩ := hr 0 _ rfl; obtain rfl : vs = [v] := by
  match vs, hl, hv with
  | [x], _, hv => simp at hv; rw [hv]
 have hg := glob_in hI hG; have ha := rd_in hrel (by simp only [D.er, er_insRows]); refine MC_of E.cidOk hfn hF (by simp) 1 ?_
 by_cases hbig : listD l ≤ 2 ^ 20
 · have hb' : l.length + rowsW (insRows l) ≤ 2 ^ 20 := hbig
   have hargs : ∀ x ∈ l, x.e.as.length ≤ 2 ^ 20 := fun x hx => by have := list_mem hx; omega
   have hcA := ct_ins (2 ^ 20) l hargs; have hmul : l.length * (2 + 3 * 2 ^ 20) ≤ 2 ^ 20 * (2 + 3 * 2 ^ 20) := Nat.mul_le_mul_right _ (by omega); have hL : (∀ p ∈ (if (checkL l).1 = 0 then rungsL l else []), p.length ≤ 1000 ∧ ∀ x ∈ p, x.e.as.length ≤ 2 ^ 20) ∧ (if (checkL l).1 = 0 then rungsL l else []).length ≤ 1000 := by
    split
    · rename_i h
      have hlen : l.length ≤ 1000 := by
       unfold checkL at h; split at h
       · cases h
       · omega
      refine ⟨fun p hp => ?_, Nat.le_trans (rungsGo_len l []) hlen⟩
      obtain ⟨h1, h2⟩ := rungsL_mem hp; exact ⟨by omega, fun x hx => hargs x (h2 x hx)⟩
    · exact ⟨by simp, by simp⟩
   have hcR := ct_rg (2 ^ 20) 1000 (if (checkL l).1 = 0 then rungsL l else []) hL.1; have hmul2 : (if (checkL l).1 = 0 then rungsL l else []).length * (1000 * (2 + 3 * 2 ^ 20)) ≤ 1000 * (1000 * (2 + 3 * 2 ^ 20)) := Nat.mul_le_mul_right _ hL.2; refine lawA_ok (rowsA := insRows l) (rowsR := rgRows (if (checkL l).1 = 0 then rungsL l else [])) rfl (by omega) (by omega) ((sz_callL E hg hf ha).mono ?_) (fun τ w h2 hw => ⟨.inl rfl, h2, hw⟩)
   rintro r w' ⟨h1, k, rfl, hk⟩; refine ⟨h1, k, rfl, fun h0 => ⟨sound_list E hg (hk h0) ha, ?_, ?_, ?_, ?_, ?_⟩⟩
   · intro N v w hw hv
     refine (E.call1 hg hw (run_SureRungsS (n := l.length + 100) l (fun x hx => by have := hargs x hx; omega) (by omega) (by omega) (by omega) sup0) hv).mono ?_
     rintro r w' ⟨κ', rfl, O⟩; exact ⟨out_tou O, rd_of O O.v (by simp only [D.er, er_rgRows])⟩
   · intro N v w hw hv
     obtain ⟨t, R, h⟩ := ps_SureRungs (n := l.length + 100) l (fun x hx => by have := hargs x hx; omega) (by omega) (by omega) (by omega); obtain ⟨h1, h2, h3⟩ := h sup0; refine (E.calls hg hw h1 hv).mono ?_
     rintro r w' ⟨κ', rfl, O⟩; exact ⟨κ'.ζ, _, _, out_own sup0_ne O (h3 sup0_inj), h2⟩
   · intro N M u v w hw hu hv
     have h := same_rungs (n := 1000 + 2 ^ 20 + 9) hE ho hs hmo _ hL.1 (by omega) (Nat.le_refl _) hL.2 sup0; refine (E.call2 hg hw h hu hv).mono ?_
     rintro r w' ⟨κ', rfl, O⟩; exact ⟨out_s O, out_tou O⟩
   · exact fun R hR => mark_rg E hM hR (fun p hp => ⟨by have := (hL.1 p hp).1; omega, fun x hx => by have := (hL.1 p hp).2 x hx; omega⟩) (by have := hL.2; omega)
   · exact fun R hR => held_rg E hH hR (fun p hp => ⟨by have := (hL.1 p hp).1; omega, fun x hx => by have := (hL.1 p hp).2 x hx; omega⟩) (by have := hL.2; omega)
 · refine lawA_ok (rowsA := []) (rowsR := []) rfl (by simp [ctR]) (by simp [ctR]) ((sz_callL E hg hf ha).mono ?_) (fun τ w h2 hw => ⟨.inl rfl, h2, hw⟩)
   rintro r w' ⟨h1, k, rfl, hk⟩; exact ⟨h1, k, rfl, fun h0 => absurd (hk h0) hbig⟩
end
end Go.VM
