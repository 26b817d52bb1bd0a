/- The normal form of a net, with stamps. Conditions: none. -/
import Derived.Test.YtfpkfcfiihfopaaDoorXVP5
import Derived.Test.YtfpkfcfiihfopaaDoorXVY8

namespace Go.VM
set_option linter.unusedSimpArgs false
set_option linter.unusedVariables false
set_option maxHeartbeats 16000000
theorem Past.sub' {s0 s : Sup} {U U' : List Nat} (h : Past s0 s U) (hs : U'.Sublist U) : Past s0 s U' :=
 ⟨h.nd.sublist hs, fun t ht => h.of t (hs.subset ht), fun k hk => h.no k (hs.subset hk), h.sub, h.inj⟩
theorem stsR_sub (t : Nat) (R : List (List D)) : (stsR R).Sublist (D.l t R).sts := by
 rw [sts_l]; split
 · rename_i e; rw [List.isEmpty_iff] at e; rw [e]; exact List.nil_sublist _
 · exact List.sublist_cons_self _ _
def MkN (n c : Nat) (args : List V) (t : Net) : Prop := MkNet n c args t.kind t.op t.as t.kids
theorem len4_of {l : List Net} {R : List (List D)} (h : erR R = netRows l) : ∀ r ∈ R, r.length = 4 := by
 intro r hr; obtain ⟨i, hi⟩ := List.mem_iff_getElem?.1 hr; have : (erR R)[i]? = some (erL r) := by rw [erR_get, hi]; rfl
 rw [h] at this; have := len_of4 l _ (List.mem_of_getElem? this)
 simpa using this
def NKids (cw : W) (R : List (List D)) (H : Nat → Box) (g : Nat) : Prop := (R = [] ∧ cw = .nil) ∨ ∃ b, 704 < b ∧ b < g ∧ cw = .own b 0 R.length none ∧ H b = .row none 4 R 0
def NInv (l : List Net) (k0 op0 : Int) (as0 : List Arg) (s0 : Sup) (k : Nat) (st : St) : Prop :=
 ∃ (i : Nat) (cw : W) (R : List (List D)), i + k = l.length ∧ st.τ 1 = .w (.ptr 0 0) ∧ st.H 0 = .cells [iW k0, iW op0, asW as0, nsW l] ∧ st.τ 2 = .w (.ptr 64 0) ∧ st.H 64 = .cells [iW 0, iW 0, .nil, .nil] ∧ st.τ 3 = .w (.ptr 704 0) ∧
  st.τ 26 = .w (nsW l) ∧ st.τ 27 = iV l.length ∧ st.τ 28 = iV i ∧ 704 < st.g ∧ st.H 704 = .cells [iW k0, iW 0, .nil, cw] ∧ NKids cw R st.H st.g ∧ erR R = netRows (accN k0 l i) ∧ (Inj s0 → Past s0 st.s (stsR R))
theorem loopS120 {n : Nat} (l : List Net) (k0 op0 : Int) (as0 : List Arg) (hc : ∀ x ∈ l, MkN n 120 [netX x] x.norm) (hr : ∀ x ∈ l, x.wrong = 0) (hwt : netsWt l < 2 ^ 29) (s0 : Sup) (hn : l.length < n) (hl : l.length < 2 ^ 40) (st : St)
 (h1 : st.τ 1 = .w (.ptr 0 0)) (h0 : st.H 0 = .cells [iW k0, iW op0, asW as0, nsW l]) (h2 : st.τ 2 = .w (.ptr 64 0)) (hC : st.H 64 = .cells [iW 0, iW 0, .nil, .nil]) (h3 : st.τ 3 = .w (.ptr 704 0)) (hA : st.H 704 = .cells [iW k0, iW 0, .nil, .nil])
 (h26 : st.τ 26 = .w (nsW l)) (h27 : st.τ 27 = iV l.length) (h28 : st.τ 28 = iV 0) (hgg : 704 < st.g) (hp : Inj s0 → Past s0 st.s []) :
 ∃ e st', execC (goS n) modeT GT true 65 n F120_L0 st = some (e, st') ∧ e ≠ .normal ∧ (e = .exit 1 ∧ ∃ cw R, st'.τ 2 = .w (.ptr 64 0) ∧ st'.H 64 = .cells [iW 0, iW 0, .nil, .nil] ∧ st'.τ 3 = .w (.ptr 704 0) ∧ st'.H 704 = .cells [iW k0, iW 0, .nil, cw] ∧
  NKids cw R st'.H st'.g ∧ erR R = netRows (accN k0 l l.length) ∧ (Inj s0 → Past s0 st'.s (stsR R))) := by
 rw [F120_L0, execC_loop]; refine iter_rule (NInv l k0 op0 as0 s0) ?_ n l.length st hn
  ⟨0, .nil, [], by omega, h1, h0, h2, hC, h3, h26, h27, by simpa using h28, hgg, hA, .inl ⟨rfl, rfl⟩, by simp [accN, netsNorm, netRows, erR], by simpa [stsR] using hp⟩
 clear h1 h0 h2 hC h3 h26 h27 h28 hgg hA hp; rintro k ⟨τ, H, g, s⟩ ⟨i, cw, R, hk, h1, h0, h2, hC, h3, h26, h27, h28, hgg, hA, hcw, hR, hp⟩; simp only at h1 h0 h2 hC h3 h26 h27 h28 hgg hA hcw hp; cases k with
 | zero =>
  have : i = l.length := by omega
  subst this; refine ⟨.exit 1, ⟨upd τ 29 (.w (.d (.s (.bool false)))), H, g + 64, restS s⟩, ?_, by simp, fun _ => ⟨rfl, cw, R, by simpa using h2, hC, by simpa using h3, hA, ?_, hR, fun hi => (hp hi).weak⟩⟩
  · simp [F120_B0, h1, h2, h3, h26, h27, h28]
  · rcases hcw with hcw | ⟨b, hb1, hb2, hb3, hb4⟩
    · exact .inl hcw
    · exact .inr ⟨b, hb1, by simp only; omega, hb3, hb4⟩
 | succ k =>
  have hlt : i < l.length := by omega
  have hlt' := ltT hlt; have hg := List.getElem?_eq_getElem hlt; have hmem := List.getElem_mem hlt; have hw := wrap_succ (i := i) (by omega); have w := hc _ hmem; have hstep := accN_step (k := k0) hg; have hwtA := accN_wt (k := k0) hr (i + 1); rw [hstep, netsWt_append] at hwtA; have hlA := netsWt_len (accN k0 l i); obtain ⟨k', op, as, ks, hx⟩ : ∃ k' op as ks, l[i] = .mk k' op as ks := by cases l[i]; exact ⟨_, _, _, _, rfl⟩
  rw [hx] at hg w hstep hwtA; generalize Net.norm (.mk k' op as ks) = y at w hstep hwtA; obtain ⟨k2, op2, as2, ks2⟩ := y; obtain ⟨t1, t2, R1, R2, w⟩ := w; simp only [Net.kind, Net.op, Net.as, Net.kids] at w; have w1 := fun s => (w s).1
  have hb := netRows_get hg; have fgX := far hgg; have fcX := far (show 64 < g by omega); have fzX := far (show 0 < g by omega); have glt : ∀ m : Nat, m ≤ 704 → (m < g) = True := fun m h => eq_true (by omega)
  have gle : ∀ m : Nat, m ≤ 704 → (g ≤ m) = False := fun m h => eq_false (by omega)
  have hRl : R.length = (accN k0 l i).length := by have := congrArg List.length hR; simpa using this
  generalize accN k0 l i = A at hR hstep hwtA hlA hRl
  by_cases hkk : k2 = k0
  · subst hkk
    have ho : Net.open k2 (.mk k2 op2 as2 ks2) = ks2 := by simp [Net.open, Net.kind, Net.kids]
    rw [ho] at hstep hwtA; have hl2 := netsWt_len ks2; have hR2 := fun s => (w s).2.2.1
    have hR2l : ∀ s, (R2 s).length = ks2.length := fun s => by have := congrArg List.length (hR2 s); simpa using this
    have al := fun s => eq_true (len4_of (hR2 s))
    have rm : room (R.length + ks2.length) 64 = true := room_of (by omega) (by omega); have rm2 : room ks2.length 64 = true := room_of (by omega) (by omega)
    suffices hsuf : ∃ st', execC (goS n) modeT GT true 65 n F120_B0 ⟨τ, H, g, s⟩ = some (.normal, st') ∧ st'.τ 1 = .w (.ptr 0 0) ∧ st'.H 0 = .cells [iW k2, iW op0, asW as0, nsW l] ∧ st'.τ 2 = .w (.ptr 64 0) ∧ st'.H 64 = .cells [iW 0, iW 0, .nil, .nil] ∧ st'.τ 3 = .w (.ptr 704 0) ∧
     st'.τ 26 = .w (nsW l) ∧ st'.τ 27 = iV l.length ∧ st'.τ 28 = iV ((i + 1 : Nat) : Int) ∧ 704 < st'.g ∧ (∃ cw', st'.H 704 = .cells [iW k2, iW 0, .nil, cw'] ∧ NKids cw' (R ++ R2 fun k => subS (restS (restS s)) 1 (2 * k + 1)) st'.H st'.g) ∧ st'.s = restS (restS (restS (restS (restS (restS s))))) by
     obtain ⟨st', a0, a1, a2, a3, a4, a5, a6, a7, a8, a9, ⟨cw', a10, a11⟩, a12⟩ := hsuf; rw [a0]; refine ⟨.normal, st', rfl, fun _ => ⟨k, by omega, i + 1, cw', _, by omega, a1, a2, a3, a4, a5, a6, a7, a8, a9, a10, a11, by rw [erR_append, hR, hR2, hstep, netRows_append], fun hi => ?_⟩, fun h => absurd rfl h⟩
     rw [a12, stsR_append]; have h3 := ((((hp hi).weak.weak).call 1 (w _).2.2.2).weak.weak.weak); refine h3.sub' ((List.Sublist.refl _).append ?_)
     exact List.sublist_append_of_sublist_right (stsR_sub _ _)
    rcases hcw with ⟨rfl, rfl⟩ | ⟨b, hb1, hb2, rfl, hB⟩
    · simp [-getElem?_pos, F120_B0, h1, h0, h2, hC, h3, h26, h27, h28, hA, hlt, hlt', hb, w1, hw, al, hR2l, rm2, fgX, fcX, fzX, glt, gle]
      have hne : ¬ (g + 64 + 256 + 256 + 320 + 256 = 704) := by omega
      exact .inr ⟨g + 64 + 256 + 256 + 320 + 256, by omega, by omega, by simp [hR2l], by simp [upd, hne]⟩
    · have fbX := far hb2
      have b1 : (704 = b) = False := eq_false (by omega); have b2 : (64 = b) = False := eq_false (by omega); have b3 : (0 = b) = False := eq_false (by omega); have b4 : (b = 704) = False := eq_false (by omega); simp [-getElem?_pos, F120_B0, h1, h0, h2, hC, h3, h26, h27, h28, hA, hB, hlt, hlt', hb, w1, hw, al, hR2l, rm, fgX, fcX, fzX, fbX, b1, b2, b3, b4, glt, gle]; have hne : ¬ (g + 64 + 256 + 256 + 320 + 256 = 704) := by omega
      exact .inr ⟨g + 64 + 256 + 256 + 320 + 256, by omega, by omega, by simp [hR2l], by simp [upd, hne]⟩
  · have ho : Net.open k0 (.mk k2 op2 as2 ks2) = [.mk k2 op2 as2 ks2] := by simp [Net.open, Net.kind, hkk]
    rw [ho] at hstep hwtA; have hkk' := eq_false hkk; have rm : room (R.length + 1) 64 = true := room_of (by simp [netsWt] at hwtA; omega) (by omega); have rm2 : room 1 64 = true := by decide
    suffices hsuf : ∃ st', execC (goS n) modeT GT true 65 n F120_B0 ⟨τ, H, g, s⟩ = some (.normal, st') ∧ st'.τ 1 = .w (.ptr 0 0) ∧ st'.H 0 = .cells [iW k0, iW op0, asW as0, nsW l] ∧ st'.τ 2 = .w (.ptr 64 0) ∧ st'.H 64 = .cells [iW 0, iW 0, .nil, .nil] ∧ st'.τ 3 = .w (.ptr 704 0) ∧
     st'.τ 26 = .w (nsW l) ∧ st'.τ 27 = iV l.length ∧ st'.τ 28 = iV ((i + 1 : Nat) : Int) ∧ 704 < st'.g ∧ (∃ cw', st'.H 704 = .cells [iW k0, iW 0, .nil, cw'] ∧ NKids cw' (R ++ [[iD k2, iD op2, .l (t1 fun k => subS (restS (restS s)) 1 (2 * k + 1)) (R1 fun k => subS (restS (restS s)) 1 (2 * k + 1)), .l (t2 fun k => subS (restS (restS s)) 1 (2 * k + 1)) (R2 fun k => subS (restS (restS s)) 1 (2 * k + 1))]]) st'.H st'.g) ∧ st'.s = restS (restS (restS (restS (restS (restS s))))) by
     obtain ⟨st', a0, a1, a2, a3, a4, a5, a6, a7, a8, a9, ⟨cw', a10, a11⟩, a12⟩ := hsuf; rw [a0]; refine ⟨.normal, st', rfl, fun _ => ⟨k, by omega, i + 1, cw', _, by omega, a1, a2, a3, a4, a5, a6, a7, a8, a9, a10, a11, by rw [erR_append, hR, hstep, netRows_append]; simp [erR, erL, D.er, (w _).2.1, (w _).2.2.1, netRows, Net.row], fun hi => ?_⟩, fun h => absurd rfl h⟩
     rw [a12, stsR_append]; have h3 := ((((hp hi).weak.weak).call 1 (w _).2.2.2).weak.weak.weak)
     simpa [stsR, stsL_c, stsL_n, sts_s] using h3
    rcases hcw with ⟨rfl, rfl⟩ | ⟨b, hb1, hb2, rfl, hB⟩
    · simp [-getElem?_pos, F120_B0, h1, h0, h2, hC, h3, h26, h27, h28, hA, hlt, hlt', hb, w1, hw, rm2, hkk', fgX, fcX, fzX, glt, gle]
      have hne : ¬ (g + 64 + 256 + 256 + 320 + 256 = 704) := by omega
      exact .inr ⟨g + 64 + 256 + 256 + 320 + 256, by omega, by omega, by simp, by simp [upd, hne]⟩
    · have fbX := far hb2
      have b1 : (704 = b) = False := eq_false (by omega); have b2 : (64 = b) = False := eq_false (by omega); have b3 : (0 = b) = False := eq_false (by omega); have b4 : (b = 704) = False := eq_false (by omega); simp [-getElem?_pos, F120_B0, h1, h0, h2, hC, h3, h26, h27, h28, hA, hB, hlt, hlt', hb, w1, hw, rm, rm2, hkk', fgX, fcX, fzX, fbX, b1, b2, b3, b4, glt, gle]; have hne : ¬ (g + 64 + 256 + 256 + 320 + 256 = 704) := by omega
      exact .inr ⟨g + 64 + 256 + 256 + 320 + 256, by omega, by omega, by simp, by simp [upd, hne]⟩
theorem net_rowE {row : List D} {k op : Int} {as : List Arg} {ks : List Net} (h : erL row = (Net.mk k op as ks).row) : ∃ st R st2 R2, row = [iD k, iD op, .l st R, .l st2 R2] ∧ erR R = argRows as ∧ erR R2 = netRows ks := by
 simp only [Net.row] at h; cases row with
 | nil => cases h
 | cons d1 q1 =>
  cases q1 with
  | nil => simp [erL] at h
  | cons d2 q2 =>
   cases q2 with
   | nil => simp [erL] at h
   | cons d3 q3 =>
    cases q3 with
    | nil => simp [erL] at h
    | cons d4 q4 =>
     simp only [erL, List.cons.injEq] at h; obtain ⟨h1, h2, h3, h4, h5⟩ := h; cases d1 with
     | l => cases h1
     | s v =>
      cases d2 with
      | l => cases h2
      | s u =>
       cases d3 with
       | s => cases h3
       | l st R =>
        cases d4 with
        | s => cases h4
        | l st2 R2 =>
         cases q4 with
         | cons => cases h5
         | nil =>
          simp only [D.er, D.s.injEq, D.l.injEq, true_and] at h1 h2 h3 h4; exact ⟨st, R, st2, R2, by rw [h1, h2], h3, h4⟩
theorem run_cloneNR {n : Nat} (hn : 3 ≤ n) {R : List (List D)} (h4 : ∀ r ∈ R, r.length = 4) (t : Nat) (hl : R.length < 2 ^ 30) (s : Sup) :
 go n 140 [.w (.d (.l t R))] [] s = some ⟨.w (.own 0 0 R.length (some R.length)), [], [.row none 4 R 0]⟩ := by
 obtain ⟨n, rfl⟩ : ∃ k, n = k + 2 := ⟨n - 2, by omega⟩; have hr : room R.length 64 = true := room_of hl (by omega); have hall : R.all (fun r => r.length == 4) = true := by rw [List.all_eq_true]; intro r h; simpa using h4 r h
 have C : ∀ s, go (n + 1) 164 [.w (.d (.l t R))] [] s = some ⟨.w (.own 0 0 R.length none), [], [.row none 4 R 0]⟩ := fun s => by
  rw [go_orc rfl, show ans 164 [.w (.d (.l t R))] = (if (R.all (fun r => r.length == 4) && room R.length 64) = true then some ⟨.w (.own 0 0 R.length none), [], [.row none 4 R 0]⟩ else none) from rfl]; rw [hall, hr]; rfl
 have D : ∀ s, go (n + 1) 165 [.w (.own 0 0 R.length none)] [.row none 4 R 0] s = some ⟨.w (.own 0 0 R.length (some R.length)), [.row none 4 R 0], []⟩ := fun s => by
  simp [go_of FT_165 rfl, F165]
 simp [go_of FT_140 rfl, F140, C, D]
theorem ns_net : ∀ (m : Nat) (t : Net), t.wt ≤ m → m < 2 ^ 29 → t.wrong = 0 → ∀ (n : Nat), m + 12 ≤ n → MkN n 120 [netX t] t.norm
 | 0, t, h, hm, hr, n, hn => by have := t.wt_pos; omega
 | m + 1, .mk k op as ks, h, hm, hr, n, hn => by
  obtain ⟨n, rfl⟩ : ∃ k, n = k + 1 := ⟨n - 1, by omega⟩; have hlen := netsWt_len ks; have hw0 := h; simp only [Net.wt] at h
  by_cases hk : k = 1
  · subst hk
    obtain ⟨t1, t2, R1, R2, w⟩ := cp_net (m + 1) 1 op as ks hw0 (by omega) n (by omega); have w1 := fun s => (w s).1
    have e : Net.norm (.mk 1 op as ks) = .mk 1 op as ks := by simp [Net.norm]
    rw [e]; refine ⟨fun s => t1 fun q => subS (restS (restS (restS s))) 1 (2 * q + 1), fun s => t2 fun q => subS (restS (restS (restS s))) 1 (2 * q + 1), fun s => R1 fun q => subS (restS (restS (restS s))) 1 (2 * q + 1), fun s => R2 fun q => subS (restS (restS (restS s))) 1 (2 * q + 1), fun s => ⟨?_, (w _).2.1, (w _).2.2.1, fun hi => ?_⟩⟩
    · simp [gos_of FT_120 rfl, F120, w1, Net.kind, Net.op]
    · simpa using ((past_0 hi).weak.weak.weak.call 1 (w _).2.2.2).fr
  · obtain ⟨h1, rfl, rfl, h4, h5, h6⟩ := right_kids hr hk
    have hc : ∀ x ∈ ks, MkN n 120 [netX x] x.norm := fun x hx => ns_net m x (by have := netsWt_mem hx; omega) (by omega) (h6 x hx) n (by omega)
    by_cases hk4 : k = 4
    · subst hk4
      have hl1 := h5 rfl
      match ks, hl1, hc with
      | [x], _, hc =>
       obtain ⟨t1, t2, R1, R2, w⟩ := hc x (by simp); have e : Net.norm (.mk 4 0 [] [x]) = .mk 4 0 [] [x.norm] := by simp [Net.norm, netsNorm]
       rw [e]; generalize x.norm = y at w; obtain ⟨k1, op1, as1, ks1⟩ := x; obtain ⟨k2, op2, as2, ks2⟩ := y; simp only [Net.kind, Net.op, Net.as, Net.kids] at w; have w1 := fun s => (w s).1
       let sp : Sup → Sup := fun s => fun q => subS (restS (restS (restS (restS s)))) 4 (2 * q + 1)
       refine ⟨fun _ => 0, fun s => restS (restS (restS (restS (restS s)))) 0, fun _ => [], fun s => [[iD k2, iD op2, .l (t1 (sp s)) (R1 (sp s)), .l (t2 (sp s)) (R2 (sp s))]], fun s => ⟨?_, rfl, ?_, fun hi => ?_⟩⟩
       · simp [gos_of FT_120 rfl, F120, netRows, Net.row, w1, Net.kind, Net.op, sp]
       · simp [erR, erL, D.er, (w _).2.1, (w _).2.2.1, netRows, Net.row, Net.kids]
       · have h3 := (((past_0 hi).weak.weak.weak.weak).call 4 (w _).2.2.2)
         have h4 := sts_rowsL (R := [[iD k2, iD op2, .l (t1 (sp s)) (R1 (sp s)), .l (t2 (sp s)) (R2 (sp s))]]) (U := []) (t := restS (restS (restS (restS (restS s)))) 0) (by simpa [stsR, stsL_c, stsL_n, sts_s, sp] using h3) 0 rfl
         simpa [D.sts] using h4
    · have e : Net.norm (.mk k 0 [] ks) = netOf k ((netsNorm ks).flatMap (Net.open k)) := by simp [Net.norm, hk, hk4]
      rw [e]; have hfl := flat_ne hk h6 h4; have hacc : accN k ks ks.length = (netsNorm ks).flatMap (Net.open k) := by unfold accN; rw [List.take_length]
      have hwa := accN_wt (k := k) h6 ks.length; rw [hacc] at hwa; have hla := netsWt_len ((netsNorm ks).flatMap (Net.open k)); have key : ∀ s, ∃ t R t2 R2, goS (n + 1) 120 [netX (.mk k 0 [] ks)] [] s = some ⟨.agg [iW (netOf k ((netsNorm ks).flatMap (Net.open k))).kind, iW (netOf k ((netsNorm ks).flatMap (Net.open k))).op, .d (.l t R), .d (.l t2 R2)], [], []⟩ ∧
       erR R = argRows (netOf k ((netsNorm ks).flatMap (Net.open k))).as ∧ erR R2 = netRows (netOf k ((netsNorm ks).flatMap (Net.open k))).kids ∧ (Inj s → Fr s ((D.l t R).sts ++ (D.l t2 R2).sts)) := by
       intro s; simp [gos_of FT_120 rfl, F120, hk, hk4]; generalize hst : St.mk _ _ _ _ = st; obtain ⟨e, ⟨τ', H', g', s'⟩, hx, -, rfl, cw, R, h2, hC, h3, hA, hcw, hR, hp⟩ := loopS120 (n := n) ks k 0 [] hc h6 (by omega) s (by omega) (by omega) st (by simp [← hst]) (by simp [← hst]) (by simp [← hst]) (by simp [← hst]) (by simp [← hst]) (by simp [← hst]) (by simp [← hst]) (by simp [← hst]) (by simp [← hst]) (by simp [← hst]) (by rw [← hst]; exact fun hi => (past_0 hi).weak.weak.weak.weak.weak.weak); rw [hacc] at hR; simp only at h2 hC h3 hA hcw hp; have hRl : R.length = ((netsNorm ks).flatMap (Net.open k)).length := by have := congrArg List.length hR; simpa using this
       rcases hcw with ⟨rfl, _⟩ | ⟨b, hb1, hb2, rfl, hB⟩
       · exact absurd (List.length_eq_zero_iff.1 hRl.symm) hfl
       · generalize (netsNorm ks).flatMap (Net.open k) = A at hfl hR hRl hla hwa ⊢
         clear hst; have b1 : (704 = b) = False := eq_false (by omega); have b2 : (64 = b) = False := eq_false (by omega); have b3 : (b = 704) = False := eq_false (by omega); have b4 : (b = 64) = False := eq_false (by omega); have fgX := far hb2; have fcX := far (show 704 < g' by omega); have feX := far (show 64 < g' by omega)
         match A, hfl with
         | [x], _ =>
          obtain ⟨k1, op1, as1, ks1⟩ := x
          match R, hRl with
          | [row], _ =>
           simp only [erR, netRows, List.cons.injEq, and_true] at hR; obtain ⟨st1, R1, st2, R2, rfl, e1, e2⟩ := net_rowE hR; refine ⟨st1, R1, st2, R2, ?_, e1, e2, fun hi => by simpa [stsR, stsL_c, stsL_n, sts_s] using (hp hi).fr⟩
           simp [hx, h2, hC, h3, hA, hB, netOf, Net.kind, Net.op]
         | x :: y :: r, _ =>
          have h4' := len4_of hR; have w : ∀ t s, goS n 140 [.w (.d (.l t R))] [] s = some ⟨.w (.own 0 0 R.length (some R.length)), [], [.row none 4 R 0]⟩ := fun t s => by rw [gos_go rfl]; exact run_cloneNR (by omega) h4' t (by omega) s
          have hl2 : (((R.length : Nat) : Int) = 1) = False := eq_false (by rw [hRl]; simp; omega); have hl3 : (R.length = 1) = False := eq_false (by rw [hRl]; simp); have hno : netOf k (x :: y :: r) = .mk k 0 [] (x :: y :: r) := rfl; rw [hno]; refine ⟨0, [], restS (restS (restS s')) 0, R, ?_, rfl, hR, fun hi => ?_⟩
          · simp [hx, h2, hC, h3, hA, hB, w, hl2, hl3, b1, b2, b3, b4, fgX, fcX, feX, Net.kind, Net.op]
          · have h5 := sts_rowsL (U := []) (t := restS (restS (restS s')) 0) (by simpa using (hp hi).weak.weak.weak) 0 rfl
            simpa [D.sts] using h5
      exact ⟨fun s => (key s).choose, fun s => (key s).choose_spec.choose_spec.choose, fun s => (key s).choose_spec.choose, fun s => (key s).choose_spec.choose_spec.choose_spec.choose, fun s => (key s).choose_spec.choose_spec.choose_spec.choose_spec⟩
end Go.VM
