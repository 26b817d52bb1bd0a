/- The list of an arm behind its net, reckoned. Conditions: none. -/
import Derived.Test.YtcjdokngpmnkjaaGreatDoorVQ10
import Derived.Test.YtcjdokngpmnkjaaGreatDoorVY2

namespace Go.VM
set_option linter.unusedSimpArgs false
set_option linter.unusedVariables false
set_option maxHeartbeats 16000000
def F329_K1 : C := (.seq (.reg [oo 36 (.fa 5 (.t 1)), oo 37 (.ld false 1 (.t 36)), oo 38 (.lenl (.t 37)), oo 39 (.bin .eql .one (.t 38) (xi 1)), om 35 39]) (.cond (.t 35) .skip (.seq (.reg [om 41 6, oo 42 (.bin .eql .one (.t 41) (xi 0)), om 40 42]) (.cond (.t 40) (.reg [om 43 3, oo 44 (.bld [(wi 0), (wi 0), .nil] [(0, 1, (xi 7))]), oo 45 (.bsl 3 1 [(.s (.int .i64 0)), (.s (.int .i64 0)), (.l 0 [])] [(0, (.t 44))]), oo 46 (.app 3 40 [(.s (.int .i64 0)), (.s (.int .i64 0)), (.l 0 [])] (.t 43) (.t 45)), om 3 46]) (.seq (.reg [om 48 6, oo 49 (.fa 5 (.t 1)), oo 50 (.ld false 1 (.t 49)), oo 51 (.lenl (.t 50)), oo 52 (.bin .sub .one (.t 51) (xi 1)), oo 53 (.bin .eql .one (.t 48) (.t 52)), om 47 53]) (.cond (.t 47) (.reg [om 54 3, oo 55 (.bld [(wi 0), (wi 0), .nil] [(0, 1, (xi 9))]), oo 56 (.bsl 3 1 [(.s (.int .i64 0)), (.s (.int .i64 0)), (.l 0 [])] [(0, (.t 55))]), oo 57 (.app 3 40 [(.s (.int .i64 0)), (.s (.int .i64 0)), (.l 0 [])] (.t 54) (.t 56)), om 3 57]) (.reg [om 31 3, oo 32 (.bld [(wi 0), (wi 0), .nil] [(0, 1, (xi 8))]), oo 33 (.bsl 3 1 [(.s (.int .i64 0)), (.s (.int .i64 0)), (.l 0 [])] [(0, (.t 32))]), oo 34 (.app 3 40 [(.s (.int .i64 0)), (.s (.int .i64 0)), (.l 0 [])] (.t 31) (.t 33)), om 3 34])))))))
def F329_K2 : C := (.reg [om 72 3, oo 73 (.ld true 6 (.t 7)), oo 74 (.call (xf 329) [(.t 73)]), oo 75 (.app 3 40 [(.s (.int .i64 0)), (.s (.int .i64 0)), (.l 0 [])] (.t 72) (.t 74)), om 3 75])
theorem F329_B2_eq : F329_B2 = (.seq (.reg [oo 27 (.bin .lss .one (.t 26) (.t 25))]) (.seq (.cond (.t 27) .skip (.exit 2)) (.seq (.block 3 (.seq (.reg [om 28 26, oo 29 (.ia 6 (.t 24) (.t 26)), oo 30 (.ld true 6 (.t 29)), oo 7 (.new [(wi 0), (wi 0), .nil, .nil, .nil, .nil]), om 6 28, on (.st 6 (.t 7) (.t 30))]) (.seq (.block 4 F329_K1) (.seq (.seq (.reg [oo 58 (.fa 0 (.t 7)), oo 59 (.ld true 4 (.t 58)), oo 60 (.call (xf 327) [(.t 59)]), oo 61 (.lenl (.t 60)), oo 62 (.mv (xi 0))]) (.block 5 F329_L1)) F329_K2)))) (.reg [oo 76 (.bin .add .one (.t 26) (xi 1)), om 26 76])))) := rfl
def AccI (τ : Nat → V) (H : Nat → Box) (g t : Nat) (L : List Ins) (p q : Nat) : Prop := (L = [] ∧ τ t = .w .nil) ∨ ∃ b, b ≠ p ∧ b ≠ q ∧ b < g ∧ τ t = .w (.own b 0 L.length none) ∧ H b = .row none 3 (insRows L) 0
theorem AccI.keep {τ τ' : Nat → V} {H H' : Nat → Box} {g g' t p q : Nat} {L : List Ins} (h : AccI τ H g t L p q) (e : τ' t = τ t) (eH : H' = H) (hg : g ≤ g') : AccI τ' H' g' t L p q := by
 subst eH; rcases h with ⟨h1, h2⟩ | ⟨b, h2, h3, h4, h5, h6⟩
 · exact .inl ⟨h1, e.trans h2⟩
 · exact .inr ⟨b, h2, h3, by omega, e.trans h5, h6⟩
theorem AccI.fresh {τ τ' : Nat → V} {H H' : Nat → Box} {g g' t q : Nat} {L : List Ins} (h : AccI τ H g t L 0 0) (e : τ' t = τ t) (hq : g ≤ q) (eH : ∀ b, b < g → H' b = H b) (hg : g ≤ g') : AccI τ' H' g' t L 0 q := by
 rcases h with ⟨h1, h2⟩ | ⟨b, h2, h3, h4, h5, h6⟩
 · exact .inl ⟨h1, e.trans h2⟩
 · exact .inr ⟨b, h2, by omega, by omega, e.trans h5, (eH b h4).trans h6⟩
theorem AccI.pub {τ : Nat → V} {H : Nat → Box} {g t q : Nat} {L : List Ins} (h : AccI τ H g t L 0 q) : AccI τ H g t L 0 0 := by
 rcases h with h1 | ⟨b, h2, h3, h4, h5, h6⟩
 · exact .inl h1
 · exact .inr ⟨b, h2, h2, h4, h5, h6⟩
theorem AccI.mk {τ : Nat → V} {H : Nat → Box} {g t n b p q : Nat} {L : List Ins} (h2 : τ t = .w (.own b 0 n none)) (hp : b ≠ p) (hq : b ≠ q) (h1 : b < g) (hn : n = L.length) (h3 : H b = .row none 3 (insRows L) 0) : AccI τ H g t L p q :=
 .inr ⟨b, hp, hq, h1, by rw [h2, hn], h3⟩
def AccPost (st st' : St) (N : Nat) (A0 : Box) (q : Nat) (Q : Box) (L' : List Ins) : Prop := (∀ t, t < N → t ≠ 3 → t ≠ 9 → st'.τ t = st.τ t) ∧ st'.H 0 = A0 ∧ st'.H q = Q ∧ st.g ≤ st'.g ∧ AccI st'.τ st'.H st'.g 3 L' 0 q
theorem armsTail_append (N : Nat) : ∀ (a b : List Arm) (j : Nat), armsTail N j (a ++ b) = armsTail N j a ++ armsTail N (j + a.length) b
 | [], b, j => by simp [armsTail]
 | x :: r, b, j => by
  rw [List.cons_append, armsTail, armsTail, armsTail_append N r b (j + 1), List.length_cons, show j + 1 + r.length = j + (r.length + 1) by omega]; simp
theorem armsTail_take {N : Nat} {l : List Arm} {i : Nat} {x : Arm} (h : l[i]? = some x) : armsTail N 0 (l.take (i + 1)) = armsTail N 0 (l.take i) ++ (sepI N i ++ netsTaken 2 x.net.parts ++ x.tail) := by
 have hlt := (List.getElem?_eq_some_iff.1 h).1; rw [List.take_add_one, h, armsTail_append]; have : (l.take i).length = i := by simp; omega
 rw [this]; simp [armsTail]
theorem sep329 {n : Nat} (i : Nat) (L : List Ins) (l : List Arm) (c0 c1 c2 c3 c4 : W) (q : Nat) (Q : Box) (st : St) (h1 : st.τ 1 = .w (.ptr 0 0)) (hA : st.H 0 = .cells [c0, c1, c2, c3, c4, ksW l]) (h6 : st.τ 6 = iV i) (hi : i < l.length) (hl : l.length < 2 ^ 40) (hQ : st.H q = Q) (hq : q < st.g) (hg : 0 < st.g) (hacc : AccI st.τ st.H st.g 3 L 0 q) (hL : L.length < 2 ^ 29) :
 ∃ st', execC (go n) mode GT false 78 n F329_K1 st = some (.normal, st') ∧ AccPost st st' 28 (.cells [c0, c1, c2, c3, c4, ksW l]) q Q (L ++ sepI l.length i) := by
 obtain ⟨τ, H, g, s⟩ := st; simp only at h1 hA h6 hQ hq hg hacc; have hsub : IntKind.i64.wrap ((l.length : Int) - 1) = (l.length : Int) - 1 := wrap_id (by omega) (by omega); have rm1 : room 1 40 = true := by decide
 have rmL : room (L.length + 1) 40 = true := room_of (by omega) (by omega); have tkL := take_insRows L; have zX := far hg; have qX := far hq
 by_cases hN : l.length = 1
 · have hN1 : ((l.length : Int) = 1) = True := eq_true (by omega)
   have es : sepI l.length i = [] := by unfold sepI; rw [if_pos hN]
   rw [es, List.append_nil]; simp [F329_K1, h1, hA, hN1, hN]; refine ⟨fun t ht ht3 ht9 => ?_, hA, hQ, by simp only; omega, hacc.keep rfl rfl (by simp only; omega)⟩
   simp only [upd_at]
   repeat rw [if_neg (by omega)]
 · have hN1 : ((l.length : Int) = 1) = False := eq_false (by omega)
   by_cases hi0 : i = 0
   · subst hi0
     have es : sepI l.length 0 = [Ins.bare 7] := by unfold sepI; rw [if_neg hN, if_pos rfl]
     rw [es]; rcases hacc with ⟨rfl, h3⟩ | ⟨b, hb0, hbq, hbg, h3, hB⟩
     · simp [F329_K1, h1, h3, h6, hA, hN1, hN, hi, hsub, rm1]
       refine ⟨fun t ht ht3 ht9 => ?_, by simp [zX, hA], by simp [qX, hQ], by simp only; omega, AccI.mk rfl (by omega) (by omega) (by simp only; omega) (by simp) (by simp [insRows, Ins.row, ar0])⟩
       simp only [upd_at]
       repeat rw [if_neg (by omega)]
     · have bX := far hbg
       have e1 : (0 = b) = False := eq_false (fun e => hb0 e.symm); have e2 : (q = b) = False := eq_false (fun e => hbq e.symm); have e3 : (b = 0) = False := eq_false hb0; have e4 : (b = q) = False := eq_false hbq; simp [F329_K1, h1, h3, h6, hA, hB, hN1, hN, hi, hsub, rmL, tkL, insRows_length, e1, e2, e3, e4, bX, zX]; refine ⟨fun t ht ht3 ht9 => ?_, by simp [zX, hA, e1], by simp [qX, hQ, e2], by simp only; omega, AccI.mk rfl (by omega) (by omega) (by simp only; omega) (by simp) (by simp [insRows_append, insRows_one, Ins.row, ar0, bX, zX])⟩
       simp only [upd_at]
       repeat rw [if_neg (by omega)]
   · have hi0i : ((i : Int) = 0) = False := eq_false (by omega)
     by_cases hil : i + 1 = l.length
     · have hili : ((i : Int) = (l.length : Int) - 1) = True := eq_true (by omega)
       have es : sepI l.length i = [Ins.bare 9] := by unfold sepI; rw [if_neg hN, if_neg hi0, if_pos hil]
       rw [es]; rcases hacc with ⟨rfl, h3⟩ | ⟨b, hb0, hbq, hbg, h3, hB⟩
       · simp [F329_K1, h1, h3, h6, hA, hN1, hN, hi0, hi0i, hili, hsub, rm1]
         refine ⟨fun t ht ht3 ht9 => ?_, by simp [zX, hA], by simp [qX, hQ], by simp only; omega, AccI.mk rfl (by omega) (by omega) (by simp only; omega) (by simp) (by simp [insRows, Ins.row, ar0])⟩
         simp only [upd_at]
         repeat rw [if_neg (by omega)]
       · have bX := far hbg
         have e1 : (0 = b) = False := eq_false (fun e => hb0 e.symm); have e2 : (q = b) = False := eq_false (fun e => hbq e.symm); have e3 : (b = 0) = False := eq_false hb0; have e4 : (b = q) = False := eq_false hbq; simp [F329_K1, h1, h3, h6, hA, hB, hN1, hN, hi0, hi0i, hili, hsub, rmL, tkL, insRows_length, e1, e2, e3, e4, bX, zX]; refine ⟨fun t ht ht3 ht9 => ?_, by simp [zX, hA, e1], by simp [qX, hQ, e2], by simp only; omega, AccI.mk rfl (by omega) (by omega) (by simp only; omega) (by simp) (by simp [insRows_append, insRows_one, Ins.row, ar0, bX, zX])⟩
         simp only [upd_at]
         repeat rw [if_neg (by omega)]
     · have hili : ((i : Int) = (l.length : Int) - 1) = False := eq_false (by omega)
       have es : sepI l.length i = [Ins.bare 8] := by unfold sepI; rw [if_neg hN, if_neg hi0, if_neg hil]
       rw [es]; rcases hacc with ⟨rfl, h3⟩ | ⟨b, hb0, hbq, hbg, h3, hB⟩
       · simp [F329_K1, h1, h3, h6, hA, hN1, hN, hi0, hi0i, hili, hsub, rm1]
         refine ⟨fun t ht ht3 ht9 => ?_, by simp [zX, hA], by simp [qX, hQ], by simp only; omega, AccI.mk rfl (by omega) (by omega) (by simp only; omega) (by simp) (by simp [insRows, Ins.row, ar0])⟩
         simp only [upd_at]
         repeat rw [if_neg (by omega)]
       · have bX := far hbg
         have e1 : (0 = b) = False := eq_false (fun e => hb0 e.symm); have e2 : (q = b) = False := eq_false (fun e => hbq e.symm); have e3 : (b = 0) = False := eq_false hb0; have e4 : (b = q) = False := eq_false hbq; simp [F329_K1, h1, h3, h6, hA, hB, hN1, hN, hi0, hi0i, hili, hsub, rmL, tkL, insRows_length, e1, e2, e3, e4, bX, zX]; refine ⟨fun t ht ht3 ht9 => ?_, by simp [zX, hA, e1], by simp [qX, hQ, e2], by simp only; omega, AccI.mk rfl (by omega) (by omega) (by simp only; omega) (by simp) (by simp [insRows_append, insRows_one, Ins.row, ar0, bX, zX])⟩
         simp only [upd_at]
         repeat rw [if_neg (by omega)]
theorem AccPost.refl {st : St} {N : Nat} {A0 : Box} {q : Nat} {Q : Box} {L : List Ins} (hA : st.H 0 = A0) (hQ : st.H q = Q) (h : AccI st.τ st.H st.g 3 L 0 q) : AccPost st st N A0 q Q L := ⟨fun _ _ _ _ => rfl, hA, hQ, Nat.le_refl _, h⟩
theorem loop329_1 {n : Nat} (l : List Net) (L0 : List Ins) (A0 Q : Box) (q : Nat) (hc : ∀ x ∈ l, ∀ s, go n 348 [netX x, .agg [iW 2, iW 0, .d (.l 0 []), .d (.l 0 [])]] [] s = some (insOwn (x.taken 2) (if x.kind = 1 then some 1 else none)))
 (hT : ∀ x ∈ l, x.taken 2 ≠ []) (hb : L0.length + (netsTaken 2 l).length < 2 ^ 29) (hn : l.length < n) (hl : l.length < 2 ^ 40) (st : St) (hg : 0 < st.g) (hq : q < st.g) (h60 : st.τ 60 = .w (nsW l)) (h61 : st.τ 61 = iV l.length) (h62 : st.τ 62 = iV 0) (hacc : AccPost st st 28 A0 q Q L0) :
 ∃ e st', execC (go n) mode GT false 78 n F329_L1 st = some (e, st') ∧ e ≠ .normal ∧ (e = .exit 5 ∧ AccPost st st' 28 A0 q Q (L0 ++ netsTaken 2 l)) := by
 rw [F329_L1, execC_loop]; refine iter_rule (fun m st1 => ∃ i, i + m = l.length ∧ st1.τ 60 = .w (nsW l) ∧ st1.τ 61 = iV l.length ∧ st1.τ 62 = iV i ∧ AccPost st st1 28 A0 q Q (L0 ++ netsTaken 2 (l.take i))) ?_ n l.length st hn
  ⟨0, by omega, h60, h61, by simpa using h62, by simpa [netsTaken] using hacc⟩
 clear h60 h61 h62 hacc; rintro m ⟨τ, H, g, s⟩ ⟨i, hm, h60, h61, h62, hfr, hA, hQ, hge, hacc⟩; simp only at h60 h61 h62 hfr hA hQ hge hacc; cases m with
 | zero =>
  have : i = l.length := by omega
  subst this; rw [List.take_length] at hacc; refine ⟨.exit 5, ?_⟩
  simp [F329_B1, h61, h62]; refine ⟨fun t ht ht3 ht9 => ?_, hA, hQ, by simp only; omega, hacc.keep rfl rfl (by simp only; omega)⟩
  simp only [upd_at]
  repeat rw [if_neg (by omega)]
  exact hfr t ht ht3 ht9
 | succ m =>
  have hlt : i < l.length := by omega
  have hlt' := ltT hlt; have hgt := List.getElem?_eq_getElem hlt; have hw := wrap_succ (i := i) (by omega); have w := hc _ (List.getElem_mem hlt); have hTn := hT _ (List.getElem_mem hlt); have hstep := netsTaken_take (k := 2) hgt; have hle : (netsTaken 2 (l.take (i + 1))).length ≤ (netsTaken 2 l).length := by
   conv => rhs; rw [← List.take_append_drop (i + 1) l, netsTaken_append, List.length_append]
   omega
  rw [hstep, List.length_append] at hle; obtain ⟨xk, xo, xa, xks, hx⟩ : ∃ xk xo xa xks, l[i] = .mk xk xo xa xks := by cases hq : l[i] with | mk a b c d => exact ⟨_, _, _, _, rfl⟩
  rw [hx] at hgt w hstep hle hTn; have hrow := netRows_get hgt; generalize (if Net.kind (.mk xk xo xa xks) = 1 then some 1 else none) = cx at w; generalize Net.taken 2 (.mk xk xo xa xks) = T at w hstep hle hTn; generalize hS : L0 ++ netsTaken 2 (l.take i) = S at hacc; have hSl : S.length = L0.length + (netsTaken 2 (l.take i)).length := by rw [← hS, List.length_append]
  have rm : room (S.length + T.length) 40 = true := room_of (by omega) (by omega); have rmT : room T.length 40 = true := room_of (by omega) (by omega); have al := eq_true (insRow_all T); have tkT := take_insRows T; have tkS := take_insRows S; have zX := far (show 0 < g by omega); have qX := far (show q < g by omega); have goal : ∀ st' : St, AccPost st st' 28 A0 q Q (S ++ T) → st'.τ 60 = .w (nsW l) → st'.τ 61 = iV l.length → st'.τ 62 = iV ((i + 1 : Nat) : Int) →
   ∃ k', k' < m + 1 ∧ ∃ i, i + k' = l.length ∧ st'.τ 60 = .w (nsW l) ∧ st'.τ 61 = iV l.length ∧ st'.τ 62 = iV i ∧ AccPost st st' 28 A0 q Q (L0 ++ netsTaken 2 (l.take i)) := fun st' a1 a2 a3 a4 =>
   ⟨m, by omega, i + 1, by omega, a2, a3, a4, by rw [hstep, ← List.append_assoc, hS]; exact a1⟩
  have hcx : ∀ st' : St, (∃ e st'', some ((Ex.normal, st') : Ex × St) = some (e, st'') ∧ (e = .normal → AccPost st st'' 28 A0 q Q (S ++ T) ∧ st''.τ 60 = .w (nsW l) ∧ st''.τ 61 = iV l.length ∧ st''.τ 62 = iV ((i + 1 : Nat) : Int)) ∧ (e ≠ .normal → False)) → ∃ e st'', some ((Ex.normal, st') : Ex × St) = some (e, st'') ∧ (e = .normal → ∃ k', k' < m + 1 ∧ ∃ i, i + k' = l.length ∧ st''.τ 60 = .w (nsW l) ∧ st''.τ 61 = iV l.length ∧ st''.τ 62 = iV i ∧ AccPost st st'' 28 A0 q Q (L0 ++ netsTaken 2 (l.take i))) ∧ (e ≠ .normal → e = .exit 5 ∧ AccPost st st'' 28 A0 q Q (L0 ++ netsTaken 2 l)) := by
   rintro st' ⟨e, st'', h1, h2, h3⟩; cases h1
   obtain ⟨a1, a2, a3, a4⟩ := h2 rfl; exact ⟨.normal, st', rfl, fun _ => goal st' a1 a2 a3 a4, fun h => absurd rfl h⟩
  suffices hsuf : ∃ st', execC (go n) mode GT false 78 n F329_B1 ⟨τ, H, g, s⟩ = some (.normal, st') ∧ AccPost st st' 28 A0 q Q (S ++ T) ∧ st'.τ 60 = .w (nsW l) ∧ st'.τ 61 = iV l.length ∧ st'.τ 62 = iV ((i + 1 : Nat) : Int) by
   obtain ⟨st', a0, a1, a2, a3, a4⟩ := hsuf; rw [a0]; exact ⟨.normal, st', rfl, fun _ => goal st' a1 a2 a3 a4, fun h => absurd rfl h⟩
  rcases hacc with ⟨rfl, h3⟩ | ⟨b, hb0, hbq, hbg, h3, hB⟩
  · simp [-getElem?_pos, F329_B1, h60, h61, h62, h3, hlt, hlt', hrow, w, hw, rmT, al, tkT, insRows_length, GT, andD]
    refine ⟨fun t ht ht3 ht9 => ?_, by simp [zX, hA], by simp [qX, hQ], by simp only; omega, AccI.mk rfl (by omega) (by omega) (by simp only; omega) (by simp) (by simp)⟩
    simp only [upd_at]
    repeat rw [if_neg (by omega)]
    exact hfr t ht ht3 ht9
  · have bX := far hbg
    have e1 : (0 = b) = False := eq_false (fun e => hb0 e.symm); have e2 : (q = b) = False := eq_false (fun e => hbq e.symm); have e3 : (b = 0) = False := eq_false hb0; have e4 : (b = q) = False := eq_false hbq; simp [-getElem?_pos, F329_B1, h60, h61, h62, h3, hB, hlt, hlt', hrow, w, hw, rm, al, tkT, tkS, insRows_length, GT, andD, e1, e2, e3, e4, bX, zX]; refine ⟨fun t ht ht3 ht9 => ?_, by simp [zX, hA, e1], by simp [qX, hQ, e2], by simp only; omega, AccI.mk rfl (by omega) (by omega) (by simp only; omega) (by simp) (by simp [insRows_append, bX, zX])⟩
    simp only [upd_at]
    repeat rw [if_neg (by omega)]
    exact hfr t ht ht3 ht9
theorem coilsI_take {l : List El} {i : Nat} {x : El} (h : l[i]? = some x) : coilsI (l.take (i + 1)) = coilsI (l.take i) ++ [⟨10, x⟩] := by
 rw [List.take_add_one, h]; simp [coilsI]
theorem coilsI_length (l : List El) : (coilsI l).length = l.length := by simp [coilsI]
theorem K2_329 {n : Nat} (L : List Ins) (xk xo : Int) (xa : List Arg) (xns : List Net) (xcs : List El) (xks : List Arm) (q : Nat) (A0 : Box) (st : St) (w : ∀ s, go n 329 [armX (.mk (.mk xk xo xa xns) xcs xks)] [] s = some ⟨.w (isW (Arm.tail (.mk (.mk xk xo xa xns) xcs xks))), [], []⟩) (h7 : st.τ 7 = .w (.ptr q 0)) (hA : st.H 0 = A0) (hQ : st.H q = .cells [iW xk, iW xo, asW xa, nsW xns, csW xcs, ksW xks]) (hq : q < st.g) (hg : 0 < st.g) (hacc : AccI st.τ st.H st.g 3 L 0 q) (hL : L.length + (Arm.tail (.mk (.mk xk xo xa xns) xcs xks)).length < 2 ^ 29) :
 ∃ st', execC (go n) mode GT false 78 n F329_K2 st = some (.normal, st') ∧ AccPost st st' 28 A0 q (.cells [iW xk, iW xo, asW xa, nsW xns, csW xcs, ksW xks]) (L ++ Arm.tail (.mk (.mk xk xo xa xns) xcs xks)) := by
 obtain ⟨τ, H, g, s⟩ := st; simp only at h7 hA hQ hq hg hacc; generalize Arm.tail (.mk (.mk xk xo xa xns) xcs xks) = T at w hL; have rm : room (L.length + T.length) 40 = true := room_of (by omega) (by omega); have rmT : room T.length 40 = true := room_of (by omega) (by omega); have al := eq_true (insRow_all T); have tkT := take_insRows T; have tkL := take_insRows L; have zX := far hg; have qX := far hq; rcases hacc with ⟨rfl, h3⟩ | ⟨b, hb0, hbq, hbg, h3, hB⟩
 · simp [F329_K2, h7, h3, hQ, w, rmT, al, tkT, insRows_length]
   refine ⟨fun t ht ht3 ht9 => ?_, by simp [zX, hA], by simp [qX, hQ], by simp only; omega, AccI.mk rfl (by omega) (by omega) (by simp only; omega) (by simp) (by simp)⟩
   simp only [upd_at]
   repeat rw [if_neg (by omega)]
 · have bX := far hbg
   have e1 : (0 = b) = False := eq_false (fun e => hb0 e.symm); have e2 : (q = b) = False := eq_false (fun e => hbq e.symm); have e3 : (b = 0) = False := eq_false hb0; have e4 : (b = q) = False := eq_false hbq; simp [F329_K2, h7, h3, hQ, hB, w, rm, al, tkT, tkL, insRows_length, e1, e2, e3, e4, bX, zX]; refine ⟨fun t ht ht3 ht9 => ?_, by simp [zX, hA, e1], by simp [qX, hQ, e2], by simp only; omega, AccI.mk rfl (by omega) (by omega) (by simp only; omega) (by simp) (by simp [insRows_append, bX, zX])⟩
   simp only [upd_at]
   repeat rw [if_neg (by omega)]
def CoilPost (st' : St) (A0 : Box) (L : List Ins) : Prop := st'.τ 1 = .w (.ptr 0 0) ∧ st'.H 0 = A0 ∧ 0 < st'.g ∧ AccI st'.τ st'.H st'.g 3 L 0 0
theorem loop329_0 {n : Nat} (l : List El) (A0 : Box) (hn : l.length < n) (hl : l.length < 2 ^ 29) (st : St) (h11 : st.τ 11 = .w (csW l)) (h12 : st.τ 12 = iV l.length) (h13 : st.τ 13 = iV 0) (hacc : CoilPost st A0 []) :
 ∃ e st', execC (go n) mode GT false 78 n F329_L0 st = some (e, st') ∧ e ≠ .normal ∧ (e = .exit 0 ∧ CoilPost st' A0 (coilsI l)) := by
 rw [F329_L0, execC_loop]; refine iter_rule (fun m st1 => ∃ i, i + m = l.length ∧ st1.τ 11 = .w (csW l) ∧ st1.τ 12 = iV l.length ∧ st1.τ 13 = iV i ∧ CoilPost st1 A0 (coilsI (l.take i))) ?_ n l.length st hn
  ⟨0, by omega, h11, h12, by simpa using h13, by simpa [coilsI] using hacc⟩
 clear h11 h12 h13 hacc; rintro m ⟨τ, H, g, s⟩ ⟨i, hm, h11, h12, h13, h1, hA, hg, hacc⟩; simp only at h11 h12 h13 h1 hA hg hacc; cases m with
 | zero =>
  have : i = l.length := by omega
  subst this; rw [List.take_length] at hacc; refine ⟨.exit 0, ?_⟩
  simp [F329_B0, h12, h13]; exact ⟨by simp [h1], hA, by simp only; omega, hacc.keep rfl rfl (by simp only; omega)⟩
 | succ m =>
  have hlt : i < l.length := by omega
  have hlt' := ltT hlt; have hgt := List.getElem?_eq_getElem hlt; have hw := wrap_succ (i := i) (by omega); have hstep := coilsI_take hgt; obtain ⟨xo, xa, hx⟩ : ∃ xo xa, l[i] = (⟨xo, xa⟩ : El) := ⟨_, _, rfl⟩; rw [hx] at hgt hstep; have hrow := elRows_get hgt; generalize hS : coilsI (l.take i) = S at hacc hstep; have hSl : S.length = i := by rw [← hS, coilsI_length, List.length_take]; omega
  have rm1 : room 1 40 = true := by decide
  have rmL : room (S.length + 1) 40 = true := room_of (by omega) (by omega); have tkS := take_insRows S; have zX := far hg
  suffices hsuf : ∃ st', execC (go n) mode GT false 78 n F329_B0 ⟨τ, H, g, s⟩ = some (.normal, st') ∧ CoilPost st' A0 (S ++ [⟨10, ⟨xo, xa⟩⟩]) ∧ st'.τ 11 = .w (csW l) ∧ st'.τ 12 = iV l.length ∧ st'.τ 13 = iV ((i + 1 : Nat) : Int) by
   obtain ⟨st', a0, a1, a2, a3, a4⟩ := hsuf; rw [a0]; exact ⟨.normal, st', rfl, fun _ => ⟨m, by omega, i + 1, by omega, a2, a3, a4, by rw [hstep]; exact a1⟩, fun h => absurd rfl h⟩
  rcases hacc with ⟨rfl, h3⟩ | ⟨b, hb0, hbq, hbg, h3, hB⟩
  · simp [-getElem?_pos, F329_B0, h11, h12, h13, h3, hlt, hlt', hrow, hw, rm1]
    refine ⟨by simp [h1], by simp [zX, hA], by simp only; omega, AccI.mk rfl (by omega) (by omega) (by simp only; omega) (by simp) (by simp [insRows, Ins.row])⟩
  · have bX := far hbg
    have e1 : (0 = b) = False := eq_false (fun e => hb0 e.symm); have e3 : (b = 0) = False := eq_false hb0; simp [-getElem?_pos, F329_B0, h11, h12, h13, h3, hB, hlt, hlt', hrow, hw, rmL, tkS, insRows_length, e1, e3, bX, zX]; refine ⟨by simp [h1], by simp [zX, hA, e1], by simp only; omega, AccI.mk rfl (by omega) (by omega) (by simp only; omega) (by simp) (by simp [insRows_append, insRows_one, Ins.row, bX, zX])⟩
theorem armsTail_le (N : Nat) (l : List Arm) (i : Nat) : (armsTail N 0 (l.take i)).length ≤ (armsTail N 0 l).length := by
 conv => rhs; rw [← List.take_append_drop i l, armsTail_append, List.length_append]
 omega
theorem loop329_2 {n : Nat} (l : List Arm) (L0 : List Ins) (c0 c1 c2 c3 c4 : W) (hc : ∀ x ∈ l, ∀ s, go n 329 [armX x] [] s = some ⟨.w (isW x.tail), [], []⟩)
 (hk : ∀ x ∈ l, ∀ y ∈ x.net.parts, ∀ s, go n 348 [netX y, .agg [iW 2, iW 0, .d (.l 0 []), .d (.l 0 [])]] [] s = some (insOwn (y.taken 2) (if y.kind = 1 then some 1 else none)))
 (hpl : ∀ x ∈ l, x.net.parts.length < n ∧ x.net.parts.length < 2 ^ 40) (h3n : 3 ≤ n)
 (hb : L0.length + (armsTail l.length 0 l).length < 2 ^ 29) (hn : l.length < n) (hl : l.length < 2 ^ 40) (st : St) (h24 : st.τ 24 = .w (ksW l)) (h25 : st.τ 25 = iV l.length) (h26 : st.τ 26 = iV 0) (hacc : CoilPost st (.cells [c0, c1, c2, c3, c4, ksW l]) L0) :
 ∃ e st', execC (go n) mode GT false 78 n F329_L2 st = some (e, st') ∧ e ≠ .normal ∧ (e = .exit 2 ∧ CoilPost st' (.cells [c0, c1, c2, c3, c4, ksW l]) (L0 ++ armsTail l.length 0 l)) := by
 rw [F329_L2, execC_loop]; refine iter_rule (fun m st1 => ∃ i, i + m = l.length ∧ st1.τ 24 = .w (ksW l) ∧ st1.τ 25 = iV l.length ∧ st1.τ 26 = iV i ∧ CoilPost st1 (.cells [c0, c1, c2, c3, c4, ksW l]) (L0 ++ armsTail l.length 0 (l.take i))) ?_ n l.length st hn
  ⟨0, by omega, h24, h25, by simpa using h26, by simpa [armsTail] using hacc⟩
 clear h24 h25 h26 hacc; rintro m ⟨τ, H, g, s⟩ ⟨i, hm, h24, h25, h26, h1, hA, hg, hacc⟩; simp only at h24 h25 h26 h1 hA hg hacc; cases m with
 | zero =>
  have : i = l.length := by omega
  subst this; rw [List.take_length] at hacc; refine ⟨.exit 2, ?_⟩
  simp [F329_B2_eq, h25, h26]; exact ⟨by simp [h1], hA, by simp only; omega, hacc.keep rfl rfl (by simp only; omega)⟩
 | succ m =>
  have hlt : i < l.length := by omega
  have hlt' := ltT hlt; have hgt := List.getElem?_eq_getElem hlt; have hmem := List.getElem_mem hlt; have hw := wrap_succ (i := i) (by omega); obtain ⟨xk, xo, xa, xns, xcs, xks, hx⟩ : ∃ xk xo xa xns xcs xks, l[i] = .mk (.mk xk xo xa xns) xcs xks := by
   cases hq : l[i] with | mk nn cs ks => cases nn; exact ⟨_, _, _, _, _, _, rfl⟩
  have w := hc _ hmem; have wp := hk _ hmem; have wl := hpl _ hmem; rw [hx] at hgt w wp wl; have hstep := armsTail_take (N := l.length) hgt; have hle := armsTail_le l.length l (i + 1); rw [hstep, List.length_append, List.length_append, List.length_append] at hle; have hrow := armRows_get hgt; rw [show Arm.net (.mk (.mk xk xo xa xns) xcs xks) = .mk xk xo xa xns from rfl] at wp wl hstep hle; have wq := run_parts h3n (.mk xk xo xa xns); have hT : ∀ x ∈ Net.parts (.mk xk xo xa xns), x.taken 2 ≠ [] := fun x _ => by unfold Net.taken; split <;> simp
  generalize Net.parts (.mk xk xo xa xns) = Q at wp wl wq hstep hle hT; have hS : ∀ z, z = L0 ++ armsTail l.length 0 (l.take i) → z.length + ((sepI l.length i).length + (netsTaken 2 Q).length + (Arm.tail (.mk (.mk xk xo xa xns) xcs xks)).length) < 2 ^ 29 := fun z hz => by rw [hz, List.length_append]; omega
  generalize hSS : L0 ++ armsTail l.length 0 (l.take i) = S at hacc hS; have hS := hS S rfl; have zX := far hg; have q1 := take_netRows Q
  suffices hsuf : ∃ st', execC (go n) mode GT false 78 n F329_B2 ⟨τ, H, g, s⟩ = some (.normal, st') ∧ CoilPost st' (.cells [c0, c1, c2, c3, c4, ksW l]) (S ++ sepI l.length i ++ netsTaken 2 Q ++ Arm.tail (.mk (.mk xk xo xa xns) xcs xks)) ∧ st'.τ 24 = .w (ksW l) ∧ st'.τ 25 = iV l.length ∧ st'.τ 26 = iV ((i + 1 : Nat) : Int) by
   obtain ⟨st', a0, a1, a2, a3, a4⟩ := hsuf; rw [a0]; refine ⟨.normal, st', rfl, fun _ => ⟨m, by omega, i + 1, by omega, a2, a3, a4, ?_⟩, fun h => absurd rfl h⟩
   rw [hstep, ← List.append_assoc, ← List.append_assoc, ← List.append_assoc, hSS]; exact a1
  simp [-getElem?_pos, F329_B2_eq, h24, h25, h26, hlt, hlt', hrow]; generalize hst : St.mk _ _ _ _ = st1; obtain ⟨⟨τ2, H2, g2, s2⟩, hx2, hf2, hA2, hQ2, hg2, hacc2⟩ := sep329 (n := n) i S l c0 c1 c2 c3 c4 (g + 64 + 192) (.cells [iW xk, iW xo, asW xa, nsW xns, csW xcs, ksW xks]) st1 (by simp [← hst, h1]) (by simp [← hst, hA, zX]) (by simp [← hst]) hlt hl (by simp [← hst]) (by simp [← hst]; try omega) (by simp [← hst]; try omega) (by rw [← hst]; exact hacc.fresh (by simp) (by omega) (fun b hb => by have bX := far hb; simp [bX]) (by simp only; omega)) (by omega); simp only at hf2 hA2 hQ2 hg2 hacc2
  have f7 : τ2 7 = .w (.ptr (g + 64 + 192) 0) := by rw [hf2 7 (by omega) (by omega) (by omega), ← hst]; simp
  have f24 : τ2 24 = .w (ksW l) := by rw [hf2 24 (by omega) (by omega) (by omega), ← hst]; simp [h24]
  have f25 : τ2 25 = iV l.length := by rw [hf2 25 (by omega) (by omega) (by omega), ← hst]; simp [h25]
  have f26 : τ2 26 = iV i := by rw [hf2 26 (by omega) (by omega) (by omega), ← hst]; simp [h26]
  have f1 : τ2 1 = .w (.ptr 0 0) := by rw [hf2 1 (by omega) (by omega) (by omega), ← hst]; simp [h1]
  have g2q : g + 64 + 192 < g2 := by have : st1.g = g + 64 + 384 := by rw [← hst]
                                     omega
  clear hst; simp [-getElem?_pos, hx2, f7, hQ2, wq]; generalize hst : St.mk _ _ _ _ = st3; obtain ⟨e3, ⟨τ4, H4, g4, s4⟩, hx4, -, rfl, hf4, hA4, hQ4, hg4, hacc4⟩ := loop329_1 (n := n) Q (S ++ sepI l.length i) (.cells [c0, c1, c2, c3, c4, ksW l]) (.cells [iW xk, iW xo, asW xa, nsW xns, csW xcs, ksW xks]) (g + 64 + 192) wp hT (by rw [List.length_append]; omega) wl.1 wl.2 st3 (by rw [← hst]; simp only; omega) (by rw [← hst]; simp only; omega) (by simp [← hst]) (by simp [← hst]) (by simp [← hst])
   (AccPost.refl (by rw [← hst]; exact hA2) (by rw [← hst]; exact hQ2) (by rw [← hst]; exact hacc2.keep (by simp) rfl (by simp only; omega)))
  simp only at hf4 hA4 hQ4 hg4 hacc4; have k7 : τ4 7 = .w (.ptr (g + 64 + 192) 0) := by rw [hf4 7 (by omega) (by omega) (by omega), ← hst]; simp [f7]
  have k24 : τ4 24 = .w (ksW l) := by rw [hf4 24 (by omega) (by omega) (by omega), ← hst]; simp [f24]
  have k25 : τ4 25 = iV l.length := by rw [hf4 25 (by omega) (by omega) (by omega), ← hst]; simp [f25]
  have k26 : τ4 26 = iV i := by rw [hf4 26 (by omega) (by omega) (by omega), ← hst]; simp [f26]
  have k1 : τ4 1 = .w (.ptr 0 0) := by rw [hf4 1 (by omega) (by omega) (by omega), ← hst]; simp [f1]
  have g4q : g + 64 + 192 < g4 := by have : g2 ≤ st3.g := by rw [← hst]; simp only; omega
                                     omega
  clear hst; simp [-getElem?_pos, hx4]; generalize hst : St.mk _ _ _ _ = st5; obtain ⟨⟨τ6, H6, g6, s6⟩, hx6, hf6, hA6, hQ6, hg6, hacc6⟩ := K2_329 (n := n) (S ++ sepI l.length i ++ netsTaken 2 Q) xk xo xa xns xcs xks (g + 64 + 192) (.cells [c0, c1, c2, c3, c4, ksW l]) st5 w (by rw [← hst]; exact k7) (by rw [← hst]; exact hA4) (by rw [← hst]; exact hQ4) (by rw [← hst]; simp only; omega) (by rw [← hst]; simp only; omega) (by rw [← hst]; exact hacc4) (by rw [List.length_append, List.length_append]; omega); simp only at hf6 hA6 hQ6 hg6 hacc6; have l24 : τ6 24 = .w (ksW l) := by rw [hf6 24 (by omega) (by omega) (by omega), ← hst]; simp [k24]
  have l25 : τ6 25 = iV l.length := by rw [hf6 25 (by omega) (by omega) (by omega), ← hst]; simp [k25]
  have l26 : τ6 26 = iV i := by rw [hf6 26 (by omega) (by omega) (by omega), ← hst]; simp [k26]
  have l1 : τ6 1 = .w (.ptr 0 0) := by rw [hf6 1 (by omega) (by omega) (by omega), ← hst]; simp [k1]
  have g6q : 0 < g6 := by have : g4 ≤ st5.g := by rw [← hst]; simp
                          omega
  clear hst; simp [-getElem?_pos, hx6, l26, hw]; refine ⟨⟨by simp [l1], hA6, by simp only; omega, ?_⟩, by simp [l24], by simp [l25]⟩
  have hacc7 := hacc6.pub; simp only [List.append_assoc] at hacc7; exact hacc7.keep (by simp) rfl (by simp only; omega)
theorem run_tail : ∀ (m : Nat) (a : Arm), a.wt ≤ m → m < 2 ^ 26 → a.wrong false = 0 → ∀ (n : Nat), 4 * m + 20 ≤ n → ∀ s, go n 329 [armX a] [] s = some ⟨.w (isW a.tail), [], []⟩
 | 0, a, h, hm, hr, n, hn, s => by have := a.wt_pos; omega
 | m + 1, .mk (.mk k op ars nks) cs ks, h, hm, hr, n, hn, s => by
  obtain ⟨-, -, -, -, hk⟩ := arm_right hr; have hk' := (armsWrong_all _).1 hk; obtain ⟨n, rfl⟩ : ∃ k, n = k + 3 := ⟨n - 3, by omega⟩; have hnp := (Net.mk k op ars nks).wt_pos; have hlt := len_tail (.mk (.mk k op ars nks) cs ks); have hsl := armSize_le (.mk (.mk k op ars nks) cs ks); simp only [Arm.tail, List.length_append, coilsI_length] at hlt; simp only [Arm.wt] at h hsl; have hlen := armsWt_len ks; have hcl := elsWt_len cs; have hc : ∀ x ∈ ks, ∀ s, go (n + 2) 329 [armX x] [] s = some ⟨.w (isW x.tail), [], []⟩ := fun x hx s => run_tail m x (by have := armsWt_mem hx; omega) (by omega) (hk' x hx) (n + 2) (by omega) s
  have hxw : ∀ x ∈ ks, x.net.wt ≤ m := fun x hx => by
   have := armsWt_mem hx; obtain ⟨xn, xc, xk⟩ := x; simp only [Arm.wt, Arm.net] at this ⊢; omega
  have hp : ∀ x ∈ ks, ∀ y ∈ x.net.parts, ∀ s, go (n + 2) 348 [netX y, .agg [iW 2, iW 0, .d (.l 0 []), .d (.l 0 [])]] [] s = some (insOwn (y.taken 2) (if y.kind = 1 then some 1 else none)) := fun x hx y hy s => by
   have h1 := parts_mem_wt hy; have h2 := hxw x hx; have h3 := len_begins y; have h4 := y.size_wt; have hyr := parts_right (by obtain ⟨xn, xc, xk⟩ := x; exact (arm_right (hk' _ hx)).2.1) y hy; exact run_taken (n := n) y (.mk 2 0 [] []) (by simp [Net.kind]) (fun _ s => run_begins m y (by omega) (by omega) hyr (n + 1) (by omega) s) (by omega) s
  have hpl : ∀ x ∈ ks, x.net.parts.length < n + 2 ∧ x.net.parts.length < 2 ^ 40 := fun x hx => by
   have h1 := netsWt_len x.net.parts; have h2 := parts_wt x.net; have h3 := hxw x hx; omega
  simp only [Arm.tail]; simp [go_of (n := n + 2) FT_329 rfl, F329]; generalize hst : St.mk _ _ _ _ = st; obtain ⟨e, ⟨τ', H', g', s'⟩, hx, -, rfl, hpost⟩ := loop329_0 (n := n + 2) cs (.cells [iW k, iW op, asW ars, nsW nks, csW cs, ksW ks]) (by omega) (by omega) st (by simp [← hst]) (by simp [← hst]) (by simp [← hst]) (by rw [← hst]; exact ⟨by simp, by simp, by simp, .inl ⟨rfl, by simp⟩⟩); obtain ⟨h1, hA, hg, hacc⟩ := hpost; simp only at h1 hA hg hacc; clear hst; simp [hx, h1, hA]; generalize hst : St.mk _ _ _ _ = st
  obtain ⟨e, ⟨τ2, H2, g2, s2⟩, hx2, -, rfl, hpost⟩ := loop329_2 (n := n + 2) ks (coilsI cs) (iW k) (iW op) (asW ars) (nsW nks) (csW cs) hc hp hpl (by omega) (by rw [coilsI_length]; omega) (by omega) (by omega) st (by simp [← hst]) (by simp [← hst]) (by simp [← hst]) (by rw [← hst]; exact ⟨by simp [h1], hA, by simp only; omega, hacc.keep (by simp) rfl (by simp only; omega)⟩); obtain ⟨j1, jA, jg, jacc⟩ := hpost; simp only at j1 jA jg jacc; clear hst; generalize coilsI cs ++ armsTail ks.length 0 ks = L at jacc; rcases jacc with ⟨rfl, h3⟩ | ⟨b, hb0, hbq, hbg, h3, hB⟩
  · simp [hx2, h3, insRows]
  · have tkL := take_insRows L
    simp [hx2, h3, hB, tkL, insRows_length]
end Go.VM
