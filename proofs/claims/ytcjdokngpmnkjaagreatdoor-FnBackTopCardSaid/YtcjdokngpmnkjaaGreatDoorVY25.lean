/- Reading lists back: the reader, run. Conditions: none. -/
import Derived.Test.YtcjdokngpmnkjaaGreatDoorVY37
import Derived.Test.YtcjdokngpmnkjaaGreatDoorVY24

namespace Go.VM
set_option linter.unusedSimpArgs false
set_option linter.unusedVariables false
set_option maxHeartbeats 16000000
def KRest : C := (.seq (.block 0 F312_L0) (sR [oW 5 yA] (.seq KNet (.seq (.block 2 F312_L1) (sR [oo 38 (.mkf 339 [(.t 5), (.t 2)]), om 6 38] (.seq KSw (sR [oA 67 6 5, oS 6 4 67] .ret)))))))
theorem kJ7 : F312 = ⟨68, [.cell 4 true 6], (sR [oo 2 (.box 1 (.t 0)), oW 4 yA] KRest)⟩ := rfl
theorem kK4 : ∀ (l : List Ins) (s : List Net), netsWt (runR s l) ≤ netsWt s + lWt l
  | [], s => by simp [runR, lWt]
  | i :: r, s => by
    have h1 := kK4 r (stepR s i); have h2 := step_wt s i; rw [show runR s (i :: r) = runR (stepR s i) r from rfl]; simp only [lWt]; omega
theorem kI4 : ∀ l : List Ins, lWt (netSpan l).1 ≤ lWt l
  | [] => Nat.le_refl _
  | i :: r => by
    rw [netSpan]; have := kI4 r; split
    · simp only [lWt]; omega
    · simp only [lWt]; omega
def DoneAt (st : St) (p q : Nat) (x : Arm) (l : List Ins) : Prop :=
  st.τ 4 = .w (.ptr q 0) ∧ q ≠ 0 ∧ (p = 1 ∨ (st.H 1).names = []) ∧ st.H 0 = .cells [isW l] ∧ ∃ w0 w1 w2 w3 cw kw, CalmNet w0 w1 w2 w3 x.net ∧ st.H q = .cells [w0, w1, w2, w3, cw, kw] ∧
    ((x.coils = [] ∧ cw = .nil) ∨ ∃ b, b ≠ 0 ∧ b ≠ q ∧ cw = .own b 0 x.coils.length none ∧ st.H b = .row none 2 (elRows x.coils) 0) ∧
    ((x.kids = [] ∧ kw = .nil) ∨ ∃ b, b ≠ 0 ∧ b ≠ q ∧ kw = .own b 0 x.kids.length none ∧ st.H b = .row none 6 (armRows x.kids) 0)
theorem arm_body {n : Nat} (p q : Nat) (hp : p ≠ 0) (hq : q ≠ 0) (hq1 : q ≠ 1) (hpq : p ≠ q) (Q : List Ins → Prop) (hQs : ∀ l l', Q l → l' <:+ l → Q l') (hQc : ∀ l, Q l → ∀ i ∈ l, 1 ≤ i.c ∧ i.c ≤ 11) (s0 : List Net) (l : List Ins) (hk : KidsOk n l.length Q) (hQ0 : Q l) (f : Nat) (hf : l.length ≤ f) (hm : l.length < 2 ^ 26) (hW : netsWt s0 + lWt l < 2 ^ 27) (hn : l.length + 20 < n) (st : St) (hA : ArmAt st p q l) (hS : StkAt st 1 p q s0) :
    ∃ st', execC (go (n + 1)) mode GT false 68 (n + 1) KRest st = some (.ret, st') ∧ DoneAt st' p q (readArm (f + 1) s0 l).1 (readArm (f + 1) s0 l).2 := by
  rw [readArm_eq]; obtain ⟨e1, st1, x1, -, rfl, hA1, hS1⟩ := loop312_0 (n := n + 1) p q hp hq hpq s0 l hW (by omega) st hA hS; have hsuf1 := kk4 l; have hsp : 7 ≤ codeI (netSpan l).2 := by
    have : ∀ l : List Ins, 7 ≤ codeI (netSpan l).2 := fun l => by
      induction l with
      | nil => simp [netSpan, codeI]
      | cons i r ih =>
        rw [netSpan]; split
        · exact ih
        · simp only [codeI]; omega
    exact this l
  have hw1 := kK4 (netSpan l).1 s0; have hw2 := kI4 l; generalize runR s0 (netSpan l).1 = s1 at hS1 hw1 ⊢; have hs1 : s1.length < 2 ^ 28 := by have := kx4 s1; omega
  obtain ⟨τ, H, g, sp⟩ := st1; have hA1' := hA1; obtain ⟨h2, hP, h4, hQ, h0, hg, hpg, hqg, hone⟩ := hA1; simp only at h2 hP h4 hQ h0 hg hpg hqg hone; have oneX := far (show 1 < g by omega); have zX := far hg; have pX := far hpg; have qX := far hqg; have ga : g ≠ 0 := by omega
  have gp : p ≠ g := by omega
  have gq : q ≠ g := by omega
  have hQ1 := hQs _ _ hQ0 hsuf1; have hl1 := hsuf1.length_le; generalize (netSpan l).2 = l1 at h0 hA1' hsp hQ1 hl1 hsuf1 ⊢; have hsuf2 := kb4 l1; have hl2 := hsuf2.length_le; have hQ2 := hQs _ _ hQ1 hsuf2; have hdef : codeI (coilSpan l1).2 ≠ 7 → codeI (coilSpan l1).2 ≠ 8 → codeI (coilSpan l1).2 ≠ 9 → codeI (coilSpan l1).2 ≠ 11 → (coilSpan l1).2.length < l.length := fun e7 e8 e9 e11 => by
    cases l1 with
    | nil => exact absurd rfl e11
    | cons i r =>
      rw [coilSpan] at e7 e8 e9 e11 ⊢
      by_cases h10 : i.c = 10
      · rw [if_pos h10] at e7 e8 e9 e11 ⊢
        have := (kb4 r).length_le; simp only [List.length_cons] at hl1 ⊢; omega
      · rw [if_neg h10] at e7 e8 e9 e11 ⊢
        have h1 := hQc _ hQ1 i (List.mem_cons_self ..); simp only [codeI] at e7 e8 e9 e11 hsp; omega
  obtain ⟨cs, l2, hcs⟩ : ∃ cs l2, coilSpan l1 = (cs, l2) := ⟨_, _, rfl⟩; have hLoop := fun (w0 w1 w2 w3 : W) => loop312_1 (n := n) (p := p) (q := q) (a := g) (w0 := w0) (w1 := w1) (w2 := w2) (w3 := w3) (l0 := l1)
  simp only [hcs] at hdef hl2 hQ2 hLoop ⊢; generalize hN : s1.headD Net.nil = N; obtain ⟨ks, l3, hks⟩ : ∃ ks l3, armRest f l2 = (ks, l3) := ⟨_, _, rfl⟩; simp only [hks]; simp [KRest, x1]; generalize hst : St.mk _ _ _ _ = st2; obtain ⟨st3, w0, w1, w2, w3, x3, hcn, k3⟩ := net_ok (n := n) (p := p) (q := q) (a := g) hp hq ga hpq gp gq (by omega) s1 hs1 l1 st2 (by
    subst hst; exact ⟨by simp [h2], by simp [hP, pX], by simp [h4], by simp [hQ, qX], by simp [h0, zX], by simp only; omega, by simp only; omega, by simp only; omega, by rcases hone with h | h; exact .inl h; exact .inr (by simp [oneX, h])⟩) (by simp [← hst]) (by simp [← hst]) (by simp [← hst]) (by
    subst hst; rcases hS1 with ⟨h, k⟩ | ⟨b, c, R, k1, k2, k3, k4, k5, k6, k7⟩
    · exact .inl ⟨h, by simpa using k⟩
    · simp only at k4
      have bX := far k4; exact .inr ⟨b, c, R, by omega, by simpa using k5, by simp [bX]; exact k6, k7⟩)
  rw [hN] at hcn; obtain ⟨e4, st4, x4, -, rfl, k4⟩ := hLoop w0 w1 w2 w3 hp hq ga hpq gp gq hcn.calm (by omega) (by omega) st3 k3; clear hst; have k4' := k4; obtain ⟨τ4, H4, g4, sp4⟩ := st4; obtain ⟨j2, j4, j5, jP, jQ, j0, jg, jpg, jqg, jag, -⟩ := k4; simp only at j2 j4 j5 jP jQ j0 jg jpg jqg jag; simp [x3, x4, j2, j5]; generalize hst : St.mk _ _ _ _ = st5; obtain ⟨st6, x6, k6⟩ := sw_ok (n := n) hp hq ga hpq gp gq hcn.calm Q hQs l.length hk cs l2 f (by omega) (by omega) (by omega) hQ2 (by omega) hdef st5 (by simp [← hst]) (by subst hst; exact k4'.keep (by simp) (by simp) (by simp) rfl (by simp only; omega)); rw [hks] at k6; clear hst; obtain ⟨τ6, H6, g6, sp6⟩ := st6
  obtain ⟨i2, i4, i5, iP, iQ, i0, ig, ipg, iqg, iag, ⟨ian, ione⟩, cw, kw, iA, hc, hkk⟩ := k6; simp only at i2 i4 i5 iP iQ i0 ig ipg iqg iag iA hc hkk ione; have q1 : (1 = q) = False := eq_false fun e => hq1 e.symm
  have a3 : (0 = q) = False := eq_false fun e => hq e.symm
  simp [x6, i4, i5, iA, iQ]; refine ⟨by simp [i4], hq, by rcases ione with h | h; exact .inl h; exact .inr (by simp [q1, h]), by simp [i0, a3], w0, w1, w2, w3, cw, kw, hcn, by simp, ?_, ?_⟩
  · rcases hc with ⟨h, k⟩ | ⟨b, k1, k2, k3, k4, k5, k6, k7⟩
    · exact .inl ⟨h, k⟩
    · exact .inr ⟨b, k1, k3, k6, by have : (b = q) = False := eq_false k3; simp [this, k7, Arm.coils, Arm.kids]⟩
  · rcases hkk with ⟨h, k⟩ | ⟨b, k1, k2, k3, k4, k5, k6, k7⟩
    · exact .inl ⟨h, k⟩
    · exact .inr ⟨b, k1, k3, k6, by have : (b = q) = False := eq_false k3; simp [this, k7, Arm.coils, Arm.kids]⟩
theorem lWt_suf : ∀ {l l' : List Ins}, l' <:+ l → lWt l' ≤ lWt l := fun {l l'} h => by
  obtain ⟨P, rfl⟩ := h
  induction P with
  | nil => exact Nat.le_refl _
  | cons i r ih => simp only [List.cons_append, lWt]; omega
def LsOk (l : List Ins) : Prop := (∀ i ∈ l, 1 ≤ i.c ∧ i.c ≤ 11) ∧ lWt l < 2 ^ 26
theorem LsOk.suf (l l' : List Ins) (h : LsOk l) (hs : l' <:+ l) : LsOk l' := ⟨fun i hi => h.1 i (hs.subset hi), by have := lWt_suf hs; have := h.2; omega⟩
theorem CalmNet.fz {w0 w1 w2 w3 : W} {N : Net} (h : CalmNet w0 w1 w2 w3 N) : ∃ k o as ks, N = .mk k o as ks ∧ ((w0 = iW k ∧ w1 = iW o ∧ w2 = asW as ∧ w3 = nsW ks) ∨ (k = 0 ∧ o = 0 ∧ as = [] ∧ ks = [] ∧ w0 = iW 0 ∧ w1 = iW 0 ∧ w2 = .nil ∧ w3 = .nil)) := by
  obtain ⟨k, o, as, ks⟩ := N; refine ⟨k, o, as, ks, rfl, ?_⟩
  rcases h with h | ⟨h, h1⟩
  · exact .inl h
  · cases h; exact .inr ⟨rfl, rfl, rfl, rfl, h1⟩
theorem kK2 : ∀ (m : Nat) (l : List Ins), l.length ≤ m → m < 2 ^ 26 → LsOk l → ∀ f, l.length < f → ∀ n, 4 * m + 100 ≤ n →
    (∃ X, ReadsTo n l (readArm f [Net.nil] l).1 (readArm f [Net.nil] l).2 X) ∧ (∀ s, go n 312 [.w (.ptr 0 0), .w .nil] [.cells [isW l]] s = some ⟨armX (readArm f [] l).1, [.cells [isW (readArm f [] l).2]], []⟩)
  | m, l, hlm, hm, hQ, f, hf, n, hn => by
    obtain ⟨n, rfl⟩ : ∃ k, n = k + 2 := ⟨n - 2, by omega⟩; obtain ⟨f, rfl⟩ : ∃ k, f = k + 1 := ⟨f - 1, by omega⟩; have hk : KidsOk n l.length LsOk := fun l' hl' hQ' f' hf' => by
      cases m with
      | zero => omega
      | succ m => exact (kK2 m l' (by omega) (by omega) hQ' f' hf' n (by omega)).1
    have hb := fun p q hp hq hq1 hpq s0 => arm_body (n := n) p q hp hq hq1 hpq LsOk LsOk.suf (fun l h => h.1) s0 l hk hQ f (by omega) (by omega)
    have hWl := hQ.2; refine ⟨?_, fun s => ?_⟩
    · suffices h : ∀ s, ∃ X, go (n + 2) 312 [.w (.ptr 0 0), .w (.own 1 0 1 (some 1))] [.cells [isW l], .row none 4 [[iD 0, iD 0, .l 0 [], .l 0 []]] 0] s = some ⟨armX (readArm (f + 1) [Net.nil] l).1, [.cells [isW (readArm (f + 1) [Net.nil] l).2], X], []⟩ from Classical.skolem.1 h
      intro s; simp [go_of (n := n + 1) FT_312 rfl, kJ7]; generalize hst : St.mk _ _ _ _ = st; obtain ⟨⟨τ', H', g', s'⟩, hx, h4, hq0, hone, h0, w0, w1, w2, w3, cw, kw, hcn, hQc, hcs, hks⟩ := hb 2 66 (by omega) (by omega) (by omega) (by omega) [Net.nil] (by simp [netsWt, Net.nil, Net.wt]; omega) (by omega) st (by subst hst; exact ⟨by simp, by simp, by simp, by simp, by simp, by simp, by simp, by simp, by simp⟩) (by subst hst; exact .inr ⟨1, some 1, [[iD 0, iD 0, .l 0 [], .l 0 []]], by omega, by omega, by omega, by simp, by simp, by simp, by simp [netRows, Net.nil, Net.row]⟩); simp only at h4 h0 hQc hone; have hone : (H' 1).names = [] := by rcases hone with h | h; omega; exact h
      clear hst; generalize readArm (f + 1) [Net.nil] l = ra at h0 hcn hcs hks ⊢; obtain ⟨⟨N, cs, ks⟩, l'⟩ := ra; simp only [Arm.net, Arm.coils, Arm.kids] at h0 hcn hcs hks ⊢; obtain ⟨k, o, as, nks, rfl, hw⟩ := hcn.fz; have q0 : (0 = 66) = False := eq_false (by omega); rcases hcs with ⟨rfl, rfl⟩ | ⟨b, k1, k2, rfl, k3⟩
      · rcases hks with ⟨rfl, rfl⟩ | ⟨b', j1, j2, rfl, j3⟩
        · rcases hw with ⟨rfl, rfl, rfl, rfl⟩ | ⟨rfl, rfl, rfl, rfl, rfl, rfl, rfl, rfl⟩ <;> simp [hx, h4, h0, hQc, q0, hone]
        · have tkk : List.take ks.length (armRows ks) = armRows ks := List.take_of_length_le (by rw [k15]; omega)
          have b0' : (0 = b') = False := eq_false fun e => j1 e.symm
          rcases hw with ⟨rfl, rfl, rfl, rfl⟩ | ⟨rfl, rfl, rfl, rfl, rfl, rfl, rfl, rfl⟩ <;> rcases ptf (1 = b') with m1' | m1' <;> simp [hx, h4, h0, hQc, q0, hone, j3, tkk, k15, b0', m1']
      · have tkc : List.take cs.length (elRows cs) = elRows cs := List.take_of_length_le (by rw [k21]; omega)
        rcases hks with ⟨rfl, rfl⟩ | ⟨b', j1, j2, rfl, j3⟩
        · have b0 : (0 = b) = False := eq_false fun e => k1 e.symm
          rcases hw with ⟨rfl, rfl, rfl, rfl⟩ | ⟨rfl, rfl, rfl, rfl, rfl, rfl, rfl, rfl⟩ <;> rcases ptf (1 = b) with m1 | m1 <;> simp [hx, h4, h0, hQc, q0, hone, k3, tkc, k21, b0, m1]
        · have tkk : List.take ks.length (armRows ks) = armRows ks := List.take_of_length_le (by rw [k15]; omega)
          have bb : (b' = b) = False := eq_false fun e => by rw [e, k3] at j3; cases j3
          have b0 : (0 = b) = False := eq_false fun e => k1 e.symm
          have b0' : (0 = b') = False := eq_false fun e => j1 e.symm
          rcases hw with ⟨rfl, rfl, rfl, rfl⟩ | ⟨rfl, rfl, rfl, rfl, rfl, rfl, rfl, rfl⟩ <;> rcases ptf (1 = b) with m1 | m1 <;> rcases ptf (1 = b') with m1' | m1' <;> simp [hx, h4, h0, hQc, q0, hone, k3, tkc, k21, j3, tkk, k15, bb, b0, m1, b0', m1']
    · simp [go_of (n := n + 1) FT_312 rfl, kJ7]
      generalize hst : St.mk _ _ _ _ = st; obtain ⟨⟨τ', H', g', s'⟩, hx, h4, hq0, hone, h0, w0, w1, w2, w3, cw, kw, hcn, hQc, hcs, hks⟩ := hb 1 65 (by omega) (by omega) (by omega) (by omega) [] (by simp [netsWt]; omega) (by omega) st (by subst hst; exact ⟨by simp, by simp, by simp, by simp, by simp, by simp, by simp, by simp, by simp⟩) (by subst hst; exact .inl ⟨rfl, by simp⟩); simp only at h4 h0 hQc; clear hst; generalize readArm (f + 1) [] l = ra at h0 hcn hcs hks ⊢; obtain ⟨⟨N, cs, ks⟩, l'⟩ := ra; simp only [Arm.net, Arm.coils, Arm.kids] at h0 hcn hcs hks ⊢; obtain ⟨k, o, as, nks, rfl, hw⟩ := hcn.fz; have q0 : (0 = 65) = False := eq_false (by omega)
      rcases hcs with ⟨rfl, rfl⟩ | ⟨b, k1, k2, rfl, k3⟩
      · rcases hks with ⟨rfl, rfl⟩ | ⟨b', j1, j2, rfl, j3⟩
        · rcases hw with ⟨rfl, rfl, rfl, rfl⟩ | ⟨rfl, rfl, rfl, rfl, rfl, rfl, rfl, rfl⟩ <;> simp [hx, h4, h0, hQc, q0]
        · have tkk : List.take ks.length (armRows ks) = armRows ks := List.take_of_length_le (by rw [k15]; omega)
          have b0' : (0 = b') = False := eq_false fun e => j1 e.symm
          rcases hw with ⟨rfl, rfl, rfl, rfl⟩ | ⟨rfl, rfl, rfl, rfl, rfl, rfl, rfl, rfl⟩ <;> simp [hx, h4, h0, hQc, q0, j3, tkk, k15, b0']
      · have tkc : List.take cs.length (elRows cs) = elRows cs := List.take_of_length_le (by rw [k21]; omega)
        rcases hks with ⟨rfl, rfl⟩ | ⟨b', j1, j2, rfl, j3⟩
        · have b0 : (0 = b) = False := eq_false fun e => k1 e.symm
          rcases hw with ⟨rfl, rfl, rfl, rfl⟩ | ⟨rfl, rfl, rfl, rfl, rfl, rfl, rfl, rfl⟩ <;> simp [hx, h4, h0, hQc, q0, k3, tkc, k21, b0]
        · have tkk : List.take ks.length (armRows ks) = armRows ks := List.take_of_length_le (by rw [k15]; omega)
          have bb : (b' = b) = False := eq_false fun e => by rw [e, k3] at j3; cases j3
          have b0 : (0 = b) = False := eq_false fun e => k1 e.symm
          have b0' : (0 = b') = False := eq_false fun e => j1 e.symm
          rcases hw with ⟨rfl, rfl, rfl, rfl⟩ | ⟨rfl, rfl, rfl, rfl, rfl, rfl, rfl, rfl⟩ <;> simp [hx, h4, h0, hQc, q0, k3, tkc, k21, j3, tkk, k15, bb, b0, b0']
def rgRows (L : List (List Ins)) : List (List D) := L.map fun p => [.l 0 (insRows p)]
abbrev rgW (L : List (List Ins)) : W := .d (.l 0 (rgRows L))
theorem k51 (L : List (List Ins)) : (rgRows L).length = L.length := by simp [rgRows]
theorem rgRows_all (L : List (List Ins)) : ∀ x ∈ rgRows L, x.length = 1 := fun x hx => by
 simp only [rgRows, List.mem_map] at hx; obtain ⟨a, -, rfl⟩ := hx
 rfl
def AccR (τ : Nat → V) (H : Nat → Box) (g t : Nat) (L : List (List Ins)) : Prop := (L = [] ∧ τ t = .w .nil) ∨ ∃ b, b < g ∧ τ t = .w (.own b 0 L.length none) ∧ H b = .row none 1 (rgRows L) 0
theorem AccR.keep {τ τ' : Nat → V} {H H' : Nat → Box} {g g' t : Nat} {L : List (List Ins)} (h : AccR τ H g t L) (e : τ' t = τ t) (eH : ∀ b, b < g → H' b = H b) (hg : g ≤ g') : AccR τ' H' g' t L := by
 rcases h with ⟨h1, h2⟩ | ⟨b, h2, h3, h4⟩
 · exact .inl ⟨h1, e.trans h2⟩
 · exact .inr ⟨b, by omega, e.trans h3, (eH b h2).trans h4⟩
theorem AccR.mk {τ : Nat → V} {H : Nat → Box} {g t n b : Nat} {L : List (List Ins)} (h2 : τ t = .w (.own b 0 n none)) (h1 : b < g) (hn : n = L.length) (h3 : H b = .row none 1 (rgRows L) 0) : AccR τ H g t L :=
 .inr ⟨b, h1, by rw [h2, hn], h3⟩
theorem cut_step {l : List Ins} {f i : Nat} {x : Ins} (hf : f ≤ i) (h : l[i]? = some x) : (l.drop f).take (i + 1 - f) = (l.drop f).take (i - f) ++ [x] := by
 rw [show i + 1 - f = (i - f) + 1 by omega, List.take_add_one, List.getElem?_drop, show f + (i - f) = i by omega, h]
 rfl
theorem insRows_cut (l : List Ins) (f k : Nat) : List.take k (List.drop f (insRows l)) = insRows ((l.drop f).take k) := by
 simp [insRows, List.map_take, List.map_drop]
def RgAt (st : St) (l : List Ins) (i : Nat) : Prop := ∃ (f : Nat) (done : List (List Ins)), f ≤ i ∧ done.length ≤ i ∧ rungsL l = done ++ rungsGo ((l.drop f).take (i - f)) (l.drop i) ∧
 st.τ 0 = .w (isW l) ∧ st.τ 4 = iV f ∧ AccR st.τ st.H st.g 3 done
theorem loop306_0 {n : Nat} (l : List Ins) (ha : ∀ x ∈ l, x.e.as.length < 2 ^ 30) (h5n : 6 ≤ n) (hn : l.length + 2 < n) (hl : l.length < 2 ^ 29) (st : St) (h7 : st.τ 7 = .w (isW l)) (h8 : st.τ 8 = iV l.length) (h9 : st.τ 9 = iV 0) (hck : RgAt st l 0) :
 ∃ e st', execC (go n) mode GT false 31 n F306_L0 st = some (e, st') ∧ e ≠ .normal ∧ (e = .exit 0 ∧ AccR st'.τ st'.H st'.g 3 (rungsL l)) := by
 rw [F306_L0, k00]; refine k03 (fun k st => ∃ i, i + k = l.length ∧ st.τ 7 = .w (isW l) ∧ st.τ 8 = iV l.length ∧ st.τ 9 = iV i ∧ RgAt st l i) ?_ n l.length st (by omega) ⟨0, by omega, h7, h8, by simpa using h9, hck⟩
 clear h7 h8 h9 hck; rintro k ⟨τ, H, g, s⟩ ⟨i, hk, h7, h8, h9, f, done, hf, hd, hr, h0, h4, hacc⟩; simp only at h7 h8 h9 h0 h4 hacc; cases k with
 | zero =>
  have : i = l.length := by omega
  subst this; refine ⟨.exit 0, ?_⟩
  rw [List.drop_length, show rungsGo ((l.drop f).take (l.length - f)) [] = [] from rfl, List.append_nil] at hr; simp [F306_B0, h8, h9]; rw [hr]; exact hacc.keep rfl (fun _ _ => rfl) (Nat.le_add_right _ _)
 | succ k =>
  have hlt : i < l.length := by omega
  have hlt' := ltT hlt; have hgt := List.getElem?_eq_getElem hlt; have hmem := List.getElem_mem hlt; have hw := k04 (i := i) (by omega); have hstep := kL4 hgt; have hcut := cut_step hf hgt; obtain ⟨c, op, as, hx⟩ : ∃ c op as, l[i] = ⟨c, ⟨op, as⟩⟩ := ⟨_, _, _, rfl⟩; rw [hx] at hgt hstep hcut; have hrow := ka4 hgt
  suffices hsuf : ∃ st', execC (go n) mode GT false 31 n F306_B0 ⟨τ, H, g, s⟩ = some (.normal, st') ∧ st'.τ 7 = .w (isW l) ∧ st'.τ 8 = iV l.length ∧ st'.τ 9 = iV ((i + 1 : Nat) : Int) ∧ RgAt st' l (i + 1) by
   obtain ⟨st', a0, a1, a2, a3, a4⟩ := hsuf; rw [a0]; exact ⟨.normal, st', rfl, fun _ => ⟨k, by omega, i + 1, by omega, a1, a2, a3, a4⟩, fun h => absurd rfl h⟩
  by_cases k11 : c = 11
  · subst k11
    have hr2 : rungsL l = (done ++ [(l.drop f).take (i + 1 - f)]) ++ rungsGo ((l.drop (i + 1)).take (i + 1 - (i + 1))) (l.drop (i + 1)) := by
     rw [hr, hstep, hcut, Nat.sub_self, List.take_zero, List.append_assoc]
     rfl
    have hm2 : ∀ x ∈ (l.drop f).take (i + 1 - f), x ∈ l := fun x hx => List.mem_of_mem_drop (List.mem_of_mem_take hx)
    have hlen2 : ((l.drop f).take (i + 1 - f)).length ≤ l.length := by rw [List.length_take, List.length_drop]; omega
    have w : ∀ s, go n 330 [.w (isW ((l.drop f).take (i + 1 - f)))] [] s = some ⟨.w (isW ((l.drop f).take (i + 1 - f))), [], []⟩ := fun s => by
     have := kp6 (n := n - 1) ((l.drop f).take (i + 1 - f)) (fun x hx => ha x (hm2 x hx)) (by omega) (by omega) (by omega) s
     rwa [show n - 1 + 1 = n by omega] at this
    have hic := insRows_cut l f (i + 1 - f); generalize hP : (l.drop f).take (i + 1 - f) = P at w hr2 hic; have rm1 : room 1 24 = true := by decide
    have rmL : room (done.length + 1) 24 = true := k08 (by omega) (by omega); have q1 : ((f : Int) ≤ (i : Int) + 1) = True := eq_true (by omega); have q2 : ((i : Int) + 1 ≤ (l.length : Int)) = True := eq_true (by omega); have al := eq_true (k42 l); have tkD : List.take done.length (rgRows done) = rgRows done := List.take_of_length_le (by rw [k51]; omega); rcases hacc with ⟨rfl, h3⟩ | ⟨b, hbg, h3, hB⟩
    · simp [-getElem?_pos, F306_B0, h0, h3, h4, h7, h8, h9, hlt, hlt', hrow, hw, w, rm1, k02, q1, q2, al, hic]
      exact ⟨i + 1, _, by omega, by simp; try omega, hr2, by simp [h0], by simp, AccR.mk rfl (by simp only; omega) (by simp) (by simp [rgRows])⟩
    · have bX := far hbg
      simp [-getElem?_pos, F306_B0, h0, h3, h4, h7, h8, h9, hB, hlt, hlt', hrow, hw, w, rmL, k02, k51, q1, q2, al, hic, bX, tkD]; exact ⟨i + 1, _, by omega, by simp; try omega, hr2, by simp [h0], by simp, AccR.mk rfl (by simp only; omega) (by simp) (by simp [rgRows, bX])⟩
  · have hr2 : rungsL l = done ++ rungsGo ((l.drop f).take (i + 1 - f)) (l.drop (i + 1)) := by
     rw [hr, hstep, hcut]
     conv => lhs; rw [rungsGo]
     rw [if_neg k11]
    simp [-getElem?_pos, F306_B0, h0, h4, h7, h8, h9, hlt, hlt', hrow, hw, k02, k11]; exact ⟨f, done, by omega, by omega, hr2, by simp [h0], by simp [h4], hacc.keep (by simp) (fun b hb => by have bX := far hb; simp [bX]) (by simp only; omega)⟩
theorem run_clipR {n : Nat} (L : List (List Ins)) (hl : L.length < 2 ^ 29) (s : Sup) : go (n + 1) 335 [.w (rgW L)] [] s = some ⟨.w (rgW L), [], []⟩ := by
 have tkL : List.take L.length (rgRows L) = rgRows L := List.take_of_length_le (by rw [k51]; omega); have rm : room L.length 24 = true := k08 (by omega) (by omega); have al := eq_true (rgRows_all L); simp [go_of (n := n) FT_335 rfl, F335, k51, tkL, rm, al]
theorem kd6 : ∀ (l acc : List Ins), (rungsGo acc l).length ≤ l.length
 | [], acc => by simp [rungsGo]
 | i :: r, acc => by
  unfold rungsGo; split
  · have := kd6 r []; simp; omega
  · have := kd6 r (acc ++ [i]); simp; omega
theorem run_rungsOf {n : Nat} (l : List Ins) (ha : ∀ x ∈ l, x.e.as.length < 2 ^ 30) (h5n : 6 ≤ n) (hn : l.length + 2 < n) (hl : l.length < 2 ^ 28) (s : Sup) : go (n + 1) 306 [.w (isW l)] [] s = some ⟨.w (rgW (rungsL l)), [], []⟩ := by
 have hlr : (rungsL l).length ≤ l.length := kd6 l []; have w : ∀ s, go n 335 [.w (rgW (rungsL l))] [] s = some ⟨.w (rgW (rungsL l)), [], []⟩ := fun s => by
  have := run_clipR (n := n - 1) (rungsL l) (by omega) s
  rwa [show n - 1 + 1 = n by omega] at this
 simp [go_of (n := n) FT_306 rfl, F306, k02]; generalize hst : St.mk _ _ _ _ = st; obtain ⟨e, ⟨τ', H', g', s'⟩, hx, -, rfl, hacc⟩ := loop306_0 (n := n) l ha h5n hn (by omega) st (by simp [← hst]) (by simp [← hst]) (by simp [← hst]) (by
  subst hst; exact ⟨0, [], by omega, by simp, by simp [rungsL], by simp, by simp, .inl ⟨rfl, by simp⟩⟩)
 simp only at hacc; clear hst; generalize rungsL l = L at hacc w; have tkL : List.take L.length (rgRows L) = rgRows L := List.take_of_length_le (by rw [k51]; omega); rcases hacc with ⟨rfl, h3⟩ | ⟨b, hbg, h3, hB⟩
 · have w3 : ∀ s, go n 335 [.w (.d (.l 0 []))] [] s = some ⟨.w (.d (.l 0 [])), [], []⟩ := fun s => w s
   simp [hx, h3, w3, rgRows]
 · simp [hx, h3, hB, tkL, k51, w]
end Go.VM
