/- Reading lists back: an arm's parts. Conditions: none. -/
import Derived.Test.YtcjdokngpmnkjaaGreatDoorVY33

namespace Go.VM
set_option linter.unusedSimpArgs false
set_option linter.unusedVariables false
set_option maxHeartbeats 16000000
def KNet : C := sR [om 17 1, oN 18 17, oI 19 .gtr 18 0] (.cond (.t 19) (.reg [om 20 1, om 21 1, oN 22 21, oI 23 .sub 22 1, oX 24 4 20 23, oA 25 4 24, oF 26 0 5, oS 4 26 25]) .skip)
def KLast : C := sR [oL 56 2, oC 57 337 [(.t 56)], oI 58 .eql 57 9] (.cond (.t 58) (.seq (Kn 59 60) (Kc 61 62)) .skip)
def KElse : C := .seq (sR [oI 64 .eql 40 8, om 63 64] (.cond (.t 63) .skip (sR [oI 65 .eql 40 9, om 63 65] (.cond (.t 63) .skip (.reg [oI 66 .eql 40 11, om 63 66]))))) (.cond (.t 63) .skip (Kc 41 42))
def KSw : C := sR [oL 39 2, oC 40 337 [(.t 39)]] (.block 4 (sR [oI 44 .eql 40 7, om 43 44] (.cond (.t 43) (.seq (Kn 45 46) (.seq (Kc 47 48) (.seq (.block 5 F312_L2) KLast))) KElse)))
theorem ky9 : F312_B2 = (.seq (sR [oL 49 2, oC 50 337 [(.t 49)], oI 51 .eql 50 8] (.cond (.t 51) .skip (.exit 5))) (.block 6 (.seq (Kn 52 53) (Kc 54 55)))) := rfl
theorem RdAt.keep {st st' : St} {p q a : Nat} {w0 w1 w2 w3 : W} {cs : List El} {ks : List Arm} {l : List Ins} (h : RdAt st p q a w0 w1 w2 w3 cs ks l) (e2 : st'.τ 2 = st.τ 2) (e4 : st'.τ 4 = st.τ 4) (e5 : st'.τ 5 = st.τ 5) (eH : st'.H = st.H) (hg : st.g ≤ st'.g) : RdAt st' p q a w0 w1 w2 w3 cs ks l := by
  obtain ⟨h2, h4, h5, hP, hQ, h0, hg0, hpg, hqg, hag, hone, cw, kw, hA, hc, hkk⟩ := h; refine ⟨e2.trans h2, e4.trans h4, e5.trans h5, by rw [eH]; exact hP, by rw [eH]; exact hQ, by rw [eH]; exact h0, by omega, by omega, by omega, by omega, by rw [eH]; exact hone, cw, kw, by rw [eH]; exact hA, ?_, ?_⟩
  · rcases hc with h | ⟨b, k1, k2, k3, k4, k5, k6, k7⟩
    · exact .inl h
    · exact .inr ⟨b, k1, k2, k3, k4, by omega, k6, by rw [eH]; exact k7⟩
  · rcases hkk with h | ⟨b, k1, k2, k3, k4, k5, k6, k7⟩
    · exact .inl h
    · exact .inr ⟨b, k1, k2, k3, k4, by omega, k6, by rw [eH]; exact k7⟩
theorem RdAt.list {st st' : St} {p q a : Nat} {w0 w1 w2 w3 : W} {cs : List El} {ks : List Arm} {l l' : List Ins} (h : RdAt st p q a w0 w1 w2 w3 cs ks l) (hp : p ≠ 0) (hq : q ≠ 0) (ha : a ≠ 0) (hpq : p ≠ q) (e2 : st'.τ 2 = st.τ 2) (e4 : st'.τ 4 = st.τ 4) (e5 : st'.τ 5 = st.τ 5) (eH : ∀ b, b ≠ 0 → b < st.g → st'.H b = st.H b) (e0 : st'.H 0 = .cells [isW l']) (hg : st.g ≤ st'.g) : RdAt st' p q a w0 w1 w2 w3 cs ks l' := by
  obtain ⟨h2, h4, h5, hP, hQ, h0, hg0, hpg, hqg, hag, hone, cw, kw, hA, hc, hkk⟩ := h; refine ⟨e2.trans h2, e4.trans h4, e5.trans h5, (eH p hp hpg).trans hP, (eH q hq hqg).trans hQ, e0, by omega, by omega, by omega, by omega, by rw [eH 1 (by omega) (by omega)]; exact hone, cw, kw, (eH a ha hag).trans hA, ?_, ?_⟩
  · rcases hc with h | ⟨b, k1, k2, k3, k4, k5, k6, k7⟩
    · exact .inl h
    · exact .inr ⟨b, k1, k2, k3, k4, by omega, k6, (eH b k1 k5).trans k7⟩
  · rcases hkk with h | ⟨b, k1, k2, k3, k4, k5, k6, k7⟩
    · exact .inl h
    · exact .inr ⟨b, k1, k2, k3, k4, by omega, k6, (eH b k1 k5).trans k7⟩
section
variable {n : Nat} {p q a : Nat} {w0 w1 w2 w3 : W}
theorem kH1 (d e : Nat) (hd : 6 < d) (he : d < e) (he2 : e < 68) (hp : p ≠ 0) (hq : q ≠ 0) (ha : a ≠ 0) (hpq : p ≠ q) (cs : List El) (ks : List Arm) (i : Ins) (r : List Ins) (st : St) (hK : RdAt st p q a w0 w1 w2 w3 cs ks (i :: r)) :
    ∃ st', execC (go (n + 1)) mode GT false 68 (n + 1) (Kn d e) st = some (.normal, st') ∧ RdAt st' p q a w0 w1 w2 w3 cs ks r ∧ st'.τ 6 = st.τ 6 := by
  have hK2 := hK; obtain ⟨τ, H, g, sp⟩ := st; obtain ⟨h2, h4, h5, hP, hQ, h0, hg, hpg, hqg, hag, -⟩ := hK; simp only at h2 h4 h5 hP hQ h0 hg hpg hqg hag; have wn := ks8 (n := n) i r; have zX := far hg; have pX := far hpg; have nX := ne2 hp; have hd2 : d < 68 := by omega
  have e1 : (e = d) = False := eq_false (by omega); have f2 : ∀ t, t ≤ 6 → t ≠ d ∧ t ≠ e := fun t ht => by omega
  have g2 := f2 2 (by omega); have g4 := f2 4 (by omega); have g5 := f2 5 (by omega); have g6 := f2 6 (by omega); obtain ⟨ic, io, ia⟩ := i; simp [Kn, he2, hd2, h2, hP, h0, wn, zX, pX, nX, e1, g2, g4, g5, g6]; exact hK2.list hp hq ha hpq (by simp [g2]) (by simp [g4]) (by simp [g5]) (fun b hb hbg => by simp [hb]) (by simp) (by simp only; omega)
theorem loop312_1 (hp : p ≠ 0) (hq : q ≠ 0) (ha : a ≠ 0) (hpq : p ≠ q) (hpa : p ≠ a) (hqa : q ≠ a) (hw : Calm4 w0 w1 w2 w3) (l0 : List Ins) (hl : l0.length < 2 ^ 28) (hn : l0.length < n) (st : St) (hK : RdAt st p q a w0 w1 w2 w3 [] [] l0) :
    ∃ e st', execC (go (n + 1)) mode GT false 68 (n + 1) F312_L1 st = some (e, st') ∧ e ≠ .normal ∧ (e = .exit 2 ∧ RdAt st' p q a w0 w1 w2 w3 (coilSpan l0).1 [] (coilSpan l0).2) := by
  rw [F312_L1, k00]; refine k03 (fun m st => ∃ cs l, l.length = m ∧ cs.length + l.length = l0.length ∧ cs ++ (coilSpan l).1 = (coilSpan l0).1 ∧ (coilSpan l).2 = (coilSpan l0).2 ∧ RdAt st p q a w0 w1 w2 w3 cs [] l) ?_ (n + 1) l0.length st (by omega)
    ⟨[], l0, rfl, by simp, by simp, rfl, hK⟩
  clear hK; rintro m ⟨τ, H, g, sp⟩ ⟨cs, l, hm, hcl, e1, e2, hK⟩; have hK2 := hK; obtain ⟨h2, h4, h5, hP, hQ, h0, hg, hpg, hqg, hag, ⟨han, hone⟩, cw, kw, hA, hc, hkk⟩ := hK; simp only at h2 h4 h5 hP hQ h0 hg hpg hqg hag hA hc hkk hone; have oneX := far (show 1 < g by omega); have on1 : (1 = a) = False := eq_false fun e => han e.symm
  have wc := kf3 (n := n) l; obtain ⟨d0, d1, d2, d3, r0, r1, r2, r3⟩ := hw.names; have zX := far hg; have pX := far hpg; have qX := far hqg; have aX := far hag; have nX := ne6 hp hq ha hpq hpa hqa
  by_cases hk : codeI l = 10
  · cases l with
    | nil => exact absurd hk (by simp [codeI])
    | cons i r =>
      have hic : i.c = 10 := hk; have hcs : coilSpan (i :: r) = (i.e :: (coilSpan r).1, (coilSpan r).2) := by rw [coilSpan]; exact if_pos hic
      rw [hcs] at e1 e2; have wn := ks8 (n := n) i r; cases m with
      | zero => simp at hm
      | succ m =>
        simp only [List.length_cons] at hm hcl
        suffices hsuf : ∃ st', execC (go (n + 1)) mode GT false 68 (n + 1) F312_B1 ⟨τ, H, g, sp⟩ = some (.normal, st') ∧ RdAt st' p q a w0 w1 w2 w3 (cs ++ [i.e]) [] r by
          obtain ⟨st', b0, b1⟩ := hsuf; rw [b0]; exact ⟨.normal, st', rfl, fun _ => ⟨m, by omega, cs ++ [i.e], r, by omega, by simp; omega, by rw [List.append_assoc]; exact e1, e2, b1⟩, fun h => absurd rfl h⟩
        obtain ⟨ic, io, ia⟩ := i; simp only at hic; subst hic; have hk' : codeI (⟨10, ⟨io, ia⟩⟩ :: r) = 10 := rfl; rw [hk'] at wc; have rm1 : room 1 32 = true := by decide
        have rmc : room (cs.length + 1) 32 = true := k08 (by omega) (by omega); rcases hc with ⟨rfl, rfl⟩ | ⟨b, hb0, hbp, hbq, hba, hbg, rfl, hB⟩
        · simp [F312_B1, h2, h4, h5, hP, hQ, h0, hA, wc, wn, rm1, rmc, zX, pX, qX, aX, nX]
          exact ⟨by simp [h2], by simp [h4], by simp [h5], by simp [hP, hQ, zX, pX, qX, aX, nX], by simp [hP, hQ, zX, pX, qX, aX, nX], by simp [hP, hQ, zX, pX, qX, aX, nX], by simp only; omega, by simp only; omega, by simp only; omega, by simp only; omega, ⟨han, (by rcases hone with h | h; exact .inl h; exact .inr (by simp [oneX, on1, h]; try ((repeat' split) <;> simp [h])))⟩, .own (g + 192 + 384) 0 1 none, kw, by simp [hP, hQ, zX, pX, qX, aX, nX], .inr ⟨g + 192 + 384, by omega, by omega, by omega, by omega, by simp only; omega, by simp, by simp [hP, hQ, zX, pX, qX, aX, nX, k32, elRows, El.row]⟩, (by
            rcases hkk with h | ⟨b', k1, k2, k3, k4, k5, k6, k7⟩
            · exact .inl ⟨rfl, h.2⟩
            · have kX := far k5
              have m1 : (b' = 0) = False := eq_false k1; have m2 : (b' = a) = False := eq_false k4; exact .inr ⟨b', k1, k2, k3, k4, by simp only; omega, k6, by simp [m1, m2, kX, k7]⟩)⟩
        · have bX := far hbg
          have cN := ne4b hb0 hbp hbq hba; have tkc : List.take cs.length (elRows cs) = elRows cs := List.take_of_length_le (by rw [k21]; omega); simp [F312_B1, h2, h4, h5, hP, hQ, h0, hA, wc, wn, rm1, rmc, zX, pX, qX, aX, nX, hB, bX, tkc, cN, k21]
          exact ⟨by simp [h2], by simp [h4], by simp [h5], by simp [hP, hQ, zX, pX, qX, aX, nX, hB, bX, tkc, cN], by simp [hP, hQ, zX, pX, qX, aX, nX, hB, bX, tkc, cN], by simp [hP, hQ, zX, pX, qX, aX, nX, hB, bX, tkc, cN], by simp only; omega, by simp only; omega, by simp only; omega, by simp only; omega, ⟨han, (by rcases hone with h | h; exact .inl h; exact .inr (by simp [oneX, on1, h]; try ((repeat' split) <;> simp [h])))⟩, .own (g + 192 + 384) 0 (cs.length + 1) none, kw, by simp [hP, hQ, zX, pX, qX, aX, nX, hB, bX, tkc, cN], .inr ⟨g + 192 + 384, by omega, by omega, by omega, by omega, by simp only; omega, by simp, by simp [hP, hQ, zX, pX, qX, aX, nX, hB, bX, tkc, cN, k32, elRows, El.row]⟩, (by
            rcases hkk with h | ⟨b', k1, k2, k3, k4, k5, k6, k7⟩
            · exact .inl ⟨rfl, h.2⟩
            · have kX := far k5
              have m1 : (b' = 0) = False := eq_false k1; have m2 : (b' = a) = False := eq_false k4; have m3 : (b' = b) = False := eq_false fun e => by rw [e, hB] at k7; cases k7
              exact .inr ⟨b', k1, k2, k3, k4, by simp only; omega, k6, by simp [m1, m2, kX, k7, m3]⟩)⟩
  · have hk' : (codeI l = 10) = False := eq_false hk
    have hcs : coilSpan l = ([], l) := by
      cases l with
      | nil => rfl
      | cons i r => rw [coilSpan]; exact if_neg hk
    rw [hcs] at e1 e2; simp only [List.append_nil] at e1; rw [← e1, ← e2]; refine ⟨.exit 2, ?_⟩
    simp [F312_B1, h2, h4, hP, hQ, h0, wc, hk', zX, pX, qX, aX, nX]; exact hK2.list hp hq ha hpq (by simp) (by simp) (by simp) (fun b hb hbg => by simp [hb]) (by simp) (by simp only; omega)
end
end Go.VM

/- Reading lists back: an arm, run. Conditions: none. -/
namespace Go.VM
set_option linter.unusedSimpArgs false
set_option linter.unusedVariables false
set_option maxHeartbeats 16000000
theorem kk4 : ∀ l : List Ins, (netSpan l).2 <:+ l
  | [] => List.suffix_refl _
  | i :: r => by
    rw [netSpan]; split
    · exact List.IsSuffix.trans (kk4 r) (List.suffix_cons i r)
    · exact List.suffix_refl _
theorem kb4 : ∀ l : List Ins, (coilSpan l).2 <:+ l
  | [] => List.suffix_refl _
  | i :: r => by
    rw [coilSpan]; split
    · exact List.IsSuffix.trans (kb4 r) (List.suffix_cons i r)
    · exact List.suffix_refl _
theorem kz4 (l : List Ins) : l.tail <:+ l := List.tail_suffix l
mutual
theorem k62 : ∀ (n : Nat) (s : List Net) (l : List Ins), (readArm n s l).2 <:+ l
  | 0, s, l => by rw [readArm]; exact List.suffix_refl _
  | n + 1, s, l => by
    have h1 := kk4 l; have h2 := kb4 (netSpan l).2; have h12 := h2.trans h1; rw [readArm]; simp only; generalize (coilSpan (netSpan l).2).2 = l2 at h12; split
    · have k0 := k62 n [Net.nil] l2.tail
      have ms := kg1 n (readArm n [Net.nil] l2.tail).2; have k01 := k0.trans ((kz4 l2).trans h12); split
      · have k1 := k62 n [Net.nil] (readMids n (readArm n [Net.nil] l2.tail).2).2.tail
        exact k1.trans ((kz4 _).trans (ms.trans k01))
      · exact ms.trans k01
    · split
      · exact h12
      · exact (k62 n [Net.nil] l2).trans h12
theorem kg1 : ∀ (n : Nat) (l : List Ins), (readMids n l).2 <:+ l
  | 0, l => by rw [readMids]; exact List.suffix_refl _
  | n + 1, l => by
    rw [readMids]; simp only; split
    · have k0 := k62 n [Net.nil] l.tail
      have ms := kg1 n (readArm n [Net.nil] l.tail).2; exact ms.trans (k0.trans (kz4 l))
    · exact List.suffix_refl _
end
section
variable {n : Nat} {p q a : Nat} {w0 w1 w2 w3 : W}
def KidsOk (n m : Nat) (Q : List Ins → Prop) : Prop := ∀ (l : List Ins), l.length < m → Q l → ∀ f, l.length < f → ∃ X, ReadsTo n l (readArm f [Net.nil] l).1 (readArm f [Net.nil] l).2 X
theorem loop312_2 (hp : p ≠ 0) (hq : q ≠ 0) (ha : a ≠ 0) (hpq : p ≠ q) (hpa : p ≠ a) (hqa : q ≠ a) (hw : Calm4 w0 w1 w2 w3) (Q : List Ins → Prop) (hQs : ∀ l l', Q l → l' <:+ l → Q l') (m : Nat) (hk : KidsOk n m Q) (cs : List El) (ks0 : List Arm) (l0 : List Ins) (f0 : Nat) (hl0 : l0.length ≤ m) (hf0 : l0.length < f0) (hQ0 : Q l0) (hlen : ks0.length + l0.length < 2 ^ 28) (hn : m < n) (st : St) (h6 : st.τ 6 = .w (.fn 339 [.ptr a 0, .ptr p 0])) (hK : RdAt st p q a w0 w1 w2 w3 cs ks0 l0) :
    ∃ e st', execC (go (n + 1)) mode GT false 68 (n + 1) F312_L2 st = some (e, st') ∧ e ≠ .normal ∧ (e = .exit 5 ∧ RdAt st' p q a w0 w1 w2 w3 cs (ks0 ++ (readMids f0 l0).1) (readMids f0 l0).2 ∧ st'.τ 6 = .w (.fn 339 [.ptr a 0, .ptr p 0])) := by
  rw [F312_L2, k00]; refine k03 (fun k st => ∃ f ks l, l.length ≤ k ∧ l.length ≤ m ∧ l.length < f ∧ Q l ∧ ks.length + l.length < 2 ^ 28 ∧ ks ++ (readMids f l).1 = ks0 ++ (readMids f0 l0).1 ∧ (readMids f l).2 = (readMids f0 l0).2 ∧ st.τ 6 = .w (.fn 339 [.ptr a 0, .ptr p 0]) ∧ RdAt st p q a w0 w1 w2 w3 cs ks l) ?_ (n + 1) l0.length st (by omega)
    ⟨f0, ks0, l0, Nat.le_refl _, hl0, hf0, hQ0, hlen, rfl, rfl, h6, hK⟩
  clear hK h6; rintro k ⟨τ, H, g, sp⟩ ⟨f, ks, l, hm, hlm, hf, hQl, hkl, e1, e2, h6, hK⟩; have hK2 := hK; obtain ⟨h2, h4, h5, hP, hQ, h0, hg, hpg, hqg, hag, -⟩ := hK; simp only at h2 h4 h5 h6 hP hQ h0 hg hpg hqg hag; have wc := kf3 (n := n) l; have zX := far hg; have pX := far hpg; have a1 : (p = 0) = False := eq_false hp; have a2 : (0 = p) = False := eq_false fun e => hp e.symm
  obtain ⟨f, rfl⟩ : ∃ j, f = j + 1 := ⟨f - 1, by omega⟩; rw [readMids] at e1 e2
  by_cases hc : codeI l = 8
  · rw [if_pos hc] at e1 e2
    cases l with
    | nil => exact absurd hc (by simp [codeI])
    | cons i r =>
      simp only [List.tail_cons] at e1 e2; simp only [List.length_cons] at hm hlm hf hkl; have hQr := hQs _ _ hQl (List.suffix_cons i r); obtain ⟨X, hR⟩ := hk r (by omega) hQr f (by omega); have hsuf := k62 f [Net.nil] r; generalize readArm f [Net.nil] r = ra at e1 e2 hR hsuf; obtain ⟨x, l'⟩ := ra; simp only at e1 e2 hR hsuf; have hl' := hsuf.length_le; cases k with
      | zero => omega
      | succ k =>
        refine ⟨.normal, ?_⟩
        simp [ky9, h2, hP, h0, wc, hc, zX, pX, a1, a2]; generalize hst : St.mk _ _ _ _ = st1; obtain ⟨st2, x1, k1, t1⟩ := kH1 (n := n) (w0 := w0) (w1 := w1) (w2 := w2) (w3 := w3) 52 53 (by omega) (by omega) (by omega) hp hq ha hpq cs ks i r st1 (by subst hst; exact hK2.list hp hq ha hpq (by simp) (by simp) (by simp) (fun b hb hbg => by simp [hb]) (by simp) (by simp only; omega)); have t1' : st2.τ 6 = .w (.fn 339 [.ptr a 0, .ptr p 0]) := by rw [t1, ← hst]; simp [h6]
        obtain ⟨st3, x2, k2, t2⟩ := ks3 (n := n) 54 55 (by omega) (by omega) (by omega) p q a hp hq ha hpq hpa hqa w0 w1 w2 w3 hw cs ks (by omega) r l' x X hR st2 t1' k1; clear hst; simp [x1, x2]; exact ⟨k, by omega, f, ks ++ [x], l', by omega, by omega, by omega, hQs _ _ hQr hsuf, by simp; omega, by rw [List.append_assoc]; exact e1, e2, by rw [t2]; exact t1', k2⟩
  · rw [if_neg hc] at e1 e2
    simp only [List.append_nil] at e1; have hc' : (codeI l = 8) = False := eq_false hc; refine ⟨.exit 5, ?_⟩
    rw [← e1, ← e2]; simp [ky9, h2, hP, h0, wc, hc', zX, pX, a1, a2]; exact ⟨hK2.list hp hq ha hpq (by simp) (by simp) (by simp) (fun b hb hbg => by simp [hb]) (by simp) (by simp only; omega), by simp [h6]⟩
end
end Go.VM

/- Reading lists back: an arm as a whole. Conditions: none. -/
namespace Go.VM
set_option linter.unusedSimpArgs false
set_option linter.unusedVariables false
set_option maxHeartbeats 16000000
def armRest (f : Nat) (l2 : List Ins) : List Arm × List Ins :=
  if codeI l2 = 7 then
    if codeI (readMids f (readArm f [Net.nil] l2.tail).2).2 = 9 then
      ((readArm f [Net.nil] l2.tail).1 :: ((readMids f (readArm f [Net.nil] l2.tail).2).1 ++ [(readArm f [Net.nil] (readMids f (readArm f [Net.nil] l2.tail).2).2.tail).1]), (readArm f [Net.nil] (readMids f (readArm f [Net.nil] l2.tail).2).2.tail).2)
    else ((readArm f [Net.nil] l2.tail).1 :: (readMids f (readArm f [Net.nil] l2.tail).2).1, (readMids f (readArm f [Net.nil] l2.tail).2).2)
  else if codeI l2 = 8 ∨ codeI l2 = 9 ∨ codeI l2 = 11 then ([], l2)
  else ([(readArm f [Net.nil] l2).1], (readArm f [Net.nil] l2).2)
theorem readArm_eq (f : Nat) (s : List Net) (l : List Ins) : readArm (f + 1) s l = (.mk ((runR s (netSpan l).1).headD Net.nil) (coilSpan (netSpan l).2).1 (armRest f (coilSpan (netSpan l).2).2).1, (armRest f (coilSpan (netSpan l).2).2).2) := by
  rw [readArm]; unfold armRest; simp only; split
  · split <;> rfl
  · split <;> rfl
theorem kq3 : ∀ (n : Nat) (l : List Ins), (readMids n l).1.length + (readMids n l).2.length ≤ l.length
  | 0, l => by simp [readMids]
  | n + 1, l => by
    rw [readMids]; simp only; split
    · rename_i h
      have k0 := (k62 n [Net.nil] l.tail).length_le; have ih := kq3 n (readArm n [Net.nil] l.tail).2; cases l with
      | nil => simp [codeI] at h
      | cons i r => simp only [List.tail_cons, List.length_cons] at *; omega
    · simp
section
variable {n : Nat} {p q a : Nat} {w0 w1 w2 w3 : W}
theorem sw_ok (hp : p ≠ 0) (hq : q ≠ 0) (ha : a ≠ 0) (hpq : p ≠ q) (hpa : p ≠ a) (hqa : q ≠ a) (hw : Calm4 w0 w1 w2 w3) (Q : List Ins → Prop) (hQs : ∀ l l', Q l → l' <:+ l → Q l') (m : Nat) (hk : KidsOk n m Q) (cs : List El) (l : List Ins) (f : Nat) (hl : l.length ≤ m) (hf : m ≤ f) (hm : m < 2 ^ 27) (hQ0 : Q l) (hn : m < n)
    (hdef : codeI l ≠ 7 → codeI l ≠ 8 → codeI l ≠ 9 → codeI l ≠ 11 → l.length < m) (st : St) (h6 : st.τ 6 = .w (.fn 339 [.ptr a 0, .ptr p 0])) (hK : RdAt st p q a w0 w1 w2 w3 cs [] l) :
    ∃ st', execC (go (n + 1)) mode GT false 68 (n + 1) KSw st = some (.normal, st') ∧ RdAt st' p q a w0 w1 w2 w3 cs (armRest f l).1 (armRest f l).2 := by
  have hK2 := hK; obtain ⟨τ, H, g, sp⟩ := st; obtain ⟨h2, h4, h5, hP, hQ, h0, hg, hpg, hqg, hag, -⟩ := hK; simp only at h2 h4 h5 h6 hP hQ h0 hg hpg hqg hag; have wc := kf3 (n := n) l; have zX := far hg; have pX := far hpg; have a1 : (p = 0) = False := eq_false hp; have a2 : (0 = p) = False := eq_false fun e => hp e.symm
  unfold armRest
  by_cases h7 : codeI l = 7
  · rw [if_pos h7]
    cases l with
    | nil => exact absurd h7 (by simp [codeI])
    | cons i r =>
      simp only [List.tail_cons]; simp only [List.length_cons] at hl; have hQr := hQs _ _ hQ0 (List.suffix_cons i r); obtain ⟨X, hR⟩ := hk r (by omega) hQr f (by omega); have hsuf := k62 f [Net.nil] r; obtain ⟨x, l', hx⟩ : ∃ x l', readArm f [Net.nil] r = (x, l') := ⟨_, _, rfl⟩; simp only [hx] at hR hsuf ⊢; have hl' := hsuf.length_le; have hQl' := hQs _ _ hQr hsuf; simp [KSw, h2, hP, h0, wc, h7, zX, pX, a1, a2]; generalize hst : St.mk _ _ _ _ = st1
      obtain ⟨st2, x1, k1, t1⟩ := kH1 (n := n) (w0 := w0) (w1 := w1) (w2 := w2) (w3 := w3) 45 46 (by omega) (by omega) (by omega) hp hq ha hpq cs [] i r st1 (by subst hst; exact hK2.list hp hq ha hpq (by simp) (by simp) (by simp) (fun b hb hbg => by simp [hb]) (by simp) (by simp only; omega)); have t1' : st2.τ 6 = .w (.fn 339 [.ptr a 0, .ptr p 0]) := by rw [t1, ← hst]; simp [h6]
      obtain ⟨st3, x2, k2, t2⟩ := ks3 (n := n) 47 48 (by omega) (by omega) (by omega) p q a hp hq ha hpq hpa hqa w0 w1 w2 w3 hw cs [] (by simp) r l' x X hR st2 t1' k1; have t2' : st3.τ 6 = .w (.fn 339 [.ptr a 0, .ptr p 0]) := by rw [t2]; exact t1'
      obtain ⟨e3, st4, x3, -, rfl, k3, t3⟩ := loop312_2 (n := n) hp hq ha hpq hpa hqa hw Q hQs m hk cs [x] l' f (by omega) (by omega) hQl' (by simp; omega) hn st3 t2' (by simpa using k2); clear hst; simp [x1, x2, x3]; have hsuf2 := kg1 f l'; have hml := kq3 f l'; obtain ⟨ms, l4, hy⟩ : ∃ ms l4, readMids f l' = (ms, l4) := ⟨_, _, rfl⟩; simp only [hy] at k3 hsuf2 hml ⊢; have hl4 := hsuf2.length_le; have hQl4 := hQs _ _ hQl' hsuf2; have hK4 := k3; obtain ⟨τ4, H4, g4, sp4⟩ := st4; obtain ⟨j2, j4, j5, jP, jQ, j0, jg, jpg, jqg, jag, -⟩ := k3; simp only at j2 j4 j5 t3 jP jQ j0 jg jpg jqg jag; have wc4 := kf3 (n := n) l4; have zX4 := far jg; have pX4 := far jpg
      by_cases h9 : codeI l4 = 9
      · rw [if_pos h9]
        cases l4 with
        | nil => exact absurd h9 (by simp [codeI])
        | cons i4 r4 =>
          simp only [List.tail_cons]; simp only [List.length_cons] at hl4; have hQr4 := hQs _ _ hQl4 (List.suffix_cons i4 r4); obtain ⟨X4, hR4⟩ := hk r4 (by omega) hQr4 f (by omega); obtain ⟨x4, l5, hz⟩ : ∃ x4 l5, readArm f [Net.nil] r4 = (x4, l5) := ⟨_, _, rfl⟩; simp only [hz] at hR4 ⊢; simp [KLast, j2, jP, j0, wc4, h9, zX4, pX4, a1, a2]; generalize hst : St.mk _ _ _ _ = st5; obtain ⟨st6, x5, k5, t5⟩ := kH1 (n := n) (w0 := w0) (w1 := w1) (w2 := w2) (w3 := w3) 59 60 (by omega) (by omega) (by omega) hp hq ha hpq cs ([x] ++ ms) i4 r4 st5 (by subst hst; exact hK4.list hp hq ha hpq (by simp) (by simp) (by simp) (fun b hb hbg => by simp [hb]) (by simp) (by simp only; omega))
          have t5' : st6.τ 6 = .w (.fn 339 [.ptr a 0, .ptr p 0]) := by rw [t5, ← hst]; simp [t3]
          obtain ⟨st7, x6, k6, t6⟩ := ks3 (n := n) 61 62 (by omega) (by omega) (by omega) p q a hp hq ha hpq hpa hqa w0 w1 w2 w3 hw cs ([x] ++ ms) (by simp; omega) r4 l5 x4 X4 hR4 st6 t5' k5; clear hst; simp [x5, x6]
          simpa using k6
      · rw [if_neg h9]
        have h9' : (codeI l4 = 9) = False := eq_false h9; simp [KLast, j2, jP, j0, wc4, h9', zX4, pX4, a1, a2]; exact hK4.list hp hq ha hpq (by simp) (by simp) (by simp) (fun b hb hbg => by simp [hb]) (by simp) (by simp only; omega)
  · rw [if_neg h7]
    have h7' : (codeI l = 7) = False := eq_false h7
    by_cases h8 : codeI l = 8 ∨ codeI l = 9 ∨ codeI l = 11
    · rw [if_pos h8]
      rcases h8 with h8 | h8 | h8
      · simp [KSw, KElse, h2, hP, h0, wc, h8, zX, pX, a1, a2]
        exact hK2.list hp hq ha hpq (by simp) (by simp) (by simp) (fun b hb hbg => by simp [hb]) (by simp) (by simp only; omega)
      · simp [KSw, KElse, h2, hP, h0, wc, h8, zX, pX, a1, a2]
        exact hK2.list hp hq ha hpq (by simp) (by simp) (by simp) (fun b hb hbg => by simp [hb]) (by simp) (by simp only; omega)
      · simp [KSw, KElse, h2, hP, h0, wc, h8, zX, pX, a1, a2]
        exact hK2.list hp hq ha hpq (by simp) (by simp) (by simp) (fun b hb hbg => by simp [hb]) (by simp) (by simp only; omega)
    · rw [if_neg h8]
      have h8' : ¬ codeI l = 8 := fun e => h8 (.inl e)
      have h9' : ¬ codeI l = 9 := fun e => h8 (.inr (.inl e))
      have h11' : ¬ codeI l = 11 := fun e => h8 (.inr (.inr e))
      have hlm := hdef h7 h8' h9' h11'; obtain ⟨X, hR⟩ := hk l hlm hQ0 f (by omega); obtain ⟨x, l', hx⟩ : ∃ x l', readArm f [Net.nil] l = (x, l') := ⟨_, _, rfl⟩; simp only [hx] at hR ⊢; simp [KSw, KElse, h2, hP, h0, wc, h7', h8', h9', h11', zX, pX, a1, a2]; generalize hst : St.mk _ _ _ _ = st1; obtain ⟨st3, x2, k2, t2⟩ := ks3 (n := n) 41 42 (by omega) (by omega) (by omega) p q a hp hq ha hpq hpa hqa w0 w1 w2 w3 hw cs [] (by simp) l l' x X hR st1 (by simp [← hst, h6]) (by subst hst; exact hK2.list hp hq ha hpq (by simp) (by simp) (by simp) (fun b hb hbg => by simp [hb]) (by simp) (by simp only; omega)); clear hst; simp [x2]
      simpa using k2
end
end Go.VM

/- Reading lists back: the reader. Conditions: none. -/
namespace Go.VM
set_option linter.unusedSimpArgs false
set_option linter.unusedVariables false
set_option maxHeartbeats 16000000
def CalmNet (w0 w1 w2 w3 : W) (N : Net) : Prop := (w0 = iW N.kind ∧ w1 = iW N.op ∧ w2 = asW N.as ∧ w3 = nsW N.kids) ∨ (N = Net.nil ∧ w0 = iW 0 ∧ w1 = iW 0 ∧ w2 = .nil ∧ w3 = .nil)
theorem CalmNet.calm {w0 w1 w2 w3 : W} {N : Net} (h : CalmNet w0 w1 w2 w3 N) : Calm4 w0 w1 w2 w3 := by
  rcases h with ⟨rfl, rfl, rfl, rfl⟩ | ⟨-, rfl, rfl, rfl, rfl⟩
  · exact .inl ⟨_, _, _, _, rfl, rfl, rfl, rfl⟩
  · exact .inr ⟨rfl, rfl, rfl, rfl⟩
section
variable {n : Nat} {p q a : Nat}
theorem net_ok (hp : p ≠ 0) (hq : q ≠ 0) (ha : a ≠ 0) (hpq : p ≠ q) (hpa : p ≠ a) (hqa : q ≠ a) (han : a ≠ 1) (s : List Net) (hs : s.length < 2 ^ 28) (l : List Ins) (st : St) (hA : ArmAt st p q l) (h5 : st.τ 5 = .w (.ptr a 0)) (hZ : st.H a = .cells [iW 0, iW 0, .nil, .nil, .nil, .nil]) (hag : a < st.g)
    (hS : (s = [] ∧ st.τ 1 = .w .nil) ∨ ∃ b c R, b ≠ a ∧ st.τ 1 = .w (.own b 0 s.length c) ∧ st.H b = .row none 4 R 0 ∧ R.take s.length = netRows s.reverse) :
    ∃ st' w0 w1 w2 w3, execC (go (n + 1)) mode GT false 68 (n + 1) KNet st = some (.normal, st') ∧ CalmNet w0 w1 w2 w3 (s.headD Net.nil) ∧ RdAt st' p q a w0 w1 w2 w3 [] [] l := by
  obtain ⟨τ, H, g, sp⟩ := st; obtain ⟨h2, hP, h4, hQ, h0, hg, hpg, hqg, hone⟩ := hA; simp only at h2 hP h4 hQ h0 hg hpg hqg h5 hZ hag hS hone; have oneX := far (show 1 < g by omega); have on1 : (1 = a) = False := eq_false fun e => han e.symm
  have zX := far hg; have pX := far hpg; have qX := far hqg; have aX := far hag; have nX := ne6 hp hq ha hpq hpa hqa; rcases hS with ⟨rfl, h1⟩ | ⟨b, c, R, hba, h1, hB, hR⟩
  · refine ⟨⟨upd (upd (upd τ 17 (.w .nil)) 18 (iV 0)) 19 (bV false), H, g + 192, restS sp⟩, iW 0, iW 0, .nil, .nil, ?_, .inr ⟨rfl, rfl, rfl, rfl, rfl⟩, ?_⟩
    · simp [KNet, h1]
    · exact ⟨by simp [h2], by simp [h4], by simp [h5], hP, hQ, h0, by simp only; omega, by simp only; omega, by simp only; omega, by simp only; omega, ⟨han, hone⟩, .nil, .nil, hZ, .inl ⟨rfl, rfl⟩, .inl ⟨rfl, rfl⟩⟩
  · cases s with
    | nil =>
      refine ⟨⟨upd (upd (upd τ 17 (.w (.own b 0 0 c))) 18 (iV 0)) 19 (bV false), H, g + 192, restS sp⟩, iW 0, iW 0, .nil, .nil, ?_, .inr ⟨rfl, rfl, rfl, rfl, rfl⟩, ?_⟩
      · simp at h1
        simp [KNet, h1]
      · exact ⟨by simp [h2], by simp [h4], by simp [h5], hP, hQ, h0, by simp only; omega, by simp only; omega, by simp only; omega, by simp only; omega, ⟨han, hone⟩, .nil, .nil, hZ, .inl ⟨rfl, rfl⟩, .inl ⟨rfl, rfl⟩⟩
    | cons x r =>
      simp only [List.length_cons, List.reverse_cons] at h1 hR hs; have hg1 := ku7 hR; have hle := kz3 hR (by simp [k09]); have e1 : IntKind.i64.wrap (r.length : Int) = (r.length : Int) := k29 (by omega) (by omega); have q1 : ((0 : Int) < (r.length : Int) + 1) = True := eq_true (by omega); have q2 : ((r.length : Int) < (r.length : Int) + 1) = True := eq_true (by omega); obtain ⟨xk, xo, xa, xs⟩ := x; simp only [Net.row] at hg1
      suffices hsuf : ∃ st', execC (go (n + 1)) mode GT false 68 (n + 1) KNet ⟨τ, H, g, sp⟩ = some (.normal, st') ∧ RdAt st' p q a (iW xk) (iW xo) (asW xa) (nsW xs) [] [] l by
        obtain ⟨st', b1, b2⟩ := hsuf; exact ⟨st', _, _, _, _, b1, .inl ⟨rfl, rfl, rfl, rfl⟩, b2⟩
      simp [-getElem?_pos, KNet, h1, h5, hB, hZ, hg1, e1, q1, q2, hle, aX]; exact ⟨by simp [h2], by simp [h4], by simp [h5], by simp [hP, nX], by simp [hQ, nX], by simp [h0, nX], by simp only; omega, by simp only; omega, by simp only; omega, by simp only; omega, ⟨han, (by rcases hone with h | h; exact .inl h; exact .inr (by simp [oneX, on1, h]; try ((repeat' split) <;> simp [h])))⟩, .nil, .nil, by simp, .inl ⟨rfl, rfl⟩, .inl ⟨rfl, rfl⟩⟩
end
end Go.VM
