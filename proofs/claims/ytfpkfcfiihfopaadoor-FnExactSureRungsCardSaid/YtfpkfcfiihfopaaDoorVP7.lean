/- The laws of exactness, by the shape of their code: one slice in, one slice out. Conditions: none. -/
import Derived.Test.YtfpkfcfiihfopaaDoorVP6

namespace Go.VM
set_option linter.unusedVariables false
set_option linter.unusedSimpArgs false
set_option maxHeartbeats 4000000
def lawA (szA toA specF implF eqR eqA markA markR heldR : Nat) : C :=
 (sR [oT 2 false] (sR [oV 3 1048576] (sR [om 11 0, om 12 3, oC 13 szA [(.t 11), (.t 12)], om 3 13] (.seq (sR [om 14 3, oI 15 .lss 14 0] (.cond (.t 15) (sR [oT 2 true] .ret) .skip)) (sR [om 16 0, oC 17 toA [(.t 16)], oC 18 specF [(.t 17)], om 4 18] (sR [om 19 0, oC 20 toA [(.t 19)], om 5 20] (sR [om 21 5, oC 22 implF [(.t 21)], om 6 22]
 (.seq (sR [om 23 6, om 24 4, oC 25 eqR [(.t 23), (.t 24)], oo 26 (.un .not (.t 25))] (.cond (.t 26) (sR [oT 2 false] .ret) .skip)) (.seq (sR [om 27 5, om 28 0, oC 29 toA [(.t 28)], oC 30 eqA [(.t 27), (.t 29)], oo 31 (.un .not (.t 30))] (.cond (.t 31) (sR [oT 2 false] .ret) .skip)) (sR [oV 7 1] (sR [om 32 5, om 33 7, oC 34 markA [(.t 32), (.t 33)], om 7 34]
 (.seq (sR [om 35 7, oI 36 .lss 35 0, om 37 36, og 38 (.mv (.t 6)) 37 false, og 39 (.mv (.t 4)) 37 false, og 40 (.call (xf eqR) [(.t 38), (.t 39)]) 37 false, og 41 (.un .not (.t 40)) 37 false, oo 42 (.pick (.t 37) (xb true) (.t 41))] (.cond (.t 42) (sR [oT 2 false] .ret) .skip)) (sR [oV 8 1] (sR [om 43 6, om 44 8, oC 45 markR [(.t 43), (.t 44)], om 8 45]
 (sR [oV 9 1] (sR [om 46 6, om 47 9, oC 48 heldR [(.t 46), (.t 47)], om 9 48] (.seq (sR [om 49 9, oI 50 .lss 49 0] (.cond (.t 50) (sR [oT 2 false] .ret) .skip)) (.seq (sR [om 51 9, om 52 8, oB 53 .neq 51 52] (.cond (.t 53) (sR [oT 2 false] .ret) .skip)) (sR [om 54 0, oC 55 toA [(.t 54)], oC 56 implF [(.t 55)], om 10 56]
 (.seq (sR [om 57 10, om 58 4, oC 59 eqR [(.t 57), (.t 58)], oo 60 (.un .not (.t 59))] (.cond (.t 60) (sR [oT 2 false] .ret) .skip)) (sR [oV 9 1] (sR [om 61 6, om 62 9, oC 63 heldR [(.t 61), (.t 62)], om 9 63] (.seq (sR [om 64 9, oI 65 .lss 64 0] (.cond (.t 65) (sR [oT 2 false] .ret) .skip)) (.seq (sR [om 66 9, om 67 8, oB 68 .neq 66 67] (.cond (.t 68) (sR [oT 2 false] .ret) .skip)) (sR [oT 2 true] .ret)))))))))))))))))))))))))
section
variable {P : Program} {fid : Nat → FuncId} {cid : FuncId → Nat}
theorem mwp_sR {N n : Nat} {ops : List RO} {rest : C} {τ : Nat → Value} {w : World} {K : Ex → (Nat → Value) → World → Prop} (h : mregs P fid N ops τ w fun τ' w' => mwp P fid N n rest τ' w' K) : mwp P fid N n (sR ops rest) τ w K := by
 simp only [sR, mwp]; exact mregs_mono ops (fun τ' w' h => ⟨fun _ => h, fun e => absurd rfl e⟩) h
theorem mwp_test {N n t : Nat} {b : Bool} {ops : List RO} {rest : C} {τ : Nat → Value} {w : World} {K : Ex → (Nat → Value) → World → Prop} (h : mregs P fid N ops τ w fun τ' w' => τ' t = .bool false ∧ mwp P fid N n rest τ' w' K) :
 mwp P fid N n (.seq (sR ops (.cond (.t t) (sR [oT 2 b] .ret) .skip)) rest) τ w K := by
 unfold mwp; refine mwp_sR (mregs_mono ops (fun τ' w' ⟨h1, h2⟩ => ?_) h)
 unfold mwp; exact ⟨false, by simp [mval, h1], fun h => (by cases h), fun _ => ⟨fun _ => h2, fun h => absurd rfl h⟩⟩
theorem mwp_out {N n t : Nat} {b : Bool} {ops : List RO} {rest : C} {τ : Nat → Value} {w : World} {K : Ex → (Nat → Value) → World → Prop} (hN : 2 < N) (h : mregs P fid N ops τ w fun τ' w' => τ' t = .bool true ∧ K .ret (upd τ' 2 (.bool b)) w') :
 mwp P fid N n (.seq (sR ops (.cond (.t t) (sR [oT 2 b] .ret) .skip)) rest) τ w K := by
 unfold mwp; refine mwp_sR (mregs_mono ops (fun τ' w' ⟨h1, h2⟩ => ?_) h)
 unfold mwp; refine ⟨true, by simp [mval, h1], fun _ => mwp_sR ?_, fun h => (by cases h)⟩
 simp only [oT, oo, xb, mregs, mstep, mval, mmv, mput, if_pos hN]; exact ⟨_, rfl, fun h => (by cases h), fun _ => h2⟩
theorem stay {Q : (Nat → Value) → Prop} {N n : Nat} {c : C} {τ : Nat → Value} {w : World} {K : Ex → (Nat → Value) → World → Prop} (h : Q τ) (k : ∀ τ, Q τ → mwp P fid N n c τ w K) : mwp P fid N n c τ w K := k τ h
structure Sound (P : Program) (fid : Nat → FuncId) (w0 : World) (a : Value) (rowsA : List (List D)) (szA toA eqA markA : Nat) : Prop where
 to : ∀ w, Tou (fun b => w0.heap.size ≤ b) w0 w → MC P fid toA [a] w fun v w' => ∃ ζ st R, New w w' ζ v (.l st R) ∧ erR R = rowsA
 eq : ∀ N M u v w, Tou (fun b => w0.heap.size ≤ b) w0 w → Rd N w u (.l 0 rowsA) → Rd M w v (.l 0 rowsA) → MC P fid eqA [u, v] w fun r w' => r = .bool true ∧ Tou Old w w'
 mark : ∀ R, erR R = rowsA → MarkOK P fid markA R
structure Gives (P : Program) (fid : Nat → FuncId) (w0 : World) (rowsA rowsR : List (List D)) (specF implF eqR markR heldR : Nat) : Prop where
 spec : ∀ N v w, Tou (fun b => w0.heap.size ≤ b) w0 w → Rd N w v (.l 0 rowsA) → MC P fid specF [v] w fun r w' => Tou Old w w' ∧ Rd w'.heap.size w' r (.l 0 rowsR)
 impl : ∀ N v w, Tou (fun b => w0.heap.size ≤ b) w0 w → Rd N w v (.l 0 rowsA) → MC P fid implF [v] w fun r w' => ∃ ζ st R, New w w' ζ r (.l st R) ∧ erR R = rowsR
 eq : ∀ N M u v w, Tou (fun b => w0.heap.size ≤ b) w0 w → Rd N w u (.l 0 rowsR) → Rd M w v (.l 0 rowsR) → MC P fid eqR [u, v] w fun r w' => r = .bool true ∧ Tou Old w w'
 mark : ∀ R, erR R = rowsR → MarkOK P fid markR R
 held : ∀ R, erR R = rowsR → HeldOK P fid heldR R
mutual
theorem D.ct_er : ∀ d : D, d.er.ct = d.ct
 | .s _ => rfl
 | .l _ rows => by simp only [D.er, D.ct]; exact ctR_er rows
theorem ctL_er : ∀ l : List D, ctL (erL l) = ctL l
 | [] => rfl
 | x :: r => by simp only [erL, ctL]; rw [D.ct_er x, ctL_er r]
theorem ctR_er : ∀ l : List (List D), ctR (erR l) = ctR l
 | [] => rfl
 | x :: r => by simp only [erR, ctR]; rw [ctL_er x, ctR_er r]
end
theorem Tou.old {S : Nat → Prop} {a b : World} (h : Tou Old a b) : Tou S a b := h.mono fun _ h => h.elim
theorem New.rd {w w' : World} {ζ : Nat → Option Nat} {v : Value} {st : Nat} {R : List (List D)} {rows : List (List D)} (h : New w w' ζ v (.l st R)) (e : erR R = rows) : Rd w'.heap.size w' v (.l 0 rows) := by
 subst e; exact h.own.read
theorem Own.rd {w : World} {ζ : Nat → Option Nat} {v : Value} {st : Nat} {R : List (List D)} {rows : List (List D)} (h : Own w ζ v (.l st R)) (e : erR R = rows) : Rd w.heap.size w v (.l 0 rows) := by
 subst e; exact h.read
theorem lawA_ok {w0 : World} {a : Value} {rowsA rowsR : List (List D)} {szA toA specF implF eqR eqA markA markR heldR n : Nat} {K : Ex → (Nat → Value) → World → Prop} {τ : Nat → Value} (h0 : τ 0 = a) (hA : 1 + ctR rowsA < 2 ^ 62) (hR : 1 + ctR rowsR < 2 ^ 62)
 (sz : MC P fid szA [a, .int .i64 1048576] w0 fun v w' => Tou Old w0 w' ∧ ∃ k : Int, v = .int .i64 k ∧ (0 ≤ k → Sound P fid w0 a rowsA szA toA eqA markA ∧ Gives P fid w0 rowsA rowsR specF implF eqR markR heldR))
 (hK : ∀ τ w, τ 2 = .bool true → Tou (fun b => w0.heap.size ≤ b) w0 w → K .ret τ w) : mwp P fid 69 n (lawA szA toA specF implF eqR eqA markA markR heldR) τ w0 K := by
 unfold lawA; refine mwp_sR ?_
 simp [om, oC, oo, og, on, oV, oT, oI, oB, xf, xi, xb, mregs, mstep, mval, mvals, mmv, mput, mcall, mnot, mbin, mpick, binS, upd, h0]; refine stay (Q := fun τ => τ 0 = a) (by simp [upd, h0]) ?_
 clear h0; intro τ h0; refine mwp_sR ?_
 simp [om, oC, oo, og, on, oV, oT, oI, oB, xf, xi, xb, mregs, mstep, mval, mvals, mmv, mput, mcall, mnot, mbin, mpick, binS, upd, h0]; refine stay (Q := fun τ => τ 0 = a ∧ τ 3 = .int .i64 1048576) (by simp [upd, h0]) ?_
 clear h0; rintro τ ⟨h0, h3⟩; refine mwp_sR ?_
 simp [om, oC, oo, og, on, oV, oT, oI, oB, xf, xi, xb, mregs, mstep, mval, mvals, mmv, mput, mcall, mnot, mbin, mpick, binS, upd, h0, h3]; refine sz.mono ?_
 rintro v w1 ⟨t1, k, rfl, hk⟩; refine stay (Q := fun τ => τ 0 = a ∧ τ 3 = .int .i64 k) (by simp [upd, h0, h3]) ?_
 clear h0 h3; rintro τ ⟨h0, h3⟩
 by_cases hneg : k < 0
 · refine mwp_out (by omega) ?_
   simp [om, oC, oo, og, on, oV, oT, oI, oB, xf, xi, xb, mregs, mstep, mval, mvals, mmv, mput, mcall, mnot, mbin, mpick, binS, upd, h0, h3, hneg]; exact hK _ _ (by simp [upd]) t1.old
 obtain ⟨HA, HR⟩ := hk (by omega); refine mwp_test ?_
 simp [om, oC, oo, og, on, oV, oT, oI, oB, xf, xi, xb, mregs, mstep, mval, mvals, mmv, mput, mcall, mnot, mbin, mpick, binS, upd, h0, h3, hneg]; refine stay (Q := fun τ => τ 0 = a) (by simp [upd, h0, h3]) ?_
 clear h0 h3; intro τ h0; refine mwp_sR ?_
 simp [om, oC, oo, og, on, oV, oT, oI, oB, xf, xi, xb, mregs, mstep, mval, mvals, mmv, mput, mcall, mnot, mbin, mpick, binS, upd, h0]; refine (HA.to w1 t1.old).mono ?_
 rintro v w2 ⟨ζ2, st2, R2, n2, e2⟩; have t2 := t1.trans n2.tou
 try simp
 refine (HR.spec _ _ _ t2.old (n2.rd e2)).mono ?_
 rintro w0v w3 ⟨g3, r3⟩; have t3 := t2.trans g3; refine stay (Q := fun τ => τ 0 = a ∧ τ 4 = w0v) (by simp [upd, h0]) ?_
 clear h0; rintro τ ⟨h0, h4⟩; refine mwp_sR ?_
 simp [om, oC, oo, og, on, oV, oT, oI, oB, xf, xi, xb, mregs, mstep, mval, mvals, mmv, mput, mcall, mnot, mbin, mpick, binS, upd, h0, h4]; refine (HA.to w3 t3.old).mono ?_
 rintro x0 w4 ⟨ζx, stx, RX, n4, ex⟩; have t4 := t3.trans n4.tou; refine stay (Q := fun τ => τ 0 = a ∧ τ 4 = w0v ∧ τ 5 = x0) (by simp [upd, h0, h4]) ?_
 clear h0 h4; rintro τ ⟨h0, h4, h5⟩; refine mwp_sR ?_
 simp [om, oC, oo, og, on, oV, oT, oI, oB, xf, xi, xb, mregs, mstep, mval, mvals, mmv, mput, mcall, mnot, mbin, mpick, binS, upd, h0, h4, h5]; refine (HR.impl _ _ _ t4.old (n4.rd ex)).mono ?_
 rintro g0 w5 ⟨ζg, stg, RG, n5, eg⟩; have t5 := t4.trans n5.tou; refine stay (Q := fun τ => τ 0 = a ∧ τ 4 = w0v ∧ τ 5 = x0 ∧ τ 6 = g0) (by simp [upd, h0, h4, h5]) ?_
 clear h0 h4 h5; rintro τ ⟨h0, h4, h5, h6⟩; have r5 := (r3.same n4.tou).same n5.tou; refine mwp_test ?_
 simp [om, oC, oo, og, on, oV, oT, oI, oB, xf, xi, xb, mregs, mstep, mval, mvals, mmv, mput, mcall, mnot, mbin, mpick, binS, upd, h0, h4, h5, h6]; refine (HR.eq _ _ _ _ _ t5.old (n5.rd eg) r5).mono ?_
 rintro _ w6 ⟨rfl, g6⟩
 try simp
 have t6 := t5.trans g6; have r6 := r5.same g6; have x6 := (n4.own.same n5.tou).same g6; have o6 := n5.own.same g6; refine stay (Q := fun τ => τ 0 = a ∧ τ 4 = w0v ∧ τ 5 = x0 ∧ τ 6 = g0) (by simp [upd, h0, h4, h5, h6]) ?_
 clear h0 h4 h5 h6; rintro τ ⟨h0, h4, h5, h6⟩; refine mwp_test ?_
 simp [om, oC, oo, og, on, oV, oT, oI, oB, xf, xi, xb, mregs, mstep, mval, mvals, mmv, mput, mcall, mnot, mbin, mpick, binS, upd, h0, h4, h5, h6]; refine (HA.to w6 t6.old).mono ?_
 rintro v7 w7 ⟨ζ7, st7, R7, n7, e7⟩; have t7 := t6.trans n7.tou
 try simp
 refine (HA.eq _ _ _ _ _ t7.old ((x6.same n7.tou).rd ex) (n7.rd e7)).mono ?_
 rintro _ w8 ⟨rfl, g8⟩
 try simp
 have t8 := t7.trans g8; have g68 := n7.tou.trans g8; have r8 := r6.same g68; have x8 := x6.same g68; have o8 := o6.same g68; refine stay (Q := fun τ => τ 0 = a ∧ τ 4 = w0v ∧ τ 5 = x0 ∧ τ 6 = g0) (by simp [upd, h0, h4, h5, h6]) ?_
 clear h0 h4 h5 h6; rintro τ ⟨h0, h4, h5, h6⟩; refine mwp_sR ?_
 simp [om, oC, oo, og, on, oV, oT, oI, oB, xf, xi, xb, mregs, mstep, mval, mvals, mmv, mput, mcall, mnot, mbin, mpick, binS, upd, h0, h4, h5, h6]; refine stay (Q := fun τ => τ 0 = a ∧ τ 4 = w0v ∧ τ 5 = x0 ∧ τ 6 = g0 ∧ τ 7 = .int .i64 1) (by simp [upd, h0, h4, h5, h6]) ?_
 clear h0 h4 h5 h6; rintro τ ⟨h0, h4, h5, h6, h7⟩; refine mwp_sR ?_
 simp [om, oC, oo, og, on, oV, oT, oI, oB, xf, xi, xb, mregs, mstep, mval, mvals, mmv, mput, mcall, mnot, mbin, mpick, binS, upd, h0, h4, h5, h6, h7]; have hcx : ctR RX = ctR rowsA := by rw [← ex, ctR_er]
 have hcg : ctR RG = ctR rowsR := by rw [← eg, ctR_er]
 refine (HA.mark RX ex w8 ζx x0 stx 1 n4.inj x8 (by omega)).mono ?_
 rintro _ w9 ⟨rfl, g9, x9⟩; have lx : ∀ b, Sb ζx (D.l stx RX).sts b → w3.heap.size ≤ b := n4.low; have ux : ∀ b, Sb ζx (D.l stx RX).sts b → b < w4.heap.size := n4.own.lt; have lg : ∀ b, Sb ζg (D.l stg RG).sts b → w4.heap.size ≤ b := n5.low; have s03 : w0.heap.size ≤ w3.heap.size := t3.size; have s34 : w3.heap.size ≤ w4.heap.size := n4.tou.size; have t9 : Tou (fun b => w0.heap.size ≤ b) w0 w9 := t8.old.trans (g9.mono fun b hb => by have := lx b hb; omega); have r9 := r8.tou g9 (fun b hb => lx b hb); have o9 := o8.tou g9 (fun b hb hx => by have := ux b hx; have := lg b hb; omega)
 refine stay (Q := fun τ => τ 0 = a ∧ τ 4 = w0v ∧ τ 5 = x0 ∧ τ 6 = g0 ∧ τ 7 = .int .i64 ((1 + ctR RX : Nat) : Int)) (by simp [upd, h0, h4, h5, h6, h7]) ?_
 clear h0 h4 h5 h6 h7; rintro τ ⟨h0, h4, h5, h6, h7⟩; have hpos : ¬ ((1 + ctR RX : Nat) : Int) < 0 := by omega
 have hpos' : ¬ (1 + (ctR RX : Int)) < 0 := by omega
 refine mwp_test ?_
 simp [om, oC, oo, og, on, oV, oT, oI, oB, xf, xi, xb, mregs, mstep, mval, mvals, mmv, mput, mcall, mnot, mbin, mpick, binS, upd, h0, h4, h5, h6, h7, hpos, hpos']; refine (HR.eq _ _ _ _ _ t9 (o9.rd eg) r9).mono ?_
 rintro _ w10 ⟨rfl, g10⟩
 try simp
 have t10 : Tou (fun b => w0.heap.size ≤ b) w0 w10 := t9.trans g10.old; have r10 := r9.same g10; have o10 := o9.same g10; refine stay (Q := fun τ => τ 0 = a ∧ τ 4 = w0v ∧ τ 6 = g0) (by simp [upd, h0, h4, h5, h6, h7]) ?_
 clear h0 h4 h5 h6 h7; rintro τ ⟨h0, h4, h6⟩; refine mwp_sR ?_
 simp [om, oC, oo, og, on, oV, oT, oI, oB, xf, xi, xb, mregs, mstep, mval, mvals, mmv, mput, mcall, mnot, mbin, mpick, binS, upd, h0, h4, h6]; refine stay (Q := fun τ => τ 0 = a ∧ τ 4 = w0v ∧ τ 6 = g0 ∧ τ 8 = .int .i64 1) (by simp [upd, h0, h4, h6]) ?_
 clear h0 h4 h6; rintro τ ⟨h0, h4, h6, h8⟩; refine mwp_sR ?_
 simp [om, oC, oo, og, on, oV, oT, oI, oB, xf, xi, xb, mregs, mstep, mval, mvals, mmv, mput, mcall, mnot, mbin, mpick, binS, upd, h0, h4, h6, h8]; refine (HR.mark RG eg w10 ζg g0 stg 1 n5.inj o10 (by omega)).mono ?_
 rintro _ w11 ⟨rfl, g11, o11⟩; have t11 : Tou (fun b => w0.heap.size ≤ b) w0 w11 := t10.trans (g11.mono fun b hb => by have := lg b hb; omega); have r11 := r10.tou g11 (fun b hb => by have := lg b hb; omega); refine stay (Q := fun τ => τ 0 = a ∧ τ 4 = w0v ∧ τ 6 = g0 ∧ τ 8 = .int .i64 ((1 + ctR RG : Nat) : Int)) (by simp [upd, h0, h4, h6, h8]) ?_
 clear h0 h4 h6 h8; rintro τ ⟨h0, h4, h6, h8⟩; refine mwp_sR ?_
 simp [om, oC, oo, og, on, oV, oT, oI, oB, xf, xi, xb, mregs, mstep, mval, mvals, mmv, mput, mcall, mnot, mbin, mpick, binS, upd, h0, h4, h6, h8]; refine stay (Q := fun τ => τ 0 = a ∧ τ 4 = w0v ∧ τ 6 = g0 ∧ τ 8 = .int .i64 ((1 + ctR RG : Nat) : Int) ∧ τ 9 = .int .i64 1) (by simp [upd, h0, h4, h6, h8]) ?_
 clear h0 h4 h6 h8; rintro τ ⟨h0, h4, h6, h8, h9⟩; refine mwp_sR ?_
 simp [om, oC, oo, og, on, oV, oT, oI, oB, xf, xi, xb, mregs, mstep, mval, mvals, mmv, mput, mcall, mnot, mbin, mpick, binS, upd, h0, h4, h6, h8, h9]; refine (HR.held RG eg w11 ζg g0 stg 1 o11 (by omega)).mono ?_
 rintro _ _ ⟨rfl, rfl⟩; refine stay (Q := fun τ => τ 0 = a ∧ τ 4 = w0v ∧ τ 6 = g0 ∧ τ 8 = .int .i64 ((1 + ctR RG : Nat) : Int) ∧ τ 9 = .int .i64 ((1 + ctR RG : Nat) : Int)) (by simp [upd, h0, h4, h6, h8, h9]) ?_
 clear h0 h4 h6 h8 h9; rintro τ ⟨h0, h4, h6, h8, h9⟩; have hq : ¬ ((1 + ctR RG : Nat) : Int) < 0 := by omega
 have hq' : ¬ (1 + (ctR RG : Int)) < 0 := by omega
 refine mwp_test ?_
 simp [om, oC, oo, og, on, oV, oT, oI, oB, xf, xi, xb, mregs, mstep, mval, mvals, mmv, mput, mcall, mnot, mbin, mpick, binS, upd, h0, h4, h6, h8, h9, hq, hq']; refine stay (Q := fun τ => τ 0 = a ∧ τ 4 = w0v ∧ τ 6 = g0 ∧ τ 8 = .int .i64 ((1 + ctR RG : Nat) : Int) ∧ τ 9 = .int .i64 ((1 + ctR RG : Nat) : Int)) (by simp [upd, h0, h4, h6, h8, h9]) ?_
 clear h0 h4 h6 h8 h9; rintro τ ⟨h0, h4, h6, h8, h9⟩; refine mwp_test ?_
 simp [om, oC, oo, og, on, oV, oT, oI, oB, xf, xi, xb, mregs, mstep, mval, mvals, mmv, mput, mcall, mnot, mbin, mpick, binS, upd, h0, h4, h6, h8, h9]; refine stay (Q := fun τ => τ 0 = a ∧ τ 4 = w0v ∧ τ 6 = g0 ∧ τ 8 = .int .i64 ((1 + ctR RG : Nat) : Int)) (by simp [upd, h0, h4, h6, h8, h9]) ?_
 clear h0 h4 h6 h8 h9; rintro τ ⟨h0, h4, h6, h8⟩; refine mwp_sR ?_
 simp [om, oC, oo, og, on, oV, oT, oI, oB, xf, xi, xb, mregs, mstep, mval, mvals, mmv, mput, mcall, mnot, mbin, mpick, binS, upd, h0, h4, h6, h8]; refine (HA.to _ t11).mono ?_
 rintro v12 w12 ⟨ζ12, st12, R12, n12, e12⟩; have t12 := t11.trans n12.tou.old
 try simp
 refine (HR.impl _ _ _ t12 (n12.rd e12)).mono ?_
 rintro v13 w13 ⟨ζ13, st13, R13, n13, e13⟩; have t13 := t12.trans n13.tou.old; have r13 := (r11.same n12.tou).same n13.tou; have o13 := (o11.same n12.tou).same n13.tou; refine stay (Q := fun τ => τ 0 = a ∧ τ 4 = w0v ∧ τ 6 = g0 ∧ τ 8 = .int .i64 ((1 + ctR RG : Nat) : Int) ∧ τ 10 = v13) (by simp [upd, h0, h4, h6, h8]) ?_
 clear h0 h4 h6 h8; rintro τ ⟨h0, h4, h6, h8, h10⟩; refine mwp_test ?_
 simp [om, oC, oo, og, on, oV, oT, oI, oB, xf, xi, xb, mregs, mstep, mval, mvals, mmv, mput, mcall, mnot, mbin, mpick, binS, upd, h0, h4, h6, h8, h10]; refine (HR.eq _ _ _ _ _ t13 (n13.rd e13) r13).mono ?_
 rintro _ w14 ⟨rfl, g14⟩
 try simp
 have t14 := t13.trans g14.old; have o14 := o13.same g14; refine stay (Q := fun τ => τ 6 = g0 ∧ τ 8 = .int .i64 ((1 + ctR RG : Nat) : Int)) (by simp [upd, h0, h4, h6, h8, h10]) ?_
 clear h0 h4 h6 h8 h10; rintro τ ⟨h6, h8⟩; refine mwp_sR ?_
 simp [om, oC, oo, og, on, oV, oT, oI, oB, xf, xi, xb, mregs, mstep, mval, mvals, mmv, mput, mcall, mnot, mbin, mpick, binS, upd, h6, h8]; refine stay (Q := fun τ => τ 6 = g0 ∧ τ 8 = .int .i64 ((1 + ctR RG : Nat) : Int) ∧ τ 9 = .int .i64 1) (by simp [upd, h6, h8]) ?_
 clear h6 h8; rintro τ ⟨h6, h8, h9⟩; refine mwp_sR ?_
 simp [om, oC, oo, og, on, oV, oT, oI, oB, xf, xi, xb, mregs, mstep, mval, mvals, mmv, mput, mcall, mnot, mbin, mpick, binS, upd, h6, h8, h9]; refine (HR.held RG eg w14 ζg g0 stg 1 o14 (by omega)).mono ?_
 rintro _ _ ⟨rfl, rfl⟩; refine stay (Q := fun τ => τ 6 = g0 ∧ τ 8 = .int .i64 ((1 + ctR RG : Nat) : Int) ∧ τ 9 = .int .i64 ((1 + ctR RG : Nat) : Int)) (by simp [upd, h6, h8, h9]) ?_
 clear h6 h8 h9; rintro τ ⟨h6, h8, h9⟩; refine mwp_test ?_
 simp [om, oC, oo, og, on, oV, oT, oI, oB, xf, xi, xb, mregs, mstep, mval, mvals, mmv, mput, mcall, mnot, mbin, mpick, binS, upd, h6, h8, h9, hq, hq']; refine stay (Q := fun τ => τ 6 = g0 ∧ τ 8 = .int .i64 ((1 + ctR RG : Nat) : Int) ∧ τ 9 = .int .i64 ((1 + ctR RG : Nat) : Int)) (by simp [upd, h6, h8, h9]) ?_
 clear h6 h8 h9; rintro τ ⟨h6, h8, h9⟩; refine mwp_test ?_
 simp [om, oC, oo, og, on, oV, oT, oI, oB, xf, xi, xb, mregs, mstep, mval, mvals, mmv, mput, mcall, mnot, mbin, mpick, binS, upd, h6, h8, h9]; refine stay (Q := fun τ => τ 6 = g0 ∧ τ 8 = .int .i64 ((1 + ctR RG : Nat) : Int)) (by simp [upd, h6, h8, h9]) ?_
 clear h6 h8 h9; rintro τ ⟨h6, h8⟩; refine mwp_sR ?_
 simp [om, oC, oo, og, on, oV, oT, oI, oB, xf, xi, xb, mregs, mstep, mval, mvals, mmv, mput, mcall, mnot, mbin, mpick, binS, upd]; unfold mwp; exact hK _ _ (by simp [upd]) t14
end
end Go.VM
