/- The laws of exactness over kinds of data: structs as arguments and results, all in cells, and a bool beside the result. Conditions: none. -/
import Derived.Test.YtfpkfcfiihfopaaDoorPVK9

namespace Go.VM
set_option linter.unusedVariables false
set_option linter.unusedSimpArgs false
set_option maxHeartbeats 4000000
section
variable {P : Program} {fid : Nat → FuncId} {cid : FuncId → Nat}
def lawBx (z : List W) (m szA toA specF implF eqK markK heldR : Nat) : C := (.seq (.reg [oo 1 (.box m (.t 0)), oo 2 (.mv (xb false))]) (.seq (.reg [oo 3 (.mv (xi 1048576))]) (.seq (.reg [oo 14 (.ld true m (.t 1)), om 15 3, oo 16 (.call (xf szA) [(.t 14), (.t 15)]), om 3 16]) (.seq (.seq (.reg [om 17 3, oo 18 (.bin .lss .one (.t 17) (xi 0))]) (.cond (.t 18) (.seq (.reg [oo 2 (.mv (xb true))]) .ret) .skip)) (.seq (.reg [oo 20 (.ld true m (.t 1)), oo 21 (.call (xf toA) [(.t 20)]), oo 22 (.call (xf specF) [(.t 21)]), om 19 22, oo 23 (.ext 0 (.t 19)), oo 24 (.ext 1 (.t 19)), oo 4 (.new z), on (.st m (.t 4) (.t 23)), om 5 24]) (.seq (.reg [oo 25 (.ld true m (.t 1)), oo 26 (.call (xf toA) [(.t 25)]), oo 6 (.new z), on (.st m (.t 6) (.t 26))]) (.seq (.reg [oo 28 (.ld true m (.t 6)), oo 29 (.call (xf implF) [(.t 28)]), om 27 29, oo 30 (.ext 0 (.t 27)), oo 31 (.ext 1 (.t 27)), oo 7 (.new z), on (.st m (.t 7) (.t 30)), om 8 31]) (.seq (.seq (.reg [oo 32 (.ld true m (.t 7)), oo 33 (.ld true m (.t 4)), oo 34 (.call (xf eqK) [(.t 32), (.t 33)]), oo 35 (.un .not (.t 34)), om 36 35, og 37 (.mv (.t 8)) 36 false, og 38 (.mv (.t 5)) 36 false, og 39 (.bin .neq .b (.t 37) (.t 38)) 36 false, oo 40 (.pick (.t 36) (xb true) (.t 39))]) (.cond (.t 40) (.seq (.reg [oo 2 (.mv (xb false))]) .ret) .skip)) (.seq (.seq (.dreg [oo 41 (.ld true m (.t 6)), oo 42 (.ld true m (.t 1)), oo 43 (.call (xf toA) [(.t 42)]), oo 44 (.call (xf eqK) [(.t 41), (.t 43)]), oo 45 (.un .not (.t 44))] [0, 0, 2, 7, 15]) (.cond (.t 45) (.seq (.reg [oo 2 (.mv (xb false))]) .ret) .skip)) (.seq (.reg [oo 9 (.mv (xi 1))]) (.seq (.reg [oo 46 (.ld true m (.t 6)), om 47 9, oo 48 (.call (xf markK) [(.t 46), (.t 47)]), om 9 48]) (.seq (.seq (.reg [om 49 9, oo 50 (.bin .lss .one (.t 49) (xi 0)), om 51 50, og 52 (.ld true m (.t 7)) 51 false, og 53 (.ld true m (.t 4)) 51 false, og 54 (.call (xf eqK) [(.t 52), (.t 53)]) 51 false, og 55 (.un .not (.t 54)) 51 false, oo 56 (.pick (.t 51) (xb true) (.t 55)), om 57 56, og 58 (.mv (.t 8)) 57 false, og 59 (.mv (.t 5)) 57 false, og 60 (.bin .neq .b (.t 58) (.t 59)) 57 false, oo 61 (.pick (.t 57) (xb true) (.t 60))]) (.cond (.t 61) (.seq (.reg [oo 2 (.mv (xb false))]) .ret) .skip)) (.seq (.reg [oo 10 (.mv (xi 1))]) (.seq (.reg [oo 62 (.ld true m (.t 7)), om 63 10, oo 64 (.call (xf markK) [(.t 62), (.t 63)]), om 10 64]) (.seq (.reg [oo 11 (.mv (xi 1))]) (.seq (.reg [oo 65 (.ld true m (.t 7)), om 66 11, oo 67 (.call (xf heldR) [(.t 65), (.t 66)]), om 11 67]) (.seq (.seq (.reg [om 68 11, oo 69 (.bin .lss .one (.t 68) (xi 0))]) (.cond (.t 69) (.seq (.reg [oo 2 (.mv (xb false))]) .ret) .skip)) (.seq (.seq (.reg [om 70 11, om 71 10, oo 72 (.bin .neq .one (.t 70) (.t 71))]) (.cond (.t 72) (.seq (.reg [oo 2 (.mv (xb false))]) .ret) .skip)) (.seq (.reg [oo 74 (.ld true m (.t 1)), oo 75 (.call (xf toA) [(.t 74)]), oo 76 (.call (xf implF) [(.t 75)]), om 73 76, oo 77 (.ext 0 (.t 73)), oo 78 (.ext 1 (.t 73)), oo 12 (.new z), on (.st m (.t 12) (.t 77)), om 13 78]) (.seq (.seq (.reg [oo 79 (.ld true m (.t 12)), oo 80 (.ld true m (.t 4)), oo 81 (.call (xf eqK) [(.t 79), (.t 80)]), oo 82 (.un .not (.t 81)), om 83 82, og 84 (.mv (.t 13)) 83 false, og 85 (.mv (.t 5)) 83 false, og 86 (.bin .neq .b (.t 84) (.t 85)) 83 false, oo 87 (.pick (.t 83) (xb true) (.t 86))]) (.cond (.t 87) (.seq (.reg [oo 2 (.mv (xb false))]) .ret) .skip)) (.seq (.reg [oo 11 (.mv (xi 1))]) (.seq (.reg [oo 88 (.ld true m (.t 7)), om 89 11, oo 90 (.call (xf heldR) [(.t 88), (.t 89)]), om 11 90]) (.seq (.seq (.reg [om 91 11, oo 92 (.bin .lss .one (.t 91) (xi 0))]) (.cond (.t 92) (.seq (.reg [oo 2 (.mv (xb false))]) .ret) .skip)) (.seq (.seq (.reg [om 93 11, om 94 10, oo 95 (.bin .neq .one (.t 93) (.t 94))]) (.cond (.t 95) (.seq (.reg [oo 2 (.mv (xb false))]) .ret) .skip)) (.seq (.reg [oo 2 (.mv (xb true))]) .ret)))))))))))))))))))))))))
theorem lawBx_k {w0 : World} {arr0 : Array Value} {KA KR : Kind} {c : Bool} {szA toA specF implF eqK markK heldR n : Nat} {z : List W} {m : Nat} {K : Ex → (Nat → Value) → World → Prop} {τ : Nat → Value} (hmix : P.follows .mixedOrders = true) (hz : z.length = m) (hsz : (m = 1) = False)
 (hRA : ∀ N w v, KA.Rd N w v → ∃ arr, v = .agg arr ∧ arr.size = m ∧ ∀ x ∈ arr.toList, x.oneCell' = true) (hR : ∀ N w v, KR.Rd N w v → ∃ arr, v = .agg arr ∧ arr.size = m ∧ ∀ x ∈ arr.toList, x.oneCell' = true)
 (hs0 : arr0.size = m) (h0 : τ 0 = .agg arr0)
 (sz : ∀ w, Tou Old w0 w → MC P fid szA [.agg arr0, .int .i64 1048576] w fun v w' => Tou Old w w' ∧ ∃ k : Int, v = .int .i64 k ∧ (0 ≤ k → KSound P fid w0 (.agg arr0) KA toA eqK markK ∧ KGives2 P fid w0 KA KR (.bool c) specF implF eqK markK heldR))
 (hK : ∀ τ w, τ 2 = .bool true → Tou (fun b => w0.heap.size ≤ b) w0 w → K .ret τ w) : mwp P fid 96 n (lawBx z m szA toA specF implF eqK markK heldR) τ w0 K := by
 unfold lawBx; refine mwp_sR ?_
 simp (maxSteps := 2000000) [om, oC, oo, og, on, oV, oT, oI, oB, xf, xi, xb, mregs, mstep, mval, mvals, mmv, mput, mcall, mnot, mbin, mbinb, mpick, mext, binS, upd, hz, hsz, h0]; refine mbox_cell hs0 ?_
 intro w0' n0 C1; have p1lt := C1.lt; generalize w0.heap.size = p1 at C1 p1lt ⊢
 try simp
 refine stay (Q := fun τ => τ 1 = .pointer (some ⟨p1, 0, none⟩)) (by simp [upd]) ?_
 clear h0; intro τ h0; refine mwp_sR ?_
 simp (maxSteps := 2000000) [om, oC, oo, og, on, oV, oT, oI, oB, xf, xi, xb, mregs, mstep, mval, mvals, mmv, mput, mcall, mnot, mbin, mbinb, mpick, mext, binS, upd, hz, hsz, h0]; refine stay (Q := fun τ => τ 1 = .pointer (some ⟨p1, 0, none⟩) ∧ τ 3 = .int .i64 1048576) (by simp [upd, h0]) ?_
 clear h0; rintro τ ⟨h0, h3⟩; refine mwp_sR ?_
 simp (maxSteps := 2000000) [om, oC, oo, og, on, oV, oT, oI, oB, xf, xi, xb, mregs, mstep, mval, mvals, mmv, mput, mcall, mnot, mbin, mbinb, mpick, mext, binS, upd, hz, hsz, h0, h3]; refine mldA_cell C1 hs0 ?_
 try simp
 refine (sz w0' n0).mono ?_
 rintro v w1 ⟨t1, k, rfl, hk⟩; have C1 := C1.same t1; have z1 := t1.size; have t1 := n0.trans t1; refine stay (Q := fun τ => τ 1 = .pointer (some ⟨p1, 0, none⟩) ∧ τ 3 = .int .i64 k) (by simp [upd, h0, h3]) ?_
 clear h0 h3; rintro τ ⟨h0, h3⟩
 by_cases hneg : k < 0
 · refine mwp_out (by omega) ?_
   simp [om, oC, oo, og, on, oV, oT, oI, oB, xf, xi, xb, mregs, mstep, mval, mvals, mmv, mput, mcall, mnot, mbin, mbinb, mpick, mext, binS, upd, hz, hsz, h0, h3, hneg]; exact hK _ _ (by simp [upd]) t1.old
 obtain ⟨HA, HR⟩ := hk (by omega); refine mwp_test ?_
 simp (maxSteps := 2000000) [om, oC, oo, og, on, oV, oT, oI, oB, xf, xi, xb, mregs, mstep, mval, mvals, mmv, mput, mcall, mnot, mbin, mbinb, mpick, mext, binS, upd, hz, hsz, h0, h3, hneg]; refine stay (Q := fun τ => τ 1 = .pointer (some ⟨p1, 0, none⟩)) (by simp [upd, h0, h3]) ?_
 clear h0 h3; intro τ h0; refine mwp_sR ?_
 simp (maxSteps := 2000000) [om, oC, oo, og, on, oV, oT, oI, oB, xf, xi, xb, mregs, mstep, mval, mvals, mmv, mput, mcall, mnot, mbin, mbinb, mpick, mext, binS, upd, hz, hsz, h0]; refine mldA_cell C1 hs0 ?_
 try simp
 refine (HA.to w1 t1.old).mono ?_
 rintro v w2 ⟨ζ2, l2, n2⟩; have z2 := n2.tou.size; have C1 := C1.same n2.tou; have t2 := t1.trans n2.tou
 try simp
 refine (HR.spec _ _ _ t2.old n2.rd).mono ?_
 rintro _ w3 ⟨w0v, rfl, g3, r3⟩; have z3 := g3.size; have t3 := t2.trans g3; have C1 := C1.same g3; obtain ⟨arr4, rfl, s4, e4⟩ := hR _ _ _ r3
 try simp
 refine mnew_st s4 e4 ?_
 intro w3' n3 C4; have s33 := n3.size; have t3 := t3.trans n3; have C1 := C1.same n3; have r3 := KR.rsame r3 n3; generalize w3.heap.size = p4 at C4 ⊢; have p4lt := C4.lt
 try simp
 refine stay (Q := fun τ => τ 1 = .pointer (some ⟨p1, 0, none⟩) ∧ τ 4 = .pointer (some ⟨p4, 0, none⟩) ∧ τ 5 = .bool c) (by simp [upd, h0]) ?_
 clear h0; rintro τ ⟨h0, h4, h5⟩; refine mwp_sR ?_
 simp (maxSteps := 2000000) [om, oC, oo, og, on, oV, oT, oI, oB, xf, xi, xb, mregs, mstep, mval, mvals, mmv, mput, mcall, mnot, mbin, mbinb, mpick, mext, binS, upd, hz, hsz, h0, h4, h5]; refine mldA_cell C1 hs0 ?_
 try simp
 refine (HA.to w3' t3.old).mono ?_
 rintro x0 w4 ⟨ζx, l4, n4⟩; have t4 := t3.trans n4.tou; have C4 := C4.same n4.tou; have C1 := C1.same n4.tou; have ux : ∀ b, Sb ζx l4 b → b < w4.heap.size := KA.ow_lt n4.own; obtain ⟨arr5, rfl, s5, e5⟩ := hRA _ _ _ n4.rd; have s34 : w3'.heap.size ≤ w4.heap.size := n4.tou.size
 try simp
 refine mnew_st s5 e5 ?_
 intro w4' m4 C5; have s44 := m4.size; have t4 := t4.trans m4; have C4 := C4.same m4; have C1 := C1.same m4; have own4 := KA.same n4.own m4; have p5lt := C5.lt; have p5ge : w4.heap.size ≤ w4.heap.size := Nat.le_refl _; generalize w4.heap.size = p5 at C5 ux p5lt p5ge s34 s44 ⊢
 try simp
 refine stay (Q := fun τ => τ 1 = .pointer (some ⟨p1, 0, none⟩) ∧ τ 4 = .pointer (some ⟨p4, 0, none⟩) ∧ τ 5 = .bool c ∧ τ 6 = .pointer (some ⟨p5, 0, none⟩)) (by simp [upd, h0, h4, h5]) ?_
 clear h0 h4 h5; rintro τ ⟨h0, h4, h5, h6⟩; refine mwp_sR ?_
 simp (maxSteps := 2000000) [om, oC, oo, og, on, oV, oT, oI, oB, xf, xi, xb, mregs, mstep, mval, mvals, mmv, mput, mcall, mnot, mbin, mbinb, mpick, mext, binS, upd, hz, hsz, h0, h4, h5, h6]; refine mldA_cell C5 s5 ?_
 try simp
 refine (HR.impl _ _ _ t4.old (KA.ow_rd own4)).mono ?_
 rintro _ w5 ⟨g0, rfl, ζg, l5, n5⟩; have t5 := t4.trans n5.tou; have C4 := C4.same n5.tou; have C1 := C1.same n5.tou; have C5 := C5.same n5.tou; obtain ⟨arr6, rfl, s6, e6⟩ := hR _ _ _ n5.rd; have ug : ∀ b, Sb ζg l5 b → b < w5.heap.size := KR.ow_lt n5.own; have s45 : w4'.heap.size ≤ w5.heap.size := n5.tou.size
 try simp
 refine mnew_st s6 e6 ?_
 intro w5' m5 C6; have t5 := t5.trans m5; have C4 := C4.same m5; have C1 := C1.same m5; have C5 := C5.same m5; have own5 := KR.same n5.own m5; generalize w5.heap.size = p6 at C6 ug s45 ⊢
 try simp
 refine stay (Q := fun τ => τ 1 = .pointer (some ⟨p1, 0, none⟩) ∧ τ 4 = .pointer (some ⟨p4, 0, none⟩) ∧ τ 5 = .bool c ∧ τ 6 = .pointer (some ⟨p5, 0, none⟩) ∧ τ 7 = .pointer (some ⟨p6, 0, none⟩) ∧ τ 8 = .bool c) (by simp [upd, h0, h4, h5, h6]) ?_
 clear h0 h4 h5 h6; rintro τ ⟨h0, h4, h5, h6, h7, h8⟩; have r5 := KR.rsame (KR.rsame (KR.rsame (KR.rsame r3 n4.tou) m4) n5.tou) m5; refine mwp_test ?_
 simp (maxSteps := 2000000) [om, oC, oo, og, on, oV, oT, oI, oB, xf, xi, xb, mregs, mstep, mval, mvals, mmv, mput, mcall, mnot, mbin, mbinb, mpick, mext, binS, upd, hz, hsz, h0, h4, h5, h6, h7, h8]; refine mldA_cell C6 s6 (mldA_cell C4 s4 ?_)
 try simp
 refine (HR.eq _ _ _ _ _ t5.old (KR.ow_rd own5) r5).mono ?_
 rintro _ w6 ⟨rfl, g6⟩
 try simp
 have t6 := t5.trans g6; have r6 := KR.rsame r5 g6; have x6 := KA.same (KA.same (KA.same own4 n5.tou) m5) g6; have o6 := KR.same own5 g6; have C4 := C4.same g6; have C1 := C1.same g6; have C5 := C5.same g6; have C6 := C6.same g6; refine stay (Q := fun τ => τ 1 = .pointer (some ⟨p1, 0, none⟩) ∧ τ 4 = .pointer (some ⟨p4, 0, none⟩) ∧ τ 5 = .bool c ∧ τ 6 = .pointer (some ⟨p5, 0, none⟩) ∧ τ 7 = .pointer (some ⟨p6, 0, none⟩) ∧ τ 8 = .bool c) (by simp [upd, h0, h4, h5, h6, h7, h8]) ?_
 clear h0 h4 h5 h6 h7 h8; rintro τ ⟨h0, h4, h5, h6, h7, h8⟩; refine mwp_testd (Q := fun τ => τ 1 = .pointer (some ⟨p1, 0, none⟩) ∧ τ 4 = .pointer (some ⟨p4, 0, none⟩) ∧ τ 5 = .bool c ∧ τ 6 = .pointer (some ⟨p5, 0, none⟩) ∧ τ 7 = .pointer (some ⟨p6, 0, none⟩) ∧ τ 8 = .bool c) hmix (fun K' hK' => mdr_eq ?_ ?_) ?_
 · have gd := tou_drawn w6
   have C1 := C1.same gd; have C5 := C5.same gd; have t6 := t6.trans gd; have x6 := KA.same x6 gd
   revert C1 C5 t6 x6 gd
   generalize ({ w6 with drawn := w6.drawn + 1 } : World) = wd; intro gd C1 C5 t6 x6; simp (maxSteps := 2000000) [om, oC, oo, og, on, oV, oT, oI, oB, xf, xi, xb, mregs, mstep, mval, mvals, mmv, mput, mcall, mnot, mbin, mbinb, mpick, mext, binS, upd, hz, hsz, h0, h4, h5, h6, h7, h8]; refine mldA_cell C5 s5 (mldA_cell C1 hs0 ?_)
   try simp
   refine (HA.to wd t6.old).mono ?_
   rintro v7 w7 ⟨ζ7, l7, n7⟩
   try simp
   refine (HA.eq _ _ _ _ _ (t6.trans n7.tou).old (KA.ow_rd (KA.same x6 n7.tou)) n7.rd).mono ?_
   rintro _ w8 ⟨rfl, g8⟩
   try simp
   exact hK' _ _ (by simp [upd]) (by simp [upd, h0, h4, h5, h6, h7, h8]) ((gd.trans n7.tou).trans g8)
 · have gd := tou_drawn w6
   have C1 := C1.same gd; have C5 := C5.same gd; have t6 := t6.trans gd; have x6 := KA.same x6 gd
   revert C1 C5 t6 x6 gd
   generalize ({ w6 with drawn := w6.drawn + 1 } : World) = wd; intro gd C1 C5 t6 x6; simp (maxSteps := 2000000) [om, oC, oo, og, on, oV, oT, oI, oB, xf, xi, xb, mregs, mstep, mval, mvals, mmv, mput, mcall, mnot, mbin, mbinb, mpick, mext, binS, upd, hz, hsz, h0, h4, h5, h6, h7, h8]; refine mldA_cell C1 hs0 ?_
   try simp
   constructor
   · refine mldA_cell C5 s5 ?_
     try simp
     refine (HA.to wd t6.old).mono ?_
     rintro v7 w7 ⟨ζ7, l7, n7⟩
     try simp
     refine (HA.eq _ _ _ _ _ (t6.trans n7.tou).old (KA.ow_rd (KA.same x6 n7.tou)) n7.rd).mono ?_
     rintro _ w8 ⟨rfl, g8⟩
     try simp
     exact hK' _ _ (by simp [upd]) (by simp [upd, h0, h4, h5, h6, h7, h8]) ((gd.trans n7.tou).trans g8)
   · refine (HA.to wd t6.old).mono ?_
     rintro v7 w7 ⟨ζ7, l7, n7⟩
     try simp
     refine mldA_cell (C5.same n7.tou) s5 ?_
     try simp
     refine (HA.eq _ _ _ _ _ (t6.trans n7.tou).old (KA.ow_rd (KA.same x6 n7.tou)) n7.rd).mono ?_
     rintro _ w8 ⟨rfl, g8⟩
     try simp
     exact hK' _ _ (by simp [upd]) (by simp [upd, h0, h4, h5, h6, h7, h8]) ((gd.trans n7.tou).trans g8)
 clear h0 h4 h5 h6 h7 h8; rintro τ w8 ⟨h0, h4, h5, h6, h7, h8⟩ g68; have t8 := t6.trans g68; have r8 := KR.rsame r6 g68; have x8 := KA.same x6 g68; have o8 := KR.same o6 g68; have C4 := C4.same g68; have C1 := C1.same g68; have C5 := C5.same g68; have C6 := C6.same g68; refine mwp_sR ?_
 simp (maxSteps := 2000000) [om, oC, oo, og, on, oV, oT, oI, oB, xf, xi, xb, mregs, mstep, mval, mvals, mmv, mput, mcall, mnot, mbin, mbinb, mpick, mext, binS, upd, hz, hsz, h0, h4, h5, h6, h7, h8]; refine stay (Q := fun τ => τ 1 = .pointer (some ⟨p1, 0, none⟩) ∧ τ 4 = .pointer (some ⟨p4, 0, none⟩) ∧ τ 5 = .bool c ∧ τ 6 = .pointer (some ⟨p5, 0, none⟩) ∧ τ 7 = .pointer (some ⟨p6, 0, none⟩) ∧ τ 8 = .bool c ∧ τ 9 = .int .i64 1) (by simp [upd, h0, h4, h5, h6, h7, h8]) ?_
 clear h0 h4 h5 h6 h7 h8; rintro τ ⟨h0, h4, h5, h6, h7, h8, h9⟩; refine mwp_sR ?_
 simp (maxSteps := 2000000) [om, oC, oo, og, on, oV, oT, oI, oB, xf, xi, xb, mregs, mstep, mval, mvals, mmv, mput, mcall, mnot, mbin, mbinb, mpick, mext, binS, upd, hz, hsz, h0, h4, h5, h6, h7, h8, h9]; refine mldA_cell C5 s5 ?_
 try simp
 refine (HA.mark w8 ζx _ l4 n4.inj x8).mono ?_
 rintro _ w9 ⟨rfl, g9, x9⟩; have lx : ∀ b, Sb ζx l4 b → w3'.heap.size ≤ b := n4.low; have lg : ∀ b, Sb ζg l5 b → w4'.heap.size ≤ b := n5.low; have s03 : w0.heap.size ≤ w3'.heap.size := t3.size; have C1 := C1.tou g9 (fun h => by have := lx _ h; omega); have C4 := C4.tou g9 (fun h => by have := lx _ h; omega); have C5 := C5.tou g9 (fun h => by have := ux _ h; omega); have C6 := C6.tou g9 (fun h => by have := ux _ h; omega); have t9 : Tou (fun b => w0.heap.size ≤ b) w0 w9 := t8.old.trans (g9.mono fun b hb => by have := lx b hb; omega); have r9 := KR.rd_tou r8 g9 (fun b hb => by have := lx b hb; omega); have o9 := KR.ow_tou o8 g9 (fun b hb hx => by have := ux b hx; have := lg b hb; omega)
 refine stay (Q := fun τ => τ 1 = .pointer (some ⟨p1, 0, none⟩) ∧ τ 4 = .pointer (some ⟨p4, 0, none⟩) ∧ τ 5 = .bool c ∧ τ 6 = .pointer (some ⟨p5, 0, none⟩) ∧ τ 7 = .pointer (some ⟨p6, 0, none⟩) ∧ τ 8 = .bool c ∧ τ 9 = .int .i64 ((1 + KA.n : Nat) : Int)) (by simp [upd, h0, h4, h5, h6, h7, h8, h9]) ?_
 clear h0 h4 h5 h6 h7 h8 h9; rintro τ ⟨h0, h4, h5, h6, h7, h8, h9⟩; have hpos : ¬ ((1 + KA.n : Nat) : Int) < 0 := by omega
 have hpos' : ¬ (1 + (KA.n : Int)) < 0 := by omega
 refine mwp_test ?_
 simp (maxSteps := 2000000) [om, oC, oo, og, on, oV, oT, oI, oB, xf, xi, xb, mregs, mstep, mval, mvals, mmv, mput, mcall, mnot, mbin, mbinb, mpick, mext, binS, upd, hz, hsz, h0, h4, h5, h6, h7, h8, h9, hpos, hpos']; refine mldA_cell C6 s6 (mldA_cell C4 s4 ?_)
 try simp
 refine (HR.eq _ _ _ _ _ t9 (KR.ow_rd o9) r9).mono ?_
 rintro _ w10 ⟨rfl, g10⟩
 try simp
 have t10 : Tou (fun b => w0.heap.size ≤ b) w0 w10 := t9.trans g10.old; have r10 := KR.rsame r9 g10; have o10 := KR.same o9 g10; have C4 := C4.same g10; have C1 := C1.same g10; have C6 := C6.same g10; refine stay (Q := fun τ => τ 1 = .pointer (some ⟨p1, 0, none⟩) ∧ τ 4 = .pointer (some ⟨p4, 0, none⟩) ∧ τ 5 = .bool c ∧ τ 7 = .pointer (some ⟨p6, 0, none⟩)) (by simp [upd, h0, h4, h5, h6, h7, h8, h9]) ?_
 clear h0 h4 h5 h6 h7 h8 h9; rintro τ ⟨h0, h4, h5, h7⟩; refine mwp_sR ?_
 simp (maxSteps := 2000000) [om, oC, oo, og, on, oV, oT, oI, oB, xf, xi, xb, mregs, mstep, mval, mvals, mmv, mput, mcall, mnot, mbin, mbinb, mpick, mext, binS, upd, hz, hsz, h0, h4, h5, h7]; refine stay (Q := fun τ => τ 1 = .pointer (some ⟨p1, 0, none⟩) ∧ τ 4 = .pointer (some ⟨p4, 0, none⟩) ∧ τ 5 = .bool c ∧ τ 7 = .pointer (some ⟨p6, 0, none⟩) ∧ τ 10 = .int .i64 1) (by simp [upd, h0, h4, h5, h7]) ?_
 clear h0 h4 h5 h7; rintro τ ⟨h0, h4, h5, h7, h10⟩; refine mwp_sR ?_
 simp (maxSteps := 2000000) [om, oC, oo, og, on, oV, oT, oI, oB, xf, xi, xb, mregs, mstep, mval, mvals, mmv, mput, mcall, mnot, mbin, mbinb, mpick, mext, binS, upd, hz, hsz, h0, h4, h5, h7, h10]; refine mldA_cell C6 s6 ?_
 try simp
 refine (HR.mark w10 ζg _ l5 n5.inj o10).mono ?_
 rintro _ w11 ⟨rfl, g11, o11⟩; have t11 : Tou (fun b => w0.heap.size ≤ b) w0 w11 := t10.trans (g11.mono fun b hb => by have := lg b hb; omega); have r11 := KR.rd_tou r10 g11 (fun b hb => by have := lg b hb; omega); have C4 := C4.tou g11 (fun h => by have := lg _ h; omega); have C1 := C1.tou g11 (fun h => by have := lg _ h; omega); have C6 := C6.tou g11 (fun h => by have := ug _ h; omega); refine stay (Q := fun τ => τ 1 = .pointer (some ⟨p1, 0, none⟩) ∧ τ 4 = .pointer (some ⟨p4, 0, none⟩) ∧ τ 5 = .bool c ∧ τ 7 = .pointer (some ⟨p6, 0, none⟩) ∧ τ 10 = .int .i64 ((1 + KR.n : Nat) : Int)) (by simp [upd, h0, h4, h5, h7, h10]) ?_
 clear h0 h4 h5 h7 h10; rintro τ ⟨h0, h4, h5, h7, h10⟩; refine mwp_sR ?_
 simp (maxSteps := 2000000) [om, oC, oo, og, on, oV, oT, oI, oB, xf, xi, xb, mregs, mstep, mval, mvals, mmv, mput, mcall, mnot, mbin, mbinb, mpick, mext, binS, upd, hz, hsz, h0, h4, h5, h7, h10]; refine stay (Q := fun τ => τ 1 = .pointer (some ⟨p1, 0, none⟩) ∧ τ 4 = .pointer (some ⟨p4, 0, none⟩) ∧ τ 5 = .bool c ∧ τ 7 = .pointer (some ⟨p6, 0, none⟩) ∧ τ 10 = .int .i64 ((1 + KR.n : Nat) : Int) ∧ τ 11 = .int .i64 1) (by simp [upd, h0, h4, h5, h7, h10]) ?_
 clear h0 h4 h5 h7 h10; rintro τ ⟨h0, h4, h5, h7, h10, h11⟩; refine mwp_sR ?_
 simp (maxSteps := 2000000) [om, oC, oo, og, on, oV, oT, oI, oB, xf, xi, xb, mregs, mstep, mval, mvals, mmv, mput, mcall, mnot, mbin, mbinb, mpick, mext, binS, upd, hz, hsz, h0, h4, h5, h7, h10, h11]; refine mldA_cell C6 s6 ?_
 try simp
 refine (HR.held w11 ζg _ l5 o11).mono ?_
 rintro _ w11' ⟨rfl, h11⟩; have t11 := t11.trans h11.old; have r11 := KR.rsame r11 h11; have o11 := KR.msame o11 h11; have C4 := C4.same h11; have C1 := C1.same h11; have C6 := C6.same h11; refine stay (Q := fun τ => τ 1 = .pointer (some ⟨p1, 0, none⟩) ∧ τ 4 = .pointer (some ⟨p4, 0, none⟩) ∧ τ 5 = .bool c ∧ τ 7 = .pointer (some ⟨p6, 0, none⟩) ∧ τ 10 = .int .i64 ((1 + KR.n : Nat) : Int) ∧ τ 11 = .int .i64 ((1 + KR.n : Nat) : Int)) (by simp [upd, h0, h4, h5, h7, h10, h11]) ?_
 clear h0 h4 h5 h7 h10 h11; rintro τ ⟨h0, h4, h5, h7, h10, h11⟩; have hq : ¬ ((1 + KR.n : Nat) : Int) < 0 := by omega
 have hq' : ¬ (1 + (KR.n : Int)) < 0 := by omega
 refine mwp_test ?_
 simp (maxSteps := 2000000) [om, oC, oo, og, on, oV, oT, oI, oB, xf, xi, xb, mregs, mstep, mval, mvals, mmv, mput, mcall, mnot, mbin, mbinb, mpick, mext, binS, upd, hz, hsz, h0, h4, h5, h7, h10, h11, hq, hq']; refine stay (Q := fun τ => τ 1 = .pointer (some ⟨p1, 0, none⟩) ∧ τ 4 = .pointer (some ⟨p4, 0, none⟩) ∧ τ 5 = .bool c ∧ τ 7 = .pointer (some ⟨p6, 0, none⟩) ∧ τ 10 = .int .i64 ((1 + KR.n : Nat) : Int) ∧ τ 11 = .int .i64 ((1 + KR.n : Nat) : Int)) (by simp [upd, h0, h4, h5, h7, h10, h11]) ?_
 clear h0 h4 h5 h7 h10 h11; rintro τ ⟨h0, h4, h5, h7, h10, h11⟩; refine mwp_test ?_
 simp (maxSteps := 2000000) [om, oC, oo, og, on, oV, oT, oI, oB, xf, xi, xb, mregs, mstep, mval, mvals, mmv, mput, mcall, mnot, mbin, mbinb, mpick, mext, binS, upd, hz, hsz, h0, h4, h5, h7, h10, h11]; refine stay (Q := fun τ => τ 1 = .pointer (some ⟨p1, 0, none⟩) ∧ τ 4 = .pointer (some ⟨p4, 0, none⟩) ∧ τ 5 = .bool c ∧ τ 7 = .pointer (some ⟨p6, 0, none⟩) ∧ τ 10 = .int .i64 ((1 + KR.n : Nat) : Int)) (by simp [upd, h0, h4, h5, h7, h10, h11]) ?_
 clear h0 h4 h5 h7 h10 h11; rintro τ ⟨h0, h4, h5, h7, h10⟩; refine mwp_sR ?_
 simp (maxSteps := 2000000) [om, oC, oo, og, on, oV, oT, oI, oB, xf, xi, xb, mregs, mstep, mval, mvals, mmv, mput, mcall, mnot, mbin, mbinb, mpick, mext, binS, upd, hz, hsz, h0, h4, h5, h7, h10]; refine mldA_cell C1 hs0 ?_
 try simp
 refine (HA.to _ t11).mono ?_
 rintro v12 w12 ⟨ζ12, l12, n12⟩; have t12 := t11.trans n12.tou.old
 try simp
 refine (HR.impl _ _ _ t12 n12.rd).mono ?_
 rintro _ w13 ⟨v13, rfl, ζ13, l13, n13⟩; have t13 := t12.trans n13.tou.old; have C4 := (C4.same n12.tou).same n13.tou; have C6 := (C6.same n12.tou).same n13.tou; obtain ⟨arr10, rfl, s10, e10⟩ := hR _ _ _ n13.rd
 try simp
 refine mnew_st s10 e10 ?_
 intro w13' m13 C10; have t13 := t13.trans m13.old; have C4 := C4.same m13; have C6 := C6.same m13; have r13 := KR.rsame (KR.rsame (KR.rsame r11 n12.tou) n13.tou) m13; have o13 := KR.msame (KR.msame (KR.msame o11 n12.tou) n13.tou) m13; have rd13 := KR.rsame n13.rd m13; generalize w13.heap.size = p10 at C10 rd13 ⊢
 try simp
 refine stay (Q := fun τ => τ 1 = .pointer (some ⟨p1, 0, none⟩) ∧ τ 4 = .pointer (some ⟨p4, 0, none⟩) ∧ τ 5 = .bool c ∧ τ 7 = .pointer (some ⟨p6, 0, none⟩) ∧ τ 10 = .int .i64 ((1 + KR.n : Nat) : Int) ∧ τ 12 = .pointer (some ⟨p10, 0, none⟩) ∧ τ 13 = .bool c) (by simp [upd, h0, h4, h5, h7, h10]) ?_
 clear h0 h4 h5 h7 h10; rintro τ ⟨h0, h4, h5, h7, h10, h12, h13⟩; refine mwp_test ?_
 simp (maxSteps := 2000000) [om, oC, oo, og, on, oV, oT, oI, oB, xf, xi, xb, mregs, mstep, mval, mvals, mmv, mput, mcall, mnot, mbin, mbinb, mpick, mext, binS, upd, hz, hsz, h0, h4, h5, h7, h10, h12, h13]; refine mldA_cell C10 s10 (mldA_cell C4 s4 ?_)
 try simp
 refine (HR.eq _ _ _ _ _ t13 rd13 r13).mono ?_
 rintro _ w14 ⟨rfl, g14⟩
 try simp
 have t14 := t13.trans g14.old; have o14 := KR.msame o13 g14; have C6 := C6.same g14; refine stay (Q := fun τ => τ 7 = .pointer (some ⟨p6, 0, none⟩) ∧ τ 10 = .int .i64 ((1 + KR.n : Nat) : Int)) (by simp [upd, h0, h4, h5, h7, h10, h12, h13]) ?_
 clear h0 h4 h5 h7 h10 h12 h13; rintro τ ⟨h7, h10⟩; refine mwp_sR ?_
 simp (maxSteps := 2000000) [om, oC, oo, og, on, oV, oT, oI, oB, xf, xi, xb, mregs, mstep, mval, mvals, mmv, mput, mcall, mnot, mbin, mbinb, mpick, mext, binS, upd, hz, hsz, h7, h10]; refine stay (Q := fun τ => τ 7 = .pointer (some ⟨p6, 0, none⟩) ∧ τ 10 = .int .i64 ((1 + KR.n : Nat) : Int) ∧ τ 11 = .int .i64 1) (by simp [upd, h7, h10]) ?_
 clear h7 h10; rintro τ ⟨h7, h10, h11⟩; refine mwp_sR ?_
 simp (maxSteps := 2000000) [om, oC, oo, og, on, oV, oT, oI, oB, xf, xi, xb, mregs, mstep, mval, mvals, mmv, mput, mcall, mnot, mbin, mbinb, mpick, mext, binS, upd, hz, hsz, h7, h10, h11]; refine mldA_cell C6 s6 ?_
 try simp
 refine (HR.held w14 ζg _ l5 o14).mono ?_
 rintro _ w14' ⟨rfl, h14⟩; have t14 := t14.trans h14.old; refine stay (Q := fun τ => τ 7 = .pointer (some ⟨p6, 0, none⟩) ∧ τ 10 = .int .i64 ((1 + KR.n : Nat) : Int) ∧ τ 11 = .int .i64 ((1 + KR.n : Nat) : Int)) (by simp [upd, h7, h10, h11]) ?_
 clear h7 h10 h11; rintro τ ⟨h7, h10, h11⟩; refine mwp_test ?_
 simp (maxSteps := 2000000) [om, oC, oo, og, on, oV, oT, oI, oB, xf, xi, xb, mregs, mstep, mval, mvals, mmv, mput, mcall, mnot, mbin, mbinb, mpick, mext, binS, upd, hz, hsz, h7, h10, h11, hq, hq']; refine stay (Q := fun τ => τ 7 = .pointer (some ⟨p6, 0, none⟩) ∧ τ 10 = .int .i64 ((1 + KR.n : Nat) : Int) ∧ τ 11 = .int .i64 ((1 + KR.n : Nat) : Int)) (by simp [upd, h7, h10, h11]) ?_
 clear h7 h10 h11; rintro τ ⟨h7, h10, h11⟩; refine mwp_test ?_
 simp (maxSteps := 2000000) [om, oC, oo, og, on, oV, oT, oI, oB, xf, xi, xb, mregs, mstep, mval, mvals, mmv, mput, mcall, mnot, mbin, mbinb, mpick, mext, binS, upd, hz, hsz, h7, h10, h11]; refine stay (Q := fun τ => τ 7 = .pointer (some ⟨p6, 0, none⟩) ∧ τ 10 = .int .i64 ((1 + KR.n : Nat) : Int)) (by simp [upd, h7, h10, h11]) ?_
 clear h7 h10 h11; rintro τ ⟨h7, h10⟩; refine mwp_sR ?_
 simp (maxSteps := 2000000) [om, oC, oo, og, on, oV, oT, oI, oB, xf, xi, xb, mregs, mstep, mval, mvals, mmv, mput, mcall, mnot, mbin, mbinb, mpick, mext, binS, upd, hz, hsz]; unfold mwp; exact hK _ _ (by simp [upd]) t14
end
end Go.VM
