/- The laws of exactness over kinds of data: structs in cells, and a bool beside what is handed back. Conditions: none. -/
import Derived.Test.YtfpkfcfiihfopaaDoorBVK5

namespace Go.VM
set_option linter.unusedVariables false
set_option linter.unusedSimpArgs false
set_option maxHeartbeats 4000000
structure CellA (w : World) (p : Nat) (arr : Array Value) : Prop where
 lt : p < w.heap.size
 get : ∀ j, w.cell? ⟨p, j, none⟩ = arr[j]?
theorem CellA.tou {S : Nat → Prop} {w w' : World} {p : Nat} {arr : Array Value} (h : CellA w p arr) (t : Tou S w w') (hp : ¬ S p) : CellA w' p arr :=
 ⟨Nat.lt_of_lt_of_le h.lt t.size, fun j => by rw [cell_heap (t.heap p h.lt hp)]; exact h.get j⟩
theorem CellA.same {w w' : World} {p : Nat} {arr : Array Value} (h : CellA w p arr) (t : Tou Old w w') : CellA w' p arr := h.tou t fun h => h.elim
theorem mldA_cell {w : World} {p n : Nat} {arr : Array Value} {K : Value → World → Prop} (h : CellA w p arr) (hs : arr.size = n) (hK : K (.agg arr) w) : mldA n w K (some (.pointer (some ⟨p, 0, none⟩))) :=
 ⟨arr.toList, by simpa using hs, fun j v hv => by rw [Nat.zero_add, h.get j]; simpa using hv, by simpa using hK⟩
theorem mnew_st {w : World} {n : Nat} {arr : Array Value} {K : Value → Value → World → Prop} (hs : arr.size = n) (h1 : ∀ x ∈ arr.toList, x.oneCell' = true)
 (hK : ∀ w', Tou Old w w' → CellA w' w.heap.size arr → K (.pointer (some ⟨w.heap.size, 0, none⟩)) undef w') : mnew n w fun v w' => mstA n w' (fun u w'' => K v u w'') (some v) (some (.agg arr)) := by
 intro arr0 t h0; have hb : (w.alloc (.cells arr0 t)).heap[w.heap.size]? = some (.cells arr0 t (0, 0)) := by
  have h : (w.alloc (.cells arr0 t)).heap = w.heap.push (.cells arr0 t) := rfl; rw [h, Array.getElem?_push, if_pos rfl]
 refine ⟨by simpa [Value.cells] using hs, by simpa [Value.cells] using h1, arr0, t, hb, by omega, ?_⟩
 have hsp : (splice arr0.toList 0 (Value.agg arr).cells.toList).toArray = arr := by
  have e0 : arr0.toList.length ≤ arr.toList.length := by simp; omega
  have hin : 0 + arr.toList.length ≤ arr0.toList.length := by simp; omega
  apply Array.ext'
  show splice arr0.toList 0 arr.toList = arr.toList
  apply List.ext_getElem?
  intro i; rw [splice_get hin]
  by_cases hi : i < arr.toList.length
  · rw [if_pos (by omega)]; simp
  · rw [if_neg (by omega), List.getElem?_eq_none (by omega), List.getElem?_eq_none (by omega)]
 rw [hsp]; have ha := alloc_tou w arr0 t; generalize w.alloc (.cells arr0 t) = w1 at hb ha; have hlt : w.heap.size < w1.heap.size := (Array.getElem?_eq_some_iff.1 hb).1; have hb' := setRow_heap w1 w.heap.size arr0 arr t (0, 0) hb; refine hK _ ⟨by rw [size_setRow]; exact ha.size, ha.os, ha.tape, ha.output, fun b h h2 => (setRow_other _ _ _ _ (by omega)).trans (ha.heap b h h2), fun b h => ?_⟩ ⟨by rw [size_setRow]; exact hlt, fun j => cell_of hb' j⟩
 by_cases e : b = w.heap.size
 · subst e; exact ⟨_, _, hb'⟩
 · exact (ha.clean b h).of (setRow_other _ _ _ _ e)
def lawBc (z : List W) (sz szA toA specF implF eqR eqA markA markR heldR : Nat) : C := (.seq (.reg [oo 2 (.mv (xb false))]) (.seq (.reg [oo 3 (.mv (xi 1048576))]) (.seq (.reg [om 14 0, om 15 3, oo 16 (.call (xf szA) [(.t 14), (.t 15)]), om 3 16]) (.seq (.seq (.reg [om 17 3, oo 18 (.bin .lss .one (.t 17) (xi 0))]) (.cond (.t 18) (.seq (.reg [oo 2 (.mv (xb true))]) .ret) .skip)) (.seq (.reg [om 20 0, oo 21 (.call (xf toA) [(.t 20)]), oo 22 (.call (xf specF) [(.t 21)]), om 19 22, oo 23 (.ext 0 (.t 19)), oo 24 (.ext 1 (.t 19)), oo 4 (.new z), on (.st sz (.t 4) (.t 23)), om 5 24]) (.seq (.reg [om 25 0, oo 26 (.call (xf toA) [(.t 25)]), om 6 26]) (.seq (.reg [om 28 6, oo 29 (.call (xf implF) [(.t 28)]), om 27 29, oo 30 (.ext 0 (.t 27)), oo 31 (.ext 1 (.t 27)), oo 7 (.new z), on (.st sz (.t 7) (.t 30)), om 8 31]) (.seq (.seq (.reg [oo 32 (.ld true sz (.t 7)), oo 33 (.ld true sz (.t 4)), oo 34 (.call (xf eqR) [(.t 32), (.t 33)]), oo 35 (.un .not (.t 34)), om 36 35, og 37 (.mv (.t 8)) 36 false, og 38 (.mv (.t 5)) 36 false, og 39 (.bin .neq .b (.t 37) (.t 38)) 36 false, oo 40 (.pick (.t 36) (xb true) (.t 39))]) (.cond (.t 40) (.seq (.reg [oo 2 (.mv (xb false))]) .ret) .skip)) (.seq (.seq (.reg [om 41 6, om 42 0, oo 43 (.call (xf toA) [(.t 42)]), oo 44 (.call (xf eqA) [(.t 41), (.t 43)]), oo 45 (.un .not (.t 44))]) (.cond (.t 45) (.seq (.reg [oo 2 (.mv (xb false))]) .ret) .skip)) (.seq (.reg [oo 9 (.mv (xi 1))]) (.seq (.reg [om 46 6, om 47 9, oo 48 (.call (xf markA) [(.t 46), (.t 47)]), om 9 48]) (.seq (.seq (.reg [om 49 9, oo 50 (.bin .lss .one (.t 49) (xi 0)), om 51 50, og 52 (.ld true sz (.t 7)) 51 false, og 53 (.ld true sz (.t 4)) 51 false, og 54 (.call (xf eqR) [(.t 52), (.t 53)]) 51 false, og 55 (.un .not (.t 54)) 51 false, oo 56 (.pick (.t 51) (xb true) (.t 55)), om 57 56, og 58 (.mv (.t 8)) 57 false, og 59 (.mv (.t 5)) 57 false, og 60 (.bin .neq .b (.t 58) (.t 59)) 57 false, oo 61 (.pick (.t 57) (xb true) (.t 60))]) (.cond (.t 61) (.seq (.reg [oo 2 (.mv (xb false))]) .ret) .skip)) (.seq (.reg [oo 10 (.mv (xi 1))]) (.seq (.reg [oo 62 (.ld true sz (.t 7)), om 63 10, oo 64 (.call (xf markR) [(.t 62), (.t 63)]), om 10 64]) (.seq (.reg [oo 11 (.mv (xi 1))]) (.seq (.reg [oo 65 (.ld true sz (.t 7)), om 66 11, oo 67 (.call (xf heldR) [(.t 65), (.t 66)]), om 11 67]) (.seq (.seq (.reg [om 68 11, oo 69 (.bin .lss .one (.t 68) (xi 0))]) (.cond (.t 69) (.seq (.reg [oo 2 (.mv (xb false))]) .ret) .skip)) (.seq (.seq (.reg [om 70 11, om 71 10, oo 72 (.bin .neq .one (.t 70) (.t 71))]) (.cond (.t 72) (.seq (.reg [oo 2 (.mv (xb false))]) .ret) .skip)) (.seq (.reg [om 74 0, oo 75 (.call (xf toA) [(.t 74)]), oo 76 (.call (xf implF) [(.t 75)]), om 73 76, oo 77 (.ext 0 (.t 73)), oo 78 (.ext 1 (.t 73)), oo 12 (.new z), on (.st sz (.t 12) (.t 77)), om 13 78]) (.seq (.seq (.reg [oo 79 (.ld true sz (.t 12)), oo 80 (.ld true sz (.t 4)), oo 81 (.call (xf eqR) [(.t 79), (.t 80)]), oo 82 (.un .not (.t 81)), om 83 82, og 84 (.mv (.t 13)) 83 false, og 85 (.mv (.t 5)) 83 false, og 86 (.bin .neq .b (.t 84) (.t 85)) 83 false, oo 87 (.pick (.t 83) (xb true) (.t 86))]) (.cond (.t 87) (.seq (.reg [oo 2 (.mv (xb false))]) .ret) .skip)) (.seq (.reg [oo 11 (.mv (xi 1))]) (.seq (.reg [oo 88 (.ld true sz (.t 7)), om 89 11, oo 90 (.call (xf heldR) [(.t 88), (.t 89)]), om 11 90]) (.seq (.seq (.reg [om 91 11, oo 92 (.bin .lss .one (.t 91) (xi 0))]) (.cond (.t 92) (.seq (.reg [oo 2 (.mv (xb false))]) .ret) .skip)) (.seq (.seq (.reg [om 93 11, om 94 10, oo 95 (.bin .neq .one (.t 93) (.t 94))]) (.cond (.t 95) (.seq (.reg [oo 2 (.mv (xb false))]) .ret) .skip)) (.seq (.reg [oo 2 (.mv (xb true))]) .ret)))))))))))))))))))))))))
section
variable {P : Program} {fid : Nat → FuncId} {cid : FuncId → Nat}
theorem lawBc_k {w0 : World} {a : Value} {KA KR : Kind} {c : Bool} {szA toA specF implF eqR eqA markA markR heldR n : Nat} {z : List W} {m : Nat} {K : Ex → (Nat → Value) → World → Prop} {τ : Nat → Value} (hz : z.length = m) (hsz : (m = 1) = False) (hR : ∀ N w v, KR.Rd N w v → ∃ arr, v = .agg arr ∧ arr.size = m ∧ ∀ x ∈ arr.toList, x.oneCell' = true) (h0 : τ 0 = a)
 (sz : MC P fid szA [a, .int .i64 1048576] w0 fun v w' => Tou Old w0 w' ∧ ∃ k : Int, v = .int .i64 k ∧ (0 ≤ k → KSound P fid w0 a KA toA eqA markA ∧ KGives2 P fid w0 KA KR (.bool c) specF implF eqR markR heldR))
 (hK : ∀ τ w, τ 2 = .bool true → Tou (fun b => w0.heap.size ≤ b) w0 w → K .ret τ w) : mwp P fid 96 n (lawBc z m szA toA specF implF eqR eqA markA markR heldR) τ w0 K := by
 unfold lawBc; refine mwp_sR ?_
 simp (maxSteps := 2000000) [om, oC, oo, og, on, oV, oT, oI, oB, xf, xi, xb, mregs, mstep, mval, mvals, mmv, mput, mcall, mnot, mbin, mbinb, mpick, mext, binS, upd, hz, hsz, h0]; refine stay (Q := fun τ => τ 0 = a) (by simp [upd, h0]) ?_
 clear h0; intro τ h0; refine mwp_sR ?_
 simp (maxSteps := 2000000) [om, oC, oo, og, on, oV, oT, oI, oB, xf, xi, xb, mregs, mstep, mval, mvals, mmv, mput, mcall, mnot, mbin, mbinb, mpick, mext, binS, upd, hz, hsz, h0]; refine stay (Q := fun τ => τ 0 = a ∧ τ 3 = .int .i64 1048576) (by simp [upd, h0]) ?_
 clear h0; rintro τ ⟨h0, h3⟩; refine mwp_sR ?_
 simp (maxSteps := 2000000) [om, oC, oo, og, on, oV, oT, oI, oB, xf, xi, xb, mregs, mstep, mval, mvals, mmv, mput, mcall, mnot, mbin, mbinb, mpick, mext, binS, upd, hz, hsz, h0, h3]; refine sz.mono ?_
 rintro v w1 ⟨t1, k, rfl, hk⟩; refine stay (Q := fun τ => τ 0 = a ∧ τ 3 = .int .i64 k) (by simp [upd, h0, h3]) ?_
 clear h0 h3; rintro τ ⟨h0, h3⟩
 by_cases hneg : k < 0
 · refine mwp_out (by omega) ?_
   simp [om, oC, oo, og, on, oV, oT, oI, oB, xf, xi, xb, mregs, mstep, mval, mvals, mmv, mput, mcall, mnot, mbin, mbinb, mpick, mext, binS, upd, hz, hsz, h0, h3, hneg]; exact hK _ _ (by simp [upd]) t1.old
 obtain ⟨HA, HR⟩ := hk (by omega); refine mwp_test ?_
 simp (maxSteps := 2000000) [om, oC, oo, og, on, oV, oT, oI, oB, xf, xi, xb, mregs, mstep, mval, mvals, mmv, mput, mcall, mnot, mbin, mbinb, mpick, mext, binS, upd, hz, hsz, h0, h3, hneg]; refine stay (Q := fun τ => τ 0 = a) (by simp [upd, h0, h3]) ?_
 clear h0 h3; intro τ h0; refine mwp_sR ?_
 simp (maxSteps := 2000000) [om, oC, oo, og, on, oV, oT, oI, oB, xf, xi, xb, mregs, mstep, mval, mvals, mmv, mput, mcall, mnot, mbin, mbinb, mpick, mext, binS, upd, hz, hsz, h0]; refine (HA.to w1 t1.old).mono ?_
 rintro v w2 ⟨ζ2, l2, n2⟩; have t2 := t1.trans n2.tou
 try simp
 refine (HR.spec _ _ _ t2.old n2.rd).mono ?_
 rintro _ w3 ⟨w0v, rfl, g3, r3⟩; have t3 := t2.trans g3; obtain ⟨arr4, rfl, s4, e4⟩ := hR _ _ _ r3
 try simp
 refine mnew_st s4 e4 ?_
 intro w3' n3 C4; have s33 := n3.size; have t3 := t3.trans n3; have r3 := KR.rsame r3 n3; generalize w3.heap.size = p4 at C4 ⊢; have p4lt := C4.lt
 try simp
 refine stay (Q := fun τ => τ 0 = a ∧ τ 4 = .pointer (some ⟨p4, 0, none⟩) ∧ τ 5 = .bool c) (by simp [upd, h0]) ?_
 clear h0; rintro τ ⟨h0, h4, h5⟩; refine mwp_sR ?_
 simp (maxSteps := 2000000) [om, oC, oo, og, on, oV, oT, oI, oB, xf, xi, xb, mregs, mstep, mval, mvals, mmv, mput, mcall, mnot, mbin, mbinb, mpick, mext, binS, upd, hz, hsz, h0, h4, h5]; refine (HA.to w3' t3.old).mono ?_
 rintro x0 w4 ⟨ζx, l4, n4⟩; have t4 := t3.trans n4.tou; have C4 := C4.same n4.tou; refine stay (Q := fun τ => τ 0 = a ∧ τ 4 = .pointer (some ⟨p4, 0, none⟩) ∧ τ 5 = .bool c ∧ τ 6 = x0) (by simp [upd, h0, h4, h5]) ?_
 clear h0 h4 h5; rintro τ ⟨h0, h4, h5, h6⟩; refine mwp_sR ?_
 simp (maxSteps := 2000000) [om, oC, oo, og, on, oV, oT, oI, oB, xf, xi, xb, mregs, mstep, mval, mvals, mmv, mput, mcall, mnot, mbin, mbinb, mpick, mext, binS, upd, hz, hsz, h0, h4, h5, h6]; refine (HR.impl _ _ _ t4.old n4.rd).mono ?_
 rintro _ w5 ⟨g0, rfl, ζg, l5, n5⟩; have t5 := t4.trans n5.tou; have C4 := C4.same n5.tou; obtain ⟨arr7, rfl, s7, e7⟩ := hR _ _ _ n5.rd; have ug : ∀ b, Sb ζg l5 b → b < w5.heap.size := KR.ow_lt n5.own
 try simp
 refine mnew_st s7 e7 ?_
 intro w5' m5 C7; have t5 := t5.trans m5; have C4 := C4.same m5; have own5 := KR.same n5.own m5; have p7ge : w4.heap.size ≤ w5.heap.size := n5.tou.size; generalize w5.heap.size = p7 at C7 ug p7ge ⊢
 try simp
 refine stay (Q := fun τ => τ 0 = a ∧ τ 4 = .pointer (some ⟨p4, 0, none⟩) ∧ τ 5 = .bool c ∧ τ 6 = x0 ∧ τ 7 = .pointer (some ⟨p7, 0, none⟩) ∧ τ 8 = .bool c) (by simp [upd, h0, h4, h5, h6]) ?_
 clear h0 h4 h5 h6; rintro τ ⟨h0, h4, h5, h6, h7, h8⟩; have r5 := KR.rsame (KR.rsame (KR.rsame r3 n4.tou) n5.tou) m5; refine mwp_test ?_
 simp (maxSteps := 2000000) [om, oC, oo, og, on, oV, oT, oI, oB, xf, xi, xb, mregs, mstep, mval, mvals, mmv, mput, mcall, mnot, mbin, mbinb, mpick, mext, binS, upd, hz, hsz, h0, h4, h5, h6, h7, h8]; refine mldA_cell C7 s7 (mldA_cell C4 s4 ?_)
 try simp
 refine (HR.eq _ _ _ _ _ t5.old (KR.ow_rd own5) r5).mono ?_
 rintro _ w6 ⟨rfl, g6⟩
 try simp
 have t6 := t5.trans g6; have r6 := KR.rsame r5 g6; have x6 := KA.same (KA.same (KA.same n4.own n5.tou) m5) g6; have o6 := KR.same own5 g6; have C4 := C4.same g6; have C7 := C7.same g6; refine stay (Q := fun τ => τ 0 = a ∧ τ 4 = .pointer (some ⟨p4, 0, none⟩) ∧ τ 5 = .bool c ∧ τ 6 = x0 ∧ τ 7 = .pointer (some ⟨p7, 0, none⟩) ∧ τ 8 = .bool c) (by simp [upd, h0, h4, h5, h6, h7, h8]) ?_
 clear h0 h4 h5 h6 h7 h8; rintro τ ⟨h0, h4, h5, h6, h7, h8⟩; refine mwp_test ?_
 simp (maxSteps := 2000000) [om, oC, oo, og, on, oV, oT, oI, oB, xf, xi, xb, mregs, mstep, mval, mvals, mmv, mput, mcall, mnot, mbin, mbinb, mpick, mext, binS, upd, hz, hsz, h0, h4, h5, h6, h7, h8]; refine (HA.to w6 t6.old).mono ?_
 rintro v7 w7 ⟨ζ7, l7, n7⟩; have t7 := t6.trans n7.tou
 try simp
 refine (HA.eq _ _ _ _ _ t7.old (KA.ow_rd (KA.same x6 n7.tou)) n7.rd).mono ?_
 rintro _ w8 ⟨rfl, g8⟩
 try simp
 have t8 := t7.trans g8; have g68 := n7.tou.trans g8; have r8 := KR.rsame r6 g68; have x8 := KA.same x6 g68; have o8 := KR.same o6 g68; have C4 := C4.same g68; have C7 := C7.same g68; refine stay (Q := fun τ => τ 0 = a ∧ τ 4 = .pointer (some ⟨p4, 0, none⟩) ∧ τ 5 = .bool c ∧ τ 6 = x0 ∧ τ 7 = .pointer (some ⟨p7, 0, none⟩) ∧ τ 8 = .bool c) (by simp [upd, h0, h4, h5, h6, h7, h8]) ?_
 clear h0 h4 h5 h6 h7 h8; rintro τ ⟨h0, h4, h5, h6, h7, h8⟩; refine mwp_sR ?_
 simp (maxSteps := 2000000) [om, oC, oo, og, on, oV, oT, oI, oB, xf, xi, xb, mregs, mstep, mval, mvals, mmv, mput, mcall, mnot, mbin, mbinb, mpick, mext, binS, upd, hz, hsz, h0, h4, h5, h6, h7, h8]; refine stay (Q := fun τ => τ 0 = a ∧ τ 4 = .pointer (some ⟨p4, 0, none⟩) ∧ τ 5 = .bool c ∧ τ 6 = x0 ∧ τ 7 = .pointer (some ⟨p7, 0, none⟩) ∧ τ 8 = .bool c ∧ τ 9 = .int .i64 1) (by simp [upd, h0, h4, h5, h6, h7, h8]) ?_
 clear h0 h4 h5 h6 h7 h8; rintro τ ⟨h0, h4, h5, h6, h7, h8, h9⟩; refine mwp_sR ?_
 simp (maxSteps := 2000000) [om, oC, oo, og, on, oV, oT, oI, oB, xf, xi, xb, mregs, mstep, mval, mvals, mmv, mput, mcall, mnot, mbin, mbinb, mpick, mext, binS, upd, hz, hsz, h0, h4, h5, h6, h7, h8, h9]; refine (HA.mark w8 ζx x0 l4 n4.inj x8).mono ?_
 rintro _ w9 ⟨rfl, g9, x9⟩; have lx : ∀ b, Sb ζx l4 b → w3'.heap.size ≤ b := n4.low; have ux : ∀ b, Sb ζx l4 b → b < w4.heap.size := KA.ow_lt n4.own; have lg : ∀ b, Sb ζg l5 b → w4.heap.size ≤ b := n5.low; have s03 : w0.heap.size ≤ w3'.heap.size := t3.size; have s34 : w3'.heap.size ≤ w4.heap.size := n4.tou.size; have ne4x : ¬ Sb ζx l4 p4 := fun h => by have := lx _ h; omega
 have ne7x : ¬ Sb ζx l4 p7 := fun h => by have := ux _ h; have := p7ge; omega
 have C4 := C4.tou g9 ne4x; have C7 := C7.tou g9 ne7x; have t9 : Tou (fun b => w0.heap.size ≤ b) w0 w9 := t8.old.trans (g9.mono fun b hb => by have := lx b hb; omega); have r9 := KR.rd_tou r8 g9 (fun b hb => by have := lx b hb; omega); have o9 := KR.ow_tou o8 g9 (fun b hb hx => by have := ux b hx; have := lg b hb; omega); refine stay (Q := fun τ => τ 0 = a ∧ τ 4 = .pointer (some ⟨p4, 0, none⟩) ∧ τ 5 = .bool c ∧ τ 6 = x0 ∧ τ 7 = .pointer (some ⟨p7, 0, none⟩) ∧ τ 8 = .bool c ∧ τ 9 = .int .i64 ((1 + KA.n : Nat) : Int)) (by simp [upd, h0, h4, h5, h6, h7, h8, h9]) ?_
 clear h0 h4 h5 h6 h7 h8 h9; rintro τ ⟨h0, h4, h5, h6, h7, h8, h9⟩; have hpos : ¬ ((1 + KA.n : Nat) : Int) < 0 := by omega
 have hpos' : ¬ (1 + (KA.n : Int)) < 0 := by omega
 refine mwp_test ?_
 simp (maxSteps := 2000000) [om, oC, oo, og, on, oV, oT, oI, oB, xf, xi, xb, mregs, mstep, mval, mvals, mmv, mput, mcall, mnot, mbin, mbinb, mpick, mext, binS, upd, hz, hsz, h0, h4, h5, h6, h7, h8, h9, hpos, hpos']; refine mldA_cell C7 s7 (mldA_cell C4 s4 ?_)
 try simp
 refine (HR.eq _ _ _ _ _ t9 (KR.ow_rd o9) r9).mono ?_
 rintro _ w10 ⟨rfl, g10⟩
 try simp
 have t10 : Tou (fun b => w0.heap.size ≤ b) w0 w10 := t9.trans g10.old; have r10 := KR.rsame r9 g10; have o10 := KR.same o9 g10; have C4 := C4.same g10; have C7 := C7.same g10; refine stay (Q := fun τ => τ 0 = a ∧ τ 4 = .pointer (some ⟨p4, 0, none⟩) ∧ τ 5 = .bool c ∧ τ 7 = .pointer (some ⟨p7, 0, none⟩)) (by simp [upd, h0, h4, h5, h6, h7, h8, h9]) ?_
 clear h0 h4 h5 h6 h7 h8 h9; rintro τ ⟨h0, h4, h5, h7⟩; refine mwp_sR ?_
 simp (maxSteps := 2000000) [om, oC, oo, og, on, oV, oT, oI, oB, xf, xi, xb, mregs, mstep, mval, mvals, mmv, mput, mcall, mnot, mbin, mbinb, mpick, mext, binS, upd, hz, hsz, h0, h4, h5, h7]; refine stay (Q := fun τ => τ 0 = a ∧ τ 4 = .pointer (some ⟨p4, 0, none⟩) ∧ τ 5 = .bool c ∧ τ 7 = .pointer (some ⟨p7, 0, none⟩) ∧ τ 10 = .int .i64 1) (by simp [upd, h0, h4, h5, h7]) ?_
 clear h0 h4 h5 h7; rintro τ ⟨h0, h4, h5, h7, h10⟩; refine mwp_sR ?_
 simp (maxSteps := 2000000) [om, oC, oo, og, on, oV, oT, oI, oB, xf, xi, xb, mregs, mstep, mval, mvals, mmv, mput, mcall, mnot, mbin, mbinb, mpick, mext, binS, upd, hz, hsz, h0, h4, h5, h7, h10]; refine mldA_cell C7 s7 ?_
 try simp
 refine (HR.mark w10 ζg _ l5 n5.inj o10).mono ?_
 rintro _ w11 ⟨rfl, g11, o11⟩; have t11 : Tou (fun b => w0.heap.size ≤ b) w0 w11 := t10.trans (g11.mono fun b hb => by have := lg b hb; omega); have r11 := KR.rd_tou r10 g11 (fun b hb => by have := lg b hb; omega); have C4 := C4.tou g11 (fun h => by have := lg _ h; omega); have C7 := C7.tou g11 (fun h => by have := ug _ h; omega); refine stay (Q := fun τ => τ 0 = a ∧ τ 4 = .pointer (some ⟨p4, 0, none⟩) ∧ τ 5 = .bool c ∧ τ 7 = .pointer (some ⟨p7, 0, none⟩) ∧ τ 10 = .int .i64 ((1 + KR.n : Nat) : Int)) (by simp [upd, h0, h4, h5, h7, h10]) ?_
 clear h0 h4 h5 h7 h10; rintro τ ⟨h0, h4, h5, h7, h10⟩; refine mwp_sR ?_
 simp (maxSteps := 2000000) [om, oC, oo, og, on, oV, oT, oI, oB, xf, xi, xb, mregs, mstep, mval, mvals, mmv, mput, mcall, mnot, mbin, mbinb, mpick, mext, binS, upd, hz, hsz, h0, h4, h5, h7, h10]; refine stay (Q := fun τ => τ 0 = a ∧ τ 4 = .pointer (some ⟨p4, 0, none⟩) ∧ τ 5 = .bool c ∧ τ 7 = .pointer (some ⟨p7, 0, none⟩) ∧ τ 10 = .int .i64 ((1 + KR.n : Nat) : Int) ∧ τ 11 = .int .i64 1) (by simp [upd, h0, h4, h5, h7, h10]) ?_
 clear h0 h4 h5 h7 h10; rintro τ ⟨h0, h4, h5, h7, h10, h11⟩; refine mwp_sR ?_
 simp (maxSteps := 2000000) [om, oC, oo, og, on, oV, oT, oI, oB, xf, xi, xb, mregs, mstep, mval, mvals, mmv, mput, mcall, mnot, mbin, mbinb, mpick, mext, binS, upd, hz, hsz, h0, h4, h5, h7, h10, h11]; refine mldA_cell C7 s7 ?_
 try simp
 refine (HR.held w11 ζg _ l5 o11).mono ?_
 rintro _ w11' ⟨rfl, h11⟩; have t11 := t11.trans h11.old; have r11 := KR.rsame r11 h11; have o11 := KR.msame o11 h11; have C4 := C4.same h11; have C7 := C7.same h11; refine stay (Q := fun τ => τ 0 = a ∧ τ 4 = .pointer (some ⟨p4, 0, none⟩) ∧ τ 5 = .bool c ∧ τ 7 = .pointer (some ⟨p7, 0, none⟩) ∧ τ 10 = .int .i64 ((1 + KR.n : Nat) : Int) ∧ τ 11 = .int .i64 ((1 + KR.n : Nat) : Int)) (by simp [upd, h0, h4, h5, h7, h10, h11]) ?_
 clear h0 h4 h5 h7 h10 h11; rintro τ ⟨h0, h4, h5, h7, h10, h11⟩; have hq : ¬ ((1 + KR.n : Nat) : Int) < 0 := by omega
 have hq' : ¬ (1 + (KR.n : Int)) < 0 := by omega
 refine mwp_test ?_
 simp (maxSteps := 2000000) [om, oC, oo, og, on, oV, oT, oI, oB, xf, xi, xb, mregs, mstep, mval, mvals, mmv, mput, mcall, mnot, mbin, mbinb, mpick, mext, binS, upd, hz, hsz, h0, h4, h5, h7, h10, h11, hq, hq']; refine stay (Q := fun τ => τ 0 = a ∧ τ 4 = .pointer (some ⟨p4, 0, none⟩) ∧ τ 5 = .bool c ∧ τ 7 = .pointer (some ⟨p7, 0, none⟩) ∧ τ 10 = .int .i64 ((1 + KR.n : Nat) : Int) ∧ τ 11 = .int .i64 ((1 + KR.n : Nat) : Int)) (by simp [upd, h0, h4, h5, h7, h10, h11]) ?_
 clear h0 h4 h5 h7 h10 h11; rintro τ ⟨h0, h4, h5, h7, h10, h11⟩; refine mwp_test ?_
 simp (maxSteps := 2000000) [om, oC, oo, og, on, oV, oT, oI, oB, xf, xi, xb, mregs, mstep, mval, mvals, mmv, mput, mcall, mnot, mbin, mbinb, mpick, mext, binS, upd, hz, hsz, h0, h4, h5, h7, h10, h11]; refine stay (Q := fun τ => τ 0 = a ∧ τ 4 = .pointer (some ⟨p4, 0, none⟩) ∧ τ 5 = .bool c ∧ τ 7 = .pointer (some ⟨p7, 0, none⟩) ∧ τ 10 = .int .i64 ((1 + KR.n : Nat) : Int)) (by simp [upd, h0, h4, h5, h7, h10, h11]) ?_
 clear h0 h4 h5 h7 h10 h11; rintro τ ⟨h0, h4, h5, h7, h10⟩; refine mwp_sR ?_
 simp (maxSteps := 2000000) [om, oC, oo, og, on, oV, oT, oI, oB, xf, xi, xb, mregs, mstep, mval, mvals, mmv, mput, mcall, mnot, mbin, mbinb, mpick, mext, binS, upd, hz, hsz, h0, h4, h5, h7, h10]; refine (HA.to _ t11).mono ?_
 rintro v12 w12 ⟨ζ12, l12, n12⟩; have t12 := t11.trans n12.tou.old
 try simp
 refine (HR.impl _ _ _ t12 n12.rd).mono ?_
 rintro _ w13 ⟨v13, rfl, ζ13, l13, n13⟩; have t13 := t12.trans n13.tou.old; have C4 := (C4.same n12.tou).same n13.tou; have C7 := (C7.same n12.tou).same n13.tou; obtain ⟨arr13, rfl, s13, e13⟩ := hR _ _ _ n13.rd
 try simp
 refine mnew_st s13 e13 ?_
 intro w13' m13 C12; have t13 := t13.trans m13.old; have C4 := C4.same m13; have C7 := C7.same m13; have r13 := KR.rsame (KR.rsame (KR.rsame r11 n12.tou) n13.tou) m13; have o13 := KR.msame (KR.msame (KR.msame o11 n12.tou) n13.tou) m13; have rd13 := KR.rsame n13.rd m13; generalize w13.heap.size = p12 at C12 rd13 ⊢
 try simp
 refine stay (Q := fun τ => τ 0 = a ∧ τ 4 = .pointer (some ⟨p4, 0, none⟩) ∧ τ 5 = .bool c ∧ τ 7 = .pointer (some ⟨p7, 0, none⟩) ∧ τ 10 = .int .i64 ((1 + KR.n : Nat) : Int) ∧ τ 12 = .pointer (some ⟨p12, 0, none⟩) ∧ τ 13 = .bool c) (by simp [upd, h0, h4, h5, h7, h10]) ?_
 clear h0 h4 h5 h7 h10; rintro τ ⟨h0, h4, h5, h7, h10, h12, h13⟩; refine mwp_test ?_
 simp (maxSteps := 2000000) [om, oC, oo, og, on, oV, oT, oI, oB, xf, xi, xb, mregs, mstep, mval, mvals, mmv, mput, mcall, mnot, mbin, mbinb, mpick, mext, binS, upd, hz, hsz, h0, h4, h5, h7, h10, h12, h13]; refine mldA_cell C12 s13 (mldA_cell C4 s4 ?_)
 try simp
 refine (HR.eq _ _ _ _ _ t13 rd13 r13).mono ?_
 rintro _ w14 ⟨rfl, g14⟩
 try simp
 have t14 := t13.trans g14.old; have o14 := KR.msame o13 g14; have C7 := C7.same g14; refine stay (Q := fun τ => τ 7 = .pointer (some ⟨p7, 0, none⟩) ∧ τ 10 = .int .i64 ((1 + KR.n : Nat) : Int)) (by simp [upd, h0, h4, h5, h7, h10, h12, h13]) ?_
 clear h0 h4 h5 h7 h10 h12 h13; rintro τ ⟨h7, h10⟩; refine mwp_sR ?_
 simp (maxSteps := 2000000) [om, oC, oo, og, on, oV, oT, oI, oB, xf, xi, xb, mregs, mstep, mval, mvals, mmv, mput, mcall, mnot, mbin, mbinb, mpick, mext, binS, upd, hz, hsz, h7, h10]; refine stay (Q := fun τ => τ 7 = .pointer (some ⟨p7, 0, none⟩) ∧ τ 10 = .int .i64 ((1 + KR.n : Nat) : Int) ∧ τ 11 = .int .i64 1) (by simp [upd, h7, h10]) ?_
 clear h7 h10; rintro τ ⟨h7, h10, h11⟩; refine mwp_sR ?_
 simp (maxSteps := 2000000) [om, oC, oo, og, on, oV, oT, oI, oB, xf, xi, xb, mregs, mstep, mval, mvals, mmv, mput, mcall, mnot, mbin, mbinb, mpick, mext, binS, upd, hz, hsz, h7, h10, h11]; refine mldA_cell C7 s7 ?_
 try simp
 refine (HR.held w14 ζg _ l5 o14).mono ?_
 rintro _ w14' ⟨rfl, h14⟩; have t14 := t14.trans h14.old; refine stay (Q := fun τ => τ 7 = .pointer (some ⟨p7, 0, none⟩) ∧ τ 10 = .int .i64 ((1 + KR.n : Nat) : Int) ∧ τ 11 = .int .i64 ((1 + KR.n : Nat) : Int)) (by simp [upd, h7, h10, h11]) ?_
 clear h7 h10 h11; rintro τ ⟨h7, h10, h11⟩; refine mwp_test ?_
 simp (maxSteps := 2000000) [om, oC, oo, og, on, oV, oT, oI, oB, xf, xi, xb, mregs, mstep, mval, mvals, mmv, mput, mcall, mnot, mbin, mbinb, mpick, mext, binS, upd, hz, hsz, h7, h10, h11, hq, hq']; refine stay (Q := fun τ => τ 7 = .pointer (some ⟨p7, 0, none⟩) ∧ τ 10 = .int .i64 ((1 + KR.n : Nat) : Int) ∧ τ 11 = .int .i64 ((1 + KR.n : Nat) : Int)) (by simp [upd, h7, h10, h11]) ?_
 clear h7 h10 h11; rintro τ ⟨h7, h10, h11⟩; refine mwp_test ?_
 simp (maxSteps := 2000000) [om, oC, oo, og, on, oV, oT, oI, oB, xf, xi, xb, mregs, mstep, mval, mvals, mmv, mput, mcall, mnot, mbin, mbinb, mpick, mext, binS, upd, hz, hsz, h7, h10, h11]; refine stay (Q := fun τ => τ 7 = .pointer (some ⟨p7, 0, none⟩) ∧ τ 10 = .int .i64 ((1 + KR.n : Nat) : Int)) (by simp [upd, h7, h10, h11]) ?_
 clear h7 h10 h11; rintro τ ⟨h7, h10⟩; refine mwp_sR ?_
 simp (maxSteps := 2000000) [om, oC, oo, og, on, oV, oT, oI, oB, xf, xi, xb, mregs, mstep, mval, mvals, mmv, mput, mcall, mnot, mbin, mbinb, mpick, mext, binS, upd, hz, hsz]; unfold mwp; exact hK _ _ (by simp [upd]) t14
end
end Go.VM
