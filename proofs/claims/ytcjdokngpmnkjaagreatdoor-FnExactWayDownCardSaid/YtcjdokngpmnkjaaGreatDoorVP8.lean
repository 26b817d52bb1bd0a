/- What calls do to a world in which a law of exactness runs: what is read, what is new. Conditions: none. -/
import Derived.Test.YtcjdokngpmnkjaaGreatDoorVM54
import Derived.Test.YtcjdokngpmnkjaaGreatDoorVMC

namespace Go.VM
set_option linter.unusedVariables false
set_option linter.unusedSimpArgs false
set_option linter.unusedSectionVars false
def Rd (N : Nat) (w : World) (v : Value) (d : D) : Prop := N ≤ w.heap.size ∧ Rel w (fun b _ => b < N) (fun _ => none) v d
def ctxN (N : Nat) (w : World) : Ctx := ⟨w, fun b _ => b < N, fun _ => none, fun _ => none⟩
def Old : Nat → Prop := fun _ => False
theorem Rd.tou {N : Nat} {S : Nat → Prop} {w w' : World} {v : Value} {d : D} (h : Rd N w v d) (hw : Tou S w w') (hs : ∀ b, S b → N ≤ b) : Rd N w' v d :=
 ⟨Nat.le_trans h.1 hw.size, Rel.old h.2 h.1 hw hs⟩
theorem Rd.same {N : Nat} {w w' : World} {v : Value} {d : D} (h : Rd N w v d) (hw : Tou Old w w') : Rd N w' v d := h.tou hw (fun _ h => h.elim)
theorem Rd.up {N M : Nat} {w : World} {v : Value} {d : D} (h : Rd N w v d) (hN : N ≤ M) (hM : M ≤ w.heap.size) : Rd M w v d :=
 ⟨hM, Rel.mono (Nat.le_refl _) (fun b _ hb => Nat.lt_of_lt_of_le hb hN) (fun _ _ _ => rfl) (fun _ _ h => h) h.2⟩
theorem Rel.size {w : World} {ζ : Nat → Option Nat} {v : Value} {d : D} (h : Rel w Top ζ v d) : Rel w (fun b _ => b < w.heap.size) ζ v d := by
 induction h with
 | s v h => exact .s v h
 | nil st => exact .nil st
 | e a => exact .e a
 | l st rows blk o cap sz f hlen hcap hb hcell him hrel hst ih => exact .l st rows blk o cap sz f hlen hcap hb hcell (fun _ _ _ _ => hb) ih hst
theorem Own.read {w : World} {ζ : Nat → Option Nat} {v : Value} {d : D} (h : Own w ζ v d) : Rd w.heap.size w v d.er := ⟨Nat.le_refl _, (h.rel.size).er⟩
structure New (w w' : World) (ζ : Nat → Option Nat) (v : Value) (d : D) : Prop where
 tou : Tou Old w w'
 own : Own w' ζ v d
 inj : ZInj ζ
 low : ∀ b, Sb ζ d.sts b → w.heap.size ≤ b
theorem Own.lt {w : World} {ζ : Nat → Option Nat} {v : Value} {d : D} (h : Own w ζ v d) : ∀ b, Sb ζ d.sts b → b < w.heap.size := fun b ⟨t, ht, e⟩ => (h.cl t ht b e).lt
theorem Own.same {w w' : World} {ζ : Nat → Option Nat} {v : Value} {d : D} (h : Own w ζ v d) (hw : Tou Old w w') : Own w' ζ v d := h.tou hw (fun _ _ h => h.elim)
section
variable {P : Program} {fid : Nat → FuncId} {cid : FuncId → Nat} {G : Nat → Option (List D)}
theorem inN {N : Nat} {w : World} {s : Sup} (hN : N ≤ w.heap.size) (hs : ∀ k, s k ≠ 0) (hinj : Inj s) (hG : Glob G (ctxN N w)) : In fid G (ctxN N w) [] s where
 imlt := fun _ _ h => Nat.lt_of_lt_of_le h hN
 zlt := fun _ _ h => by cases h
 zinj := fun _ _ _ h => by cases h
 zfree := fun k => ⟨rfl, hs k⟩
 sinj := hinj
 dom := fun _ _ => rfl
 some := fun _ h => by simp at h
 box := fun b => by simp [BoxRel]
 dist := fun _ _ _ _ _ h => by simp at h
 glob := hG
theorem out_tou {N : Nat} {w : World} {s : Sup} {κ' : Ctx} {r : Res} {v : Value} (O : Out fid (ctxN N w) [] s κ' r v) : Tou Old w κ'.w := by
 have hsame : ∀ b, b < w.heap.size → κ'.w.heap[b]? = w.heap[b]? := fun b hb => O.same b hb passOf_nil
 exact ⟨O.le.size, O.os, O.tape, O.output, fun b hb _ => hsame b hb, fun b hb => hb.of (hsame b hb.lt)⟩
theorem call_at {f N : Nat} {args : List V} {s : Sup} {r : Res} (h : CallOK P fid G f args [] s r) (hs : ∀ k, s k ≠ 0) (hi : Inj s) {w : World} {vs : List Value} (hN : N ≤ w.heap.size) (hG : Glob G (ctxN N w)) (hl : vs.length = args.length)
 (hr : ∀ (i : Nat) (x : V), args[i]? = some x → ∃ v : Value, vs[i]? = some v ∧ VRel fid (ctxN N w) v x) : MC P fid f vs w fun v w' => ∃ κ', κ'.w = w' ∧ Out fid (ctxN N w) [] s κ' r v := by
 refine ⟨h.1, (h.2 (ctxN N w) vs (inN hN hs hi hG) hl hr).mono ?_⟩
 rintro e w' ⟨v, κ', rfl, rfl, O⟩; exact ⟨v, rfl, κ', rfl, O⟩
theorem Glob.up {N M : Nat} {S : Nat → Prop} {w w' : World} (h : Glob G (ctxN N w)) (hN : N ≤ w.heap.size) (hw : Tou S w w') (hs : ∀ b, S b → N ≤ b) (hM : N ≤ M) : Glob G (ctxN M w') := by
 refine Glob.mono (κ := ctxN N w) (κ' := ctxN M w') ⟨hw.size, fun b _ hb => Nat.lt_of_lt_of_le hb hM, fun b o hb => ?_, fun _ _ h => h, fun _ _ h => h⟩ h
 exact cell_heap (hw.heap b (Nat.lt_of_lt_of_le hb hN) (fun e => by have := hs b e; have : b < N := hb; omega)) o
theorem rel_own {N : Nat} {w : World} {s : Sup} {κ' : Ctx} {r : Res} {u v : Value} {d : D} (hs : ∀ k, s k ≠ 0) (O : Out fid (ctxN N w) [] s κ' r u) (h : Rel κ'.w κ'.Im κ'.ζ v d) (hf : Fr s d.sts) : New w κ'.w κ'.ζ v d := by
 refine ⟨out_tou O, ⟨Rel.top h, fun t ht => ?_, hf.1, fun t ht b e => O.zlt t b e⟩, fun t t' b e e' => O.zinj t t' b e e', fun b ⟨t, ht, e⟩ => ?_⟩
 · obtain ⟨k, rfl⟩ := hf.2 t ht
   exact hs k
 · rcases O.znew t b e with h | ⟨_, h | h⟩
   · cases h
   · exact h
   · exact absurd h passOf_nil
theorem out_own {N : Nat} {w : World} {s : Sup} {κ' : Ctx} {v : Value} {d : D} (hs : ∀ k, s k ≠ 0) (O : Out fid (ctxN N w) [] s κ' ⟨.w (.d d), [], []⟩ v) (hf : Fr s d.sts) : New w κ'.w κ'.ζ v d :=
 rel_own hs O O.v hf
theorem enters_of {f : Nat} {fn : Func} {F : Fn} (hfn : P.funcs[fid f]? = some fn) (hF : stripF P cid fn = some F) : Enters P (fid f) := by
 unfold stripF at hF; split at hF
 · cases hF
 · rename_i body hbody
   split at hF
   · split at hF
     · cases hF
     · rename_i hname
       have hname' : ¬ fn.name = "runtime.NumGoroutine" := by simpa using hname
       exact fun as w => by simp [callFunc, hfn, hname', hbody]
   · cases hF
theorem law_ok {f : Nat} {args : List V} {s : Sup} (h : ∀ (κ : Ctx) (vs : List Value), In fid G κ [] s → vs.length = args.length → (∀ (i : Nat) (x : V), args[i]? = some x → ∃ v : Value, vs[i]? = some v ∧ VRel fid κ v x) →
      MC P fid f vs κ.w fun r w' => r = .bool true ∧ Tou (fun b => κ.w.heap.size ≤ b) κ.w w') (hent : Enters P (fid f)) : CallOK P fid G f args [] s ⟨sV (.bool true), [], []⟩ := by
 refine ⟨hent, fun κ vs hI hl hr => (h κ vs hI hl hr).2.mono ?_⟩
 rintro e w' ⟨v, rfl, rfl, ht⟩; have hsame : ∀ b, b < κ.w.heap.size → w'.heap[b]? = κ.w.heap[b]? := fun b hb => ht.heap b hb (by omega)
 refine ⟨.bool true, { κ with w := w' }, rfl, rfl, ⟨ht.size, fun _ _ h => h, fun b o hb => cell_heap (hsame b (hI.imlt b o hb)) o, fun _ _ h => h, fun _ _ h => h⟩, ht.os, ht.tape, ht.output, fun b hb _ => hsame b hb, fun _ _ h => .inl h,
  fun b o hb => Nat.lt_of_lt_of_le (hI.imlt b o hb) ht.size, fun t b hb => ht.clean b (hI.zlt t b hb), hI.zinj, fun _ _ h => .inl h, rfl, fun b hb => rfl, fun b hb => hI.dom b (by simp), fun b i hb => by simp at hb, fun b => by simp [BoxRel], fun _ _ _ _ _ hb => by simp at hb, ?_⟩
 exact Rel.s _ rfl
end
end Go.VM

/- The laws of exactness, by the shape of their code: one slice in, one slice out. Conditions: none. -/
namespace Go.VM
set_option linter.unusedVariables false
set_option linter.unusedSimpArgs false
set_option maxHeartbeats 4000000
section
variable {P : Program} {fid : Nat → FuncId} {cid : FuncId → Nat}
theorem mwp_sR {N n : Nat} {ops : List RO} {rest : C} {τ : Nat → Value} {w : World} {K : Ex → (Nat → Value) → World → Prop} (h : mregs P fid N ops τ w fun τ' w' => mwp P fid N n rest τ' w' K) : mwp P fid N n (sR ops rest) τ w K := by
 simp only [sR, mwp]; exact mregs_mono ops (fun τ' w' h => ⟨fun _ => h, fun e => absurd rfl e⟩) h
theorem mwp_test {N n t : Nat} {b : Bool} {ops : List RO} {rest : C} {τ : Nat → Value} {w : World} {K : Ex → (Nat → Value) → World → Prop} (h : mregs P fid N ops τ w fun τ' w' => τ' t = .bool false ∧ mwp P fid N n rest τ' w' K) :
 mwp P fid N n (.seq (sR ops (.cond (.t t) (sR [oT 2 b] .ret) .skip)) rest) τ w K := by
 unfold mwp; refine mwp_sR (mregs_mono ops (fun τ' w' ⟨h1, h2⟩ => ?_) h)
 unfold mwp; exact ⟨false, by simp [mval, h1], fun h => (by cases h), fun _ => ⟨fun _ => h2, fun h => absurd rfl h⟩⟩
theorem mwp_out {N n t : Nat} {b : Bool} {ops : List RO} {rest : C} {τ : Nat → Value} {w : World} {K : Ex → (Nat → Value) → World → Prop} (hN : 2 < N) (h : mregs P fid N ops τ w fun τ' w' => τ' t = .bool true ∧ K .ret (upd τ' 2 (.bool b)) w') :
 mwp P fid N n (.seq (sR ops (.cond (.t t) (sR [oT 2 b] .ret) .skip)) rest) τ w K := by
 unfold mwp; refine mwp_sR (mregs_mono ops (fun τ' w' ⟨h1, h2⟩ => ?_) h)
 unfold mwp; refine ⟨true, by simp [mval, h1], fun _ => mwp_sR ?_, fun h => (by cases h)⟩
 simp only [oT, oo, xb, mregs, mstep, mval, mmv, mput, if_pos hN]; exact ⟨_, rfl, fun h => (by cases h), fun _ => h2⟩
theorem stay {Q : (Nat → Value) → Prop} {N n : Nat} {c : C} {τ : Nat → Value} {w : World} {K : Ex → (Nat → Value) → World → Prop} (h : Q τ) (k : ∀ τ, Q τ → mwp P fid N n c τ w K) : mwp P fid N n c τ w K := k τ h
structure Sound (P : Program) (fid : Nat → FuncId) (w0 : World) (a : Value) (rowsA : List (List D)) (szA toA eqA markA : Nat) : Prop where
 to : ∀ w, Tou (fun b => w0.heap.size ≤ b) w0 w → MC P fid toA [a] w fun v w' => ∃ ζ st R, New w w' ζ v (.l st R) ∧ erR R = rowsA
 eq : ∀ N M u v w, Tou (fun b => w0.heap.size ≤ b) w0 w → Rd N w u (.l 0 rowsA) → Rd M w v (.l 0 rowsA) → MC P fid eqA [u, v] w fun r w' => r = .bool true ∧ Tou Old w w'
 mark : ∀ R, erR R = rowsA → MarkOK P fid markA R
mutual
theorem D.ct_er : ∀ d : D, d.er.ct = d.ct
 | .s _ => rfl
 | .l _ rows => by simp only [D.er, D.ct]; exact ctR_er rows
theorem ctL_er : ∀ l : List D, ctL (erL l) = ctL l
 | [] => rfl
 | x :: r => by simp only [erL, ctL]; rw [D.ct_er x, ctL_er r]
theorem ctR_er : ∀ l : List (List D), ctR (erR l) = ctR l
 | [] => rfl
 | x :: r => by simp only [erR, ctR]; rw [ctL_er x, ctR_er r]
end
theorem Tou.old {S : Nat → Prop} {a b : World} (h : Tou Old a b) : Tou S a b := h.mono fun _ h => h.elim
theorem New.rd {w w' : World} {ζ : Nat → Option Nat} {v : Value} {st : Nat} {R : List (List D)} {rows : List (List D)} (h : New w w' ζ v (.l st R)) (e : erR R = rows) : Rd w'.heap.size w' v (.l 0 rows) := by
 subst e; exact h.own.read
theorem Own.rd {w : World} {ζ : Nat → Option Nat} {v : Value} {st : Nat} {R : List (List D)} {rows : List (List D)} (h : Own w ζ v (.l st R)) (e : erR R = rows) : Rd w.heap.size w v (.l 0 rows) := by
 subst e; exact h.read
end
end Go.VM

/- The laws of exactness, by the shape of their code: one slice in, a slice and a scalar out. Conditions: none. -/
namespace Go.VM
set_option linter.unusedVariables false
set_option linter.unusedSimpArgs false
set_option maxHeartbeats 4000000
section
variable {P : Program} {fid : Nat → FuncId} {cid : FuncId → Nat}
structure Gives2 (P : Program) (fid : Nat → FuncId) (w0 : World) (rowsA rowsR : List (List D)) (c : Value) (specF implF eqR markR heldR : Nat) : Prop where
 spec : ∀ N v w, Tou (fun b => w0.heap.size ≤ b) w0 w → Rd N w v (.l 0 rowsA) → MC P fid specF [v] w fun r w' => ∃ r0, r = .tuple #[r0, c] ∧ Tou Old w w' ∧ Rd w'.heap.size w' r0 (.l 0 rowsR)
 impl : ∀ N v w, Tou (fun b => w0.heap.size ≤ b) w0 w → Rd N w v (.l 0 rowsA) → MC P fid implF [v] w fun r w' => ∃ r0, r = .tuple #[r0, c] ∧ ∃ ζ st R, New w w' ζ r0 (.l st R) ∧ erR R = rowsR
 eq : ∀ N M u v w, Tou (fun b => w0.heap.size ≤ b) w0 w → Rd N w u (.l 0 rowsR) → Rd M w v (.l 0 rowsR) → MC P fid eqR [u, v] w fun r w' => r = .bool true ∧ Tou Old w w'
 mark : ∀ R, erR R = rowsR → MarkOK P fid markR R
 held : ∀ R, erR R = rowsR → HeldOK P fid heldR R
def lawB (szA toA specF implF eqR eqA markA markR heldR : Nat) : C :=
 (sR [oT 2 false]
 (sR [oV 3 1048576]
 (sR [om 14 0, om 15 3, oC 16 szA [(.t 14), (.t 15)], om 3 16]
 (.seq (sR [om 17 3, oI 18 .lss 17 0] (.cond (.t 18) (sR [oT 2 true] .ret) .skip))
 (sR [om 20 0, oC 21 toA [(.t 20)], oC 22 specF [(.t 21)], om 19 22, oo 23 (.ext 0 (.t 19)), oo 24 (.ext 1 (.t 19)), om 4 23, om 5 24]
 (sR [om 25 0, oC 26 toA [(.t 25)], om 6 26]
 (sR [om 28 6, oC 29 implF [(.t 28)], om 27 29, oo 30 (.ext 0 (.t 27)), oo 31 (.ext 1 (.t 27)), om 7 30, om 8 31]
 (.seq (sR [om 32 7, om 33 4, oC 34 eqR [(.t 32), (.t 33)], oo 35 (.un .not (.t 34)), om 36 35, og 37 (.mv (.t 8)) 36 false, og 38 (.mv (.t 5)) 36 false, og 39 (.bin .neq .one (.t 37) (.t 38)) 36 false, oo 40 (.pick (.t 36) (xb true) (.t 39))] (.cond (.t 40) (sR [oT 2 false] .ret) .skip))
 (.seq (sR [om 41 6, om 42 0, oC 43 toA [(.t 42)], oC 44 eqA [(.t 41), (.t 43)], oo 45 (.un .not (.t 44))] (.cond (.t 45) (sR [oT 2 false] .ret) .skip))
 (sR [oV 9 1]
 (sR [om 46 6, om 47 9, oC 48 markA [(.t 46), (.t 47)], om 9 48]
 (.seq (sR [om 49 9, oI 50 .lss 49 0, om 51 50, og 52 (.mv (.t 7)) 51 false, og 53 (.mv (.t 4)) 51 false, og 54 (.call (xf eqR) [(.t 52), (.t 53)]) 51 false, og 55 (.un .not (.t 54)) 51 false, oo 56 (.pick (.t 51) (xb true) (.t 55)), om 57 56, og 58 (.mv (.t 8)) 57 false, og 59 (.mv (.t 5)) 57 false, og 60 (.bin .neq .one (.t 58) (.t 59)) 57 false, oo 61 (.pick (.t 57) (xb true) (.t 60))] (.cond (.t 61) (sR [oT 2 false] .ret) .skip))
 (sR [oV 10 1]
 (sR [om 62 7, om 63 10, oC 64 markR [(.t 62), (.t 63)], om 10 64]
 (sR [oV 11 1]
 (sR [om 65 7, om 66 11, oC 67 heldR [(.t 65), (.t 66)], om 11 67]
 (.seq (sR [om 68 11, oI 69 .lss 68 0] (.cond (.t 69) (sR [oT 2 false] .ret) .skip))
 (.seq (sR [om 70 11, om 71 10, oB 72 .neq 70 71] (.cond (.t 72) (sR [oT 2 false] .ret) .skip))
 (sR [om 74 0, oC 75 toA [(.t 74)], oC 76 implF [(.t 75)], om 73 76, oo 77 (.ext 0 (.t 73)), oo 78 (.ext 1 (.t 73)), om 12 77, om 13 78]
 (.seq (sR [om 79 12, om 80 4, oC 81 eqR [(.t 79), (.t 80)], oo 82 (.un .not (.t 81)), om 83 82, og 84 (.mv (.t 13)) 83 false, og 85 (.mv (.t 5)) 83 false, og 86 (.bin .neq .one (.t 84) (.t 85)) 83 false, oo 87 (.pick (.t 83) (xb true) (.t 86))] (.cond (.t 87) (sR [oT 2 false] .ret) .skip))
 (sR [oV 11 1]
 (sR [om 88 7, om 89 11, oC 90 heldR [(.t 88), (.t 89)], om 11 90]
 (.seq (sR [om 91 11, oI 92 .lss 91 0] (.cond (.t 92) (sR [oT 2 false] .ret) .skip))
 (.seq (sR [om 93 11, om 94 10, oB 95 .neq 93 94] (.cond (.t 95) (sR [oT 2 false] .ret) .skip)) (sR [oT 2 true] .ret)))))))))))))))))))))))))
theorem lawB_ok {w0 : World} {a : Value} {rowsA rowsR : List (List D)} {c : Int} {szA toA specF implF eqR eqA markA markR heldR n : Nat} {K : Ex → (Nat → Value) → World → Prop} {τ : Nat → Value} (h0 : τ 0 = a) (hA : 1 + ctR rowsA < 2 ^ 62) (hR : 1 + ctR rowsR < 2 ^ 62)
 (sz : MC P fid szA [a, .int .i64 1048576] w0 fun v w' => Tou Old w0 w' ∧ ∃ k : Int, v = .int .i64 k ∧ (0 ≤ k → Sound P fid w0 a rowsA szA toA eqA markA ∧ Gives2 P fid w0 rowsA rowsR (.int .i64 c) specF implF eqR markR heldR))
 (hK : ∀ τ w, τ 2 = .bool true → Tou (fun b => w0.heap.size ≤ b) w0 w → K .ret τ w) : mwp P fid 96 n (lawB szA toA specF implF eqR eqA markA markR heldR) τ w0 K := by
 unfold lawB; refine mwp_sR ?_
 simp (maxSteps := 2000000) [om, oC, oo, og, on, oV, oT, oI, oB, xf, xi, xb, mregs, mstep, mval, mvals, mmv, mput, mcall, mnot, mbin, mbinb, mpick, mext, binS, upd, h0]; refine stay (Q := fun τ => τ 0 = a) (by simp [upd, h0]) ?_
 clear h0; intro τ h0; refine mwp_sR ?_
 simp (maxSteps := 2000000) [om, oC, oo, og, on, oV, oT, oI, oB, xf, xi, xb, mregs, mstep, mval, mvals, mmv, mput, mcall, mnot, mbin, mbinb, mpick, mext, binS, upd, h0]; refine stay (Q := fun τ => τ 0 = a ∧ τ 3 = .int .i64 1048576) (by simp [upd, h0]) ?_
 clear h0; rintro τ ⟨h0, h3⟩; refine mwp_sR ?_
 simp (maxSteps := 2000000) [om, oC, oo, og, on, oV, oT, oI, oB, xf, xi, xb, mregs, mstep, mval, mvals, mmv, mput, mcall, mnot, mbin, mbinb, mpick, mext, binS, upd, h0, h3]; refine sz.mono ?_
 rintro v w1 ⟨t1, k, rfl, hk⟩; refine stay (Q := fun τ => τ 0 = a ∧ τ 3 = .int .i64 k) (by simp [upd, h0, h3]) ?_
 clear h0 h3; rintro τ ⟨h0, h3⟩
 by_cases hneg : k < 0
 · refine mwp_out (by omega) ?_
   simp [om, oC, oo, og, on, oV, oT, oI, oB, xf, xi, xb, mregs, mstep, mval, mvals, mmv, mput, mcall, mnot, mbin, mbinb, mpick, mext, binS, upd, h0, h3, hneg]; exact hK _ _ (by simp [upd]) t1.old
 obtain ⟨HA, HR⟩ := hk (by omega); refine mwp_test ?_
 simp (maxSteps := 2000000) [om, oC, oo, og, on, oV, oT, oI, oB, xf, xi, xb, mregs, mstep, mval, mvals, mmv, mput, mcall, mnot, mbin, mbinb, mpick, mext, binS, upd, h0, h3, hneg]; refine stay (Q := fun τ => τ 0 = a) (by simp [upd, h0, h3]) ?_
 clear h0 h3; intro τ h0; refine mwp_sR ?_
 simp (maxSteps := 2000000) [om, oC, oo, og, on, oV, oT, oI, oB, xf, xi, xb, mregs, mstep, mval, mvals, mmv, mput, mcall, mnot, mbin, mbinb, mpick, mext, binS, upd, h0]; refine (HA.to w1 t1.old).mono ?_
 rintro v w2 ⟨ζ2, st2, R2, n2, e2⟩; have t2 := t1.trans n2.tou
 try simp
 refine (HR.spec _ _ _ t2.old (n2.rd e2)).mono ?_
 rintro _ w3 ⟨w0v, rfl, g3, r3⟩; have t3 := t2.trans g3
 try simp
 refine stay (Q := fun τ => τ 0 = a ∧ τ 4 = w0v ∧ τ 5 = .int .i64 c) (by simp [upd, h0]) ?_
 clear h0; rintro τ ⟨h0, h4, h5⟩; refine mwp_sR ?_
 simp (maxSteps := 2000000) [om, oC, oo, og, on, oV, oT, oI, oB, xf, xi, xb, mregs, mstep, mval, mvals, mmv, mput, mcall, mnot, mbin, mbinb, mpick, mext, binS, upd, h0, h4, h5]; refine (HA.to w3 t3.old).mono ?_
 rintro x0 w4 ⟨ζx, stx, RX, n4, ex⟩; have t4 := t3.trans n4.tou; refine stay (Q := fun τ => τ 0 = a ∧ τ 4 = w0v ∧ τ 5 = .int .i64 c ∧ τ 6 = x0) (by simp [upd, h0, h4, h5]) ?_
 clear h0 h4 h5; rintro τ ⟨h0, h4, h5, h6⟩; refine mwp_sR ?_
 simp (maxSteps := 2000000) [om, oC, oo, og, on, oV, oT, oI, oB, xf, xi, xb, mregs, mstep, mval, mvals, mmv, mput, mcall, mnot, mbin, mbinb, mpick, mext, binS, upd, h0, h4, h5, h6]; refine (HR.impl _ _ _ t4.old (n4.rd ex)).mono ?_
 rintro _ w5 ⟨g0, rfl, ζg, stg, RG, n5, eg⟩; have t5 := t4.trans n5.tou
 try simp
 refine stay (Q := fun τ => τ 0 = a ∧ τ 4 = w0v ∧ τ 5 = .int .i64 c ∧ τ 6 = x0 ∧ τ 7 = g0 ∧ τ 8 = .int .i64 c) (by simp [upd, h0, h4, h5, h6]) ?_
 clear h0 h4 h5 h6; rintro τ ⟨h0, h4, h5, h6, h7, h8⟩; have r5 := (r3.same n4.tou).same n5.tou; refine mwp_test ?_
 simp (maxSteps := 2000000) [om, oC, oo, og, on, oV, oT, oI, oB, xf, xi, xb, mregs, mstep, mval, mvals, mmv, mput, mcall, mnot, mbin, mbinb, mpick, mext, binS, upd, h0, h4, h5, h6, h7, h8]; refine (HR.eq _ _ _ _ _ t5.old (n5.rd eg) r5).mono ?_
 rintro _ w6 ⟨rfl, g6⟩
 try simp
 have t6 := t5.trans g6; have r6 := r5.same g6; have x6 := (n4.own.same n5.tou).same g6; have o6 := n5.own.same g6; refine stay (Q := fun τ => τ 0 = a ∧ τ 4 = w0v ∧ τ 5 = .int .i64 c ∧ τ 6 = x0 ∧ τ 7 = g0 ∧ τ 8 = .int .i64 c) (by simp [upd, h0, h4, h5, h6, h7, h8]) ?_
 clear h0 h4 h5 h6 h7 h8; rintro τ ⟨h0, h4, h5, h6, h7, h8⟩; refine mwp_test ?_
 simp (maxSteps := 2000000) [om, oC, oo, og, on, oV, oT, oI, oB, xf, xi, xb, mregs, mstep, mval, mvals, mmv, mput, mcall, mnot, mbin, mbinb, mpick, mext, binS, upd, h0, h4, h5, h6, h7, h8]; refine (HA.to w6 t6.old).mono ?_
 rintro v7 w7 ⟨ζ7, st7, R7, n7, e7⟩; have t7 := t6.trans n7.tou
 try simp
 refine (HA.eq _ _ _ _ _ t7.old ((x6.same n7.tou).rd ex) (n7.rd e7)).mono ?_
 rintro _ w8 ⟨rfl, g8⟩
 try simp
 have t8 := t7.trans g8; have g68 := n7.tou.trans g8; have r8 := r6.same g68; have x8 := x6.same g68; have o8 := o6.same g68; refine stay (Q := fun τ => τ 0 = a ∧ τ 4 = w0v ∧ τ 5 = .int .i64 c ∧ τ 6 = x0 ∧ τ 7 = g0 ∧ τ 8 = .int .i64 c) (by simp [upd, h0, h4, h5, h6, h7, h8]) ?_
 clear h0 h4 h5 h6 h7 h8; rintro τ ⟨h0, h4, h5, h6, h7, h8⟩; refine mwp_sR ?_
 simp (maxSteps := 2000000) [om, oC, oo, og, on, oV, oT, oI, oB, xf, xi, xb, mregs, mstep, mval, mvals, mmv, mput, mcall, mnot, mbin, mbinb, mpick, mext, binS, upd, h0, h4, h5, h6, h7, h8]; refine stay (Q := fun τ => τ 0 = a ∧ τ 4 = w0v ∧ τ 5 = .int .i64 c ∧ τ 6 = x0 ∧ τ 7 = g0 ∧ τ 8 = .int .i64 c ∧ τ 9 = .int .i64 1) (by simp [upd, h0, h4, h5, h6, h7, h8]) ?_
 clear h0 h4 h5 h6 h7 h8; rintro τ ⟨h0, h4, h5, h6, h7, h8, h9⟩; refine mwp_sR ?_
 simp (maxSteps := 2000000) [om, oC, oo, og, on, oV, oT, oI, oB, xf, xi, xb, mregs, mstep, mval, mvals, mmv, mput, mcall, mnot, mbin, mbinb, mpick, mext, binS, upd, h0, h4, h5, h6, h7, h8, h9]; have hcx : ctR RX = ctR rowsA := by rw [← ex, ctR_er]
 have hcg : ctR RG = ctR rowsR := by rw [← eg, ctR_er]
 refine (HA.mark RX ex w8 ζx x0 stx 1 n4.inj x8 (by omega)).mono ?_
 rintro _ w9 ⟨rfl, g9, x9⟩; have lx : ∀ b, Sb ζx (D.l stx RX).sts b → w3.heap.size ≤ b := n4.low; have ux : ∀ b, Sb ζx (D.l stx RX).sts b → b < w4.heap.size := n4.own.lt; have lg : ∀ b, Sb ζg (D.l stg RG).sts b → w4.heap.size ≤ b := n5.low; have s03 : w0.heap.size ≤ w3.heap.size := t3.size; have s34 : w3.heap.size ≤ w4.heap.size := n4.tou.size; have t9 : Tou (fun b => w0.heap.size ≤ b) w0 w9 := t8.old.trans (g9.mono fun b hb => by have := lx b hb; omega); have r9 := r8.tou g9 (fun b hb => lx b hb); have o9 := o8.tou g9 (fun b hb hx => by have := ux b hx; have := lg b hb; omega)
 refine stay (Q := fun τ => τ 0 = a ∧ τ 4 = w0v ∧ τ 5 = .int .i64 c ∧ τ 6 = x0 ∧ τ 7 = g0 ∧ τ 8 = .int .i64 c ∧ τ 9 = .int .i64 ((1 + ctR RX : Nat) : Int)) (by simp [upd, h0, h4, h5, h6, h7, h8, h9]) ?_
 clear h0 h4 h5 h6 h7 h8 h9; rintro τ ⟨h0, h4, h5, h6, h7, h8, h9⟩; have hpos : ¬ ((1 + ctR RX : Nat) : Int) < 0 := by omega
 have hpos' : ¬ (1 + (ctR RX : Int)) < 0 := by omega
 refine mwp_test ?_
 simp (maxSteps := 2000000) [om, oC, oo, og, on, oV, oT, oI, oB, xf, xi, xb, mregs, mstep, mval, mvals, mmv, mput, mcall, mnot, mbin, mbinb, mpick, mext, binS, upd, h0, h4, h5, h6, h7, h8, h9, hpos, hpos']; refine (HR.eq _ _ _ _ _ t9 (o9.rd eg) r9).mono ?_
 rintro _ w10 ⟨rfl, g10⟩
 try simp
 have t10 : Tou (fun b => w0.heap.size ≤ b) w0 w10 := t9.trans g10.old; have r10 := r9.same g10; have o10 := o9.same g10; refine stay (Q := fun τ => τ 0 = a ∧ τ 4 = w0v ∧ τ 5 = .int .i64 c ∧ τ 7 = g0) (by simp [upd, h0, h4, h5, h6, h7, h8, h9]) ?_
 clear h0 h4 h5 h6 h7 h8 h9; rintro τ ⟨h0, h4, h5, h7⟩; refine mwp_sR ?_
 simp (maxSteps := 2000000) [om, oC, oo, og, on, oV, oT, oI, oB, xf, xi, xb, mregs, mstep, mval, mvals, mmv, mput, mcall, mnot, mbin, mbinb, mpick, mext, binS, upd, h0, h4, h5, h7]; refine stay (Q := fun τ => τ 0 = a ∧ τ 4 = w0v ∧ τ 5 = .int .i64 c ∧ τ 7 = g0 ∧ τ 10 = .int .i64 1) (by simp [upd, h0, h4, h5, h7]) ?_
 clear h0 h4 h5 h7; rintro τ ⟨h0, h4, h5, h7, h10⟩; refine mwp_sR ?_
 simp (maxSteps := 2000000) [om, oC, oo, og, on, oV, oT, oI, oB, xf, xi, xb, mregs, mstep, mval, mvals, mmv, mput, mcall, mnot, mbin, mbinb, mpick, mext, binS, upd, h0, h4, h5, h7, h10]; refine (HR.mark RG eg w10 ζg g0 stg 1 n5.inj o10 (by omega)).mono ?_
 rintro _ w11 ⟨rfl, g11, o11⟩; have t11 : Tou (fun b => w0.heap.size ≤ b) w0 w11 := t10.trans (g11.mono fun b hb => by have := lg b hb; omega); have r11 := r10.tou g11 (fun b hb => by have := lg b hb; omega); refine stay (Q := fun τ => τ 0 = a ∧ τ 4 = w0v ∧ τ 5 = .int .i64 c ∧ τ 7 = g0 ∧ τ 10 = .int .i64 ((1 + ctR RG : Nat) : Int)) (by simp [upd, h0, h4, h5, h7, h10]) ?_
 clear h0 h4 h5 h7 h10; rintro τ ⟨h0, h4, h5, h7, h10⟩; refine mwp_sR ?_
 simp (maxSteps := 2000000) [om, oC, oo, og, on, oV, oT, oI, oB, xf, xi, xb, mregs, mstep, mval, mvals, mmv, mput, mcall, mnot, mbin, mbinb, mpick, mext, binS, upd, h0, h4, h5, h7, h10]; refine stay (Q := fun τ => τ 0 = a ∧ τ 4 = w0v ∧ τ 5 = .int .i64 c ∧ τ 7 = g0 ∧ τ 10 = .int .i64 ((1 + ctR RG : Nat) : Int) ∧ τ 11 = .int .i64 1) (by simp [upd, h0, h4, h5, h7, h10]) ?_
 clear h0 h4 h5 h7 h10; rintro τ ⟨h0, h4, h5, h7, h10, h11⟩; refine mwp_sR ?_
 simp (maxSteps := 2000000) [om, oC, oo, og, on, oV, oT, oI, oB, xf, xi, xb, mregs, mstep, mval, mvals, mmv, mput, mcall, mnot, mbin, mbinb, mpick, mext, binS, upd, h0, h4, h5, h7, h10, h11]; refine (HR.held RG eg w11 ζg g0 stg 1 o11 (by omega)).mono ?_
 rintro _ _ ⟨rfl, rfl⟩; refine stay (Q := fun τ => τ 0 = a ∧ τ 4 = w0v ∧ τ 5 = .int .i64 c ∧ τ 7 = g0 ∧ τ 10 = .int .i64 ((1 + ctR RG : Nat) : Int) ∧ τ 11 = .int .i64 ((1 + ctR RG : Nat) : Int)) (by simp [upd, h0, h4, h5, h7, h10, h11]) ?_
 clear h0 h4 h5 h7 h10 h11; rintro τ ⟨h0, h4, h5, h7, h10, h11⟩; have hq : ¬ ((1 + ctR RG : Nat) : Int) < 0 := by omega
 have hq' : ¬ (1 + (ctR RG : Int)) < 0 := by omega
 refine mwp_test ?_
 simp (maxSteps := 2000000) [om, oC, oo, og, on, oV, oT, oI, oB, xf, xi, xb, mregs, mstep, mval, mvals, mmv, mput, mcall, mnot, mbin, mbinb, mpick, mext, binS, upd, h0, h4, h5, h7, h10, h11, hq, hq']; refine stay (Q := fun τ => τ 0 = a ∧ τ 4 = w0v ∧ τ 5 = .int .i64 c ∧ τ 7 = g0 ∧ τ 10 = .int .i64 ((1 + ctR RG : Nat) : Int) ∧ τ 11 = .int .i64 ((1 + ctR RG : Nat) : Int)) (by simp [upd, h0, h4, h5, h7, h10, h11]) ?_
 clear h0 h4 h5 h7 h10 h11; rintro τ ⟨h0, h4, h5, h7, h10, h11⟩; refine mwp_test ?_
 simp (maxSteps := 2000000) [om, oC, oo, og, on, oV, oT, oI, oB, xf, xi, xb, mregs, mstep, mval, mvals, mmv, mput, mcall, mnot, mbin, mbinb, mpick, mext, binS, upd, h0, h4, h5, h7, h10, h11]; refine stay (Q := fun τ => τ 0 = a ∧ τ 4 = w0v ∧ τ 5 = .int .i64 c ∧ τ 7 = g0 ∧ τ 10 = .int .i64 ((1 + ctR RG : Nat) : Int)) (by simp [upd, h0, h4, h5, h7, h10, h11]) ?_
 clear h0 h4 h5 h7 h10 h11; rintro τ ⟨h0, h4, h5, h7, h10⟩; refine mwp_sR ?_
 simp (maxSteps := 2000000) [om, oC, oo, og, on, oV, oT, oI, oB, xf, xi, xb, mregs, mstep, mval, mvals, mmv, mput, mcall, mnot, mbin, mbinb, mpick, mext, binS, upd, h0, h4, h5, h7, h10]; refine (HA.to _ t11).mono ?_
 rintro v12 w12 ⟨ζ12, st12, R12, n12, e12⟩; have t12 := t11.trans n12.tou.old
 try simp
 refine (HR.impl _ _ _ t12 (n12.rd e12)).mono ?_
 rintro _ w13 ⟨v13, rfl, ζ13, st13, R13, n13, e13⟩; have t13 := t12.trans n13.tou.old
 try simp
 have r13 := (r11.same n12.tou).same n13.tou; have o13 := (o11.same n12.tou).same n13.tou; refine stay (Q := fun τ => τ 0 = a ∧ τ 4 = w0v ∧ τ 5 = .int .i64 c ∧ τ 7 = g0 ∧ τ 10 = .int .i64 ((1 + ctR RG : Nat) : Int) ∧ τ 12 = v13 ∧ τ 13 = .int .i64 c) (by simp [upd, h0, h4, h5, h7, h10]) ?_
 clear h0 h4 h5 h7 h10; rintro τ ⟨h0, h4, h5, h7, h10, h12, h13⟩; refine mwp_test ?_
 simp (maxSteps := 2000000) [om, oC, oo, og, on, oV, oT, oI, oB, xf, xi, xb, mregs, mstep, mval, mvals, mmv, mput, mcall, mnot, mbin, mbinb, mpick, mext, binS, upd, h0, h4, h5, h7, h10, h12, h13]; refine (HR.eq _ _ _ _ _ t13 (n13.rd e13) r13).mono ?_
 rintro _ w14 ⟨rfl, g14⟩
 try simp
 have t14 := t13.trans g14.old; have o14 := o13.same g14; refine stay (Q := fun τ => τ 7 = g0 ∧ τ 10 = .int .i64 ((1 + ctR RG : Nat) : Int)) (by simp [upd, h0, h4, h5, h7, h10, h12, h13]) ?_
 clear h0 h4 h5 h7 h10 h12 h13; rintro τ ⟨h7, h10⟩; refine mwp_sR ?_
 simp (maxSteps := 2000000) [om, oC, oo, og, on, oV, oT, oI, oB, xf, xi, xb, mregs, mstep, mval, mvals, mmv, mput, mcall, mnot, mbin, mbinb, mpick, mext, binS, upd, h7, h10]; refine stay (Q := fun τ => τ 7 = g0 ∧ τ 10 = .int .i64 ((1 + ctR RG : Nat) : Int) ∧ τ 11 = .int .i64 1) (by simp [upd, h7, h10]) ?_
 clear h7 h10; rintro τ ⟨h7, h10, h11⟩; refine mwp_sR ?_
 simp (maxSteps := 2000000) [om, oC, oo, og, on, oV, oT, oI, oB, xf, xi, xb, mregs, mstep, mval, mvals, mmv, mput, mcall, mnot, mbin, mbinb, mpick, mext, binS, upd, h7, h10, h11]; refine (HR.held RG eg w14 ζg g0 stg 1 o14 (by omega)).mono ?_
 rintro _ _ ⟨rfl, rfl⟩; refine stay (Q := fun τ => τ 7 = g0 ∧ τ 10 = .int .i64 ((1 + ctR RG : Nat) : Int) ∧ τ 11 = .int .i64 ((1 + ctR RG : Nat) : Int)) (by simp [upd, h7, h10, h11]) ?_
 clear h7 h10 h11; rintro τ ⟨h7, h10, h11⟩; refine mwp_test ?_
 simp (maxSteps := 2000000) [om, oC, oo, og, on, oV, oT, oI, oB, xf, xi, xb, mregs, mstep, mval, mvals, mmv, mput, mcall, mnot, mbin, mbinb, mpick, mext, binS, upd, h7, h10, h11, hq, hq']; refine stay (Q := fun τ => τ 7 = g0 ∧ τ 10 = .int .i64 ((1 + ctR RG : Nat) : Int) ∧ τ 11 = .int .i64 ((1 + ctR RG : Nat) : Int)) (by simp [upd, h7, h10, h11]) ?_
 clear h7 h10 h11; rintro τ ⟨h7, h10, h11⟩; refine mwp_test ?_
 simp (maxSteps := 2000000) [om, oC, oo, og, on, oV, oT, oI, oB, xf, xi, xb, mregs, mstep, mval, mvals, mmv, mput, mcall, mnot, mbin, mbinb, mpick, mext, binS, upd, h7, h10, h11]; refine stay (Q := fun τ => τ 7 = g0 ∧ τ 10 = .int .i64 ((1 + ctR RG : Nat) : Int)) (by simp [upd, h7, h10, h11]) ?_
 clear h7 h10 h11; rintro τ ⟨h7, h10⟩; refine mwp_sR ?_
 simp (maxSteps := 2000000) [om, oC, oo, og, on, oV, oT, oI, oB, xf, xi, xb, mregs, mstep, mval, mvals, mmv, mput, mcall, mnot, mbin, mbinb, mpick, mext, binS, upd]; unfold mwp; exact hK _ _ (by simp [upd]) t14
end
end Go.VM
