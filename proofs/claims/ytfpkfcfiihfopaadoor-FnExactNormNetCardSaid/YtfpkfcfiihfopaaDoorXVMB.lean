/- The value machine: reslicing, parts of aggregates, comparisons, function values, max and min. Conditions: none. -/
import Derived.Test.YtfpkfcfiihfopaaDoorXVMA
import Derived.Laws.StructEq
import Derived.Laws.AppendOwn

namespace Go.VM
set_option linter.unusedVariables false
set_option linter.unusedSimpArgs false
set_option linter.unusedSectionVars false
section
variable {P : Program} {fid : Nat → FuncId} {cid : FuncId → Nat} {G : Nat → Option (List D)} {E : Entry} {κ : Ctx} {H : Nat → Box} {FN FZ : Nat → Prop} {g : Nat} {s : Sup}
variable {ρ : Operand → Value} {ev : X → V} {o : Oper}
def topOf (m : Option Int) (cap : Nat) : Nat := match m with | some m => m.toNat | none => cap
theorem optInt_rel (hev : ∀ x X, stripX cid x = some X → VRel fid κ (ρ x) (ev X)) {x : Option Operand} {X : Option X} {r : Option Int} (hX : stripXo cid x = some X) (h : optInt ev X = some r) :
 (x = none ∧ r = none) ∨ ∃ y k n, x = some y ∧ ρ y = .int k n ∧ r = some n := by
 cases x with
 | none => simp [stripXo] at hX; subst hX; simp [optInt] at h; exact .inl ⟨rfl, h.symm⟩
 | some y =>
  simp only [stripXo] at hX; cases hs : stripX cid y with
  | none => simp [hs] at hX
  | some Y =>
   simp [hs] at hX; subst hX
   simp only [optInt] at h; split at h
   · rename_i k n hi
     cases h
     exact .inr ⟨y, k, n, rfl, int?_rel (hev y Y hs) hi, rfl⟩
   · cases h
theorem run_sliceBound {w : World} (k : IntKind) (i : Int) (y : Nat) (c : BoundsCode) (h : 0 ≤ i ∧ i ≤ y) : (Instr.sliceBound (.int k i) y c).run P w = .ok i.toNat w := by
 simp [Instr.sliceBound, asIntOf, h]
theorem run_bounds {w : World} {isS : Bool} {len cap : Nat} {lo hi mx : Option Operand} {l h m : Option Int} (hlc : len ≤ cap)
 (hl : (lo = none ∧ l = none) ∨ ∃ y k n, lo = some y ∧ ρ y = .int k n ∧ l = some n) (hh : (hi = none ∧ h = none) ∨ ∃ y k n, hi = some y ∧ ρ y = .int k n ∧ h = some n)
 (hm : (mx = none ∧ m = none) ∨ ∃ y k n, mx = some y ∧ ρ y = .int k n ∧ m = some n)
 (h0 : 0 ≤ l.getD 0 ∧ l.getD 0 ≤ h.getD len ∧ h.getD len ≤ m.getD len ∧ m.getD len ≤ len) (hmh : m.isSome → h.isSome) :
 (Instr.sliceBounds isS len cap (lo.map ρ) (hi.map ρ) (mx.map ρ)).run P w = .ok ((l.getD 0).toNat, (h.getD len).toNat, topOf m cap) w := by
 unfold topOf; obtain ⟨h1, h2, h3, h4⟩ := h0; rcases hm with ⟨rfl, rfl⟩ | ⟨ym, km, m, rfl, hρm, rfl⟩
 · rcases hh with ⟨rfl, rfl⟩ | ⟨yh, kh, h, rfl, hρh, rfl⟩ <;> rcases hl with ⟨rfl, rfl⟩ | ⟨yl, kl, l, rfl, hρl, rfl⟩ <;>
    simp only [Option.getD_none, Option.getD_some] at h1 h2 h3 h4 ⊢ <;>
    simp [Instr.sliceBounds, *] <;>
    (repeat (first
     | rw [run_sliceBound _ _ _ _ ⟨by omega, by omega⟩]
     | simp))
 · rcases hh with ⟨rfl, rfl⟩ | ⟨yh, kh, h, rfl, hρh, rfl⟩
   · exact absurd (hmh rfl) (by simp)
   · rcases hl with ⟨rfl, rfl⟩ | ⟨yl, kl, l, rfl, hρl, rfl⟩ <;>
     simp only [Option.getD_none, Option.getD_some] at h1 h2 h3 h4 ⊢ <;>
     simp [Instr.sliceBounds, *] <;>
     (repeat (first
      | rw [run_sliceBound _ _ _ _ ⟨by omega, by omega⟩]
      | simp))
theorem run_slice {w : World} {t e0 : TypeId} {n : Nat} {x : Operand} {a : Option Addr} {len cap : Nat} {lo hi mx : Option Operand} {L U M : Nat} (ho : o.op = .slice t x lo hi mx)
 (hu : P.underlying t = some (.slice e0)) (hn : sz? P e0 = some n) (hx : ρ x = .slice a len cap)
 (hb : (Instr.sliceBounds true len cap (lo.map ρ) (hi.map ρ) (mx.map ρ)).run P w = .ok (L, U, M) w) :
 (execOp ρ o).run P w = .ok (.value (.slice (if M = L then a else a.map (·.add (L * n))) (U - L) (M - L))) w := by
 simp [execOp, ho, Instr.sliceAt, run_underlying hu, Instr.slice, hx, hb, run_sz hn]
section ops
variable (I : Inv fid G E κ H FN FZ) (hev : ∀ x X, stripX cid x = some X → VRel fid κ (ρ x) (ev X))
include I hev
theorem good_sl_own {t e0 : TypeId} {n : Nat} {x : Operand} {lo hi mx : Option Operand} {Xx : X} {LO HI MX : Option X} {l h m : Option Int} {b off len ro : Nat} {cap : Option Nat} {st : Option Nat} {rows : List (List D)} {tt : List Nat} {e : Eff}
 (ho : o.op = .slice t x lo hi mx) (hu : P.underlying t = some (.slice e0)) (hn : sz? P e0 = some n) (hX : stripX cid x = some Xx) (hLO : stripXo cid lo = some LO) (hHI : stripXo cid hi = some HI) (hMX : stripXo cid mx = some MX)
 (hl : optInt ev LO = some l) (hh : optInt ev HI = some h) (hm : optInt ev MX = some m) (hy : ev Xx = .w (.own b off len cap)) (hH : H b = .row st n rows ro)
 (h0 : 0 ≤ l.getD 0 ∧ l.getD 0 ≤ h.getD len ∧ h.getD len ≤ m.getD len ∧ m.getD len ≤ len) (hmh : m.isSome → h.isSome)
 (he : e = ⟨.w (.own b (off + (l.getD 0).toNat) ((h.getD len).toNat - (l.getD 0).toNat) (newCap m cap (l.getD 0).toNat)), H, tt, false⟩) :
 Good P fid G E κ FN FZ g s ρ o e := by
 subst he; have hr := hev x Xx hX; rw [hy] at hr; obtain ⟨h1, h2, h3, h4⟩ := id h0; obtain ⟨inf, cap', hb, hc, hlc, hv⟩ := hr; have hbox := I.box b; rw [hH] at hbox; obtain ⟨i'', hb'', hsz, _, _⟩ := hbox; rw [hb] at hb''; cases hb''
 have hbnd := run_bounds (P := P) (w := κ.w) (isS := true) (cap := cap') hlc (optInt_rel hev hLO hl) (optInt_rel hev hHI hh) (optInt_rel hev hMX hm) h0 hmh; have hM : topOf m cap' ≤ cap' ∧ (h.getD len).toNat ≤ topOf m cap' := by
  unfold topOf; cases m with
  | none => simp at h3 h4 ⊢; omega
  | some m => simp at h3 h4 ⊢; omega
 have hcap : newCap m cap (l.getD 0).toNat = none ∨
  newCap m cap (l.getD 0).toNat = some (topOf m cap' - (l.getD 0).toNat) := by
  unfold newCap topOf; cases m with
  | some m => exact .inr rfl
  | none => rcases hc with rfl | rfl; exact .inl rfl; exact .inr rfl
 generalize topOf m cap' = M at hbnd hM hcap; rcases hv with ⟨hv, rfl, rfl⟩ | ⟨hreal, o', hv, ho'⟩
 · have hv' : ρ x = .slice none 0 0 := hv
   have hL : (l.getD 0).toNat = 0 := by simp at h2 h3 h4; omega
   have hU : (h.getD ((0 : Nat) : Int)).toNat = 0 := by simp at h2 h3 h4 ⊢; omega
   have hM0 : M = 0 := by omega
   refine good_pure I (run_slice ho hu hn hv' hbnd) ⟨inf, 0, hb, ?_, by omega, .inl ⟨?_, by omega, rfl⟩⟩
   · rw [hM0, hL] at hcap; rw [hL]; simpa using hcap
   · rw [hM0, hL]; simp at hU ⊢; omega
 · have hv' : ρ x = .slice (some ⟨inf.blk, o', none⟩) len cap' := hv
   refine good_pure I (run_slice ho hu hn hv' hbnd) ⟨inf, M - (l.getD 0).toNat, hb, hcap, by omega, .inr ⟨hreal, ?_⟩⟩
   by_cases hML : M = (l.getD 0).toNat
   · exact ⟨o', by rw [if_pos hML], .inl (by omega)⟩
   · refine ⟨o' + (l.getD 0).toNat * n, by rw [if_neg hML]; simp [Addr.add_none], ?_⟩
     rcases ho' with h | ⟨ho1, ho2⟩
     · left; omega
     · right
       rw [hsz] at ho1 ho2 ⊢; refine ⟨by rw [ho1, Nat.add_mul]; omega, ?_⟩
       have : (l.getD 0).toNat * n + (M - (l.getD 0).toNat) * n ≤ cap' * n := by rw [← Nat.add_mul]; exact Nat.mul_le_mul_right _ (by omega)
       omega
theorem sl_data {t e0 : TypeId} {n : Nat} {x : Operand} {lo hi mx : Option Operand} {LO HI MX : Option X} {l h m : Option Int} {st : Nat} {rows : List (List D)} {vx : Value}
 (ho : o.op = .slice t x lo hi mx) (hu : P.underlying t = some (.slice e0)) (hn : sz? P e0 = some n) (hLO : stripXo cid lo = some LO) (hHI : stripXo cid hi = some HI) (hMX : stripXo cid mx = some MX)
 (hl : optInt ev LO = some l) (hh : optInt ev HI = some h) (hm : optInt ev MX = some m) (hvx : ρ x = vx) (hr : κ.rel vx (.l st rows)) (hall : rows.all (·.length == n) = true)
 (h0 : 0 ≤ l.getD 0 ∧ l.getD 0 ≤ h.getD rows.length ∧ h.getD rows.length ≤ m.getD rows.length ∧ m.getD rows.length ≤ rows.length) (hmh : m.isSome → h.isSome) :
 ∃ v, (execOp ρ o).run P κ.w = .ok (.value v) κ.w ∧ κ.rel v (.l st ((rows.drop (l.getD 0).toNat).take ((h.getD rows.length).toNat - (l.getD 0).toNat))) ∧ (vx ≠ .slice none 0 0 → v ≠ .slice none 0 0) := by
 obtain ⟨h1, h2, h3, h4⟩ := id h0; cases hr with
 | nil st =>
  have hbnd := run_bounds (P := P) (w := κ.w) (isS := true) (len := 0) (cap := 0) (Nat.le_refl _) (optInt_rel hev hLO hl) (optInt_rel hev hHI hh) (optInt_rel hev hMX hm) (by simpa using h0) hmh; refine ⟨_, run_slice ho hu hn hvx hbnd, ?_, fun h => absurd rfl h⟩
  have hL : (l.getD 0).toNat = 0 := by simp at h2 h3 h4; omega
  have hU : (h.getD ((0 : Nat) : Int)).toNat = 0 := by simp at h2 h3 h4 ⊢; omega
  have hM0 : topOf m 0 = 0 := by
   unfold topOf; cases m with
   | none => rfl
   | some m => simp at h4 h3 ⊢; omega
  rw [hL, hU, hM0]; simp; exact .nil st
 | e a =>
  have hbnd := run_bounds (P := P) (w := κ.w) (isS := true) (len := 0) (cap := 0) (Nat.le_refl _) (optInt_rel hev hLO hl) (optInt_rel hev hHI hh) (optInt_rel hev hMX hm) (by simpa using h0) hmh; refine ⟨_, run_slice ho hu hn hvx hbnd, ?_, fun _ => by split <;> simp⟩
  have hL : (l.getD 0).toNat = 0 := by simp at h2 h3 h4; omega
  have hU : (h.getD ((0 : Nat) : Int)).toNat = 0 := by simp at h2 h3 h4 ⊢; omega
  have hM0 : topOf m 0 = 0 := by
   unfold topOf; cases m with
   | none => rfl
   | some m => simp at h4 h3 ⊢; omega
  rw [hL, hU, hM0]; simp; exact .e a
 | l _ _ blk o' cap sz f hlen hcap hb hcell him hrel hst =>
  have hbnd := run_bounds (P := P) (w := κ.w) (isS := true) (cap := cap) hcap (optInt_rel hev hLO hl) (optInt_rel hev hHI hh) (optInt_rel hev hMX hm) h0 hmh; refine ⟨_, run_slice ho hu hn hvx hbnd, ?_, fun _ => by split <;> simp⟩
  have hM : topOf m cap ≤ cap ∧ (h.getD rows.length).toNat ≤ topOf m cap := by
   unfold topOf; cases m with
   | none => simp at h3 h4 ⊢; omega
   | some m => simp at h3 h4 ⊢; omega
  generalize topOf m cap = M at hbnd hM; generalize hLn : (l.getD 0).toNat = L at hM ⊢; generalize hUn : (h.getD (rows.length : Int)).toNat = U at hM ⊢; have hLU : L ≤ U := by omega
  have hUr : U ≤ rows.length := by omega
  have hll : ((rows.drop L).take (U - L)).length = U - L := by simp; omega
  by_cases hML : M = L
  · have hUL : U - L = 0 := by omega
    rw [if_pos hML, hUL]; have : M - L = 0 := by omega
    rw [this]; simp only [List.take_zero]; exact .l st [] blk o' 0 n f (by simp) (by simp) hb (by simp) (by simp) (by simp) hst
  · rw [if_neg hML]
    simp only [Option.map_some, Addr.add_none]
    suffices key : κ.rel (.slice (some ⟨blk, o' + L * n, none⟩) ((rows.drop L).take (U - L)).length (M - L)) (.l st ((rows.drop L).take (U - L))) by rw [hll] at key; exact key
    have hn' : ∀ row ∈ rows, row.length = n := by simpa using hall
    refine .l st _ blk (o' + L * n) (M - L) n (fun i j => f (L + i) j) ?_ (by rw [hll]; omega) hb ?_ ?_ ?_ hst
    · intro i row hi
      rw [seg_get] at hi; split at hi
      · exact hn' row (List.mem_of_getElem? hi)
      · cases hi
    · intro i j hi hj
      rw [hll] at hi; have h1 : L + i < rows.length := by omega
      have hs : sz = n := by rw [← hlen _ _ (List.getElem?_eq_getElem h1)]; exact hn' _ (List.getElem_mem h1)
      subst hs; have := hcell (L + i) j h1 hj; rw [← this]; congr 2; rw [Nat.add_mul]; omega
    · intro i j hi hj
      rw [hll] at hi; have h1 : L + i < rows.length := by omega
      have hs : sz = n := by rw [← hlen _ _ (List.getElem?_eq_getElem h1)]; exact hn' _ (List.getElem_mem h1)
      subst hs; have := him (L + i) j h1 hj; have e : o' + (L + i) * sz + j = o' + L * sz + i * sz + j := by rw [Nat.add_mul]; omega
      rwa [e] at this
    · intro i row j x hi hj
      rw [seg_get] at hi; split at hi
      · exact hrel _ row j x hi hj
      · cases hi
theorem good_sl_nil {t e0 : TypeId} {n : Nat} {x : Operand} {lo hi mx : Option Operand} {Xx : X} {LO HI MX : Option X} {l h m : Option Int} {e : Eff}
 (ho : o.op = .slice t x lo hi mx) (hu : P.underlying t = some (.slice e0)) (hn : sz? P e0 = some n) (hX : stripX cid x = some Xx) (hLO : stripXo cid lo = some LO) (hHI : stripXo cid hi = some HI) (hMX : stripXo cid mx = some MX)
 (hl : optInt ev LO = some l) (hh : optInt ev HI = some h) (hm : optInt ev MX = some m) (hy : ev Xx = .w .nil)
 (h0 : 0 ≤ l.getD 0 ∧ l.getD 0 ≤ h.getD (0 : Nat) ∧ h.getD (0 : Nat) ≤ m.getD (0 : Nat) ∧ m.getD (0 : Nat) ≤ (0 : Nat)) (hmh : m.isSome → h.isSome) (he : e = ⟨.w .nil, H, [], false⟩) : Good P fid G E κ FN FZ g s ρ o e := by
 subst he; have hr := hev x Xx hX; rw [hy] at hr; obtain ⟨h1, h2, h3, h4⟩ := id h0; have hbnd := run_bounds (P := P) (w := κ.w) (isS := true) (len := 0) (cap := 0) (Nat.le_refl _) (optInt_rel hev hLO hl) (optInt_rel hev hHI hh) (optInt_rel hev hMX hm) h0 hmh; have hv' : ρ x = .slice none 0 0 := hr; refine good_pure I (run_slice ho hu hn hv' hbnd) ?_
 have hL : (l.getD 0).toNat = 0 := by omega
 have hU : (h.getD ((0 : Nat) : Int)).toNat = 0 := by omega
 have hM0 : topOf m 0 = 0 := by
  unfold topOf; cases m with
  | none => rfl
  | some m => simp at h4 h3 ⊢; omega
 rw [hL, hU, hM0]; rfl
theorem good_sls {t : TypeId} {x : Operand} {lo hi : Option Operand} {Xx : X} {LO HI : Option X} {l h : Option Int} {b : ByteArray} {e : Eff}
 (ho : o.op = .slice t x lo hi none) (hu : P.underlying t = some .string) (hX : stripX cid x = some Xx) (hLO : stripXo cid lo = some LO) (hHI : stripXo cid hi = some HI)
 (hs : (ev Xx).s? = some (.string b)) (hl : optInt ev LO = some l) (hh : optInt ev HI = some h)
 (h0 : 0 ≤ l.getD 0 ∧ l.getD 0 ≤ h.getD b.size ∧ h.getD b.size ≤ b.size) (he : ret0 H (some (sV (.string (b.extract (l.getD 0).toNat (h.getD b.size).toNat)))) = some e) : Good P fid G E κ FN FZ g s ρ o e := by
 obtain ⟨v, hv, rfl⟩ := ret0_some he; cases hv
 have hbnd := run_bounds (P := P) (w := κ.w) (isS := false) (len := b.size) (cap := b.size) (mx := none) (m := none) (Nat.le_refl _) (optInt_rel hev hLO hl) (optInt_rel hev hHI hh) (.inl ⟨rfl, rfl⟩)
  ⟨h0.1, h0.2.1, by simpa using h0.2.2, by simp⟩ (by simp)
 simp only [Option.map_none] at hbnd; exact good_pure I (v := .string (b.extract (l.getD 0).toNat (h.getD b.size).toNat)) (by simp [execOp, ho, Instr.sliceAt, run_underlying hu, Instr.slice, wrel_s (hev x Xx hX) hs, hbnd]) (sV_rel rfl)
omit I hev in
theorem run_part {w : World} {t : TypeId} {a : Bool} {n : Nat} (ha : agg? P t = some a) (hn : sz? P t = some n) (h1 : (a || n == 1) = true) {cs : Array Value} {off : Nat} (hf : off + n ≤ cs.size) :
 ∃ v, (part t cs off).run P w = .ok v w ∧ (a = true → v = .agg ((cs.toList.drop off).take n).toArray) ∧ (a = false → (cs.toList.drop off).take n = [v]) := by
 cases a with
 | true =>
  refine ⟨.agg (cs.extract off (off + n)), by simp [part, run_agg ha, run_sz hn], fun _ => ?_, by simp⟩
  congr 1
  apply Array.ext'
  simp
 | false =>
  simp at h1; subst h1
  have h2 : off < cs.size := by omega
  refine ⟨cs[off], by simp [part, run_agg ha, h2], by simp, fun _ => ?_⟩
  rw [List.drop_eq_getElem_cons (by simpa using h2)]; simp
theorem good_fld {t : TypeId} {x : Operand} {Xx : X} {fs : Array Field} {i n : Nat} {f : Field} {a : Bool} {cs p : List W} {v : V} {e : Eff} (ho : o.op = .field t x i) (hu : P.underlying t = some (.struct fs)) (hf : fs[i]? = some f)
 (ha : agg? P f.type = some a) (hn : sz? P f.type = some n) (h1 : (a || n == 1) = true) (hX : stripX cid x = some Xx) (hv : ev Xx = .agg cs) (hp : part? cs f.offset n = some p) (hm : mkV a p = some v) (he : e = ⟨v, H, [], false⟩) :
 Good P fid G E κ FN FZ g s ρ o e := by
 subst he; have hr := hev x Xx hX; rw [hv] at hr; obtain ⟨arr, hx, hl, hc⟩ := hr; obtain ⟨hfit, hpl, hpg⟩ := part?_some hp; obtain ⟨u, hrun, hu1, hu2⟩ := run_part (P := P) (w := κ.w) ha hn h1 (cs := arr) (off := f.offset) (by omega); have hx' : ρ x = .agg arr := hx; refine good_pure I (v := u) (by simp [execOp, ho, Instr.field, run_underlying hu, hf, hx', asAgg, hrun]) (mkV_rel hm (by simp; omega) (fun j c hj => ?_) hu1 hu2)
 rw [hpg] at hj; rw [seg_get]; split at hj
 · rename_i hjn; rw [if_pos hjn]; simpa using hc _ c hj
 · cases hj
theorem good_ixa {t e0 : TypeId} {x i : Operand} {J Xx : X} {len n : Nat} {k : IntKind} {j : Int} {a : Bool} {cs p : List W} {v : V} {e : Eff} (ho : o.op = .index t x i) (hu : P.underlying t = some (.array len e0))
 (ha : agg? P e0 = some a) (hn : sz? P e0 = some n) (h1 : (a || n == 1) = true) (hX : stripX cid x = some Xx) (hJ : stripX cid i = some J) (hj : (ev J).int? = some (k, j)) (h0 : 0 ≤ j ∧ j < len)
 (hv : ev Xx = .agg cs) (hp : part? cs (j.toNat * n) n = some p) (hm : mkV a p = some v) (he : e = ⟨v, H, [], false⟩) : Good P fid G E κ FN FZ g s ρ o e := by
 subst he; have hr := hev x Xx hX; rw [hv] at hr; obtain ⟨arr, hx, hl, hc⟩ := hr; obtain ⟨hfit, hpl, hpg⟩ := part?_some hp; obtain ⟨u, hrun, hu1, hu2⟩ := run_part (P := P) (w := κ.w) ha hn h1 (cs := arr) (off := j.toNat * n) (by omega); have hx' : ρ x = .agg arr := hx; refine good_pure I (v := u) (by simp [execOp, ho, Instr.index, asIntOf, run_underlying hu, int?_rel (hev i J hJ) hj, hx', h0, run_sz hn, hrun]) (mkV_rel hm (by simp; omega) (fun j c hj => ?_) hu1 hu2)
 rw [hpg] at hj; rw [seg_get]; split at hj
 · rename_i hjn; rw [if_pos hjn]; simpa using hc _ c hj
 · cases hj
omit I hev in
theorem stripXs_rel : ∀ {l : List Operand} {L : List X}, stripXs cid l = some L → l.length = L.length ∧ ∀ (i : Nat) (x : X), L[i]? = some x → ∃ y, l[i]? = some y ∧ stripX cid y = some x
 | [], L, h => by simp [stripXs] at h; subst h; simp
 | x :: r, L, h => by
  simp only [stripXs] at h; split at h
  · rename_i y l hy hl
    cases h
    obtain ⟨h1, h2⟩ := stripXs_rel hl; refine ⟨by simp [h1], fun i c hi => ?_⟩
    match i with
    | 0 => simp at hi; subst hi; exact ⟨x, rfl, hy⟩
    | i + 1 => simpa using h2 i c (by simpa using hi)
  · cases h
omit I hev in
theorem capsOf_rel : ∀ {l : List V} {L : List Cap}, capsOf l = some L → l.length = L.length ∧ ∀ (i : Nat) (c : Cap), L[i]? = some c → ∃ y, l[i]? = some y ∧ capOf y = some c
 | [], L, h => by simp [capsOf] at h; subst h; simp
 | x :: r, L, h => by
  simp only [capsOf] at h; split at h
  · rename_i y l hy hl
    cases h
    obtain ⟨h1, h2⟩ := capsOf_rel hl; refine ⟨by simp [h1], fun i c hi => ?_⟩
    match i with
    | 0 => simp at hi; subst hi; exact ⟨x, rfl, hy⟩
    | i + 1 => simpa using h2 i c (by simpa using hi)
  · cases h
theorem good_mkf {f f0 : Nat} {first caps : Array Operand} {L : List X} {C : List Cap} {e : Eff} (ho : o.op = .makeFunc (.func f) first caps) (h0 : first.size = 0) (hfid : fid f0 = f) (hL : stripXs cid caps.toList = some L)
 (hC : capsOf (L.map ev) = some C) (he : e = ⟨.w (.fn f0 C), H, [], false⟩) : Good P fid G E κ FN FZ g s ρ o e := by
 subst he; obtain ⟨h1, h2⟩ := stripXs_rel hL; obtain ⟨h3, h4⟩ := capsOf_rel hC; have hf : first.map ρ = #[] := by have : first = #[] := Array.eq_empty_of_size_eq_zero h0; rw [this]; simp
 refine good_pure I (v := .func (.func f) #[] (caps.map ρ)) (by simp [execOp, ho, Instr.makeFunc, hf]) ⟨caps.map ρ, by rw [hfid], by simp at h1 h3 ⊢; omega, fun i c hi => ?_⟩
 obtain ⟨y, hy, hyc⟩ := h4 i c hi; rw [List.getElem?_map] at hy; cases hLi : L[i]? with
 | none => simp [hLi] at hy
 | some Y =>
  simp [hLi] at hy; obtain ⟨y', hy', hs⟩ := h2 i Y hLi; refine ⟨ρ y', by simp at hy' ⊢; exact ⟨y', hy', rfl⟩, ?_⟩
  have hr := hev y' Y hs; rw [hy] at hr; cases y with
  | w y =>
   cases y <;> simp [capOf] at hyc <;> subst hyc
   · exact hr
   · exact hr
  | _ => simp [capOf] at hyc
end ops
end
end Go.VM

/- The value machine: comparisons, max and min, literals. Conditions: none. -/
namespace Go.VM
set_option linter.unusedVariables false
set_option linter.unusedSimpArgs false
set_option linter.unusedSectionVars false
section
variable {P : Program} {fid : Nat → FuncId} {cid : FuncId → Nat} {G : Nat → Option (List D)} {E : Entry} {κ : Ctx} {H : Nat → Box} {FN FZ : Nat → Prop} {g : Nat} {s : Sup}
variable {ρ : Operand → Value} {ev : X → V} {o : Oper}
theorem part_one {w : World} {t : TypeId} {k : Nat} (hk : kindT P t = some k) {xs : Array Value} {j : Nat} {v : Value} (hx : xs[j]? = some v) : (part t xs j).run P w = .ok v w := by
 have ha : agg? P t = some false := by
  unfold kindT at hk; unfold agg?; split at hk <;> simp_all
 simp [part, run_agg ha, hx]
theorem eqCells_nil {p q : List W} {b : Bool} (h : eqCells [] p q = some b) : b = true := by
 cases p with
 | nil => cases q with
  | nil => simpa [eqCells] using h.symm
  | cons c r => simp [eqCells] at h
 | cons c r => simp [eqCells] at h
theorem eqCells_cons {k : Nat} {ks : List Nat} {p q : List W} {b : Bool} (h : eqCells (k :: ks) p q = some b) :
 ∃ a r a' q' x y, p = .d (.s a) :: r ∧ q = .d (.s a') :: q' ∧ eq1 k a a' = some x ∧ eqCells ks r q' = some y ∧ b = (x && y) := by
 match p, q, h with
 | .d (.s a) :: r, .d (.s a') :: q', h =>
  simp only [eqCells] at h; split at h
  · rename_i x y hx hy
    cases h
    exact ⟨a, r, a', q', x, y, rfl, rfl, hx, hy, rfl⟩
  · cases h
theorem eq1_run {w : World} {t : TypeId} {k : Nat} {a b : Value} {x : Bool} (hk : kindT P t = some k) (h : eq1 k a b = some x) (d : Nat) : (Op.equalIn (d + 1) t a b).run P w = .ok x w := by
 unfold kindT at hk; split at hk
 · rename_i hu; cases hk
   cases a <;> cases b <;> simp [eq1] at h
   subst h; exact run_equalIn_bool' w d t _ _ hu
 · rename_i hu; cases hk
   cases a <;> cases b <;> simp [eq1] at h
   obtain ⟨rfl, rfl⟩ := h; exact run_equalIn_int w d t _ _ _ _ hu
 · rename_i hu; cases hk
   cases a <;> cases b <;> simp [eq1] at h
   subst h; exact run_equalIn_string w d t _ _ hu
 · cases hk
theorem eqFields_run {w : World} (d : Nat) {xs ys : Array Value} : ∀ {fs : List Field} {n : Nat} {ks : List Nat} {p q : List W} {b : Bool}, flat P n fs = some ks →
 (∀ (i : Nat) (c : W), p[i]? = some c → ∃ x : Value, xs[n + i]? = some x ∧ WRel fid κ x c) → (∀ (i : Nat) (c : W), q[i]? = some c → ∃ x : Value, ys[n + i]? = some x ∧ WRel fid κ x c) →
 eqCells ks p q = some b → (Op.eqFields (d + 1) xs ys fs).run P w = .ok b w
 | [], n, ks, p, q, b, hf, hp, hq, h => by
  simp [flat] at hf; subst hf
  rw [eqCells_nil h]; rfl
 | f :: fs, n, ks, p, q, b, hf, hp, hq, h => by
  simp only [flat] at hf; split at hf
  · rename_i k l hk hl
    split at hf
    · rename_i hfo
      cases hf
      obtain ⟨a, r, a', q', x, y, rfl, rfl, hxy, hrec, rfl⟩ := eqCells_cons h; obtain ⟨u, hu, hur⟩ := hp 0 _ rfl; obtain ⟨u', hu', hur'⟩ := hq 0 _ rfl; have e1 : u = a := by cases hur; rfl
      have e2 : u' = a' := by cases hur'; rfl
      subst e1 e2; have ih := eqFields_run (w := w) d hl (p := r) (q := q') (fun i c hi => by have := hp (i + 1) c (by simpa using hi); rwa [show n + (i + 1) = n + 1 + i by omega] at this)
       (fun i c hi => by have := hq (i + 1) c (by simpa using hi); rwa [show n + (i + 1) = n + 1 + i by omega] at this) hrec
      have heqn := eq1_run (w := w) hk hxy d; rw [Nat.add_zero] at hu hu'; rw [← hfo.1] at hu hu'; simp only [Op.eqFields, hfo.2, ne_eq, not_false_eq_true, if_true, Sem.run_bind, part_one hk hu, part_one hk hu', Result.andThen_ok, heqn, Sem.run_ite]; cases x
      · simp
      · simp [ih]
    · cases hf
  · cases hf
theorem run_eqGuard_any {w : World} (op : BinOp) (t : TypeId) (x y : Operand) (a b : Value) (h1 : ∀ c, a ≠ .agg c) (h2 : a ≠ .nilIface) : (eqGuard op t x y a b).run P w = .ok () w := by
 unfold eqGuard; cases op <;> simp <;> (cases a <;> simp_all)
theorem ptrNil_rel {v : Value} {x : W} {b : Bool} (hv : WRel fid κ v x) (h : ptrNil? x = some b) : ∃ a, v = .pointer a ∧ a.isNone = b := by
 cases x with
 | d y =>
  cases y with
  | s u =>
   cases u with
   | pointer a => cases a with
    | none => simp [ptrNil?] at h; subst h; cases hv; exact ⟨none, rfl, rfl⟩
    | some a => simp [ptrNil?] at h
   | _ => simp [ptrNil?] at h
  | l st rows => simp [ptrNil?] at h
 | ptr b off => simp [ptrNil?] at h; subst h; obtain ⟨i, _, _, rfl⟩ := hv; exact ⟨_, rfl, rfl⟩
 | rp b i off => simp [ptrNil?] at h; subst h; obtain ⟨i, _, rfl⟩ := hv; exact ⟨_, rfl, rfl⟩
 | lp r off => simp [ptrNil?] at h; subst h; obtain ⟨_, _, _, _, rfl, _⟩ := hv; exact ⟨_, rfl, rfl⟩
 | gp k off => simp [ptrNil?] at h; subst h; cases hv; exact ⟨_, rfl, rfl⟩
 | _ => simp [ptrNil?] at h
theorem isNil_rel {v : Value} {x : W} {b : Bool} (hv : WRel fid κ v x) (h : isNil? x = some b) : ∃ a n c, v = .slice a n c ∧ a.isNone = b := by
 cases x with
 | d y =>
  cases y with
  | s u => simp [isNil?] at h
  | l st rows =>
   simp [isNil?] at h; obtain ⟨hne, rfl⟩ := h; cases hv with
   | nil st => exact absurd rfl hne
   | e a => exact absurd rfl hne
   | l => exact ⟨_, _, _, rfl, rfl⟩
 | nil => simp [isNil?] at h; subst h; cases hv; exact ⟨_, _, _, rfl, rfl⟩
 | ln st rows =>
  simp [isNil?] at h; subst h
  obtain ⟨hv, hne⟩ := hv; cases hv with
  | nil st => exact absurd rfl hne
  | e a => exact ⟨_, _, _, rfl, rfl⟩
  | l => exact ⟨_, _, _, rfl, rfl⟩
 | own b off len cap =>
  simp [isNil?] at h; obtain ⟨hne, rfl⟩ := h; obtain ⟨i, cap', _, _, _, ⟨_, h0, _⟩ | ⟨_, o, rfl, _⟩⟩ := hv
  · exact absurd h0 hne
  · exact ⟨_, _, _, rfl, rfl⟩
 | _ => simp [isNil?] at h
theorem eqIn_ptr {w : World} {t e0 : TypeId} (hu : P.underlying t = some (.pointer e0)) (d : Nat) (u : Option Addr) : (Op.equalIn (d + 1) t (.pointer u) (.pointer none)).run P w = .ok u.isNone w := by
 cases u <;> simp [Op.equalIn, run_underlying hu]
theorem eqIn_sl {w : World} {t e0 : TypeId} (hu : P.underlying t = some (.slice e0)) (d : Nat) (u : Option Addr) (n c : Nat) : (Op.equalIn (d + 1) t (.slice u n c) (.slice none 0 0)).run P w = .ok u.isNone w := by
 cases u <;> simp [Op.equalIn, run_underlying hu]
theorem s?_not {v : Value} {x : V} {u : Value} (hv : VRel fid κ v x) (h : x.s? = some u) : v = u ∧ (∀ c, u ≠ .agg c) := by
 have := wrel_s hv h; refine ⟨this, fun c hc => ?_⟩
 subst this; cases x with
 | w x =>
  have := WRel.oneCell hv; rw [hc] at this; cases this
 | _ => simp [V.s?] at h
section ops
variable (I : Inv fid G E κ H FN FZ) (hev : ∀ x X, stripX cid x = some X → VRel fid κ (ρ x) (ev X))
include I hev
theorem good_bin {op : BinOp} {t yt : TypeId} {x y : Operand} {Y X : X} {c : Cls} {e : Eff} (ho : o.op = .binOp op t x y yt) (hc : cls? P t = some c) (hX : stripX cid x = some X) (hY : stripX cid y = some Y)
 (h : ret0 H (binV op c (ev X) (ev Y)) = some e) : Good P fid G E κ FN FZ g s ρ o e := by
 obtain ⟨v, hv, rfl⟩ := ret0_some h; have hx := hev x X hX; have hy := hev y Y hY; have fin : ∀ u : Value, (binOp op t (ρ x) (ρ y)).run P κ.w = .ok u κ.w → (∀ c, ρ x ≠ .agg c) → ρ x ≠ .nilIface → (execOp ρ o).run P κ.w = .ok (.value u) κ.w := fun u hu h1 h2 => by
  simp [execOp, ho, run_eqGuard_any op t x y _ _ h1 h2, hu]
 cases c with
 | one =>
  simp only [binV] at hv; split at hv
  · cases hv
  · rename_i a b hnb hsa hsb
    cases hbs : binS op a b with
    | none => simp [hbs] at hv
    | some u =>
     simp [hbs] at hv; subst hv
     obtain ⟨e1, n1⟩ := s?_not hx hsa; obtain ⟨e2, n2⟩ := s?_not hy hsb; obtain ⟨r1, r2⟩ := binS_run (P := P) (t := t) (w := κ.w) hbs (fun ⟨p, q, h1, h2⟩ => (hnb p h1).elim); refine good_pure I (fin u (by rw [e1, e2]; exact r1) (by rw [e1]; exact n1) ?_) (sV_rel r2)
     rw [e1]; intro h; rw [h] at hbs; simp [binS] at hbs
  · cases hv
 | b =>
  simp only [binV] at hv; have hu : P.underlying t = some .bool := by
   unfold cls? at hc; split at hc <;> first | assumption | (cases hc; done) | (split at hc <;> first | (cases hc; done) | (split at hc <;> cases hc))
  split at hv
  · rename_i a b ha hb
    have e1 := bool?_rel hx ha; have e2 := bool?_rel hy hb; have he : (Op.equal t (.bool a) (.bool b)).run P κ.w = .ok (a == b) κ.w := eqIn_bool hu 9999 a b κ.w; split at hv
    · cases hv
      exact good_pure I (fin (.bool (a == b)) (by rw [e1, e2]; simp only [binOp, Sem.run_bind, he, Result.andThen_ok, Sem.run_pure]) (by rw [e1]; simp) (by rw [e1]; simp)) (sV_rel rfl)
    · cases hv
      exact good_pure I (fin (.bool !(a == b)) (by rw [e1, e2]; simp only [binOp, Sem.run_bind, he, Result.andThen_ok, Sem.run_pure]) (by rw [e1]; simp) (by rw [e1]; simp)) (sV_rel rfl)
    · cases hv
  · cases hv
 | p =>
  simp only [binV] at hv; have hu : ∃ e, P.underlying t = some (.pointer e) := by
   unfold cls? at hc; split at hc <;> first | exact ⟨_, by assumption⟩ | (cases hc; done) | (split at hc <;> first | (cases hc; done) | (split at hc <;> cases hc))
  obtain ⟨e0, hu⟩ := hu; split at hv
  · rename_i p q hp hq
    split at hv
    · rename_i a ha hb
      rw [hp] at hx; rw [hq] at hy
      obtain ⟨u, e1, hu1⟩ := ptrNil_rel hx ha; obtain ⟨u', e2, hu2⟩ := ptrNil_rel hy hb; have hnone : u' = none := by simpa using hu2
      subst hnone; have he : (Op.equal t (.pointer u) (.pointer none)).run P κ.w = .ok a κ.w := by
       rw [← hu1]; exact eqIn_ptr hu 9999 u
      split at hv
      · cases hv
        exact good_pure I (fin (.bool a) (by rw [e1, e2]; simp only [binOp, Sem.run_bind, he, Result.andThen_ok, Sem.run_pure]) (by rw [e1]; simp) (by rw [e1]; simp)) (sV_rel rfl)
      · cases hv
        exact good_pure I (fin (.bool !a) (by rw [e1, e2]; simp only [binOp, Sem.run_bind, he, Result.andThen_ok, Sem.run_pure]) (by rw [e1]; simp) (by rw [e1]; simp)) (sV_rel rfl)
      · cases hv
    · cases hv
  · cases hv
 | sl =>
  simp only [binV] at hv; have hu : ∃ e, P.underlying t = some (.slice e) := by
   unfold cls? at hc; split at hc <;> first | exact ⟨_, by assumption⟩ | (cases hc; done) | (split at hc <;> first | (cases hc; done) | (split at hc <;> cases hc))
  obtain ⟨e0, hu⟩ := hu; split at hv
  · rename_i p hp hq
    split at hv
    · rename_i a ha
      rw [hp] at hx; rw [hq] at hy
      obtain ⟨u, n, c, e1, hu1⟩ := isNil_rel hx ha; have e2 : ρ y = .slice none 0 0 := hy; have he : (Op.equal t (.slice u n c) (.slice none 0 0)).run P κ.w = .ok a κ.w := by
       rw [← hu1]; exact eqIn_sl hu 9999 u n c
      split at hv
      · cases hv
        exact good_pure I (fin (.bool a) (by rw [e1, e2]; simp only [binOp, Sem.run_bind, he, Result.andThen_ok, Sem.run_pure]) (by rw [e1]; simp) (by rw [e1]; simp)) (sV_rel rfl)
      · cases hv
        exact good_pure I (fin (.bool !a) (by rw [e1, e2]; simp only [binOp, Sem.run_bind, he, Result.andThen_ok, Sem.run_pure]) (by rw [e1]; simp) (by rw [e1]; simp)) (sV_rel rfl)
      · cases hv
    · cases hv
  · cases hv
 | agg ks =>
  simp only [binV] at hv; obtain ⟨fs, hu, hfl, hst, hgd⟩ : ∃ fs, P.underlying t = some (.struct fs) ∧ flat P 0 fs.toList = some ks ∧ P.stoodInHeld t = false ∧ P.eqGuardType P.depth t = false := by
   unfold cls? at hc; split at hc <;> first | (cases hc; done) | skip
   split at hc
   · split at hc
     · rename_i h; cases hc; exact ⟨_, by assumption, by assumption, h.1, h.2⟩
     · cases hc
   · cases hc
  split at hv
  · rename_i p q hp hq
    split at hv
    · rename_i b hb
      rw [hp] at hx; rw [hq] at hy
      obtain ⟨xs, e1, _, hxs⟩ := hx; obtain ⟨ys, e2, _, hys⟩ := hy; have hfo : P.fieldsOf t = fs := by simp [Program.fieldsOf, hu]
      have he : (Op.equalIn 10000 t (.agg xs) (.agg ys)).run P κ.w = .ok b κ.w := by
       show (Op.equalIn (9999 + 1) t _ _).run P κ.w = _
       rw [run_equalIn_struct κ.w 9999 t xs ys (by rw [hfo]; exact hu) hst, hfo]; exact eqFields_run (fid := fid) (κ := κ) 9998 hfl (fun i c hi => by simpa using hxs i c hi) (fun i c hi => by simpa using hys i c hi) hb
      have hgu : (eqGuard op t x y (ρ x) (ρ y)).run P κ.w = .ok () κ.w := by rw [e1, e2]; exact run_eqGuard_agg κ.w op t x y xs ys hgd
      split at hv
      · cases hv
        exact good_pure I (v := .bool b) (by simp only [execOp, ho, Sem.run_bind, hgu, Result.andThen_ok]; rw [e1, e2, run_eql_struct, he]; rfl) (sV_rel rfl)
      · cases hv
        exact good_pure I (v := .bool !b) (by simp only [execOp, ho, Sem.run_bind, hgu, Result.andThen_ok]; rw [e1, e2, run_neq_struct, he]; rfl) (sV_rel rfl)
      · cases hv
    · cases hv
  · cases hv
end ops
end
end Go.VM

/- The value machine: max and min, literals, append. Conditions: none. -/
namespace Go.VM
set_option linter.unusedVariables false
set_option linter.unusedSimpArgs false
set_option linter.unusedSectionVars false
section
variable {P : Program} {fid : Nat → FuncId} {cid : FuncId → Nat} {G : Nat → Option (List D)} {E : Entry} {κ : Ctx} {H : Nat → Box} {FN FZ : Nat → Prop} {g : Nat} {s : Sup}
variable {ρ : Operand → Value} {ev : X → V} {o : Oper}
theorem fold2_run {w : World} (isMax : Bool) : ∀ {vs : List V} {us : List Value} {k : IntKind} {a : Int} {v : V}, us.length = vs.length → (∀ (i : Nat) (x : V), vs[i]? = some x → ∃ u : Value, us[i]? = some u ∧ VRel fid κ u x) →
 fold2 isMax k a vs = some v → ∃ b, v = sV (.int k b) ∧ (us.foldlM (if isMax then Builtin.max2 else Builtin.min2) (Value.int k a)).run P w = .ok (.int k b) w
 | [], us, k, a, v, hl, hr, h => by
  simp [fold2] at h; subst h
  have : us = [] := List.eq_nil_of_length_eq_zero (by simpa using hl); subst this; exact ⟨a, rfl, rfl⟩
 | x :: vs, us, k, a, v, hl, hr, h => by
  simp only [fold2] at h; split at h
  · rename_i k' b hb
    split at h
    · rename_i hk
      subst hk
      match us, hl, hr with
      | u :: us, hl, hr =>
       obtain ⟨u', e, hu⟩ := hr 0 x rfl; cases e
       have hub := int?_rel hu hb; obtain ⟨c, hc, hrun⟩ := fold2_run (w := w) isMax (us := us) (by simpa using hl) (fun i y hi => by simpa using hr (i + 1) y (by simpa using hi)) h; refine ⟨c, hc, ?_⟩
       subst hub; rw [List.foldlM_cons]; cases isMax
       · simp only [Bool.false_eq_true, if_false] at hrun ⊢
         simp only [Sem.run_bind, Builtin.min2, Sem.run_pure, Result.andThen_ok]; exact hrun
       · simp only [if_true] at hrun ⊢
         simp only [Sem.run_bind, Builtin.max2, Sem.run_pure, Result.andThen_ok]; exact hrun
    · cases h
  · cases h
theorem map_rel (hev : ∀ x X, stripX cid x = some X → VRel fid κ (ρ x) (ev X)) {l : List Operand} {L : List X} (hL : stripXs cid l = some L) :
 (l.map ρ).length = (L.map ev).length ∧ ∀ (i : Nat) (x : V), (L.map ev)[i]? = some x → ∃ u : Value, (l.map ρ)[i]? = some u ∧ VRel fid κ u x := by
 obtain ⟨h1, h2⟩ := stripXs_rel hL; refine ⟨by simp [h1], fun i x hi => ?_⟩
 rw [List.getElem?_map] at hi; cases hx : L[i]? with
 | none => simp [hx] at hi
 | some X =>
  simp [hx] at hi; subst hi
  obtain ⟨y, hy, hs⟩ := h2 i X hx; exact ⟨ρ y, by simp [hy], hev y X hs⟩
theorem fill_splice (v : Array Value) (off : Nat) (cells : Array Value) (h : off + v.size ≤ cells.size) :
 v.zipIdx.foldl (fun cs (x : Value × Nat) => cs.setIfInBounds (off + x.2) x.1) cells = (splice cells.toList off v.toList).toArray := by
 rw [← Array.foldl_toList, Array.toList_zipIdx]; have key : ∀ (l : List Value) (n : Nat) (cs : Array Value), off + n + l.length ≤ cs.size →
  (l.zipIdx n).foldl (fun cs (x : Value × Nat) => cs.setIfInBounds (off + x.2) x.1) cs = (splice cs.toList (off + n) l).toArray := by
  intro l
  induction l with
  | nil => intro n cs h; simp [splice]
  | cons x r ih =>
   intro n cs h; simp at h; rw [List.zipIdx_cons, List.foldl_cons, ih (n + 1) _ (by simp; omega)]
   congr 1
   apply List.ext_getElem?
   intro j; rw [splice_get (by simp; omega), splice_get (by simp; omega)]; simp only [Array.toList_setIfInBounds, List.getElem?_set, Array.length_toList, List.length_cons]
   by_cases h1 : j = off + n
   · subst h1
     rw [if_neg (by omega), if_pos (by omega), if_pos (by omega), if_pos (by omega)]; simp
   · by_cases h2 : off + n ≤ j ∧ j < off + n + (r.length + 1)
     · rw [if_pos (by omega), if_pos h2]
       rw [show j - (off + n) = (j - (off + (n + 1))) + 1 by omega]; simp
     · rw [if_neg (by omega), if_neg h2, if_neg (by omega)]
 have := key v.toList 0 cells (by simpa using h)
 simpa using this
theorem fill_cons {place : Nat → Option (Nat × Nat)} {cells : Array Value} {i : Nat} {v : Value} {rest : List (Nat × Value)} {off size : Nat} (hp : place i = some (off, size)) (hs : v.cells.size = size) (hf : off + size ≤ cells.size) :
 Instr.fill place cells ((i, v) :: rest) = Instr.fill place (splice cells.toList off v.cells.toList).toArray rest := by
 have h1 : ¬ (v.cells.size ≠ size ∨ off + v.cells.size > cells.size) := by omega
 simp only [Instr.fill, hp]; rw [if_neg (by simpa using h1)]; rw [← fill_splice v.cells off cells (by omega)]
theorem setParts_run {place : Nat → Option (Nat × Nat)} : ∀ {ps : List (Nat × Nat × V)} {us : List (Nat × Value)} {arr : Array Value} {cs out : List W}, us.length = ps.length →
 (∀ (i : Nat) (p : Nat × Nat × V), ps[i]? = some p → ∃ u : Nat × Value, us[i]? = some u ∧ place u.1 = some (p.1, p.2.1) ∧ VRel fid κ u.2 p.2.2) → LRel fid κ arr cs → setParts cs ps = some out →
 ∃ res, Instr.fill place arr us = some res ∧ LRel fid κ res out
 | [], us, arr, cs, out, hl, hr, hL, h => by
  simp [setParts] at h; subst h
  have : us = [] := List.eq_nil_of_length_eq_zero (by simpa using hl); subst this; exact ⟨arr, rfl, hL⟩
 | (off, sz, v) :: ps, us, arr, cs, out, hl, hr, hL, h => by
  simp only [setParts] at h; split at h
  · rename_i l hcl
    split at h
    · rename_i hf
      match us, hl, hr with
      | (i, u) :: us, hl, hr =>
       obtain ⟨u', e, hp, hu⟩ := hr 0 _ rfl; cases e
       have hc := VRel.cells hu hcl; have hsz : u.cells.size = sz := by rw [hc.1]; exact hf.1
       rw [fill_cons hp hsz (by rw [hL.1]; exact hf.2)]; exact setParts_run (by simpa using hl) (fun i p hi => by simpa using hr (i + 1) p (by simpa using hi)) (hL.splice hc (by rw [hf.1]; exact hf.2)) h
    · cases h
  · cases h
theorem mapM_fields {w : World} : ∀ {fs : List Field}, fs.all (fun f => (sz? P f.type).isSome) = true →
 (fs.mapM (fun f => do pure (f.offset, ← sizeOf f.type) : Field → Sem (Nat × Nat))).run P w = .ok (fs.map fun f => (f.offset, (sz? P f.type).getD 0)) w
 | [], _ => rfl
 | f :: fs, h => by
  simp only [List.all_cons, Bool.and_eq_true] at h; obtain ⟨n, hn⟩ := Option.isSome_iff_exists.1 h.1; rw [List.mapM_cons]; have ih := mapM_fields (w := w) h.2; simp only [Sem.run_bind, run_sz hn, Result.andThen_ok, Sem.run_pure, ih, List.map_cons, hn, Option.getD_some]
section ops
variable (I : Inv fid G E κ H FN FZ) (hev : ∀ x X, stripX cid x = some X → VRel fid κ (ρ x) (ev X)) (hfn : ∀ n, g ≤ n → n < g + 64 → FN n)
include I hev
theorem good_mmx {isMax : Bool} {c : Call} {L : List X} {v0 : V} {r : List V} {k : IntKind} {a : Int} {e : Eff} (ho : o.op = .call c) (hc : c.callee = .builtin (if isMax then .max else .min)) (hL : stripXs cid c.args.toList = some L)
 (hm : L.map ev = v0 :: r) (hv : v0.int? = some (k, a)) (h : ret0 H (fold2 isMax k a r) = some e) : Good P fid G E κ FN FZ g s ρ o e := by
 obtain ⟨v, hf, rfl⟩ := ret0_some h; obtain ⟨h1, h2⟩ := map_rel hev hL; rw [hm] at h1 h2
 match hu : c.args.toList.map ρ, h1, h2 with
 | u :: us, h1, h2 =>
  obtain ⟨u', e, hu0⟩ := h2 0 v0 rfl; cases e
  obtain ⟨b, rfl, hrun⟩ := fold2_run (P := P) (w := κ.w) isMax (us := us) (by simpa using h1) (fun i y hi => by simpa using h2 (i + 1) y (by simpa using hi)) hf; have hub := int?_rel hu0 hv; have hargs : (c.args.map ρ).toList = u :: us := by rw [Array.toList_map]; exact hu
  refine good_pure I (v := .int k b) ?_ (sV_rel rfl)
  subst hub; cases isMax
  · simp only [Bool.false_eq_true, if_false] at hc hrun
    simp [execOp, ho, resolve, hc, invoke, builtin, Builtin.min_, hargs, hrun]; rw [Array.toList_map] at hargs; simp [hargs, hrun]
  · simp only [if_true] at hc hrun
    simp [execOp, ho, resolve, hc, invoke, builtin, Builtin.max_, hargs, hrun]; rw [Array.toList_map] at hargs; simp [hargs, hrun]
theorem fieldParts_rel {fs : Array Field} : ∀ {l : List (Nat × Operand)} {L : List (Nat × Nat × X)}, fieldParts P cid fs l = some L →
 l.length = L.length ∧ ∀ (i : Nat) (p : Nat × Nat × V), (L.map fun p => (p.1, p.2.1, ev p.2.2))[i]? = some p →
  ∃ u : Nat × Value, (l.map fun q => (q.1, ρ q.2))[i]? = some u ∧ ((fs.toList.map fun f => (f.offset, (sz? P f.type).getD 0)).toArray[u.1]?) = some (p.1, p.2.1) ∧ VRel fid κ u.2 p.2.2
 | [], L, h => by simp [fieldParts] at h; subst h; simp
 | (i, x) :: r, L, h => by
  simp only [fieldParts] at h; split at h
  · rename_i f hf
    split at h
    · rename_i n y l hn hy hl
      cases h
      obtain ⟨h1, h2⟩ := fieldParts_rel hl; refine ⟨by simp [h1], fun j p hj => ?_⟩
      match j with
      | 0 => simp at hj; subst hj; exact ⟨(i, ρ x), rfl, by simp [hf, hn], hev x y hy⟩
      | j + 1 => simpa using h2 j p (by simpa using hj)
    · cases h
  · cases h
theorem elemParts_rel {n : Nat} : ∀ {l : List (Nat × Operand)} {L : List (Nat × Nat × X)}, elemParts cid n l = some L →
 l.length = L.length ∧ ∀ (i : Nat) (p : Nat × Nat × V), (L.map fun p => (p.1, p.2.1, ev p.2.2))[i]? = some p →
  ∃ u : Nat × Value, (l.map fun q => (q.1, ρ q.2))[i]? = some u ∧ (fun i => some (i * n, n) : Nat → Option (Nat × Nat)) u.1 = some (p.1, p.2.1) ∧ VRel fid κ u.2 p.2.2
 | [], L, h => by simp [elemParts] at h; subst h; simp
 | (i, x) :: r, L, h => by
  simp only [elemParts] at h; split at h
  · rename_i y l hy hl
    cases h
    obtain ⟨h1, h2⟩ := elemParts_rel hl; refine ⟨by simp [h1], fun j p hj => ?_⟩
    match j with
    | 0 => simp at hj; subst hj; exact ⟨(i, ρ x), rfl, rfl, hev x y hy⟩
    | j + 1 => simpa using h2 j p (by simpa using hj)
  · cases h
theorem good_bld {t : TypeId} {parts : Array (Nat × Operand)} {z out : List W} {L : List (Nat × Nat × X)} {e : Eff} (ho : o.op = .build t parts) (hz : zeroW P t = some z)
 (hu : (∃ fs, P.underlying t = some (.struct fs) ∧ fs.toList.all (fun f => (sz? P f.type).isSome) = true ∧ fieldParts P cid fs parts.toList = some L) ∨ (∃ n e0 k, P.underlying t = some (.array n e0) ∧ sz? P e0 = some k ∧ elemParts cid k parts.toList = some L))
 (hs : setParts z (L.map fun p => (p.1, p.2.1, ev p.2.2)) = some out) (he : e = ⟨.agg out, H, [], false⟩) : Good P fid G E κ FN FZ g s ρ o e := by
 subst he; obtain ⟨i, u, hi, hzu, _, _, hcl⟩ := zeroW_ok hz; obtain ⟨h1, h2⟩ := constL_rel (κ := κ) (fid := fid) hcl; have hL : LRel fid κ u.cells z := ⟨by simpa using h1, fun j c hj => by simpa using h2 j c hj⟩; have hparts : (parts.map fun (x : Nat × Operand) => (x.1, ρ x.2)).toList = parts.toList.map fun q => (q.1, ρ q.2) := by rw [Array.toList_map]
 rcases hu with ⟨fs, hu, hall, hf⟩ | ⟨n, e0, k, hu, hk, hf⟩
 · obtain ⟨hl, hr⟩ := fieldParts_rel I hev (P := P) hf
   obtain ⟨res, hfill, hres⟩ := setParts_run (place := ((fs.toList.map fun f => (f.offset, (sz? P f.type).getD 0)).toArray[·]?)) (us := parts.toList.map fun q => (q.1, ρ q.2)) (by simp [hl]) hr hL hs; refine good_pure I (v := .agg res) ?_ ⟨res, rfl, hres⟩
   have hm := mapM_fields (P := P) (w := κ.w) hall; have hm' : (fs.mapM (fun f => do pure (f.offset, ← sizeOf f.type) : Field → Sem (Nat × Nat))).run P κ.w = .ok ((fs.toList.map fun f => (f.offset, (sz? P f.type).getD 0)).toArray) κ.w := by
    rw [Array.mapM_eq_mapM_toList, Sem.run_map, hm]; rfl
   simp only [execOp, ho, Instr.build, zeroValue, Sem.run_bind, typeInfo, run_program, Result.andThen_ok, hi, Sem.run_pure, hzu, run_underlying hu, hm', hparts, hfill]
 · obtain ⟨hl, hr⟩ := elemParts_rel I hev (ρ := ρ) (ev := ev) hf
   obtain ⟨res, hfill, hres⟩ := setParts_run (place := fun i => some (i * k, k)) (us := parts.toList.map fun q => (q.1, ρ q.2)) (by simp [hl]) hr hL hs; refine good_pure I (v := .agg res) ?_ ⟨res, rfl, hres⟩
   simp only [execOp, ho, Instr.build, zeroValue, Sem.run_bind, typeInfo, run_program, Result.andThen_ok, hi, Sem.run_pure, hzu, run_underlying hu, run_sz hk, hparts, hfill]
end ops
end
end Go.VM

/- The value machine: slice literals and append. Conditions: none. -/
namespace Go.VM
set_option linter.unusedVariables false
set_option linter.unusedSimpArgs false
set_option linter.unusedSectionVars false
section
variable {P : Program} {fid : Nat → FuncId} {cid : FuncId → Nat} {G : Nat → Option (List D)} {E : Entry} {κ : Ctx} {H : Nat → Box} {FN FZ : Nat → Prop} {g : Nat} {s : Sup}
variable {ρ : Operand → Value} {ev : X → V} {o : Oper}
theorem rows_set {κ : Ctx} {arr brr : Array Value} {sz i : Nat} {rows : List (List D)} {ds : List D} (h : RowsAt κ arr 0 sz rows) (hlen : ∀ row ∈ rows, row.length = sz) (hs : arr.size = rows.length * sz)
 (hi : i < rows.length) (hds : ds.length = sz) (hb : brr.size = sz) (hd : ∀ (j : Nat) (d : D), ds[j]? = some d → ∃ y : Value, brr[j]? = some y ∧ κ.rel y d) :
 i * sz + sz ≤ arr.size ∧ RowsAt κ (splice arr.toList (i * sz) brr.toList).toArray 0 sz (rows.set i ds) ∧ (∀ row ∈ rows.set i ds, row.length = sz) := by
 have hf : i * sz + sz ≤ arr.size := by
  have : (i + 1) * sz ≤ rows.length * sz := Nat.mul_le_mul_right _ hi; rw [Nat.add_mul] at this; omega
 have hf2 : i * sz + brr.toList.length ≤ arr.toList.length := by simpa [hb] using hf
 refine ⟨hf, fun k row hk j d hj => ?_, fun row hrow => ?_⟩
 · rw [List.getElem?_toArray, splice_get hf2]
   have hjs : j < sz := by
    have h1 : row.length = sz := by
     rcases List.mem_or_eq_of_mem_set (List.mem_of_getElem? hk) with h | h
     · exact hlen row h
     · rw [h]; exact hds
    have := List.getElem?_eq_some_iff.1 hj; obtain ⟨h2, _⟩ := this; omega
   rw [List.getElem?_set] at hk; split at hk
   · rename_i hik
     subst hik; simp only [hi, if_true, Option.some.injEq] at hk; subst hk; rw [if_pos (by simp [hb]; omega)]; obtain ⟨y, hy, q⟩ := hd j d hj; refine ⟨y, ?_, q⟩
     rw [show 0 + i * sz + j - i * sz = j by omega]; simpa using hy
   · rename_i hik
     rw [if_neg (by
      rcases Nat.lt_or_ge k i with h | h
      · have : (k + 1) * sz ≤ i * sz := Nat.mul_le_mul_right _ h
        rw [Nat.add_mul] at this; omega
      · have h' : i + 1 ≤ k := by omega
        have : (i + 1) * sz ≤ k * sz := Nat.mul_le_mul_right _ h'; rw [Nat.add_mul] at this; simp [hb]; omega)]
     obtain ⟨y, hy, q⟩ := h k row hk j d hj; exact ⟨y, by simpa using hy, q⟩
 · rcases List.mem_or_eq_of_mem_set hrow with h | h
   · exact hlen row h
   · rw [h]; exact hds
theorem rowParts_run {stamp : Bool} {sz : Nat} (hinj : ∀ a b, s a = s b → a = b) (hs : ∀ k, FZ (s k)) : ∀ {ps : List (Nat × V)} {us : List (Nat × Value)} {arr : Array Value} {rows out : List (List D)} {z z' : Fz} {κ : Ctx},
 us.length = ps.length → (∀ (i : Nat) (p : Nat × V), ps[i]? = some p → ∃ u : Nat × Value, us[i]? = some u ∧ u.1 = p.1 ∧ VRel fid κ u.2 p.2) →
 Inv fid G E κ z.H FN (fun t => FZ t ∧ ∀ k, k < z.k → t ≠ s k) → RowsAt κ arr 0 sz rows → (∀ row ∈ rows, row.length = sz) → arr.size = rows.length * sz →
 rowParts stamp s sz rows z ps = some (out, z') →
 ∃ κ' res, Frozen fid G E κ FN FZ s z κ' z' ∧ Instr.fill (fun i => some (i * sz, sz)) arr us = some res ∧ RowsAt κ' res 0 sz out ∧ (∀ row ∈ out, row.length = sz) ∧ res.size = rows.length * sz ∧ out.length = rows.length
 | [], us, arr, rows, out, z, z', κ, hl, hr, I, hR, hlen, hsz, h => by
  cases h
  have : us = [] := List.eq_nil_of_length_eq_zero (by simpa using hl); subst this; exact ⟨κ, arr, ⟨rfl, rfl, Ctx.le.refl κ, Nat.le_refl _, I⟩, rfl, hR, hlen, hsz, rfl⟩
 | (i, v) :: ps, us, arr, rows, out, z, z', κ, hl, hr, I, hR, hlen, hsz, h => by
  simp only [rowParts] at h; split at h
  · rename_i cs hcs
    split at h
    · rename_i l z₁ hz₁
      split at h
      · rename_i ds hds
        split at h
        · rename_i hcond
          match us, hl, hr with
          | (i', u) :: us, hl, hr =>
           obtain ⟨u', e, hi', hu⟩ := hr 0 _ rfl; cases e
           simp only at hi'; subst hi'
           have hcL := VRel.cells hu hcs; obtain ⟨κ₁, f₁, hll, hlr⟩ := frzL_ok hinj hs (vs := u.cells.toList) I (by simpa using hcL.1) (fun i c hi => by simpa using hcL.2 i c hi) hz₁; obtain ⟨hdl, hdr⟩ := datas_rel (κ := κ₁) (fid := fid) hds; have hll' : u.cells.size = l.length := by simpa using hll
           have hus : u.cells.size = sz := by omega
           obtain ⟨hf, hR', hlen'⟩ := rows_set (hR.mono f₁.le) hlen hsz hcond.2 hcond.1 hus (fun j d hj => by
            obtain ⟨c, hc, hcr⟩ := hdr j d hj; obtain ⟨x, hx, q⟩ := hlr j c hc; exact ⟨x, by simpa using hx, hcr x q⟩)
           have hsz' : (splice arr.toList (i' * sz) u.cells.toList).toArray.size = (rows.set i' ds).length * sz := by
            rw [List.size_toArray, splice_length (by simpa [hus] using hf)]; simpa using hsz
           obtain ⟨κ₂, res, f₂, hfill, hR₂, hlen₂, hsize, hout⟩ := rowParts_run hinj hs (us := us) (by simpa using hl)
            (fun j p hj => by obtain ⟨x, hx, hx1, hx2⟩ := hr (j + 1) p (by simpa using hj); exact ⟨x, by simpa using hx, hx1, hx2.mono f₁.le⟩) f₁.inv hR' hlen' hsz' h
           refine ⟨κ₂, res, f₁.trans f₂, ?_, hR₂, hlen₂, by simpa using hsize, by simpa using hout⟩
           rw [fill_cons rfl hus hf]; exact hfill
        · cases h
      · cases h
    · cases h
  · cases h
section ops
variable (I : Inv fid G E κ H FN FZ) (hev : ∀ x X, stripX cid x = some X → VRel fid κ (ρ x) (ev X)) (hfn : ∀ n, g ≤ n → n < g + 64 → FN n)
include hev
theorem rowParts?_rel : ∀ {l : List (Nat × Operand)} {L : List (Nat × X)}, rowParts? cid l = some L →
 l.length = L.length ∧ ∀ (i : Nat) (p : Nat × V), (L.map fun p => (p.1, ev p.2))[i]? = some p → ∃ u : Nat × Value, (l.map fun q => (q.1, ρ q.2))[i]? = some u ∧ u.1 = p.1 ∧ VRel fid κ u.2 p.2
 | [], L, h => by simp [rowParts?] at h; subst h; simp
 | (i, x) :: r, L, h => by
  simp only [rowParts?] at h; split at h
  · rename_i y l hy hl
    cases h
    obtain ⟨h1, h2⟩ := rowParts?_rel hl; refine ⟨by simp [h1], fun j p hj => ?_⟩
    match j with
    | 0 => simp at hj; subst hj; exact ⟨(i, ρ x), rfl, rfl, hev x y hy⟩
    | j + 1 => simpa using h2 j p (by simpa using hj)
  · cases h
include I hfn
theorem good_bsl {stamp : Bool} {t e0 : TypeId} {len n : Nat} {parts : Array (Nat × Operand)} {zd : List D} {L : List (Nat × X)} {rows : List (List D)} {z : Fz} {e : Eff} (hinj : ∀ a b, s a = s b → a = b) (hs : ∀ k, FZ (s k))
 (ho : o.op = .buildSlice t len parts) (hu : P.underlying t = some (.slice e0)) (hn : sz? P e0 = some n) (hz : zeroD P e0 = some zd) (hL : rowParts? cid parts.toList = some L) (hpos : 0 < n ∧ len * n ≤ 2 ^ 24)
 (hr : rowParts stamp s n (List.replicate len zd) ⟨H, 0, []⟩ (L.map fun p => (p.1, ev p.2)) = some (rows, z))
 (he : e = ⟨.w (.own g 0 len (some len)), upd z.H g (.row none n rows 0), z.touch, !z.touch.isEmpty⟩) : Good P fid G E κ FN FZ g s ρ o e := by
 subst he; obtain ⟨ti, u, hi, hzu, hus, hzl, hzr⟩ := zeroD_ok hz; have hnt : ti.size = n := by unfold sz? at hn; simpa [hi] using hn
 subst hnt
 let zero : Array Value := if len * ti.size = 0 then #[] else u.cells
 let arr0 : Array Value := (Array.range (len * ti.size)).map (zero[· % zero.size]!)
 have hs0 : arr0.size = (List.replicate len zd).length * ti.size := by simp [arr0]
 have hR0 : RowsAt κ arr0 0 ti.size (List.replicate len zd) := fun k row hk j d hj => by
  rw [List.getElem?_replicate] at hk; split at hk
  · rename_i hkl
    cases hk
    obtain ⟨y, hy, q⟩ := hzr j d hj; have hjs : j < ti.size := by have := List.getElem?_eq_some_iff.1 hj; obtain ⟨h, _⟩ := this; omega
    have hkn : (k + 1) * ti.size ≤ len * ti.size := Nat.mul_le_mul_right _ (by omega); rw [Nat.add_mul] at hkn; refine ⟨y, ?_, q κ⟩
    have h00 : len * ti.size ≠ 0 := by omega
    have hlt : k * ti.size + j < len * ti.size := by omega
    have hmod : (k * ti.size + j) % ti.size = j := by rw [Nat.add_comm, Nat.add_mul_mod_self_right, Nat.mod_eq_of_lt hjs]
    have : u.cells[j]! = y := by rw [getElem!_def, hy]
    simp [arr0, zero, h00, hlt, hus, hmod, this]
  · cases hk
 obtain ⟨hl, hrl⟩ := rowParts?_rel hev hL; obtain ⟨κ₁, res, f, hfill, hR, hlen, hsize, hout⟩ := rowParts_run (FN := FN) (FZ := FZ) hinj hs (us := parts.toList.map fun q => (q.1, ρ q.2)) (by simp [hl]) hrl (I.weak (fun _ h => h) (fun t h => h.1)) hR0
  (fun row hrow => by rw [List.eq_of_mem_replicate hrow]; exact hzl) hs0 hr
 simp only [List.length_replicate] at hsize hout; have hparts : (parts.map fun (x : Nat × Operand) => (x.1, ρ x.2)).toList = parts.toList.map fun q => (q.1, ρ q.2) := by rw [Array.toList_map]
 have hrun : (execOp ρ o).run P κ.w = .ok (.value (.slice (some ⟨κ.w.heap.size, 0, none⟩) len len)) (κ.w.alloc (.cells res e0)) := by
  have hbig : ¬ (len * ti.size > 2 ^ 24) := by omega
  simp only [execOp, ho, Instr.buildSlice, Sem.run_bind, run_underlying hu, Result.andThen_ok, run_sz hn, if_neg hbig]
  by_cases h00 : len * ti.size = 0
  · have hfill' : Instr.fill (fun i => some (i * ti.size, ti.size)) ((Array.range (len * ti.size)).map ((#[] : Array Value)[· % (#[] : Array Value).size]!)) (parts.toList.map fun q => (q.1, ρ q.2)) = some res := by
     have := hfill; simp only [arr0, zero, if_pos h00] at this; exact this
    simp only [h00, if_true, Sem.run_pure, Result.andThen_ok, hparts]; rw [h00] at hfill'; simp only [hfill', Sem.run_bind, newRow, run_newObj, Result.andThen_ok, Sem.run_pure]; rfl
  · have hfill' : Instr.fill (fun i => some (i * ti.size, ti.size)) ((Array.range (len * ti.size)).map (u.cells[· % u.cells.size]!)) (parts.toList.map fun q => (q.1, ρ q.2)) = some res := by
     have := hfill; simp only [arr0, zero, if_neg h00] at this; exact this
    simp only [h00, if_false, zeroValue, Sem.run_bind, typeInfo, run_program, hi, hzu, Sem.run_pure, Result.andThen_ok, hparts]; simp only [hfill', Sem.run_bind, newRow, run_newObj, Result.andThen_ok, Sem.run_pure]; rfl
 obtain ⟨κ', hw, hle, hb, I'⟩ := new_row (g := g) (sz := ti.size) (ro := 0) (st := none) (rows := rows) f.inv (w' := κ₁.w.alloc (.cells res e0)) (arr := res) (T := e0) rfl rfl rfl rfl (hfn g (Nat.le_refl _) (by omega))
  hlen (by rw [hout, hsize]; exact Nat.le_refl _) hR (.inl rfl)
 have hw1 : κ₁.w = κ.w := f.w; refine ⟨_, _, κ', by rw [hw, hw1]; exact hrun, .inl rfl, f.le.trans hle, ⟨_, len, hb, .inr rfl, Nat.le_refl _, .inr ⟨rfl, 0, by rw [hw1], .inr ⟨by simp, by simp [hsize]⟩⟩⟩, I'.weak FN'_of (fun n h => ⟨h.1, fun k _ => h.2 k⟩)⟩
end ops
end
end Go.VM

/- The value machine: append. Conditions: none. -/
namespace Go.VM
set_option linter.unnecessarySimpa false
set_option linter.unusedVariables false
set_option linter.unusedSimpArgs false
set_option linter.unusedSectionVars false
section
variable {P : Program} {fid : Nat → FuncId} {cid : FuncId → Nat} {G : Nat → Option (List D)} {E : Entry} {κ : Ctx} {H : Nat → Box} {FN FZ : Nat → Prop} {g : Nat} {s : Sup}
variable {ρ : Operand → Value} {ev : X → V} {o : Oper}
structure Src (P : Program) (κ : Ctx) (n : Nat) (v : Value) (ys : List (List D)) (news : List Value) : Prop where
 len : news.length = ys.length * n
 lenOf : (Builtin.lenOf v).run P κ.w = .ok ys.length κ.w
 first : ∀ w' : World, w'.heap = κ.w.heap → (Builtin.firstCells n ys.length v).run P w' = .ok news.toArray w'
 rows : RowsAt κ news.toArray 0 n ys
 one : ∀ x ∈ news, x.oneCell' = true
theorem src_of {v : Value} {ys : List (List D)} {n : Nat} (h : Reads κ v ys) (hlen : ∀ row ∈ ys, row.length = n) (hn : 0 < n) : ∃ news, Src P κ n v ys news := by
 rcases h with ⟨rfl | ⟨a, rfl⟩, rfl⟩ | ⟨blk, o, cap, sz, f, rfl, hcap, hl, hcell, hrel⟩
 · exact ⟨[], by simp, by simp [Builtin.lenOf], fun w' _ => by simp [Builtin.firstCells], fun i row hi => by simp at hi, by simp⟩
 · exact ⟨[], by simp, by simp [Builtin.lenOf], fun w' _ => by
    have hload := run_loadCells_list (P := P) w' a [] (by simp)
    simpa [Builtin.firstCells] using hload, fun i row hi => by simp at hi, by simp⟩
 · have hpos : ∀ m, m < ys.length * n → m / n < ys.length ∧ m % n < n ∧ sz = n := by
    intro m hm; have h1 : m / n < ys.length := (Nat.div_lt_iff_lt_mul hn).2 hm; refine ⟨h1, Nat.mod_lt _ hn, ?_⟩
    rw [← hl _ _ (List.getElem?_eq_getElem h1)]; exact hlen _ (List.getElem_mem h1)
   refine ⟨(List.range (ys.length * n)).map fun m => f (m / n) (m % n), by simp, by simp [Builtin.lenOf], ?_, ?_, ?_⟩
   · intro w' hw'
     simp only [Builtin.firstCells]; refine run_loadCells w' ⟨blk, o, none⟩ (ys.length * n) (fun m => f (m / n) (m % n)) (fun m hm => ?_)
     obtain ⟨h1, h2, h3⟩ := hpos m hm; rw [Addr.add_none, cell_heap (w := κ.w) (by rw [hw'])]; have := hcell (m / n) (m % n) h1 (by omega); rw [h3] at this; have e : o + m / n * n + m % n = o + m := by have := Nat.div_add_mod m n; rw [Nat.mul_comm] at this; omega
     rwa [e] at this
   · intro i row hi j x hj
     have hil : i < ys.length := by have := List.getElem?_eq_some_iff.1 hi; exact this.1
     have hjn : j < n := by
      have h1 := hlen row (List.mem_of_getElem? hi); have := List.getElem?_eq_some_iff.1 hj; obtain ⟨h2, _⟩ := this; omega
     have hlt : i * n + j < ys.length * n := by
      have : (i + 1) * n ≤ ys.length * n := Nat.mul_le_mul_right _ hil; rw [Nat.add_mul] at this; omega
     have hd : (i * n + j) / n = i := by rw [Nat.mul_comm, Nat.mul_add_div hn, Nat.div_eq_of_lt hjn, Nat.add_zero]
     have hm : (i * n + j) % n = j := by rw [Nat.mul_comm, Nat.mul_add_mod, Nat.mod_eq_of_lt hjn]
     refine ⟨f i j, ?_, hrel i row j x hi hj⟩
     simp [hlt, hd, hm]
   · intro x hx
     obtain ⟨m, hm, rfl⟩ := List.mem_map.1 hx; obtain ⟨h1, h2, h3⟩ := hpos m (List.mem_range.1 hm); have hrow := List.getElem?_eq_getElem h1; have hl' : (ys[m / n]).length = n := hlen _ (List.getElem_mem h1); exact Rel.oneCell (hrel _ _ (m % n) _ hrow (List.getElem?_eq_getElem (by omega)))
theorem zeroCells_none (z : Array Value) : Builtin.zeroCells z 0 = #[] := by simp [Builtin.zeroCells]
section app
variable {t u ty e0 : TypeId} {ti : TypeInfo} {z : Value} {v2 : Value} {ys : List (List D)} {news : List Value}
variable (ht : P.underlying t = some (.slice e0)) (hu : ∃ e, P.underlying u = some (.slice e)) (hi : P.info? e0 = some ti) (hz : ti.zero = some z) (hS : Src P κ ti.size v2 ys news)
include ht hu hi hS
theorem run_app_room {base : Option Addr} {n c : Nat} (hroom : n + ys.length ≤ c) {w' : World} (hst : ∀ a, base = some a → (storeCells (a.add (n * ti.size)) news).run P κ.w = .ok () w') (hb : base = none → w' = κ.w) :
 (Builtin.append_ #[t, u] ty #[.slice base n c, v2]).run P κ.w = .ok (.slice base (n + ys.length) c) w' := by
 obtain ⟨e, hu⟩ := hu; cases base with
 | none =>
  rw [hb rfl]; simp [Builtin.append_, run_underlying ht, run_underlying hu, sizeOf, typeInfo, hi, hS.lenOf, hroom, hS.first κ.w rfl]
 | some a =>
  simp [Builtin.append_, run_underlying ht, run_underlying hu, sizeOf, typeInfo, hi, hS.lenOf, hroom, hS.first κ.w rfl, hst a rfl]
include hz
theorem run_app_grow {base : Option Addr} {n c : Nat} {olds : List Value} (hroom : ¬ n + ys.length ≤ c) (hbig : (n + ys.length) * ti.bytes ≤ 2 ^ 40 ∧ n + ys.length ≤ 2 ^ 40)
 (hold : ∀ w' : World, w'.heap = κ.w.heap → (Builtin.firstCells ti.size n (.slice base n c)).run P w' = .ok olds.toArray w') :
 (Builtin.append_ #[t, u] ty #[.slice base n c, v2]).run P κ.w = .ok (.slice (some ⟨κ.w.heap.size, 0, none⟩) (n + ys.length) (grownCap κ.w (n + ys.length) c e0))
  (κ.w.drew.alloc (.cells (olds.toArray ++ news.toArray ++ Builtin.zeroCells z.cells (grownCap κ.w (n + ys.length) c e0 - (n + ys.length))) e0)) := by
 obtain ⟨e, hu⟩ := hu; have h63 : ¬ (9223372036854775807 < ((n : Int) + (ys.length : Int))) := by omega
 have hfit : ¬ (281474976710656 < Builtin.nextslicecap (n + ys.length) c * ti.bytes) := by
  have := growslice_fits (need := n + ys.length) (old := c) (bytes := ti.bytes) (by omega) (by omega); omega
 have hold' := hold κ.w.drew rfl; have hnew' := hS.first κ.w.drew rfl
 simp [Builtin.append_, run_underlying ht, run_underlying hu, sizeOf, typeInfo, zeroValue, hi, hz, hS.lenOf, hroom, h63, hfit, Question.forced, hold', hnew', newRow, grownCap]
 congr 2
 apply Array.ext'
 simp [List.append_assoc]
end app
theorem Inv.name (I : Inv fid G E κ H FN FZ) (hg : FN g) (i : Inf) (B : Box) (hblk : i.real = true → E.κ.w.heap.size ≤ i.blk ∨ E.pass i.blk)
 (hB : ∀ κ' : Ctx, κ.le κ' → κ'.w = κ.w → κ'.Im = κ.Im → κ'.ζ = κ.ζ → κ'.β g = some i → BoxRel fid κ' g B)
 (hd : ∀ b j, H b ≠ .dead → κ.β b = some j → j.real = true → i.real = true → j.blk ≠ i.blk) :
 ∃ κ' : Ctx, κ'.w = κ.w ∧ κ.le κ' ∧ κ'.β g = some i ∧ Inv fid G E κ' (upd H g B) (fun n => FN n ∧ n ≠ g) FZ := by
 have hng := I.nfree g hg
 let κ' : Ctx := { w := κ.w, Im := κ.Im, ζ := κ.ζ, β := fun n => if n = g then some i else κ.β n }
 have hle : κ.le κ' := ⟨Nat.le_refl _, fun _ _ h => h, fun b o h => rfl, fun _ _ h => h, fun n j hn => by
  show (if n = g then some i else κ.β n) = some j
  rw [if_neg (by intro e; rw [e, hng] at hn; cases hn)]; exact hn⟩
 have hbg : κ'.β g = some i := if_pos rfl; have hbo : ∀ n, n ≠ g → κ'.β n = κ.β n := fun n hn => if_neg hn
 refine ⟨κ', rfl, hle, hbg, I.le.trans hle, I.os, I.tape, I.output, I.same, I.im, I.imlt, I.zlt, I.zinj, I.znew, I.zfree, ?_, ?_, ?_, ?_, I.glob.mono hle⟩
 · intro b ⟨h1, h2⟩; rw [hbo b h2]; exact I.nfree b h1
 · intro b j hd1 hj hr
   by_cases e : b = g
   · subst e; rw [hbg] at hj; cases hj; exact hblk hr
   · rw [hbo b e] at hj; simp only [upd, if_neg e] at hd1; exact I.blk b j hd1 hj hr
 · intro b
   by_cases e : b = g
   · subst e; simp only [upd, if_pos]; exact hB κ' hle rfl rfl rfl hbg
   · simp only [upd, if_neg e]
     exact (I.box b).keep hle (fun j _ _ _ => ⟨rfl, fun _ h => h, fun _ h => h⟩)
 · intro b b' j j' hne hd1 hd2 hj hj' hr hr'
   by_cases e : b = g
   · subst e
     rw [hbg] at hj; cases hj
     have e' : b' ≠ b := fun h => hne h.symm
     rw [hbo b' e'] at hj'; simp only [upd, if_neg e'] at hd2; exact fun h => hd b' j' hd2 hj' hr' hr h.symm
   · rw [hbo b e] at hj
     simp only [upd, if_neg e] at hd1
     by_cases e' : b' = g
     · subst e'
       rw [hbg] at hj'; cases hj'
       exact hd b j hd1 hj hr hr'
     · rw [hbo b' e'] at hj'
       simp only [upd, if_neg e'] at hd2; exact I.dist b b' j j' hne hd1 hd2 hj hj' hr hr'
theorem virt (I : Inv fid G E κ H FN FZ) (hg : FN g) (st : Option Nat) (sz ro : Nat) :
 ∃ κ' : Ctx, κ'.w = κ.w ∧ κ.le κ' ∧ κ'.β g = some ⟨0, 0, sz, 0, false⟩ ∧ Inv fid G E κ' (upd H g (.row st sz [] ro)) (fun n => FN n ∧ n ≠ g) FZ :=
 I.name hg ⟨0, 0, sz, 0, false⟩ (.row st sz [] ro) (fun h => by cases h) (fun κ' _ _ _ _ hb => ⟨_, hb, rfl, by simp, .inl ⟨rfl, rfl⟩⟩) (fun _ _ _ _ _ h => by cases h)
theorem Inv.kill' (I : Inv fid G E κ H FN FZ) (b : Nat) : Inv fid G E κ (upd H b .dead) FN FZ := I.kill b
theorem good_fresh {c : Call} {x y : Operand} {u : Value} {olds news : List Value} {sz n : Nat} {rows : List (List D)} {T : TypeId} {cap : Nat} {zs : Array Value} {st : Option Nat} {ro : Nat} {tt : List Nat} {wr : Bool} {e : Eff} {H' : Nat → Box}
 (I : Inv fid G E κ H' FN FZ) (hg : FN g) (hr : (execOp ρ o).run P κ.w = .ok (.value (.slice (some ⟨κ.w.heap.size, 0, none⟩) n cap)) (κ.w.drew.alloc (.cells (olds.toArray ++ news.toArray ++ zs) T)))
 (hn : rows.length = n) (hcap : n ≤ cap) (hlen : ∀ row ∈ rows, row.length = sz) (hR : RowsAt κ (olds ++ news).toArray 0 sz rows) (hs : (olds ++ news).length = n * sz) (hz : zs.size = (cap - n) * sz) (hst : st = none ∨ st = some 0)
 (he : e = ⟨.w (.own g 0 n none), upd H' g (.row st sz rows ro), tt, wr⟩) : Good P fid G E κ FN FZ g s ρ o e := by
 subst he; have hsz : (olds.toArray ++ news.toArray ++ zs).size = cap * sz := by
  simp at hs ⊢; rw [hz, hs, ← Nat.add_mul]; congr 1; omega
 obtain ⟨κ', hw, hle, hb, I'⟩ := new_row (g := g) (sz := sz) (ro := ro) (st := st) (rows := rows) I (w' := κ.w.drew.alloc (.cells (olds.toArray ++ news.toArray ++ zs) T)) (arr := olds.toArray ++ news.toArray ++ zs) (T := T) rfl rfl rfl rfl hg
  hlen (by rw [hsz, hn]; exact Nat.mul_le_mul_right _ hcap) (fun i row hi j d hj => by
   obtain ⟨y, hy, q⟩ := hR i row hi j d hj; refine ⟨y, ?_, q⟩
   have : (olds.toArray ++ news.toArray) = (olds ++ news).toArray := by simp
   rw [this, Array.getElem?_append_left]
   · exact hy
   · have := (Array.getElem?_eq_some_iff.1 hy); exact this.1) hst
 refine ⟨_, _, κ', by rw [hw]; exact hr, .inl rfl, hle, ⟨_, cap, hb, .inl rfl, hcap, .inr ⟨rfl, 0, rfl, .inr ⟨by simp, by rw [hsz]; simp⟩⟩⟩, I'.weak FN'_of (fun n h => h.1)⟩
theorem rows_append {κ : Ctx} {olds news : List Value} {sz : Nat} {a b : List (List D)} (ha : RowsAt κ olds.toArray 0 sz a) (hl : olds.length = a.length * sz) (hb : RowsAt κ news.toArray 0 sz b) (hla : ∀ row ∈ a, row.length = sz) :
 RowsAt κ (olds ++ news).toArray 0 sz (a ++ b) := by
 intro i row hi j x hj; rw [List.getElem?_append] at hi; split at hi
 · rename_i hia
   obtain ⟨y, hy, q⟩ := ha i row hi j x hj; refine ⟨y, ?_, q⟩
   simp only [List.getElem?_toArray] at hy ⊢; rw [List.getElem?_append_left]
   · exact hy
   · have := List.getElem?_eq_some_iff.1 hy; exact this.1
 · rename_i hia
   obtain ⟨y, hy, q⟩ := hb (i - a.length) row hi j x hj; refine ⟨y, ?_, q⟩
   simp only [List.getElem?_toArray] at hy ⊢; have e : a.length * sz + (i - a.length) * sz = i * sz := by rw [← Nat.add_mul]; congr 1; omega
   rw [List.getElem?_append_right (by omega), ← hy]
   congr 1; omega
section ops
variable (I : Inv fid G E κ H FN FZ) (hev : ∀ x X, stripX cid x = some X → VRel fid κ (ρ x) (ev X)) (hfn : ∀ n, g ≤ n → n < g + 64 → FN n)
include I hev hfn
theorem good_app_nil {c : Call} {t u e0 e1 : TypeId} {ti : TypeInfo} {zd : List D} {x y : Operand} {Y X : VM.X} {yw : W} {ys : List (List D)} {tt : List Nat} {e : Eff} (ho : o.op = .call c) (hc : c.callee = .builtin .append) (hat : c.argTypes.toList = [t, u]) (hag : c.args.toList = [x, y])
 (ht : P.underlying t = some (.slice e0)) (hu : P.underlying u = some (.slice e1)) (hi : P.info? e0 = some ti) (hz : zeroD P e0 = some zd) (hpos : 0 < ti.size) (hX : stripX cid x = some X) (hY : stripX cid y = some Y)
 (hx : ev X = .w .nil) (hy : ev Y = .w yw) (hrows : rowsOf H yw = some (ys, tt)) (hall : ys.all (·.length == ti.size) = true) (hroom : room ys.length ti.bytes = true)
 (he : e = ⟨.w (.own g 0 ys.length none), upd H g (.row none ti.size ys 0), tt, false⟩) : Good P fid G E κ FN FZ g s ρ o e := by
 obtain ⟨_, z, hi', hzu, hus, _, _⟩ := zeroD_ok hz; rw [hi] at hi'; cases hi'
 have h1 : c.argTypes = #[t, u] := by rw [← Array.toArray_toList (xs := c.argTypes), hat]
 have h2 : c.args = #[x, y] := by rw [← Array.toArray_toList (xs := c.args), hag]
 have hvx := hev x X hX; rw [hx] at hvx; have hvx' : ρ x = .slice none 0 0 := hvx; have hvy := hev y Y hY; rw [hy] at hvy; have hlen : ∀ row ∈ ys, row.length = ti.size := by simpa using hall
 obtain ⟨news, hS⟩ := src_of (P := P) (rows_read I hvy hrows) hlen hpos; have hr := room_ok hroom; have hop : ∀ v w', (Builtin.append_ #[t, u] o.type #[.slice none 0 0, ρ y]).run P κ.w = .ok v w' → (execOp ρ o).run P κ.w = .ok (.value v) w' := fun v w' h => by
  simp [execOp, ho, resolve, hc, invoke, builtin, h1, h2, hvx', h]
 have hg := hfn g (Nat.le_refl _) (by omega); rcases Nat.eq_zero_or_pos ys.length with h0 | h0
 · have hys : ys = [] := List.eq_nil_of_length_eq_zero h0
   subst hys; subst he; obtain ⟨κ', hw, hle, hb, I'⟩ := virt I hg none ti.size 0; have hrun := run_app_room (ty := o.type) ht ⟨e1, hu⟩ hi hS (base := none) (n := 0) (c := 0) (w' := κ.w) (by simp) (fun a h => by cases h) (fun _ => rfl); refine ⟨_, _, κ', by rw [hw]; exact hop _ _ hrun, .inl rfl, hle, ⟨_, 0, hb, .inl rfl, by simp, .inl ⟨rfl, rfl, rfl⟩⟩, I'.weak FN'_of (fun n h => h.1)⟩
 · have hrun := run_app_grow (ty := o.type) ht ⟨e1, hu⟩ hi hzu hS (base := none) (n := 0) (c := 0) (olds := []) (by omega) (by simpa using hr) (fun w' _ => by simp [Builtin.firstCells])
   simp only [Nat.zero_add] at hrun; have hge := grownCap_ge κ.w ys.length 0 e0; exact good_fresh (c := c) (x := x) (y := y) (u := ρ x) (zs := Builtin.zeroCells z.cells (grownCap κ.w ys.length 0 e0 - ys.length)) I hg (hop _ _ hrun) rfl hge hlen (by simpa using hS.rows) (by simpa using hS.len) (by rw [size_zeroCells, hus]) (.inl rfl) he
theorem good_app_own {c : Call} {t u e0 e1 : TypeId} {ti : TypeInfo} {zd : List D} {x y : Operand} {Y X : VM.X} {yw : W} {ys : List (List D)} {tt : List Nat} {b off len ro : Nat} {cap : Option Nat} {st : Option Nat} {rows : List (List D)} {e : Eff} (ho : o.op = .call c) (hc : c.callee = .builtin .append) (hat : c.argTypes.toList = [t, u]) (hag : c.args.toList = [x, y])
 (ht : P.underlying t = some (.slice e0)) (hu : P.underlying u = some (.slice e1)) (hi : P.info? e0 = some ti) (hz : zeroD P e0 = some zd) (hpos : 0 < ti.size) (hX : stripX cid x = some X) (hY : stripX cid y = some Y)
 (hx : ev X = .w (.own b off len cap)) (hy : ev Y = .w yw) (hrows : rowsOf H yw = some (ys, tt)) (hall : ys.all (·.length == ti.size) = true) (hH : H b = .row st ti.size rows ro) (hfit : off + len ≤ rows.length) (hro : ro ≤ off + len)
 (hroom : room (len + ys.length) ti.bytes = true)
 (he : e = ⟨.w (.own g 0 (len + ys.length) none), upd (upd H b .dead) g (.row (taint st) ti.size ((rows.drop off).take len ++ ys) (ro - off)), tt ++ [b], true⟩) : Good P fid G E κ FN FZ g s ρ o e := by
 obtain ⟨_, z, hi', hzu, hus, _, _⟩ := zeroD_ok hz; rw [hi] at hi'; cases hi'
 have h1 : c.argTypes = #[t, u] := by rw [← Array.toArray_toList (xs := c.argTypes), hat]
 have h2 : c.args = #[x, y] := by rw [← Array.toArray_toList (xs := c.args), hag]
 have hvx := hev x X hX; rw [hx] at hvx; have hvy := hev y Y hY; rw [hy] at hvy; have hlen : ∀ row ∈ ys, row.length = ti.size := by simpa using hall
 obtain ⟨news, hS⟩ := src_of (P := P) (rows_read I hvy hrows) hlen hpos; have hr := room_ok hroom; have hop : ∀ v w', (Builtin.append_ #[t, u] o.type #[ρ x, ρ y]).run P κ.w = .ok v w' → (execOp ρ o).run P κ.w = .ok (.value v) w' := fun v w' h => by
  simp [execOp, ho, resolve, hc, invoke, builtin, h1, h2, h]
 have hg := hfn g (Nat.le_refl _) (by omega); have hst : taint st = none ∨ taint st = some 0 := by cases st <;> simp [taint]
 have hst2 : ∀ κ' : Ctx, κ'.ζ = κ.ζ → ∀ i' : Inf, StOk κ i'.blk st → StOk κ' i'.blk (taint st) := fun κ' hz i' h => by
  cases st with
  | none => intro t' ht'; rw [hz] at ht'; exact h t' ht'
  | some t0 => intro h; exact absurd rfl h
 generalize taint st = st' at hst he hst2; have hll : ((rows.drop off).take len).length = len := by simp; omega
 have hbox := I.box b; rw [hH] at hbox; obtain ⟨i, hb, hsz, hlenr, hq⟩ := hbox; have hhdr : ∀ row ∈ (rows.drop off).take len, row.length = ti.size := fun row h => hlenr row (List.mem_of_mem_drop (List.mem_of_mem_take h))
 have hbothl : ∀ row ∈ (rows.drop off).take len ++ ys, row.length = ti.size := fun row h => by
  rcases List.mem_append.1 h with h | h
  · exact hhdr row h
  · exact hlen row h
 obtain ⟨i', cap', hb', hcc, hlc, ⟨hv0, hl0, hc0⟩ | ⟨hreal, o', hv0, ho'⟩⟩ := hvx <;> (rw [hb] at hb'; cases hb')
 · -- the slice is nil
   have hvx' : ρ x = .slice none 0 0 := hv0; subst hl0; rcases Nat.eq_zero_or_pos ys.length with h0 | h0
   · have hys : ys = [] := List.eq_nil_of_length_eq_zero h0
     subst hys; subst he; obtain ⟨κ', hw, hle, hbg, I'⟩ := virt (I.kill b) hg st' ti.size (ro - off); have hrun := run_app_room (ty := o.type) ht ⟨e1, hu⟩ hi hS (base := none) (n := 0) (c := 0) (w' := κ.w) (by simp) (fun a h => by cases h) (fun _ => rfl); refine ⟨_, _, κ', by rw [hw]; exact hop _ _ (by rw [hvx']; exact hrun), .inl rfl, hle, ⟨_, 0, hbg, .inl rfl, by simp, .inl ⟨rfl, rfl, rfl⟩⟩, ?_⟩
     have I2 := I'.weak (FN₁ := FN' FN g) (FZ₁ := FZ' FZ s) FN'_of (fun n h => h.1)
     simpa using I2
   · have hrun := run_app_grow (ty := o.type) ht ⟨e1, hu⟩ hi hzu hS (base := none) (n := 0) (c := 0) (olds := []) (by omega) (by simpa using hr) (fun w' _ => by simp [Builtin.firstCells])
     have hge := grownCap_ge κ.w (0 + ys.length) 0 e0; refine good_fresh (c := c) (x := x) (y := y) (u := ρ x) (zs := Builtin.zeroCells z.cells (grownCap κ.w (0 + ys.length) 0 e0 - (0 + ys.length))) (I.kill b) hg (hop _ _ (by rw [hvx']; exact hrun)) (by simp) hge hbothl (by simpa using hS.rows) (by simpa using hS.len) (by rw [size_zeroCells, hus]) hst he
 · have hvx' : ρ x = .slice (some ⟨i.blk, o', none⟩) len cap' := hv0
   rcases hq with ⟨hr', _⟩ | ⟨arr, T, q⟩
   · rw [hreal] at hr'; cases hr'
   have hkey : ∀ k row, ((rows.drop off).take len)[k]? = some row → ∀ j d, row[j]? = some d → j < ti.size ∧ k < len ∧ ∃ y, arr[o' + k * ti.size + j]? = some y ∧ κ.rel y d := by
    intro k row hk j d hj; have hjs : j < ti.size := by
     have h1 := hhdr row (List.mem_of_getElem? hk); have := List.getElem?_eq_some_iff.1 hj; obtain ⟨h2, _⟩ := this; omega
    rw [seg_get] at hk; split at hk
    · rename_i hkl
      have ho1 : o' = i.δ + off * ti.size := by rw [← hsz]; rcases ho' with h | h; omega; exact h.1
      obtain ⟨y, hy, qy⟩ := q.rows _ _ hk j d hj; refine ⟨hjs, hkl, y, ?_, qy⟩
      rw [← hy, hsz, ho1]; congr 1; rw [Nat.add_mul]; omega
    · cases hk
   by_cases hin : len + ys.length ≤ cap'
   · -- in its place
     have hfits : len + ys.length = 0 ∨ (o' = i.δ + off * ti.size ∧ o' + (len + ys.length) * ti.size ≤ arr.size) := by
      rcases ho' with h | ⟨h1, h2⟩
      · left; omega
      · right
        rw [hsz] at h1 h2; have : (len + ys.length) * ti.size ≤ cap' * ti.size := Nat.mul_le_mul_right _ hin; exact ⟨h1, by rw [q.size]; omega⟩
     subst he; rcases hfits with h0 | ⟨ho1, hfits⟩
     · have hl0 : len = 0 := by omega
       have hys : ys = [] := List.eq_nil_of_length_eq_zero (by omega); subst hys hl0; obtain ⟨κ', hw, hle, hbg, I'⟩ := (I.kill b).name hg ⟨i.blk, i.δ + off * ti.size, ti.size, i.room, true⟩ (.row st' ti.size [] (ro - off)) (fun _ => I.blk b i (by rw [hH]; simp) hb hreal)
        (fun κ' hle hw him hz hbg => ⟨_, hbg, rfl, by simp, .inr ⟨arr, T, rfl, by rw [hw]; exact q.heap, q.size, by
         have := q.fits; have h3 : off * ti.size ≤ rows.length * ti.size := Nat.mul_le_mul_right _ (by omega); rw [hsz] at this; simp; omega, fun k row hk => by simp at hk, fun m hm => by
         rw [him] at hm; have h1 := q.im m hm; rw [hsz] at h1
         show m < i.δ + off * ti.size + (ro - off) * ti.size
         have : ro * ti.size ≤ off * ti.size + (ro - off) * ti.size := by rw [← Nat.add_mul]; exact Nat.mul_le_mul_right _ (by omega)
         omega, by
         exact hst2 κ' hz i q.st⟩⟩)
        (fun b' j hd hj hrj _ => by
         by_cases e : b' = b
         · subst e; simp [upd] at hd
         · simp only [upd, if_neg e] at hd
           exact I.dist b' b j i e hd (by rw [hH]; simp) hj hb hrj hreal)
       have hrun := run_app_room (ty := o.type) ht ⟨e1, hu⟩ hi hS (base := some ⟨i.blk, o', none⟩) (n := 0) (c := cap') (w' := κ.w) (by simpa using hin) (fun a _ => by
        have : news = [] := List.eq_nil_of_length_eq_zero (by simpa using hS.len); rw [this]; rfl) (fun h => by cases h)
       refine ⟨_, _, κ', by rw [hw]; exact hop _ _ (by rw [hvx']; exact hrun), .inl rfl, hle, ⟨_, cap', hbg, .inl rfl, by simp, .inr ⟨rfl, o', rfl, ?_⟩⟩, ?_⟩
       · rcases ho' with h | h
         · exact .inl h
         · right; rw [hsz] at h; exact ⟨by simpa using h.1, h.2⟩
       · have I2 := I'.weak (FN₁ := FN' FN g) (FZ₁ := FZ' FZ s) FN'_of (fun n h => h.1)
         simpa using I2
     · have hnl := hS.len
       have hmul : (len + ys.length) * ti.size = len * ti.size + news.length := by rw [Nat.add_mul, hnl]
       have hspan : o' + len * ti.size + news.length ≤ arr.size := by omega
       have hstc := run_storeCells_at P i.blk (o' + len * ti.size) T news 0 arr κ.w q.heap (by simpa using hspan) hS.one; simp only [Nat.add_zero] at hstc; have hspan2 : o' + len * ti.size + news.length ≤ arr.toList.length := by simpa using hspan
       have hget := fun m => splice_get (l := arr.toList) (cs := news) hspan2 m
       have himlow : ∀ m, κ.Im i.blk m → m < o' + len * ti.size := fun m hm => by
        have h1 := q.im m hm; rw [hsz] at h1; have : ro * ti.size ≤ (off + len) * ti.size := Nat.mul_le_mul_right _ hro; rw [Nat.add_mul] at this; omega
       obtain ⟨hle1, I1⟩ := I.store (w' := κ.w.setRow i.blk (splice arr.toList (o' + len * ti.size) news).toArray) (B := .dead) hb hreal (by rw [hH]; simp) q.heap (setRow_heap _ _ _ _ _ _ q.heap) (size_setRow _ _ _) (fun k hk => setRow_other _ _ _ _ hk) rfl rfl rfl
        (fun m hm => by
         have := himlow m hm; rw [List.getElem?_toArray, hget, if_neg (by omega)]; simp) (fun _ => trivial)
       obtain ⟨κ', hw, hle, hbg, I'⟩ := I1.name hg ⟨i.blk, i.δ + off * ti.size, ti.size, i.room, true⟩ (.row st' ti.size ((rows.drop off).take len ++ ys) (ro - off)) (fun _ => I.blk b i (by rw [hH]; simp) hb hreal)
        (fun κ' hle hw him hz hbg => ⟨_, hbg, rfl, hbothl, .inr ⟨(splice arr.toList (o' + len * ti.size) news).toArray, T, rfl, by rw [hw]; exact setRow_heap _ _ _ _ _ _ q.heap, by rw [List.size_toArray, splice_length hspan2]; simpa using q.size, by
         show i.δ + off * ti.size + ((rows.drop off).take len ++ ys).length * ti.size ≤ i.room
         rw [List.length_append, hll, ← ho1, ← q.size]; exact hfits, by
         show RowsAt κ' _ (i.δ + off * ti.size) ti.size _
         rw [← ho1]; intro k row hk j d hj; rw [List.getElem?_toArray, hget]; rw [List.getElem?_append] at hk; split at hk
         · obtain ⟨hjs, hkl, y, hy, qy⟩ := hkey k row hk j d hj
           have : (k + 1) * ti.size ≤ len * ti.size := Nat.mul_le_mul_right _ hkl; rw [Nat.add_mul] at this; rw [if_neg (by omega)]; exact ⟨y, by simpa using hy, hle.rel (hle1.rel qy)⟩
         · rename_i hkl
           rw [hll] at hk hkl; obtain ⟨y, hy, qy⟩ := hS.rows (k - len) row hk j d hj; simp only [List.getElem?_toArray, Nat.zero_add] at hy; have hlt := List.getElem?_eq_some_iff.1 hy; obtain ⟨hlt, _⟩ := hlt; have e1 : len * ti.size + (k - len) * ti.size = k * ti.size := by rw [← Nat.add_mul]; congr 1; omega
           rw [if_pos (by omega)]; refine ⟨y, ?_, hle.rel (hle1.rel qy)⟩
           rw [← hy]; congr 1; omega, fun m hm => by
         rw [him] at hm; have h1 := q.im m hm; rw [hsz] at h1
         show m < i.δ + off * ti.size + (ro - off) * ti.size
         have : ro * ti.size ≤ off * ti.size + (ro - off) * ti.size := by rw [← Nat.add_mul]; exact Nat.mul_le_mul_right _ (by omega)
         omega, by
         exact hst2 κ' hz i q.st⟩⟩)
        (fun b' j hd hj hrj _ => by
         by_cases e : b' = b
         · subst e; simp [upd] at hd
         · simp only [upd, if_neg e] at hd
           exact I.dist b' b j i e hd (by rw [hH]; simp) hj hb hrj hreal)
       have hrun := run_app_room (ty := o.type) ht ⟨e1, hu⟩ hi hS (base := some ⟨i.blk, o', none⟩) (n := len) (c := cap') (w' := κ.w.setRow i.blk (splice arr.toList (o' + len * ti.size) news).toArray) hin (fun a ha => by
        cases ha
        rw [Addr.add_none]; exact hstc) (fun h => by cases h)
       refine ⟨_, _, κ', by rw [hw]; exact hop _ _ (by rw [hvx']; exact hrun), .inl rfl, hle1.trans hle, ⟨_, cap', hbg, .inl rfl, hin, .inr ⟨rfl, o', rfl, ?_⟩⟩, I'.weak FN'_of (fun n h => h.1)⟩
       rcases ho' with h | h
       · exact .inl h
       · right; rw [hsz] at h; exact ⟨by simpa using h.1, h.2⟩
   · -- a fresh block
     let olds : List Value := (List.range (len * ti.size)).map fun m => (arr[o' + m]?).getD undef
     have hocell : ∀ m, m < len * ti.size → ∃ y, arr[o' + m]? = some y := by
      intro m hm; have h1 : m / ti.size < len := (Nat.div_lt_iff_lt_mul hpos).2 hm; have h2 : ((rows.drop off).take len)[m / ti.size]? = some ((rows.drop off).take len)[m / ti.size] := List.getElem?_eq_getElem (by omega); have h3 := hhdr _ (List.mem_of_getElem? h2); obtain ⟨_, _, y, hy, _⟩ := hkey _ _ h2 (m % ti.size) _ (List.getElem?_eq_getElem (by rw [h3]; exact Nat.mod_lt _ hpos)); refine ⟨y, ?_⟩
      have e : o' + m / ti.size * ti.size + m % ti.size = o' + m := by have := Nat.div_add_mod m ti.size; rw [Nat.mul_comm] at this; omega
      rwa [e] at hy
     have hold : ∀ w' : World, w'.heap = κ.w.heap → (Builtin.firstCells ti.size len (.slice (some ⟨i.blk, o', none⟩) len cap')).run P w' = .ok olds.toArray w' := fun w' hw' => by
      simp only [Builtin.firstCells]; refine run_loadCells w' ⟨i.blk, o', none⟩ (len * ti.size) (fun m => (arr[o' + m]?).getD undef) (fun m hm => ?_)
      obtain ⟨y, hy⟩ := hocell m hm; rw [Addr.add_none, cell_heap (w := κ.w) (by rw [hw']), cell_of q.heap, hy]; rfl
     have hrun := run_app_grow (ty := o.type) ht ⟨e1, hu⟩ hi hzu hS (base := some ⟨i.blk, o', none⟩) (n := len) (c := cap') (olds := olds) hin hr hold; have hge := grownCap_ge κ.w (len + ys.length) cap' e0; refine good_fresh (c := c) (x := x) (y := y) (u := ρ x) (zs := Builtin.zeroCells z.cells (grownCap κ.w (len + ys.length) cap' e0 - (len + ys.length))) (I.kill b) hg (hop _ _ (by rw [hvx']; exact hrun)) (by simp; omega) hge hbothl ?_ ?_ (by rw [size_zeroCells, hus]) hst he
     · refine rows_append (fun k row hk j d hj => ?_) (by simp [olds, hll]) hS.rows hhdr
       obtain ⟨hjs, hkl, y, hy, qy⟩ := hkey k row hk j d hj; refine ⟨y, ?_, qy⟩
       have hlt : k * ti.size + j < len * ti.size := by
        have : (k + 1) * ti.size ≤ len * ti.size := Nat.mul_le_mul_right _ hkl; rw [Nat.add_mul] at this; omega
       rw [Nat.add_assoc] at hy; simp [olds, hlt, hy]
     · simp [olds, hS.len, Nat.add_mul]
end ops
end
end Go.VM

/- The value machine: names, renaming, what a call gets and gives. Conditions: none. -/
namespace Go.VM
set_option linter.unusedVariables false
set_option linter.unusedSimpArgs false
set_option linter.unusedSectionVars false
section
variable {P : Program} {fid : Nat → FuncId} {cid : FuncId → Nat} {G : Nat → Option (List D)} {E : Entry} {κ : Ctx} {H : Nat → Box} {FN FZ : Nat → Prop} {g : Nat} {s : Sup}
theorem mem_addN {acc : List Nat} {x y : Nat} : y ∈ addN acc x ↔ y ∈ acc ∨ y = x := by
 unfold addN; split <;> simp_all
theorem nodup_addN {acc : List Nat} {x : Nat} (h : acc.Nodup) : (addN acc x).Nodup := by
 unfold addN; split
 · exact h
 · rename_i hx
   exact List.nodup_append.2 ⟨h, by simp, fun a ha b hb => by simp at hb; subst hb; exact fun e => hx (e ▸ ha)⟩
theorem mem_addAll {l acc : List Nat} {y : Nat} : y ∈ addAll acc l ↔ y ∈ acc ∨ y ∈ l := by
 unfold addAll
 induction l generalizing acc with
 | nil => simp
 | cons x r ih => rw [List.foldl_cons, ih, mem_addN]; simp [or_assoc]
theorem nodup_addAll {l acc : List Nat} (h : acc.Nodup) : (addAll acc l).Nodup := by
 unfold addAll
 induction l generalizing acc with
 | nil => exact h
 | cons x r ih => rw [List.foldl_cons]; exact ih (nodup_addN h)
theorem reach_sub {H : Nat → Box} {n : Nat} {acc : List Nat} {y : Nat} (h : y ∈ acc) : y ∈ reach H n acc := by
 induction n generalizing acc with
 | zero => exact h
 | succ n ih => exact ih (mem_addAll.2 (.inl h))
theorem reach_nodup {H : Nat → Box} {n : Nat} {acc : List Nat} (h : acc.Nodup) : (reach H n acc).Nodup := by
 induction n generalizing acc with
 | zero => exact h
 | succ n ih => exact ih (nodup_addAll h)
theorem reach_mem {H : Nat → Box} {n : Nat} {acc : List Nat} {y : Nat} (h : y ∈ reach H n acc) : y ∈ acc ∨ ∃ b, y ∈ (H b).names := by
 induction n generalizing acc with
 | zero => exact .inl h
 | succ n ih =>
  rcases ih h with h | h
  · rcases mem_addAll.1 h with h | h
    · exact .inl h
    · obtain ⟨b, _, hb⟩ := List.mem_flatMap.1 h; exact .inr ⟨b, hb⟩
  · exact .inr h
theorem idx_lt {l : List Nat} {x : Nat} (h : x ∈ l) : idx l x < l.length := List.findIdx_lt_length_of_exists ⟨x, h, by simp⟩
theorem getD_lt {l : List Nat} {k : Nat} (h : k < l.length) : l.getD k 0 = l[k] := by
 rw [List.getD_eq_getElem?_getD, List.getElem?_eq_getElem h]; rfl
theorem idx_get {l : List Nat} {x : Nat} (h : x ∈ l) : l.getD (idx l x) 0 = x := by
 have h1 := idx_lt h; rw [getD_lt h1]; have := List.findIdx_getElem (p := (· == x)) (xs := l) (w := h1); simp at this; exact this
theorem idx_at {l : List Nat} (h : l.Nodup) {k : Nat} (hk : k < l.length) : idx l (l.getD k 0) = k := by
 have hm : l.getD k 0 ∈ l := by rw [getD_lt hk]; exact List.getElem_mem hk
 have h1 := idx_lt hm; have h2 := idx_get hm; generalize idx l (l.getD k 0) = m at h1 h2; rw [getD_lt h1, getD_lt hk] at h2; exact (List.getElem_inj h).1 h2
theorem updL_not {H : Nat → Box} {l : List (Nat × Box)} {b : Nat} (h : ∀ p ∈ l, p.1 ≠ b) : updL H l b = H b := by
 induction l generalizing H with
 | nil => rfl
 | cons p r ih =>
  obtain ⟨n, x⟩ := p; simp only [updL]; rw [ih (fun q hq => h q (List.mem_cons_of_mem _ hq))]; have := h (n, x) (List.mem_cons_self ..); have h' : b ≠ n := fun e => this e.symm
  simp only [upd, if_neg h']
theorem updL_mem {H : Nat → Box} {l : List (Nat × Box)} {b : Nat} {x : Box} (hn : (l.map (·.1)).Nodup) (h : (b, x) ∈ l) : updL H l b = x := by
 induction l generalizing H with
 | nil => cases h
 | cons p r ih =>
  obtain ⟨n, y⟩ := p; simp only [List.map_cons, List.nodup_cons] at hn; simp only [updL]; rcases List.mem_cons.1 h with h | h
  · cases h
    rw [updL_not (fun q hq e => hn.1 (List.mem_map.2 ⟨q, hq, e⟩))]; simp [upd]
  · exact ih hn.2 h
theorem capNames_known {v : Value} {c : Cap} (h : CapRel κ v c) : ∀ n ∈ c.names, ∃ i, κ.β n = some i := by
 intro n hn; cases c with
 | d x => simp [Cap.names] at hn
 | ptr b off => simp [Cap.names] at hn; subst hn; obtain ⟨i, hi, _⟩ := h; exact ⟨i, hi⟩
theorem wNames_known {v : Value} {x : W} (h : WRel fid κ v x) : ∀ n ∈ x.names, ∃ i, κ.β n = some i := by
 intro n hn; cases x with
 | own b off len cap => simp [W.names] at hn; subst hn; obtain ⟨i, _, hi, _⟩ := h; exact ⟨i, hi⟩
 | ptr b off => simp [W.names] at hn; subst hn; obtain ⟨i, hi, _⟩ := h; exact ⟨i, hi⟩
 | rp b j off => simp [W.names] at hn; subst hn; obtain ⟨i, hi, _⟩ := h; exact ⟨i, hi⟩
 | fn f caps =>
  simp only [W.names, List.mem_flatMap] at hn; obtain ⟨c, hc, hn⟩ := hn; obtain ⟨k, hk⟩ := List.mem_iff_getElem?.1 hc; obtain ⟨_, _, _, hr⟩ := h; obtain ⟨y, _, q⟩ := hr k c hk; exact capNames_known q n hn
 | d x => simp [W.names] at hn
 | nil => simp [W.names] at hn
 | ln a b => simp [W.names] at hn
 | lp a b => simp [W.names] at hn
 | gp a b => simp [W.names] at hn
theorem lNames_known {arr : Array Value} {cs : List W} (h : LRel fid κ arr cs) : ∀ n ∈ wnames cs, ∃ i, κ.β n = some i := by
 intro n hn; simp only [wnames, List.mem_flatMap] at hn; obtain ⟨c, hc, hn⟩ := hn; obtain ⟨k, hk⟩ := List.mem_iff_getElem?.1 hc; obtain ⟨y, _, q⟩ := h.2 k c hk; exact wNames_known q n hn
theorem pNames_known {v : Value} {p : Bool × List W} (h : PRel fid κ v p) : ∀ n ∈ wnames p.2, ∃ i, κ.β n = some i := by
 obtain ⟨b, cs⟩ := p; cases b with
 | true => obtain ⟨arr, _, h⟩ := h; exact lNames_known h
 | false =>
  match cs, h with
  | [x], h => intro n hn; simp [wnames] at hn; exact wNames_known h n hn
theorem vNames_known {v : Value} {x : V} (h : VRel fid κ v x) : ∀ n ∈ x.names, ∃ i, κ.β n = some i := by
 intro n hn; cases x with
 | w x => exact wNames_known h n hn
 | agg cs => obtain ⟨arr, _, h⟩ := h; exact lNames_known h n hn
 | tup vs =>
  simp only [V.names, List.mem_flatMap] at hn; obtain ⟨p, hp, hn⟩ := hn; obtain ⟨k, hk⟩ := List.mem_iff_getElem?.1 hp; obtain ⟨arr, _, _, hr⟩ := h; obtain ⟨y, _, q⟩ := hr k p hk; exact pNames_known q n hn
theorem bNames_known {b : Nat} {B : Box} (h : BoxRel fid κ b B) : ∀ n ∈ B.names, ∃ i, κ.β n = some i := by
 intro n hn; cases B with
 | cells cs => obtain ⟨_, arr, _, _, _, _, _, h, _⟩ := h; exact lNames_known h n hn
 | row st sz rows ro => simp [Box.names] at hn
 | dead => simp [Box.names] at hn
section ren
variable {β' : Nat → Option Inf} {r : Nat → Nat}
theorem CapRel.ren {v : Value} {c : Cap} (h : CapRel κ v c) (hr : ∀ n ∈ c.names, β' (r n) = κ.β n) : CapRel { κ with β := β' } v (c.ren r) := by
 cases c with
 | d x => exact h
 | ptr b off => obtain ⟨i, hi, h0, hv⟩ := h; exact ⟨i, by rw [← hi]; exact hr b (by simp [Cap.names]), h0, hv⟩
theorem WRel.ren {v : Value} {x : W} (h : WRel fid κ v x) (hr : ∀ n ∈ x.names, β' (r n) = κ.β n) : WRel fid { κ with β := β' } v (x.ren r) := by
 cases x with
 | own b off len cap => obtain ⟨i, c, hi, h⟩ := h; exact ⟨i, c, by rw [← hi]; exact hr b (by simp [W.names]), h⟩
 | ptr b off => obtain ⟨i, hi, h⟩ := h; exact ⟨i, by rw [← hi]; exact hr b (by simp [W.names]), h⟩
 | rp b j off => obtain ⟨i, hi, h⟩ := h; exact ⟨i, by rw [← hi]; exact hr b (by simp [W.names]), h⟩
 | fn f caps =>
  obtain ⟨arr, hv, hs, h⟩ := h; refine ⟨arr, hv, by simpa using hs, fun i c hc => ?_⟩
  rw [List.getElem?_map] at hc; cases hci : caps[i]? with
  | none => simp [hci] at hc
  | some c' =>
   simp [hci] at hc; subst hc
   obtain ⟨y, hy, q⟩ := h i c' hci; exact ⟨y, hy, q.ren (fun n hn => hr n (by simp only [W.names, List.mem_flatMap]; exact ⟨c', List.mem_of_getElem? hci, hn⟩))⟩
 | d x => exact h
 | nil => exact h
 | ln a b => exact h
 | lp a b => exact h
 | gp a b => exact h
theorem LRel.ren {arr : Array Value} {cs : List W} (h : LRel fid κ arr cs) (hr : ∀ n ∈ wnames cs, β' (r n) = κ.β n) : LRel fid { κ with β := β' } arr (cs.map (W.ren r)) := by
 refine ⟨by simpa using h.1, fun i c hc => ?_⟩
 rw [List.getElem?_map] at hc; cases hci : cs[i]? with
 | none => simp [hci] at hc
 | some c' =>
  simp [hci] at hc; subst hc
  obtain ⟨y, hy, q⟩ := h.2 i c' hci; exact ⟨y, hy, q.ren (fun n hn => hr n (by simp only [wnames, List.mem_flatMap]; exact ⟨c', List.mem_of_getElem? hci, hn⟩))⟩
theorem PRel.ren {v : Value} {p : Bool × List W} (h : PRel fid κ v p) (hr : ∀ n ∈ wnames p.2, β' (r n) = κ.β n) : PRel fid { κ with β := β' } v (p.1, p.2.map (W.ren r)) := by
 obtain ⟨b, cs⟩ := p; cases b with
 | true => obtain ⟨arr, hv, h⟩ := h; exact ⟨arr, hv, h.ren hr⟩
 | false =>
  match cs, h, hr with
  | [x], h, hr => exact WRel.ren h (fun n hn => hr n (by simpa [wnames] using hn))
theorem VRel.ren {v : Value} {x : V} (h : VRel fid κ v x) (hr : ∀ n ∈ x.names, β' (r n) = κ.β n) : VRel fid { κ with β := β' } v (x.ren r) := by
 cases x with
 | w x => exact WRel.ren h hr
 | agg cs => obtain ⟨arr, hv, h⟩ := h; exact ⟨arr, hv, h.ren hr⟩
 | tup vs =>
  obtain ⟨arr, hv, hs, h⟩ := h; refine ⟨arr, hv, by simpa using hs, fun i p hp => ?_⟩
  rw [List.getElem?_map] at hp; cases hpi : vs[i]? with
  | none => simp [hpi] at hp
  | some p' =>
   simp [hpi] at hp; subst hp
   obtain ⟨y, hy, q⟩ := h i p' hpi; exact ⟨y, hy, q.ren (fun n hn => hr n (by simp only [V.names, List.mem_flatMap]; exact ⟨p', List.mem_of_getElem? hpi, hn⟩))⟩
theorem BoxRel.ren {b b' : Nat} {B : Box} (h : BoxRel fid κ b B) (hr : ∀ n ∈ B.names, β' (r n) = κ.β n) (hb : β' b' = κ.β b) : BoxRel fid { κ with β := β' } b' (B.ren r) := by
 cases B with
 | cells cs => obtain ⟨i, arr, T, hi, h1, h2, h3, h4, h5⟩ := h; exact ⟨i, arr, T, by rw [← hi]; exact hb, h1, h2, h3, h4.ren hr, h5⟩
 | row st sz rows ro =>
  obtain ⟨i, hi, h1, h2, h3⟩ := h; refine ⟨i, by rw [← hi]; exact hb, h1, h2, ?_⟩
  rcases h3 with h | ⟨arr, T, q⟩
  · exact .inl h
  · refine .inr ⟨arr, T, q.real, q.heap, q.size, q.fits, q.rows, q.im, ?_⟩
    have := q.st; cases st with
    | none => exact this
    | some t => exact this
 | dead => trivial
theorem Box.ren_dead {B : Box} : B.ren r = .dead ↔ B = .dead := by cases B <;> simp [Box.ren]
end ren
def passOf (κ : Ctx) (bs : List Box) (k : Nat) : Prop := ∃ n i, bs.getD n .dead ≠ .dead ∧ κ.β n = some i ∧ i.real = true ∧ i.blk = k
structure In (fid : Nat → FuncId) (G : Nat → Option (List D)) (κ : Ctx) (bs : List Box) (s : Sup) : Prop where
 imlt : ∀ k o, κ.Im k o → k < κ.w.heap.size
 zlt : ∀ t b, κ.ζ t = some b → Clean κ.w b
 zinj : ∀ t t' b, κ.ζ t = some b → κ.ζ t' = some b → t = t'
 zfree : ∀ k, κ.ζ (s k) = none ∧ s k ≠ 0
 sinj : ∀ a b, s a = s b → a = b
 dom : ∀ b, bs.length ≤ b → κ.β b = none
 some : ∀ b, b < bs.length → ∃ i, κ.β b = some i
 box : ∀ b, BoxRel fid κ b (bs.getD b .dead)
 dist : ∀ b b' i i', b ≠ b' → bs.getD b .dead ≠ .dead → bs.getD b' .dead ≠ .dead → κ.β b = Option.some i → κ.β b' = Option.some i' → i.real = true → i'.real = true → i.blk ≠ i'.blk
 glob : Glob G κ
structure Out (fid : Nat → FuncId) (κ : Ctx) (bs : List Box) (s : Sup) (κ' : Ctx) (r : Res) (v : Value) : Prop where
 le : κ.le κ'
 os : κ'.w.os = κ.w.os
 tape : κ'.w.tape = κ.w.tape
 output : κ'.w.output = κ.w.output
 same : ∀ k, k < κ.w.heap.size → ¬ passOf κ bs k → κ'.w.heap[k]? = κ.w.heap[k]?
 im : ∀ k o, κ'.Im k o → κ.Im k o ∨ κ.w.heap.size ≤ k ∨ passOf κ bs k
 imlt : ∀ k o, κ'.Im k o → k < κ'.w.heap.size
 zlt : ∀ t b, κ'.ζ t = some b → Clean κ'.w b
 zinj : ∀ t t' b, κ'.ζ t = some b → κ'.ζ t' = some b → t = t'
 znew : ∀ t b, κ'.ζ t = some b → κ.ζ t = some b ∨ ((∃ k, t = s k) ∧ (κ.w.heap.size ≤ b ∨ passOf κ bs b))
 lenb : r.bs.length = bs.length
 bsame : ∀ b, b < bs.length → κ'.β b = κ.β b
 dom : ∀ b, bs.length + r.news.length ≤ b → κ'.β b = none
 blk : ∀ b i, (r.bs ++ r.news).getD b .dead ≠ .dead → κ'.β b = some i → i.real = true → κ.w.heap.size ≤ i.blk ∨ passOf κ bs i.blk
 box : ∀ b, BoxRel fid κ' b ((r.bs ++ r.news).getD b .dead)
 dist : ∀ b b' i i', b ≠ b' → (r.bs ++ r.news).getD b .dead ≠ .dead → (r.bs ++ r.news).getD b' .dead ≠ .dead → κ'.β b = some i → κ'.β b' = some i' → i.real = true → i'.real = true → i.blk ≠ i'.blk
 v : VRel fid κ' v r.v
def Enters (P : Program) (f : FuncId) : Prop := ∀ (args : Array Value) (w : World), (callFunc f args).run P w = .ok (.enter f args) w
def CallOK (P : Program) (fid : Nat → FuncId) (G : Nat → Option (List D)) (f : Nat) (args : List V) (bs : List Box) (s : Sup) (r : Res) : Prop :=
 Enters P (fid f) ∧ ∀ (κ : Ctx) (vs : List Value), In fid G κ bs s → vs.length = args.length → (∀ (i : Nat) (x : V), args[i]? = some x → ∃ v : Value, vs[i]? = some v ∧ VRel fid κ v x) →
  Calls P (fid f) vs.toArray κ.w fun e w' => ∃ v κ', e = .returned v ∧ κ'.w = w' ∧ Out fid κ bs s κ' r v
end
end Go.VM

/- The value machine: a call keeps the frame. Conditions: none. -/
namespace Go.VM
set_option linter.unusedVariables false
set_option linter.unusedSimpArgs false
set_option linter.unusedSectionVars false
section
variable {P : Program} {fid : Nat → FuncId} {cid : FuncId → Nat} {G : Nat → Option (List D)} {E : Entry} {κ : Ctx} {H : Nat → Box} {FN FZ : Nat → Prop} {g : Nat} {s : Sup}
theorem getD_map_box {ns : List Nat} {F : Nat → Box} {k : Nat} (hk : k < ns.length) : (ns.map F).getD k .dead = F (ns.getD k 0) := by
 rw [List.getD_eq_getElem?_getD, List.getElem?_map, List.getElem?_eq_getElem hk, getD_lt hk]; rfl
theorem getD_ge {l : List Box} {k : Nat} (hk : l.length ≤ k) : l.getD k .dead = .dead := by
 rw [List.getD_eq_getElem?_getD, List.getElem?_eq_none hk]; rfl
theorem Inv.live_lt (I : Inv fid G E κ H FN FZ) {b : Nat} {i : Inf} (hd : H b ≠ .dead) (hb : κ.β b = some i) (hr : i.real = true) : i.blk < κ.w.heap.size := by
 have := I.box b
 revert this hd
 cases H b with
 | dead => intro hd; exact absurd rfl hd
 | cells cs => rintro _ ⟨i', arr', T', hb', _, _, hheap, _⟩; rw [hb] at hb'; cases hb'; exact lt_of_heap hheap
 | row st sz rows ro =>
  rintro _ ⟨i', hb', _, _, hx | ⟨arr', T', q⟩⟩ <;> (rw [hb] at hb'; cases hb')
  · rw [hx.1] at hr; cases hr
  · exact lt_of_heap q.heap
theorem call_core {call : CallT} (hcall : ∀ f args bs s r, call f args bs s = some r → CallOK P fid G f args bs s r) {f : Nat} {args : List V} {vs : List Value} {ns : List Nat} {r : Res}
 (I : Inv fid G E κ H FN FZ) (hinj : ∀ a b, s a = s b → a = b) (hs : ∀ k, FZ (s k)) (hfn : ∀ n, g ≤ n → n < g + 64 → FN n)
 (hl : vs.length = args.length) (hr : ∀ (i : Nat) (x : V), args[i]? = some x → ∃ v : Value, vs[i]? = some v ∧ VRel fid κ v x)
 (hns : ns.Nodup) (hargs : ∀ x ∈ args, ∀ n ∈ x.names, n ∈ ns) (hknown : ∀ n ∈ ns, ∃ i, κ.β n = some i) (hclosed : closed H ns = true)
 (hc : call f (args.map (V.ren (idx ns))) (ns.map fun b => (H b).ren (idx ns)) s = some r) (hlen : r.bs.length = ns.length) (hnew : r.news.length ≤ 64)
 {σ : Nat → Nat} (hσ : σ = fun k => if k < ns.length then ns.getD k 0 else g + (k - ns.length)) :
 Enters P (fid f) ∧ Calls P (fid f) vs.toArray κ.w fun e w' => ∃ v κ', e = .returned v ∧ κ'.w = w' ∧ κ.le κ' ∧ VRel fid κ' v (r.v.ren σ) ∧
  Inv fid G E κ' (updL H ((ns.zip (r.bs.map (Box.ren σ))) ++ ((List.range r.news.length).map (g + ·)).zip (r.news.map (Box.ren σ)))) (FN' FN g) (fun z => FZ z ∧ ∀ k, z ≠ s k) := by
 obtain ⟨hent, hok⟩ := hcall _ _ _ _ _ hc; refine ⟨hent, ?_⟩
 have hcl : ∀ b ∈ ns, ∀ n ∈ (H b).names, n ∈ ns := fun b hb n hn => by
  have := hclosed; simp only [closed, List.all_eq_true] at this
  simpa using this b hb n hn
 let κ₂ : Ctx := { κ with β := fun k => if k < ns.length then κ.β (ns.getD k 0) else none }
 let bs := ns.map fun b => (H b).ren (idx ns)
 have hbsl : bs.length = ns.length := by simp [bs]
 have hβ₂ : ∀ n ∈ ns, κ₂.β (idx ns n) = κ.β n := fun n hn => by
  show (if idx ns n < ns.length then κ.β (ns.getD (idx ns n) 0) else none) = _
  rw [if_pos (idx_lt hn), idx_get hn]
 have hβk : ∀ k, k < ns.length → κ₂.β k = κ.β (ns.getD k 0) := fun k hk => if_pos hk
 have hmem : ∀ k, k < ns.length → ns.getD k 0 ∈ ns := fun k hk => by rw [getD_lt hk]; exact List.getElem_mem hk
 have hbsget : ∀ k, k < ns.length → bs.getD k .dead = (H (ns.getD k 0)).ren (idx ns) := fun k hk => getD_map_box hk
 have hbslive : ∀ k, bs.getD k .dead ≠ .dead → k < ns.length ∧ H (ns.getD k 0) ≠ .dead := fun k hk => by
  rcases Nat.lt_or_ge k ns.length with h | h
  · refine ⟨h, fun e => hk ?_⟩
    rw [hbsget k h, e]; rfl
  · exact absurd (getD_ge (by rw [hbsl]; exact h)) hk
 have hpass : ∀ b, passOf κ₂ bs b → ∃ n i, n ∈ ns ∧ H n ≠ .dead ∧ κ.β n = some i ∧ i.real = true ∧ i.blk = b := by
  rintro b ⟨k, i, hk, hb, hreal, rfl⟩; obtain ⟨hk1, hk2⟩ := hbslive k hk; exact ⟨_, i, hmem k hk1, hk2, by rw [← hβk k hk1]; exact hb, hreal, rfl⟩
 have hIn : In fid G κ₂ bs s := by
  refine ⟨I.imlt, I.zlt, I.zinj, fun k => ⟨(I.zfree _ (hs k)).1, (I.zfree _ (hs k)).2.1⟩, hinj, fun b hb => if_neg (by rw [hbsl] at hb; omega), fun b hb => ?_, fun b => ?_, ?_, I.glob⟩
  · rw [hbsl] at hb
    rw [hβk b hb]; exact hknown _ (hmem b hb)
  · rcases Nat.lt_or_ge b ns.length with h | h
    · rw [hbsget b h]
      exact (I.box _).ren (fun n hn => hβ₂ n (hcl _ (hmem b h) n hn)) (hβk b h)
    · rw [getD_ge (by rw [hbsl]; exact h)]; trivial
  · intro b b' i i' hne hd hd' hb hb' hreal hreal'
    obtain ⟨h1, h2⟩ := hbslive b hd; obtain ⟨h1', h2'⟩ := hbslive b' hd'; rw [hβk b h1] at hb; rw [hβk b' h1'] at hb'; refine I.dist _ _ i i' (fun e => hne ?_) h2 h2' hb hb' hreal hreal'
    rw [← idx_at hns h1, ← idx_at hns h1', e]
 refine (hok κ₂ vs hIn (by simpa using hl) (fun i x hx => ?_)).mono ?_
 · rw [List.getElem?_map] at hx
   cases hxi : args[i]? with
   | none => simp [hxi] at hx
   | some y =>
    simp [hxi] at hx; subst hx
    obtain ⟨v, hv, q⟩ := hr i y hxi; exact ⟨v, hv, q.ren (fun n hn => hβ₂ n (hargs y (List.mem_of_getElem? hxi) n hn))⟩
 · rintro en w' ⟨v, κ₃, rfl, rfl, O⟩
   let β₄ : Nat → Option Inf := fun n => if g ≤ n ∧ n < g + r.news.length then κ₃.β (ns.length + (n - g)) else κ.β n
   let κ₄ : Ctx := { κ₃ with β := β₄ }
   have hfresh : ∀ n, g ≤ n → n < g + r.news.length → κ.β n = none := fun n h1 h2 => I.nfree n (hfn n h1 (by omega))
   have hold : ∀ n i, κ.β n = some i → β₄ n = κ.β n := fun n i hn => if_neg (fun h => by rw [hfresh n h.1 h.2] at hn; cases hn)
   have hnsold : ∀ n ∈ ns, β₄ n = κ.β n := fun n hn => by obtain ⟨i, hi⟩ := hknown n hn; exact hold n i hi
   have hnsne : ∀ n ∈ ns, ¬ (g ≤ n ∧ n < g + r.news.length) := fun n hn h => by obtain ⟨i, hi⟩ := hknown n hn; rw [hfresh n h.1 h.2] at hi; cases hi
   have hσ1 : ∀ k, k < ns.length → σ k = ns.getD k 0 := fun k hk => by rw [hσ]; exact if_pos hk
   have hσ2 : ∀ k, ns.length ≤ k → σ k = g + (k - ns.length) := fun k hk => by rw [hσ]; exact if_neg (by omega)
   have hβσ : ∀ k i, κ₃.β k = some i → β₄ (σ k) = κ₃.β k := by
    intro k i hk; rcases Nat.lt_or_ge k ns.length with h | h
    · rw [hσ1 k h, hnsold _ (hmem k h), O.bsame k (by rw [hbsl]; exact h), hβk k h]
    · have hlt : k < ns.length + r.news.length := by
       rcases Nat.lt_or_ge k (ns.length + r.news.length) with h' | h'
       · exact h'
       · rw [O.dom k (by rw [hbsl]; exact h')] at hk; cases hk
      rw [hσ2 k h]
      show (if g ≤ g + (k - ns.length) ∧ g + (k - ns.length) < g + r.news.length then κ₃.β (ns.length + (g + (k - ns.length) - g)) else κ.β _) = _
      rw [if_pos ⟨by omega, by omega⟩]; congr 1; omega
   have hle : κ.le κ₄ := ⟨O.le.size, O.le.im, O.le.cell, O.le.z, fun n i hn => (hold n i hn).trans hn⟩
   let L := (ns.zip (r.bs.map (Box.ren σ))) ++ ((List.range r.news.length).map (g + ·)).zip (r.news.map (Box.ren σ))
   have hkeys : L.map (·.1) = ns ++ (List.range r.news.length).map (g + ·) := by
    simp only [L, List.map_append]; rw [List.map_fst_zip (by simp [hlen]), List.map_fst_zip (by simp)]
   have hkn : (L.map (·.1)).Nodup := by
    rw [hkeys]; refine List.nodup_append.2 ⟨hns, ?_, ?_⟩
    · exact List.pairwise_map.2 (List.nodup_range.imp (fun h => by omega))
    · intro a ha b hb e
      subst e; obtain ⟨k, hk, rfl⟩ := List.mem_map.1 hb; exact hnsne _ ha ⟨by omega, by have := List.mem_range.1 hk; omega⟩
   have hat : ∀ k, k < ns.length + r.news.length → updL H L (σ k) = ((r.bs ++ r.news).getD k .dead).ren σ := by
    intro k hk; refine updL_mem hkn ?_
    rcases Nat.lt_or_ge k ns.length with h | h
    · refine List.mem_append_left _ ?_
      rw [hσ1 k h]; refine List.mem_iff_getElem?.2 ⟨k, ?_⟩
      rw [List.getElem?_zip_eq_some]; refine ⟨by rw [getD_lt h]; exact List.getElem?_eq_getElem h, ?_⟩
      show (r.bs.map (Box.ren σ))[k]? = some (((r.bs ++ r.news).getD k .dead).ren σ)
      rw [List.getElem?_map, List.getD_eq_getElem?_getD, List.getElem?_append_left (by omega), List.getElem?_eq_getElem (by omega)]; rfl
    · refine List.mem_append_right _ ?_
      rw [hσ2 k h]; refine List.mem_iff_getElem?.2 ⟨k - ns.length, ?_⟩
      rw [List.getElem?_zip_eq_some]; refine ⟨?_, ?_⟩
      · rw [List.getElem?_map, List.getElem?_range (by omega)]; rfl
      · show (r.news.map (Box.ren σ))[k - ns.length]? = some (((r.bs ++ r.news).getD k .dead).ren σ)
        rw [List.getElem?_map, List.getD_eq_getElem?_getD, List.getElem?_append_right (by omega), hlen, List.getElem?_eq_getElem (by omega)]; rfl
   have hother : ∀ n, n ∉ ns → ¬ (g ≤ n ∧ n < g + r.news.length) → updL H L n = H n := by
    intro n h1 h2; refine updL_not (fun p hp e => ?_)
    have : p.1 ∈ L.map (·.1) := List.mem_map.2 ⟨p, hp, rfl⟩; rw [hkeys, e] at this; rcases List.mem_append.1 this with h | h
    · exact h1 h
    · obtain ⟨k, hk, rfl⟩ := List.mem_map.1 h
      exact h2 ⟨by omega, by have := List.mem_range.1 hk; omega⟩
   have hcase : ∀ n, (∃ k, k < ns.length + r.news.length ∧ n = σ k) ∨ (n ∉ ns ∧ ¬ (g ≤ n ∧ n < g + r.news.length)) := by
    intro n
    by_cases h1 : n ∈ ns
    · left; exact ⟨idx ns n, by have := idx_lt h1; omega, by rw [hσ1 _ (idx_lt h1), idx_get h1]⟩
    · by_cases h2 : g ≤ n ∧ n < g + r.news.length
      · left; exact ⟨ns.length + (n - g), by omega, by rw [hσ2 _ (by omega)]; omega⟩
      · exact .inr ⟨h1, h2⟩
   have hβother : ∀ n, n ∉ ns → ¬ (g ≤ n ∧ n < g + r.news.length) → β₄ n = κ.β n := fun n _ h2 => if_neg h2
   have hEpass : ∀ b, passOf κ₂ bs b → E.κ.w.heap.size ≤ b ∨ E.pass b := fun b hb => by
    obtain ⟨n, i, hn, hd, hi, hreal, rfl⟩ := hpass b hb; exact I.blk n i hd hi hreal
   have hnopass : ∀ n i, n ∉ ns → H n ≠ .dead → κ.β n = some i → i.real = true → ¬ passOf κ₂ bs i.blk := fun n i hn hd hi hreal hp => by
    obtain ⟨n', i', hn', hd', hi', hreal', he⟩ := hpass _ hp; exact I.dist n' n i' i (fun e => hn (e ▸ hn')) hd' hd hi' hi hreal' hreal he
   have hlive : ∀ k, k < ns.length + r.news.length → updL H L (σ k) ≠ .dead → (r.bs ++ r.news).getD k .dead ≠ .dead := fun k hk hd e => hd (by rw [hat k hk, e]; rfl)
   refine ⟨v, κ₄, rfl, rfl, hle, ?_, ?_⟩
   · exact O.v.ren (fun n hn => by obtain ⟨i, hi⟩ := vNames_known O.v n hn; exact hβσ n i hi)
   · refine ⟨I.le.trans hle, O.os.trans I.os, O.tape.trans I.tape, O.output.trans I.output, ?_, ?_, O.imlt, O.zlt, O.zinj, ?_, ?_, ?_, ?_, ?_, ?_, I.glob.mono hle⟩
     · intro k hk hp
       refine (O.same k (Nat.lt_of_lt_of_le hk I.le.size) (fun h => ?_)).trans (I.same k hk hp)
       rcases hEpass k h with h | h
       · omega
       · exact hp h
     · intro k o h
       rcases O.im k o h with h | h | h
       · exact I.im k o h
       · right; left; have := I.le.size; exact Nat.le_trans this h
       · exact .inr (hEpass k h)
     · intro t b h
       rcases O.znew t b h with h1 | ⟨⟨k, hk⟩, h2⟩
       · exact I.znew t b h1
       · right
         refine ⟨by rw [hk]; exact (I.zfree _ (hs k)).2.2, ?_⟩
         rcases h2 with h3 | h3
         · left; exact Nat.le_trans I.le.size h3
         · exact hEpass b h3
     · rintro z ⟨hz, hz'⟩
       refine ⟨?_, (I.zfree z hz).2⟩
       show κ₃.ζ z = none
       rcases hq : κ₃.ζ z with _ | b
       · rfl
       · rcases O.znew z b hq with h | ⟨⟨k, hzk⟩, _⟩
         · have := (I.zfree z hz).1; rw [show κ.ζ z = some b from h] at this; cases this
         · exact absurd hzk (hz' k)
     · intro n hn
       show β₄ n = none
       rw [show β₄ n = κ.β n from if_neg (fun h => hn.2 ⟨h.1, by omega⟩)]; exact I.nfree n hn.1
     · intro n i hd hi hreal
       rcases hcase n with ⟨k, hk, rfl⟩ | ⟨h1, h2⟩
       · have hki : κ₃.β k = some i := by
          cases hq : κ₃.β k with
          | none =>
           have hb := O.box k; have hl := hlive k hk hd
           revert hb hl
           cases (r.bs ++ r.news).getD k .dead with
           | dead => intro _ h; exact absurd rfl h
           | cells cs => rintro ⟨_, _, _, hb', _⟩; rw [hq] at hb'; cases hb'
           | row st sz rows ro => rintro ⟨_, hb', _⟩; rw [hq] at hb'; cases hb'
          | some j =>
           have := hβσ k j hq; rw [show κ₄.β (σ k) = β₄ (σ k) from rfl, this, hq] at hi; exact hi
         rcases O.blk k i (hlive k hk hd) hki hreal with h | h
         · left; exact Nat.le_trans I.le.size h
         · exact hEpass _ h
       · rw [hother n h1 h2] at hd
         exact I.blk n i hd (by rw [← hβother n h1 h2]; exact hi) hreal
     · intro n
       rcases hcase n with ⟨k, hk, rfl⟩ | ⟨h1, h2⟩
       · show BoxRel fid κ₄ (σ k) (updL H L (σ k))
         rw [hat k hk]; have hb := O.box k; cases hq : κ₃.β k with
         | some i => exact hb.ren (fun n hn => by obtain ⟨i', hi'⟩ := bNames_known hb n hn; exact hβσ n i' hi') (hβσ k i hq)
         | none =>
          revert hb
          cases (r.bs ++ r.news).getD k .dead with
          | dead => intro _; trivial
          | cells cs => rintro ⟨_, _, _, hb', _⟩; rw [hq] at hb'; cases hb'
          | row st sz rows ro => rintro ⟨_, hb', _⟩; rw [hq] at hb'; cases hb'
       · show BoxRel fid κ₄ n (updL H L n)
         rw [hother n h1 h2]; refine (I.box n).keep hle (fun j hd hj hreal => ?_)
         have hnp := hnopass n j h1 hd hj hreal; have hlt := I.live_lt hd hj hreal; refine ⟨O.same _ hlt hnp, fun o h => ?_, fun t h => ?_⟩
         · rcases O.im _ o h with h | h | h
           · exact h
           · exact absurd hlt (Nat.not_lt.2 h)
           · exact absurd h hnp
         · rcases O.znew t _ h with h | ⟨_, h | h⟩
           · exact h
           · exact absurd hlt (Nat.not_lt.2 h)
           · exact absurd h hnp
     · intro n n' i i' hne hd hd' hi hi' hreal hreal'
       have hinfo : ∀ k i, k < ns.length + r.news.length → updL H L (σ k) ≠ .dead → κ₄.β (σ k) = some i → κ₃.β k = some i := by
        intro k i hk hd hi; cases hq : κ₃.β k with
        | none =>
         have hb := O.box k; have hl := hlive k hk hd
         revert hb hl
         cases (r.bs ++ r.news).getD k .dead with
         | dead => intro _ h; exact absurd rfl h
         | cells cs => rintro ⟨_, _, _, hb', _⟩; rw [hq] at hb'; cases hb'
         | row st sz rows ro => rintro ⟨_, hb', _⟩; rw [hq] at hb'; cases hb'
        | some j =>
         have := hβσ k j hq; rw [show κ₄.β (σ k) = β₄ (σ k) from rfl, this, hq] at hi; exact hi
       have cross : ∀ k m i j, k < ns.length + r.news.length → updL H L (σ k) ≠ .dead → κ₄.β (σ k) = some i → i.real = true → m ∉ ns → ¬ (g ≤ m ∧ m < g + r.news.length) → updL H L m ≠ .dead → κ₄.β m = some j → j.real = true → i.blk ≠ j.blk := by
        intro k m i j hk hd hi hreal h1 h2 hdm hj hrealj e; have hki := hinfo k i hk hd hi; rw [hother m h1 h2] at hdm; have hj' : κ.β m = some j := by rw [← hβother m h1 h2]; exact hj
        have hlt := I.live_lt hdm hj' hrealj; rcases O.blk k i (hlive k hk hd) hki hreal with h | h
        · have h' : κ.w.heap.size ≤ i.blk := h; omega
        · rw [e] at h; exact hnopass m j h1 hdm hj' hrealj h
       rcases hcase n with ⟨k, hk, rfl⟩ | ⟨h1, h2⟩ <;> rcases hcase n' with ⟨k', hk', rfl⟩ | ⟨h1', h2'⟩
       · exact O.dist k k' i i' (fun e => hne (by rw [e])) (hlive k hk hd) (hlive k' hk' hd') (hinfo k i hk hd hi) (hinfo k' i' hk' hd' hi') hreal hreal'
       · exact cross k n' i i' hk hd hi hreal h1' h2' hd' hi' hreal'
       · exact fun e => cross k' n i' i hk' hd' hi' hreal' h1 h2 hd hi hreal e.symm
       · have hd1 : updL H L n ≠ .dead := hd
         have hd1' : updL H L n' ≠ .dead := hd'; rw [hother n h1 h2] at hd1; rw [hother n' h1' h2'] at hd1'; exact I.dist n n' i i' hne hd1 hd1' (by rw [← hβother n h1 h2]; exact hi) (by rw [← hβother n' h1' h2']; exact hi') hreal hreal'
theorem frzW_names {stamp : Bool} {z z' : Fz} {x y : W} (h : frzW stamp s z x = some (y, z')) : ∀ n ∈ y.names, n ∈ x.names := by
 intro n hn; cases x with
 | own b off len cap =>
  simp only [frzW] at h; split at h
  · split at h
    · cases h; simp [W.names] at hn
    · cases h
  · cases h
 | nil => cases h; simp [W.names] at hn
 | ln a b => cases h; simp [W.names] at hn
 | _ => cases h; exact hn
theorem callV_ok {call : CallT} {M : Nat → Mode} {stamp : Bool} (hcall : ∀ f args bs s r, call f args bs s = some r → CallOK P fid G f args bs s r) {f : Nat} {args : List V} {vs : List Value} {e : Eff}
 (I : Inv fid G E κ H FN FZ) (hinj : ∀ a b, s a = s b → a = b) (hs : ∀ k, FZ (s k)) (hfn : ∀ n, g ≤ n → n < g + 64 → FN n)
 (hl : vs.length = args.length) (hr : ∀ (i : Nat) (x : V), args[i]? = some x → ∃ v : Value, vs[i]? = some v ∧ VRel fid κ v x)
 (h : callV call M stamp H g s f args = some e) :
 Enters P (fid f) ∧ Calls P (fid f) vs.toArray κ.w fun en w' => ∃ v κ', en = .returned v ∧ κ'.w = w' ∧ κ.le κ' ∧ VRel fid κ' v e.v ∧ Inv fid G E κ' e.H (FN' FN g) (FZ' FZ s) := by
 unfold callV at h; split at h
 · cases h
 · rename_i args' z hz
   obtain ⟨κ₁, hw, hle, hI, hl', hr'⟩ : ∃ κ₁ : Ctx, κ₁.w = κ.w ∧ κ.le κ₁ ∧ Inv fid G E κ₁ z.H FN (fun t => FZ t ∧ ∀ k, t ≠ s (2 * k)) ∧ vs.length = args'.length ∧
    ∀ (i : Nat) (x : V), args'[i]? = some x → ∃ v : Value, vs[i]? = some v ∧ VRel fid κ₁ v x := by
    split at hz
    · cases hz
      exact ⟨κ, rfl, Ctx.le.refl κ, I.weak (fun _ h => h) (fun t h => h.1), hl, hr⟩
    · obtain ⟨κ₁, F, h1, h2⟩ := frzA_ok (FN := FN) (FZ := FZ) (s := fun k => s (2 * k)) (fun a b e => by have := hinj _ _ e; omega) (fun k => hs _) (z := ⟨H, 0, []⟩) (vs := vs) (I.weak (fun _ h => h) (fun t h => h.1)) hl hr hz
      exact ⟨κ₁, F.w, F.le, F.inv.weak (fun _ h => h) (fun t h => ⟨h.1, fun k _ => h.2 k⟩), h1, h2⟩
   dsimp only at h
   split at h
   · cases h
   · rename_i r hc
     split at h
     · rename_i hcond
       cases h
       obtain ⟨hlen, hnew, hclosed⟩ := hcond; have hknown : ∀ n ∈ reach z.H 4 (addAll [] (args'.flatMap V.names)), ∃ i, κ₁.β n = some i := by
        intro n hn; rcases reach_mem hn with h | ⟨b, hb⟩
        · rcases mem_addAll.1 h with h | h
          · cases h
          · obtain ⟨x, hx, hn⟩ := List.mem_flatMap.1 h
            obtain ⟨k, hk⟩ := List.mem_iff_getElem?.1 hx; obtain ⟨v, _, q⟩ := hr' k x hk; exact vNames_known q n hn
        · exact bNames_known (hI.box b) n hb
       have core := call_core (s := fun k => s (2 * k + 1)) hcall hI (fun a b e => by have := hinj _ _ e; omega) (fun k => ⟨hs _, fun j e => by have := hinj _ _ e; omega⟩) hfn hl' hr' (reach_nodup (nodup_addAll List.nodup_nil))
        (fun x hx n hn => reach_sub (mem_addAll.2 (.inr (List.mem_flatMap.2 ⟨x, hx, hn⟩)))) hknown hclosed hc hlen hnew rfl
       refine ⟨core.1, ?_⟩
       have := core.2; rw [hw] at this; refine this.mono ?_
       rintro en w' ⟨v, κ', h1, h2, h3, h4, h5⟩; refine ⟨v, κ', h1, h2, hle.trans h3, h4, h5.weak (fun n h => h) (fun t ht => ⟨⟨ht.1, fun k => ht.2 _⟩, fun k => ht.2 _⟩)⟩
     · cases h
end
end Go.VM
