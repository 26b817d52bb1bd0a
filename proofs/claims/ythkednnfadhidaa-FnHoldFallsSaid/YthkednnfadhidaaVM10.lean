/- The value machine: reslicing, parts of aggregates, comparisons, function values, max and min. Conditions: none. -/
import Derived.Test.YthkednnfadhidaaVM9
namespace Go.VM
set_option linter.unusedVariables false
set_option linter.unusedSimpArgs false
set_option linter.unusedSectionVars false

section
variable {P : Program} {fid : Nat → FuncId} {cid : FuncId → Nat} {G : Nat → Option (List D)} {E : Entry} {κ : Ctx} {H : Nat → Box} {FN FZ : Nat → Prop} {g : Nat} {s : Sup}
variable {ρ : Operand → Value} {ev : X → V} {o : Oper}

def topOf (m : Option Int) (cap : Nat) : Nat := match m with | some m => m.toNat | none => cap

theorem optInt_rel (hev : ∀ x X, stripX cid x = some X → VRel fid κ (ρ x) (ev X)) {x : Option Operand} {X : Option X} {r : Option Int} (hX : stripXo cid x = some X) (h : optInt ev X = some r) :
    (x = none ∧ r = none) ∨ ∃ y k n, x = some y ∧ ρ y = .int k n ∧ r = some n := by
  cases x with
  | none => simp [stripXo] at hX; subst hX; simp [optInt] at h; exact .inl ⟨rfl, h.symm⟩
  | some y =>
    simp only [stripXo] at hX
    cases hs : stripX cid y with
    | none => simp [hs] at hX
    | some Y =>
      simp [hs] at hX; subst hX
      simp only [optInt] at h
      split at h
      · rename_i k n hi
        cases h
        exact .inr ⟨y, k, n, rfl, int?_rel (hev y Y hs) hi, rfl⟩
      · cases h


theorem run_sliceBound {w : World} (k : IntKind) (i : Int) (y : Nat) (c : BoundsCode) (h : 0 ≤ i ∧ i ≤ y) : (Instr.sliceBound (.int k i) y c).run P w = .ok i.toNat w := by
  simp [Instr.sliceBound, asIntOf, h]

/-- The bounds of a reslicing, all of them in range. -/
theorem run_bounds {w : World} {isS : Bool} {len cap : Nat} {lo hi mx : Option Operand} {l h m : Option Int} (hlc : len ≤ cap)
    (hl : (lo = none ∧ l = none) ∨ ∃ y k n, lo = some y ∧ ρ y = .int k n ∧ l = some n) (hh : (hi = none ∧ h = none) ∨ ∃ y k n, hi = some y ∧ ρ y = .int k n ∧ h = some n)
    (hm : (mx = none ∧ m = none) ∨ ∃ y k n, mx = some y ∧ ρ y = .int k n ∧ m = some n)
    (h0 : 0 ≤ l.getD 0 ∧ l.getD 0 ≤ h.getD len ∧ h.getD len ≤ m.getD len ∧ m.getD len ≤ len) (hmh : m.isSome → h.isSome) :
    (Instr.sliceBounds isS len cap (lo.map ρ) (hi.map ρ) (mx.map ρ)).run P w = .ok ((l.getD 0).toNat, (h.getD len).toNat, topOf m cap) w := by
  unfold topOf
  obtain ⟨h1, h2, h3, h4⟩ := h0
  rcases hm with ⟨rfl, rfl⟩ | ⟨ym, km, m, rfl, hρm, rfl⟩
  · rcases hh with ⟨rfl, rfl⟩ | ⟨yh, kh, h, rfl, hρh, rfl⟩ <;> rcases hl with ⟨rfl, rfl⟩ | ⟨yl, kl, l, rfl, hρl, rfl⟩ <;>
      simp only [Option.getD_none, Option.getD_some] at h1 h2 h3 h4 ⊢ <;>
      simp [Instr.sliceBounds, *] <;>
      (repeat (first
        | rw [run_sliceBound _ _ _ _ ⟨by omega, by omega⟩]
        | simp))
  · rcases hh with ⟨rfl, rfl⟩ | ⟨yh, kh, h, rfl, hρh, rfl⟩
    · exact absurd (hmh rfl) (by simp)
    · rcases hl with ⟨rfl, rfl⟩ | ⟨yl, kl, l, rfl, hρl, rfl⟩ <;>
      simp only [Option.getD_none, Option.getD_some] at h1 h2 h3 h4 ⊢ <;>
      simp [Instr.sliceBounds, *] <;>
      (repeat (first
        | rw [run_sliceBound _ _ _ _ ⟨by omega, by omega⟩]
        | simp))


theorem run_slice {w : World} {t e0 : TypeId} {n : Nat} {x : Operand} {a : Option Addr} {len cap : Nat} {lo hi mx : Option Operand} {L U M : Nat} (ho : o.op = .slice t x lo hi mx)
    (hu : P.underlying t = some (.slice e0)) (hn : sz? P e0 = some n) (hx : ρ x = .slice a len cap)
    (hb : (Instr.sliceBounds true len cap (lo.map ρ) (hi.map ρ) (mx.map ρ)).run P w = .ok (L, U, M) w) :
    (execOp ρ o).run P w = .ok (.value (.slice (if M = L then a else a.map (·.add (L * n))) (U - L) (M - L))) w := by
  simp [execOp, ho, Instr.sliceAt, run_underlying hu, Instr.slice, hx, hb, run_sz hn]

section ops
variable (I : Inv fid G E κ H FN FZ) (hev : ∀ x X, stripX cid x = some X → VRel fid κ (ρ x) (ev X))
include I hev

theorem good_sl_own {t e0 : TypeId} {n : Nat} {x : Operand} {lo hi mx : Option Operand} {Xx : X} {LO HI MX : Option X} {l h m : Option Int} {b off len ro : Nat} {cap : Option Nat} {st : Option Nat} {rows : List (List D)} {tt : List Nat} {e : Eff}
    (ho : o.op = .slice t x lo hi mx) (hu : P.underlying t = some (.slice e0)) (hn : sz? P e0 = some n) (hX : stripX cid x = some Xx) (hLO : stripXo cid lo = some LO) (hHI : stripXo cid hi = some HI) (hMX : stripXo cid mx = some MX)
    (hl : optInt ev LO = some l) (hh : optInt ev HI = some h) (hm : optInt ev MX = some m) (hy : ev Xx = .w (.own b off len cap)) (hH : H b = .row st n rows ro)
    (h0 : 0 ≤ l.getD 0 ∧ l.getD 0 ≤ h.getD len ∧ h.getD len ≤ m.getD len ∧ m.getD len ≤ len) (hmh : m.isSome → h.isSome)
    (he : e = ⟨.w (.own b (off + (l.getD 0).toNat) ((h.getD len).toNat - (l.getD 0).toNat) (newCap m cap (l.getD 0).toNat)), H, tt, false⟩) :
    Good P fid G E κ FN FZ g s ρ o e := by
  subst he
  have hr := hev x Xx hX
  rw [hy] at hr
  obtain ⟨h1, h2, h3, h4⟩ := id h0
  obtain ⟨inf, cap', hb, hc, hlc, hv⟩ := hr
  have hbox := I.box b
  rw [hH] at hbox
  obtain ⟨i'', hb'', hsz, _, _⟩ := hbox
  rw [hb] at hb''; cases hb''
  have hbnd := run_bounds (P := P) (w := κ.w) (isS := true) (cap := cap') hlc (optInt_rel hev hLO hl) (optInt_rel hev hHI hh) (optInt_rel hev hMX hm) h0 hmh
  have hM : topOf m cap' ≤ cap' ∧ (h.getD len).toNat ≤ topOf m cap' := by
    unfold topOf
    cases m with
    | none => simp at h3 h4 ⊢; omega
    | some m => simp at h3 h4 ⊢; omega
  have hcap : newCap m cap (l.getD 0).toNat = none ∨
      newCap m cap (l.getD 0).toNat = some (topOf m cap' - (l.getD 0).toNat) := by
    unfold newCap topOf
    cases m with
    | some m => exact .inr rfl
    | none => rcases hc with rfl | rfl; exact .inl rfl; exact .inr rfl
  generalize topOf m cap' = M at hbnd hM hcap
  rcases hv with ⟨hv, rfl, rfl⟩ | ⟨hreal, o', hv, ho'⟩
  · have hv' : ρ x = .slice none 0 0 := hv
    have hL : (l.getD 0).toNat = 0 := by simp at h2 h3 h4; omega
    have hU : (h.getD ((0 : Nat) : Int)).toNat = 0 := by simp at h2 h3 h4 ⊢; omega
    have hM0 : M = 0 := by omega
    refine good_pure I (run_slice ho hu hn hv' hbnd) ⟨inf, 0, hb, ?_, by omega, .inl ⟨?_, by omega, rfl⟩⟩
    · rw [hM0, hL] at hcap; rw [hL]; simpa using hcap
    · rw [hM0, hL]; simp at hU ⊢; omega
  · have hv' : ρ x = .slice (some ⟨inf.blk, o', none⟩) len cap' := hv
    refine good_pure I (run_slice ho hu hn hv' hbnd) ⟨inf, M - (l.getD 0).toNat, hb, hcap, by omega, .inr ⟨hreal, ?_⟩⟩
    by_cases hML : M = (l.getD 0).toNat
    · exact ⟨o', by rw [if_pos hML], .inl (by omega)⟩
    · refine ⟨o' + (l.getD 0).toNat * n, by rw [if_neg hML]; simp [Addr.add_none], ?_⟩
      rcases ho' with h | ⟨ho1, ho2⟩
      · left; omega
      · right
        rw [hsz] at ho1 ho2 ⊢
        refine ⟨by rw [ho1, Nat.add_mul]; omega, ?_⟩
        have : (l.getD 0).toNat * n + (M - (l.getD 0).toNat) * n ≤ cap' * n := by rw [← Nat.add_mul]; exact Nat.mul_le_mul_right _ (by omega)
        omega

theorem sl_data {t e0 : TypeId} {n : Nat} {x : Operand} {lo hi mx : Option Operand} {LO HI MX : Option X} {l h m : Option Int} {st : Nat} {rows : List (List D)} {vx : Value}
    (ho : o.op = .slice t x lo hi mx) (hu : P.underlying t = some (.slice e0)) (hn : sz? P e0 = some n) (hLO : stripXo cid lo = some LO) (hHI : stripXo cid hi = some HI) (hMX : stripXo cid mx = some MX)
    (hl : optInt ev LO = some l) (hh : optInt ev HI = some h) (hm : optInt ev MX = some m) (hvx : ρ x = vx) (hr : κ.rel vx (.l st rows)) (hall : rows.all (·.length == n) = true)
    (h0 : 0 ≤ l.getD 0 ∧ l.getD 0 ≤ h.getD rows.length ∧ h.getD rows.length ≤ m.getD rows.length ∧ m.getD rows.length ≤ rows.length) (hmh : m.isSome → h.isSome) :
    ∃ v, (execOp ρ o).run P κ.w = .ok (.value v) κ.w ∧ κ.rel v (.l st ((rows.drop (l.getD 0).toNat).take ((h.getD rows.length).toNat - (l.getD 0).toNat))) ∧ (vx ≠ .slice none 0 0 → v ≠ .slice none 0 0) := by
  obtain ⟨h1, h2, h3, h4⟩ := id h0
  cases hr with
  | nil st =>
    have hbnd := run_bounds (P := P) (w := κ.w) (isS := true) (len := 0) (cap := 0) (Nat.le_refl _) (optInt_rel hev hLO hl) (optInt_rel hev hHI hh) (optInt_rel hev hMX hm) (by simpa using h0) hmh
    refine ⟨_, run_slice ho hu hn hvx hbnd, ?_, fun h => absurd rfl h⟩
    have hL : (l.getD 0).toNat = 0 := by simp at h2 h3 h4; omega
    have hU : (h.getD ((0 : Nat) : Int)).toNat = 0 := by simp at h2 h3 h4 ⊢; omega
    have hM0 : topOf m 0 = 0 := by
      unfold topOf
      cases m with
      | none => rfl
      | some m => simp at h4 h3 ⊢; omega
    rw [hL, hU, hM0]; simp; exact .nil st
  | e a =>
    have hbnd := run_bounds (P := P) (w := κ.w) (isS := true) (len := 0) (cap := 0) (Nat.le_refl _) (optInt_rel hev hLO hl) (optInt_rel hev hHI hh) (optInt_rel hev hMX hm) (by simpa using h0) hmh
    refine ⟨_, run_slice ho hu hn hvx hbnd, ?_, fun _ => by split <;> simp⟩
    have hL : (l.getD 0).toNat = 0 := by simp at h2 h3 h4; omega
    have hU : (h.getD ((0 : Nat) : Int)).toNat = 0 := by simp at h2 h3 h4 ⊢; omega
    have hM0 : topOf m 0 = 0 := by
      unfold topOf
      cases m with
      | none => rfl
      | some m => simp at h4 h3 ⊢; omega
    rw [hL, hU, hM0]; simp; exact .e a
  | l _ _ blk o' cap sz f hlen hcap hb hcell him hrel hst =>
    have hbnd := run_bounds (P := P) (w := κ.w) (isS := true) (cap := cap) hcap (optInt_rel hev hLO hl) (optInt_rel hev hHI hh) (optInt_rel hev hMX hm) h0 hmh
    refine ⟨_, run_slice ho hu hn hvx hbnd, ?_, fun _ => by split <;> simp⟩
    have hM : topOf m cap ≤ cap ∧ (h.getD rows.length).toNat ≤ topOf m cap := by
      unfold topOf
      cases m with
      | none => simp at h3 h4 ⊢; omega
      | some m => simp at h3 h4 ⊢; omega
    generalize topOf m cap = M at hbnd hM
    generalize hLn : (l.getD 0).toNat = L at hM ⊢
    generalize hUn : (h.getD (rows.length : Int)).toNat = U at hM ⊢
    have hLU : L ≤ U := by omega
    have hUr : U ≤ rows.length := by omega
    have hll : ((rows.drop L).take (U - L)).length = U - L := by simp; omega
    by_cases hML : M = L
    · have hUL : U - L = 0 := by omega
      rw [if_pos hML, hUL]
      have : M - L = 0 := by omega
      rw [this]
      simp only [List.take_zero]
      exact .l st [] blk o' 0 n f (by simp) (by simp) hb (by simp) (by simp) (by simp) hst
    · rw [if_neg hML]
      simp only [Option.map_some, Addr.add_none]
      suffices key : κ.rel (.slice (some ⟨blk, o' + L * n, none⟩) ((rows.drop L).take (U - L)).length (M - L)) (.l st ((rows.drop L).take (U - L))) by rw [hll] at key; exact key
      have hn' : ∀ row ∈ rows, row.length = n := by simpa using hall
      refine .l st _ blk (o' + L * n) (M - L) n (fun i j => f (L + i) j) ?_ (by rw [hll]; omega) hb ?_ ?_ ?_ hst
      · intro i row hi
        rw [seg_get] at hi
        split at hi
        · exact hn' row (List.mem_of_getElem? hi)
        · cases hi
      · intro i j hi hj
        rw [hll] at hi
        have h1 : L + i < rows.length := by omega
        have hs : sz = n := by rw [← hlen _ _ (List.getElem?_eq_getElem h1)]; exact hn' _ (List.getElem_mem h1)
        subst hs
        have := hcell (L + i) j h1 hj
        rw [← this]; congr 2; rw [Nat.add_mul]; omega
      · intro i j hi hj
        rw [hll] at hi
        have h1 : L + i < rows.length := by omega
        have hs : sz = n := by rw [← hlen _ _ (List.getElem?_eq_getElem h1)]; exact hn' _ (List.getElem_mem h1)
        subst hs
        have := him (L + i) j h1 hj
        have e : o' + (L + i) * sz + j = o' + L * sz + i * sz + j := by rw [Nat.add_mul]; omega
        rwa [e] at this
      · intro i row j x hi hj
        rw [seg_get] at hi
        split at hi
        · exact hrel _ row j x hi hj
        · cases hi

theorem good_sl_nil {t e0 : TypeId} {n : Nat} {x : Operand} {lo hi mx : Option Operand} {Xx : X} {LO HI MX : Option X} {l h m : Option Int} {e : Eff}
    (ho : o.op = .slice t x lo hi mx) (hu : P.underlying t = some (.slice e0)) (hn : sz? P e0 = some n) (hX : stripX cid x = some Xx) (hLO : stripXo cid lo = some LO) (hHI : stripXo cid hi = some HI) (hMX : stripXo cid mx = some MX)
    (hl : optInt ev LO = some l) (hh : optInt ev HI = some h) (hm : optInt ev MX = some m) (hy : ev Xx = .w .nil)
    (h0 : 0 ≤ l.getD 0 ∧ l.getD 0 ≤ h.getD (0 : Nat) ∧ h.getD (0 : Nat) ≤ m.getD (0 : Nat) ∧ m.getD (0 : Nat) ≤ (0 : Nat)) (hmh : m.isSome → h.isSome) (he : e = ⟨.w .nil, H, [], false⟩) : Good P fid G E κ FN FZ g s ρ o e := by
  subst he
  have hr := hev x Xx hX
  rw [hy] at hr
  obtain ⟨h1, h2, h3, h4⟩ := id h0
  have hbnd := run_bounds (P := P) (w := κ.w) (isS := true) (len := 0) (cap := 0) (Nat.le_refl _) (optInt_rel hev hLO hl) (optInt_rel hev hHI hh) (optInt_rel hev hMX hm) h0 hmh
  have hv' : ρ x = .slice none 0 0 := hr
  refine good_pure I (run_slice ho hu hn hv' hbnd) ?_
  have hL : (l.getD 0).toNat = 0 := by omega
  have hU : (h.getD ((0 : Nat) : Int)).toNat = 0 := by omega
  have hM0 : topOf m 0 = 0 := by
    unfold topOf
    cases m with
    | none => rfl
    | some m => simp at h4 h3 ⊢; omega
  rw [hL, hU, hM0]; rfl

theorem good_sls {t : TypeId} {x : Operand} {lo hi : Option Operand} {Xx : X} {LO HI : Option X} {l h : Option Int} {b : ByteArray} {e : Eff}
    (ho : o.op = .slice t x lo hi none) (hu : P.underlying t = some .string) (hX : stripX cid x = some Xx) (hLO : stripXo cid lo = some LO) (hHI : stripXo cid hi = some HI)
    (hs : (ev Xx).s? = some (.string b)) (hl : optInt ev LO = some l) (hh : optInt ev HI = some h)
    (h0 : 0 ≤ l.getD 0 ∧ l.getD 0 ≤ h.getD b.size ∧ h.getD b.size ≤ b.size) (he : ret0 H (some (sV (.string (b.extract (l.getD 0).toNat (h.getD b.size).toNat)))) = some e) : Good P fid G E κ FN FZ g s ρ o e := by
  obtain ⟨v, hv, rfl⟩ := ret0_some he
  cases hv
  have hbnd := run_bounds (P := P) (w := κ.w) (isS := false) (len := b.size) (cap := b.size) (mx := none) (m := none) (Nat.le_refl _) (optInt_rel hev hLO hl) (optInt_rel hev hHI hh) (.inl ⟨rfl, rfl⟩)
    ⟨h0.1, h0.2.1, by simpa using h0.2.2, by simp⟩ (by simp)
  simp only [Option.map_none] at hbnd
  exact good_pure I (v := .string (b.extract (l.getD 0).toNat (h.getD b.size).toNat)) (by simp [execOp, ho, Instr.sliceAt, run_underlying hu, Instr.slice, wrel_s (hev x Xx hX) hs, hbnd]) (sV_rel rfl)

omit I hev in
theorem run_part {w : World} {t : TypeId} {a : Bool} {n : Nat} (ha : agg? P t = some a) (hn : sz? P t = some n) (h1 : (a || n == 1) = true) {cs : Array Value} {off : Nat} (hf : off + n ≤ cs.size) :
    ∃ v, (part t cs off).run P w = .ok v w ∧ (a = true → v = .agg ((cs.toList.drop off).take n).toArray) ∧ (a = false → (cs.toList.drop off).take n = [v]) := by
  cases a with
  | true =>
    refine ⟨.agg (cs.extract off (off + n)), by simp [part, run_agg ha, run_sz hn], fun _ => ?_, by simp⟩
    congr 1
    apply Array.ext'
    simp
  | false =>
    simp at h1; subst h1
    have h2 : off < cs.size := by omega
    refine ⟨cs[off], by simp [part, run_agg ha, h2], by simp, fun _ => ?_⟩
    rw [List.drop_eq_getElem_cons (by simpa using h2)]; simp

theorem good_fld {t : TypeId} {x : Operand} {Xx : X} {fs : Array Field} {i n : Nat} {f : Field} {a : Bool} {cs p : List W} {v : V} {e : Eff} (ho : o.op = .field t x i) (hu : P.underlying t = some (.struct fs)) (hf : fs[i]? = some f)
    (ha : agg? P f.type = some a) (hn : sz? P f.type = some n) (h1 : (a || n == 1) = true) (hX : stripX cid x = some Xx) (hv : ev Xx = .agg cs) (hp : part? cs f.offset n = some p) (hm : mkV a p = some v) (he : e = ⟨v, H, [], false⟩) :
    Good P fid G E κ FN FZ g s ρ o e := by
  subst he
  have hr := hev x Xx hX
  rw [hv] at hr
  obtain ⟨arr, hx, hl, hc⟩ := hr
  obtain ⟨hfit, hpl, hpg⟩ := part?_some hp
  obtain ⟨u, hrun, hu1, hu2⟩ := run_part (P := P) (w := κ.w) ha hn h1 (cs := arr) (off := f.offset) (by omega)
  have hx' : ρ x = .agg arr := hx
  refine good_pure I (v := u) (by simp [execOp, ho, Instr.field, run_underlying hu, hf, hx', asAgg, hrun]) (mkV_rel hm (by simp; omega) (fun j c hj => ?_) hu1 hu2)
  rw [hpg] at hj
  rw [seg_get]
  split at hj
  · rename_i hjn; rw [if_pos hjn]; simpa using hc _ c hj
  · cases hj

theorem good_ixa {t e0 : TypeId} {x i : Operand} {J Xx : X} {len n : Nat} {k : IntKind} {j : Int} {a : Bool} {cs p : List W} {v : V} {e : Eff} (ho : o.op = .index t x i) (hu : P.underlying t = some (.array len e0))
    (ha : agg? P e0 = some a) (hn : sz? P e0 = some n) (h1 : (a || n == 1) = true) (hX : stripX cid x = some Xx) (hJ : stripX cid i = some J) (hj : (ev J).int? = some (k, j)) (h0 : 0 ≤ j ∧ j < len)
    (hv : ev Xx = .agg cs) (hp : part? cs (j.toNat * n) n = some p) (hm : mkV a p = some v) (he : e = ⟨v, H, [], false⟩) : Good P fid G E κ FN FZ g s ρ o e := by
  subst he
  have hr := hev x Xx hX
  rw [hv] at hr
  obtain ⟨arr, hx, hl, hc⟩ := hr
  obtain ⟨hfit, hpl, hpg⟩ := part?_some hp
  obtain ⟨u, hrun, hu1, hu2⟩ := run_part (P := P) (w := κ.w) ha hn h1 (cs := arr) (off := j.toNat * n) (by omega)
  have hx' : ρ x = .agg arr := hx
  refine good_pure I (v := u) (by simp [execOp, ho, Instr.index, asIntOf, run_underlying hu, int?_rel (hev i J hJ) hj, hx', h0, run_sz hn, hrun]) (mkV_rel hm (by simp; omega) (fun j c hj => ?_) hu1 hu2)
  rw [hpg] at hj
  rw [seg_get]
  split at hj
  · rename_i hjn; rw [if_pos hjn]; simpa using hc _ c hj
  · cases hj

omit I hev in
theorem stripXs_rel : ∀ {l : List Operand} {L : List X}, stripXs cid l = some L → l.length = L.length ∧ ∀ (i : Nat) (x : X), L[i]? = some x → ∃ y, l[i]? = some y ∧ stripX cid y = some x
  | [], L, h => by simp [stripXs] at h; subst h; simp
  | x :: r, L, h => by
    simp only [stripXs] at h
    split at h
    · rename_i y l hy hl
      cases h
      obtain ⟨h1, h2⟩ := stripXs_rel hl
      refine ⟨by simp [h1], fun i c hi => ?_⟩
      match i with
      | 0 => simp at hi; subst hi; exact ⟨x, rfl, hy⟩
      | i + 1 => simpa using h2 i c (by simpa using hi)
    · cases h

omit I hev in
theorem capsOf_rel : ∀ {l : List V} {L : List Cap}, capsOf l = some L → l.length = L.length ∧ ∀ (i : Nat) (c : Cap), L[i]? = some c → ∃ y, l[i]? = some y ∧ capOf y = some c
  | [], L, h => by simp [capsOf] at h; subst h; simp
  | x :: r, L, h => by
    simp only [capsOf] at h
    split at h
    · rename_i y l hy hl
      cases h
      obtain ⟨h1, h2⟩ := capsOf_rel hl
      refine ⟨by simp [h1], fun i c hi => ?_⟩
      match i with
      | 0 => simp at hi; subst hi; exact ⟨x, rfl, hy⟩
      | i + 1 => simpa using h2 i c (by simpa using hi)
    · cases h

theorem good_mkf {f f0 : Nat} {first caps : Array Operand} {L : List X} {C : List Cap} {e : Eff} (ho : o.op = .makeFunc (.func f) first caps) (h0 : first.size = 0) (hfid : fid f0 = f) (hL : stripXs cid caps.toList = some L)
    (hC : capsOf (L.map ev) = some C) (he : e = ⟨.w (.fn f0 C), H, [], false⟩) : Good P fid G E κ FN FZ g s ρ o e := by
  subst he
  obtain ⟨h1, h2⟩ := stripXs_rel hL
  obtain ⟨h3, h4⟩ := capsOf_rel hC
  have hf : first.map ρ = #[] := by have : first = #[] := Array.eq_empty_of_size_eq_zero h0; rw [this]; simp
  refine good_pure I (v := .func (.func f) #[] (caps.map ρ)) (by simp [execOp, ho, Instr.makeFunc, hf]) ⟨caps.map ρ, by rw [hfid], by simp at h1 h3 ⊢; omega, fun i c hi => ?_⟩
  obtain ⟨y, hy, hyc⟩ := h4 i c hi
  rw [List.getElem?_map] at hy
  cases hLi : L[i]? with
  | none => simp [hLi] at hy
  | some Y =>
    simp [hLi] at hy
    obtain ⟨y', hy', hs⟩ := h2 i Y hLi
    refine ⟨ρ y', by simp at hy' ⊢; exact ⟨y', hy', rfl⟩, ?_⟩
    have hr := hev y' Y hs
    rw [hy] at hr
    cases y with
    | w y =>
      cases y <;> simp [capOf] at hyc <;> subst hyc
      · exact hr
      · exact hr
    | _ => simp [capOf] at hyc

end ops
end
end Go.VM
