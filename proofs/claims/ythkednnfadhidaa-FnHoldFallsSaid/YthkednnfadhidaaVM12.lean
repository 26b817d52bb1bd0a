/- The value machine: max and min, literals, append. Conditions: none. -/
import Derived.Test.YthkednnfadhidaaVM11
namespace Go.VM
set_option linter.unusedVariables false
set_option linter.unusedSimpArgs false
set_option linter.unusedSectionVars false

section
variable {P : Program} {fid : Nat → FuncId} {cid : FuncId → Nat} {G : Nat → Option (List D)} {E : Entry} {κ : Ctx} {H : Nat → Box} {FN FZ : Nat → Prop} {g : Nat} {s : Sup}
variable {ρ : Operand → Value} {ev : X → V} {o : Oper}

theorem fold2_run {w : World} (isMax : Bool) : ∀ {vs : List V} {us : List Value} {k : IntKind} {a : Int} {v : V}, us.length = vs.length → (∀ (i : Nat) (x : V), vs[i]? = some x → ∃ u : Value, us[i]? = some u ∧ VRel fid κ u x) →
    fold2 isMax k a vs = some v → ∃ b, v = sV (.int k b) ∧ (us.foldlM (if isMax then Builtin.max2 else Builtin.min2) (Value.int k a)).run P w = .ok (.int k b) w
  | [], us, k, a, v, hl, hr, h => by
    simp [fold2] at h; subst h
    have : us = [] := List.eq_nil_of_length_eq_zero (by simpa using hl)
    subst this
    exact ⟨a, rfl, rfl⟩
  | x :: vs, us, k, a, v, hl, hr, h => by
    simp only [fold2] at h
    split at h
    · rename_i k' b hb
      split at h
      · rename_i hk
        subst hk
        match us, hl, hr with
        | u :: us, hl, hr =>
          obtain ⟨u', e, hu⟩ := hr 0 x rfl
          cases e
          have hub := int?_rel hu hb
          obtain ⟨c, hc, hrun⟩ := fold2_run (w := w) isMax (us := us) (by simpa using hl) (fun i y hi => by simpa using hr (i + 1) y (by simpa using hi)) h
          refine ⟨c, hc, ?_⟩
          subst hub
          rw [List.foldlM_cons]
          cases isMax
          · simp only [Bool.false_eq_true, if_false] at hrun ⊢
            simp only [Sem.run_bind, Builtin.min2, Sem.run_pure, Result.andThen_ok]
            exact hrun
          · simp only [if_true] at hrun ⊢
            simp only [Sem.run_bind, Builtin.max2, Sem.run_pure, Result.andThen_ok]
            exact hrun
      · cases h
    · cases h

theorem map_rel (hev : ∀ x X, stripX cid x = some X → VRel fid κ (ρ x) (ev X)) {l : List Operand} {L : List X} (hL : stripXs cid l = some L) :
    (l.map ρ).length = (L.map ev).length ∧ ∀ (i : Nat) (x : V), (L.map ev)[i]? = some x → ∃ u : Value, (l.map ρ)[i]? = some u ∧ VRel fid κ u x := by
  obtain ⟨h1, h2⟩ := stripXs_rel hL
  refine ⟨by simp [h1], fun i x hi => ?_⟩
  rw [List.getElem?_map] at hi
  cases hx : L[i]? with
  | none => simp [hx] at hi
  | some X =>
    simp [hx] at hi; subst hi
    obtain ⟨y, hy, hs⟩ := h2 i X hx
    exact ⟨ρ y, by simp [hy], hev y X hs⟩

/-- Cells put in the place of others, one by one. -/
theorem fill_splice (v : Array Value) (off : Nat) (cells : Array Value) (h : off + v.size ≤ cells.size) :
    v.zipIdx.foldl (fun cs (x : Value × Nat) => cs.setIfInBounds (off + x.2) x.1) cells = (splice cells.toList off v.toList).toArray := by
  rw [← Array.foldl_toList, Array.toList_zipIdx]
  have key : ∀ (l : List Value) (n : Nat) (cs : Array Value), off + n + l.length ≤ cs.size →
      (l.zipIdx n).foldl (fun cs (x : Value × Nat) => cs.setIfInBounds (off + x.2) x.1) cs = (splice cs.toList (off + n) l).toArray := by
    intro l
    induction l with
    | nil => intro n cs h; simp [splice]
    | cons x r ih =>
      intro n cs h
      simp at h
      rw [List.zipIdx_cons, List.foldl_cons, ih (n + 1) _ (by simp; omega)]
      congr 1
      apply List.ext_getElem?
      intro j
      rw [splice_get (by simp; omega), splice_get (by simp; omega)]
      simp only [Array.toList_setIfInBounds, List.getElem?_set, Array.length_toList, List.length_cons]
      by_cases h1 : j = off + n
      · subst h1
        rw [if_neg (by omega), if_pos (by omega), if_pos (by omega), if_pos (by omega)]
        simp
      · by_cases h2 : off + n ≤ j ∧ j < off + n + (r.length + 1)
        · rw [if_pos (by omega), if_pos h2]
          rw [show j - (off + n) = (j - (off + (n + 1))) + 1 by omega]; simp
        · rw [if_neg (by omega), if_neg h2, if_neg (by omega)]
  have := key v.toList 0 cells (by simpa using h)
  simpa using this

theorem fill_cons {place : Nat → Option (Nat × Nat)} {cells : Array Value} {i : Nat} {v : Value} {rest : List (Nat × Value)} {off size : Nat} (hp : place i = some (off, size)) (hs : v.cells.size = size) (hf : off + size ≤ cells.size) :
    Instr.fill place cells ((i, v) :: rest) = Instr.fill place (splice cells.toList off v.cells.toList).toArray rest := by
  have h1 : ¬ (v.cells.size ≠ size ∨ off + v.cells.size > cells.size) := by omega
  simp only [Instr.fill, hp]
  rw [if_neg (by simpa using h1)]
  rw [← fill_splice v.cells off cells (by omega)]

/-- A struct or an array that is built. -/
theorem setParts_run {place : Nat → Option (Nat × Nat)} : ∀ {ps : List (Nat × Nat × V)} {us : List (Nat × Value)} {arr : Array Value} {cs out : List W}, us.length = ps.length →
    (∀ (i : Nat) (p : Nat × Nat × V), ps[i]? = some p → ∃ u : Nat × Value, us[i]? = some u ∧ place u.1 = some (p.1, p.2.1) ∧ VRel fid κ u.2 p.2.2) → LRel fid κ arr cs → setParts cs ps = some out →
    ∃ res, Instr.fill place arr us = some res ∧ LRel fid κ res out
  | [], us, arr, cs, out, hl, hr, hL, h => by
    simp [setParts] at h; subst h
    have : us = [] := List.eq_nil_of_length_eq_zero (by simpa using hl)
    subst this
    exact ⟨arr, rfl, hL⟩
  | (off, sz, v) :: ps, us, arr, cs, out, hl, hr, hL, h => by
    simp only [setParts] at h
    split at h
    · rename_i l hcl
      split at h
      · rename_i hf
        match us, hl, hr with
        | (i, u) :: us, hl, hr =>
          obtain ⟨u', e, hp, hu⟩ := hr 0 _ rfl
          cases e
          have hc := VRel.cells hu hcl
          have hsz : u.cells.size = sz := by rw [hc.1]; exact hf.1
          rw [fill_cons hp hsz (by rw [hL.1]; exact hf.2)]
          exact setParts_run (by simpa using hl) (fun i p hi => by simpa using hr (i + 1) p (by simpa using hi)) (hL.splice hc (by rw [hf.1]; exact hf.2)) h
      · cases h
    · cases h

theorem mapM_fields {w : World} : ∀ {fs : List Field}, fs.all (fun f => (sz? P f.type).isSome) = true →
    (fs.mapM (fun f => do pure (f.offset, ← sizeOf f.type) : Field → Sem (Nat × Nat))).run P w = .ok (fs.map fun f => (f.offset, (sz? P f.type).getD 0)) w
  | [], _ => rfl
  | f :: fs, h => by
    simp only [List.all_cons, Bool.and_eq_true] at h
    obtain ⟨n, hn⟩ := Option.isSome_iff_exists.1 h.1
    rw [List.mapM_cons]
    have ih := mapM_fields (w := w) h.2
    simp only [Sem.run_bind, run_sz hn, Result.andThen_ok, Sem.run_pure, ih, List.map_cons, hn, Option.getD_some]

section ops
variable (I : Inv fid G E κ H FN FZ) (hev : ∀ x X, stripX cid x = some X → VRel fid κ (ρ x) (ev X)) (hfn : ∀ n, g ≤ n → n < g + 64 → FN n)
include I hev

theorem good_mmx {isMax : Bool} {c : Call} {L : List X} {v0 : V} {r : List V} {k : IntKind} {a : Int} {e : Eff} (ho : o.op = .call c) (hc : c.callee = .builtin (if isMax then .max else .min)) (hL : stripXs cid c.args.toList = some L)
    (hm : L.map ev = v0 :: r) (hv : v0.int? = some (k, a)) (h : ret0 H (fold2 isMax k a r) = some e) : Good P fid G E κ FN FZ g s ρ o e := by
  obtain ⟨v, hf, rfl⟩ := ret0_some h
  obtain ⟨h1, h2⟩ := map_rel hev hL
  rw [hm] at h1 h2
  match hu : c.args.toList.map ρ, h1, h2 with
  | u :: us, h1, h2 =>
    obtain ⟨u', e, hu0⟩ := h2 0 v0 rfl
    cases e
    obtain ⟨b, rfl, hrun⟩ := fold2_run (P := P) (w := κ.w) isMax (us := us) (by simpa using h1) (fun i y hi => by simpa using h2 (i + 1) y (by simpa using hi)) hf
    have hub := int?_rel hu0 hv
    have hargs : (c.args.map ρ).toList = u :: us := by rw [Array.toList_map]; exact hu
    refine good_pure I (v := .int k b) ?_ (sV_rel rfl)
    subst hub
    cases isMax
    · simp only [Bool.false_eq_true, if_false] at hc hrun
      simp [execOp, ho, resolve, hc, invoke, builtin, Builtin.min_, hargs, hrun]
      rw [Array.toList_map] at hargs
      simp [hargs, hrun]
    · simp only [if_true] at hc hrun
      simp [execOp, ho, resolve, hc, invoke, builtin, Builtin.max_, hargs, hrun]
      rw [Array.toList_map] at hargs
      simp [hargs, hrun]

theorem fieldParts_rel {fs : Array Field} : ∀ {l : List (Nat × Operand)} {L : List (Nat × Nat × X)}, fieldParts P cid fs l = some L →
    l.length = L.length ∧ ∀ (i : Nat) (p : Nat × Nat × V), (L.map fun p => (p.1, p.2.1, ev p.2.2))[i]? = some p →
      ∃ u : Nat × Value, (l.map fun q => (q.1, ρ q.2))[i]? = some u ∧ ((fs.toList.map fun f => (f.offset, (sz? P f.type).getD 0)).toArray[u.1]?) = some (p.1, p.2.1) ∧ VRel fid κ u.2 p.2.2
  | [], L, h => by simp [fieldParts] at h; subst h; simp
  | (i, x) :: r, L, h => by
    simp only [fieldParts] at h
    split at h
    · rename_i f hf
      split at h
      · rename_i n y l hn hy hl
        cases h
        obtain ⟨h1, h2⟩ := fieldParts_rel hl
        refine ⟨by simp [h1], fun j p hj => ?_⟩
        match j with
        | 0 => simp at hj; subst hj; exact ⟨(i, ρ x), rfl, by simp [hf, hn], hev x y hy⟩
        | j + 1 => simpa using h2 j p (by simpa using hj)
      · cases h
    · cases h

theorem elemParts_rel {n : Nat} : ∀ {l : List (Nat × Operand)} {L : List (Nat × Nat × X)}, elemParts cid n l = some L →
    l.length = L.length ∧ ∀ (i : Nat) (p : Nat × Nat × V), (L.map fun p => (p.1, p.2.1, ev p.2.2))[i]? = some p →
      ∃ u : Nat × Value, (l.map fun q => (q.1, ρ q.2))[i]? = some u ∧ (fun i => some (i * n, n) : Nat → Option (Nat × Nat)) u.1 = some (p.1, p.2.1) ∧ VRel fid κ u.2 p.2.2
  | [], L, h => by simp [elemParts] at h; subst h; simp
  | (i, x) :: r, L, h => by
    simp only [elemParts] at h
    split at h
    · rename_i y l hy hl
      cases h
      obtain ⟨h1, h2⟩ := elemParts_rel hl
      refine ⟨by simp [h1], fun j p hj => ?_⟩
      match j with
      | 0 => simp at hj; subst hj; exact ⟨(i, ρ x), rfl, rfl, hev x y hy⟩
      | j + 1 => simpa using h2 j p (by simpa using hj)
    · cases h

theorem good_bld {t : TypeId} {parts : Array (Nat × Operand)} {z out : List W} {L : List (Nat × Nat × X)} {e : Eff} (ho : o.op = .build t parts) (hz : zeroW P t = some z)
    (hu : (∃ fs, P.underlying t = some (.struct fs) ∧ fs.toList.all (fun f => (sz? P f.type).isSome) = true ∧ fieldParts P cid fs parts.toList = some L) ∨ (∃ n e0 k, P.underlying t = some (.array n e0) ∧ sz? P e0 = some k ∧ elemParts cid k parts.toList = some L))
    (hs : setParts z (L.map fun p => (p.1, p.2.1, ev p.2.2)) = some out) (he : e = ⟨.agg out, H, [], false⟩) : Good P fid G E κ FN FZ g s ρ o e := by
  subst he
  obtain ⟨i, u, hi, hzu, _, _, hcl⟩ := zeroW_ok hz
  obtain ⟨h1, h2⟩ := constL_rel (κ := κ) (fid := fid) hcl
  have hL : LRel fid κ u.cells z := ⟨by simpa using h1, fun j c hj => by simpa using h2 j c hj⟩
  have hparts : (parts.map fun (x : Nat × Operand) => (x.1, ρ x.2)).toList = parts.toList.map fun q => (q.1, ρ q.2) := by rw [Array.toList_map]
  rcases hu with ⟨fs, hu, hall, hf⟩ | ⟨n, e0, k, hu, hk, hf⟩
  · obtain ⟨hl, hr⟩ := fieldParts_rel I hev (P := P) hf
    obtain ⟨res, hfill, hres⟩ := setParts_run (place := ((fs.toList.map fun f => (f.offset, (sz? P f.type).getD 0)).toArray[·]?)) (us := parts.toList.map fun q => (q.1, ρ q.2)) (by simp [hl]) hr hL hs
    refine good_pure I (v := .agg res) ?_ ⟨res, rfl, hres⟩
    have hm := mapM_fields (P := P) (w := κ.w) hall
    have hm' : (fs.mapM (fun f => do pure (f.offset, ← sizeOf f.type) : Field → Sem (Nat × Nat))).run P κ.w = .ok ((fs.toList.map fun f => (f.offset, (sz? P f.type).getD 0)).toArray) κ.w := by
      rw [Array.mapM_eq_mapM_toList, Sem.run_map, hm]; rfl
    simp only [execOp, ho, Instr.build, zeroValue, Sem.run_bind, typeInfo, run_program, Result.andThen_ok, hi, Sem.run_pure, hzu, run_underlying hu, hm', hparts, hfill]
  · obtain ⟨hl, hr⟩ := elemParts_rel I hev (ρ := ρ) (ev := ev) hf
    obtain ⟨res, hfill, hres⟩ := setParts_run (place := fun i => some (i * k, k)) (us := parts.toList.map fun q => (q.1, ρ q.2)) (by simp [hl]) hr hL hs
    refine good_pure I (v := .agg res) ?_ ⟨res, rfl, hres⟩
    simp only [execOp, ho, Instr.build, zeroValue, Sem.run_bind, typeInfo, run_program, Result.andThen_ok, hi, Sem.run_pure, hzu, run_underlying hu, run_sz hk, hparts, hfill]

end ops
end
end Go.VM
