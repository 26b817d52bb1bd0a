/- The value machine: slice literals and append. Conditions: none. -/
import Derived.Test.YthkednnfadhidaaVM12
namespace Go.VM
set_option linter.unusedVariables false
set_option linter.unusedSimpArgs false
set_option linter.unusedSectionVars false

section
variable {P : Program} {fid : Nat → FuncId} {cid : FuncId → Nat} {G : Nat → Option (List D)} {E : Entry} {κ : Ctx} {H : Nat → Box} {FN FZ : Nat → Prop} {g : Nat} {s : Sup}
variable {ρ : Operand → Value} {ev : X → V} {o : Oper}

/-- One row put into rows, its cells into their array. -/
theorem rows_set {κ : Ctx} {arr brr : Array Value} {sz i : Nat} {rows : List (List D)} {ds : List D} (h : RowsAt κ arr 0 sz rows) (hlen : ∀ row ∈ rows, row.length = sz) (hs : arr.size = rows.length * sz)
    (hi : i < rows.length) (hds : ds.length = sz) (hb : brr.size = sz) (hd : ∀ (j : Nat) (d : D), ds[j]? = some d → ∃ y : Value, brr[j]? = some y ∧ κ.rel y d) :
    i * sz + sz ≤ arr.size ∧ RowsAt κ (splice arr.toList (i * sz) brr.toList).toArray 0 sz (rows.set i ds) ∧ (∀ row ∈ rows.set i ds, row.length = sz) := by
  have hf : i * sz + sz ≤ arr.size := by
    have : (i + 1) * sz ≤ rows.length * sz := Nat.mul_le_mul_right _ hi
    rw [Nat.add_mul] at this; omega
  have hf2 : i * sz + brr.toList.length ≤ arr.toList.length := by simpa [hb] using hf
  refine ⟨hf, fun k row hk j d hj => ?_, fun row hrow => ?_⟩
  · rw [List.getElem?_toArray, splice_get hf2]
    have hjs : j < sz := by
      have h1 : row.length = sz := by
        rcases List.mem_or_eq_of_mem_set (List.mem_of_getElem? hk) with h | h
        · exact hlen row h
        · rw [h]; exact hds
      have := List.getElem?_eq_some_iff.1 hj; obtain ⟨h2, _⟩ := this; omega
    rw [List.getElem?_set] at hk
    split at hk
    · rename_i hik
      subst hik
      simp only [hi, if_true, Option.some.injEq] at hk
      subst hk
      rw [if_pos (by simp [hb]; omega)]
      obtain ⟨y, hy, q⟩ := hd j d hj
      refine ⟨y, ?_, q⟩
      rw [show 0 + i * sz + j - i * sz = j by omega]; simpa using hy
    · rename_i hik
      rw [if_neg (by
        rcases Nat.lt_or_ge k i with h | h
        · have : (k + 1) * sz ≤ i * sz := Nat.mul_le_mul_right _ h
          rw [Nat.add_mul] at this; omega
        · have h' : i + 1 ≤ k := by omega
          have : (i + 1) * sz ≤ k * sz := Nat.mul_le_mul_right _ h'
          rw [Nat.add_mul] at this; simp [hb]; omega)]
      obtain ⟨y, hy, q⟩ := h k row hk j d hj
      exact ⟨y, by simpa using hy, q⟩
  · rcases List.mem_or_eq_of_mem_set hrow with h | h
    · exact hlen row h
    · rw [h]; exact hds

theorem rowParts_run {stamp : Bool} {sz : Nat} (hinj : ∀ a b, s a = s b → a = b) (hs : ∀ k, FZ (s k)) : ∀ {ps : List (Nat × V)} {us : List (Nat × Value)} {arr : Array Value} {rows out : List (List D)} {z z' : Fz} {κ : Ctx},
    us.length = ps.length → (∀ (i : Nat) (p : Nat × V), ps[i]? = some p → ∃ u : Nat × Value, us[i]? = some u ∧ u.1 = p.1 ∧ VRel fid κ u.2 p.2) →
    Inv fid G E κ z.H FN (fun t => FZ t ∧ ∀ k, k < z.k → t ≠ s k) → RowsAt κ arr 0 sz rows → (∀ row ∈ rows, row.length = sz) → arr.size = rows.length * sz →
    rowParts stamp s sz rows z ps = some (out, z') →
    ∃ κ' res, Frozen fid G E κ FN FZ s z κ' z' ∧ Instr.fill (fun i => some (i * sz, sz)) arr us = some res ∧ RowsAt κ' res 0 sz out ∧ (∀ row ∈ out, row.length = sz) ∧ res.size = rows.length * sz ∧ out.length = rows.length
  | [], us, arr, rows, out, z, z', κ, hl, hr, I, hR, hlen, hsz, h => by
    cases h
    have : us = [] := List.eq_nil_of_length_eq_zero (by simpa using hl)
    subst this
    exact ⟨κ, arr, ⟨rfl, rfl, Ctx.le.refl κ, Nat.le_refl _, I⟩, rfl, hR, hlen, hsz, rfl⟩
  | (i, v) :: ps, us, arr, rows, out, z, z', κ, hl, hr, I, hR, hlen, hsz, h => by
    simp only [rowParts] at h
    split at h
    · rename_i cs hcs
      split at h
      · rename_i l z₁ hz₁
        split at h
        · rename_i ds hds
          split at h
          · rename_i hcond
            match us, hl, hr with
            | (i', u) :: us, hl, hr =>
              obtain ⟨u', e, hi', hu⟩ := hr 0 _ rfl
              cases e
              simp only at hi'; subst hi'
              have hcL := VRel.cells hu hcs
              obtain ⟨κ₁, f₁, hll, hlr⟩ := frzL_ok hinj hs (vs := u.cells.toList) I (by simpa using hcL.1) (fun i c hi => by simpa using hcL.2 i c hi) hz₁
              obtain ⟨hdl, hdr⟩ := datas_rel (κ := κ₁) (fid := fid) hds
              have hll' : u.cells.size = l.length := by simpa using hll
              have hus : u.cells.size = sz := by omega
              obtain ⟨hf, hR', hlen'⟩ := rows_set (hR.mono f₁.le) hlen hsz hcond.2 hcond.1 hus (fun j d hj => by
                obtain ⟨c, hc, hcr⟩ := hdr j d hj
                obtain ⟨x, hx, q⟩ := hlr j c hc
                exact ⟨x, by simpa using hx, hcr x q⟩)
              have hsz' : (splice arr.toList (i' * sz) u.cells.toList).toArray.size = (rows.set i' ds).length * sz := by
                rw [List.size_toArray, splice_length (by simpa [hus] using hf)]; simpa using hsz
              obtain ⟨κ₂, res, f₂, hfill, hR₂, hlen₂, hsize, hout⟩ := rowParts_run hinj hs (us := us) (by simpa using hl)
                (fun j p hj => by obtain ⟨x, hx, hx1, hx2⟩ := hr (j + 1) p (by simpa using hj); exact ⟨x, by simpa using hx, hx1, hx2.mono f₁.le⟩) f₁.inv hR' hlen' hsz' h
              refine ⟨κ₂, res, f₁.trans f₂, ?_, hR₂, hlen₂, by simpa using hsize, by simpa using hout⟩
              rw [fill_cons rfl hus hf]; exact hfill
          · cases h
        · cases h
      · cases h
    · cases h

section ops
variable (I : Inv fid G E κ H FN FZ) (hev : ∀ x X, stripX cid x = some X → VRel fid κ (ρ x) (ev X)) (hfn : ∀ n, g ≤ n → n < g + 64 → FN n)
include hev

theorem rowParts?_rel : ∀ {l : List (Nat × Operand)} {L : List (Nat × X)}, rowParts? cid l = some L →
    l.length = L.length ∧ ∀ (i : Nat) (p : Nat × V), (L.map fun p => (p.1, ev p.2))[i]? = some p → ∃ u : Nat × Value, (l.map fun q => (q.1, ρ q.2))[i]? = some u ∧ u.1 = p.1 ∧ VRel fid κ u.2 p.2
  | [], L, h => by simp [rowParts?] at h; subst h; simp
  | (i, x) :: r, L, h => by
    simp only [rowParts?] at h
    split at h
    · rename_i y l hy hl
      cases h
      obtain ⟨h1, h2⟩ := rowParts?_rel hl
      refine ⟨by simp [h1], fun j p hj => ?_⟩
      match j with
      | 0 => simp at hj; subst hj; exact ⟨(i, ρ x), rfl, rfl, hev x y hy⟩
      | j + 1 => simpa using h2 j p (by simpa using hj)
    · cases h

include I hfn

theorem good_bsl {stamp : Bool} {t e0 : TypeId} {len n : Nat} {parts : Array (Nat × Operand)} {zd : List D} {L : List (Nat × X)} {rows : List (List D)} {z : Fz} {e : Eff} (hinj : ∀ a b, s a = s b → a = b) (hs : ∀ k, FZ (s k))
    (ho : o.op = .buildSlice t len parts) (hu : P.underlying t = some (.slice e0)) (hn : sz? P e0 = some n) (hz : zeroD P e0 = some zd) (hL : rowParts? cid parts.toList = some L) (hpos : 0 < n ∧ len * n ≤ 2 ^ 24)
    (hr : rowParts stamp s n (List.replicate len zd) ⟨H, 0, []⟩ (L.map fun p => (p.1, ev p.2)) = some (rows, z))
    (he : e = ⟨.w (.own g 0 len (some len)), upd z.H g (.row none n rows 0), z.touch, !z.touch.isEmpty⟩) : Good P fid G E κ FN FZ g s ρ o e := by
  subst he
  obtain ⟨ti, u, hi, hzu, hus, hzl, hzr⟩ := zeroD_ok hz
  have hnt : ti.size = n := by unfold sz? at hn; simpa [hi] using hn
  subst hnt
  let zero : Array Value := if len * ti.size = 0 then #[] else u.cells
  let arr0 : Array Value := (Array.range (len * ti.size)).map (zero[· % zero.size]!)
  have hs0 : arr0.size = (List.replicate len zd).length * ti.size := by simp [arr0]
  have hR0 : RowsAt κ arr0 0 ti.size (List.replicate len zd) := fun k row hk j d hj => by
    rw [List.getElem?_replicate] at hk
    split at hk
    · rename_i hkl
      cases hk
      obtain ⟨y, hy, q⟩ := hzr j d hj
      have hjs : j < ti.size := by have := List.getElem?_eq_some_iff.1 hj; obtain ⟨h, _⟩ := this; omega
      have hkn : (k + 1) * ti.size ≤ len * ti.size := Nat.mul_le_mul_right _ (by omega)
      rw [Nat.add_mul] at hkn
      refine ⟨y, ?_, q κ⟩
      have h00 : len * ti.size ≠ 0 := by omega
      have hlt : k * ti.size + j < len * ti.size := by omega
      have hmod : (k * ti.size + j) % ti.size = j := by rw [Nat.add_comm, Nat.add_mul_mod_self_right, Nat.mod_eq_of_lt hjs]
      have : u.cells[j]! = y := by rw [getElem!_def, hy]
      simp [arr0, zero, h00, hlt, hus, hmod, this]
    · cases hk
  obtain ⟨hl, hrl⟩ := rowParts?_rel hev hL
  obtain ⟨κ₁, res, f, hfill, hR, hlen, hsize, hout⟩ := rowParts_run (FN := FN) (FZ := FZ) hinj hs (us := parts.toList.map fun q => (q.1, ρ q.2)) (by simp [hl]) hrl (I.weak (fun _ h => h) (fun t h => h.1)) hR0
    (fun row hrow => by rw [List.eq_of_mem_replicate hrow]; exact hzl) hs0 hr
  simp only [List.length_replicate] at hsize hout
  have hparts : (parts.map fun (x : Nat × Operand) => (x.1, ρ x.2)).toList = parts.toList.map fun q => (q.1, ρ q.2) := by rw [Array.toList_map]
  have hrun : (execOp ρ o).run P κ.w = .ok (.value (.slice (some ⟨κ.w.heap.size, 0, none⟩) len len)) (κ.w.alloc (.cells res e0)) := by
    have hbig : ¬ (len * ti.size > 2 ^ 24) := by omega
    simp only [execOp, ho, Instr.buildSlice, Sem.run_bind, run_underlying hu, Result.andThen_ok, run_sz hn, if_neg hbig]
    by_cases h00 : len * ti.size = 0
    · have hfill' : Instr.fill (fun i => some (i * ti.size, ti.size)) ((Array.range (len * ti.size)).map ((#[] : Array Value)[· % (#[] : Array Value).size]!)) (parts.toList.map fun q => (q.1, ρ q.2)) = some res := by
        have := hfill; simp only [arr0, zero, if_pos h00] at this; exact this
      simp only [h00, if_true, Sem.run_pure, Result.andThen_ok, hparts]
      rw [h00] at hfill'
      simp only [hfill', Sem.run_bind, newRow, run_newObj, Result.andThen_ok, Sem.run_pure]; rfl
    · have hfill' : Instr.fill (fun i => some (i * ti.size, ti.size)) ((Array.range (len * ti.size)).map (u.cells[· % u.cells.size]!)) (parts.toList.map fun q => (q.1, ρ q.2)) = some res := by
        have := hfill; simp only [arr0, zero, if_neg h00] at this; exact this
      simp only [h00, if_false, zeroValue, Sem.run_bind, typeInfo, run_program, hi, hzu, Sem.run_pure, Result.andThen_ok, hparts]
      simp only [hfill', Sem.run_bind, newRow, run_newObj, Result.andThen_ok, Sem.run_pure]; rfl
  obtain ⟨κ', hw, hle, hb, I'⟩ := new_row (g := g) (sz := ti.size) (ro := 0) (st := none) (rows := rows) f.inv (w' := κ₁.w.alloc (.cells res e0)) (arr := res) (T := e0) rfl rfl rfl rfl (hfn g (Nat.le_refl _) (by omega))
    hlen (by rw [hout, hsize]; exact Nat.le_refl _) hR (.inl rfl)
  have hw1 : κ₁.w = κ.w := f.w
  refine ⟨_, _, κ', by rw [hw, hw1]; exact hrun, .inl rfl, f.le.trans hle, ⟨_, len, hb, .inr rfl, Nat.le_refl _, .inr ⟨rfl, 0, by rw [hw1], .inr ⟨by simp, by simp [hsize]⟩⟩⟩, I'.weak FN'_of (fun n h => ⟨h.1, fun k _ => h.2 k⟩)⟩

end ops
end
end Go.VM
