/- The value machine: literals, new slices, reslicing, indexing, append. Conditions: none. -/
import Derived.Test.YthkednnfadhidaaVM7
import Derived.Great.BuildSlice
namespace Go.VM
set_option linter.unusedVariables false
set_option linter.unusedSimpArgs false
set_option linter.unusedSectionVars false

section
variable {P : Program} {fid : Nat → FuncId} {cid : FuncId → Nat} {G : Nat → Option (List D)} {E : Entry} {κ : Ctx} {H : Nat → Box} {FN FZ : Nat → Prop} {g : Nat} {s : Sup}
variable {ρ : Operand → Value} {ev : X → V} {o : Oper}

theorem zeroW_ok {t : TypeId} {z : List W} (h : zeroW P t = some z) : ∃ i u, P.info? t = some i ∧ i.zero = some u ∧ u.cells.size = i.size ∧ z.length = i.size ∧ constL u.cells.toList = some z := by
  unfold zeroW at h
  split at h
  · rename_i i hi
    split at h
    · rename_i u hu
      split at h
      · rename_i l hl
        split at h
        · rename_i hs
          cases h
          have := (constL_rel (κ := default0) (fid := id) hl).1
          exact ⟨i, u, hi, hu, by simpa [hs] using this, hs, hl⟩
        · cases h
      · cases h
    · cases h
  · cases h
where default0 : Ctx := ⟨default, fun _ _ => False, fun _ => none, fun _ => none⟩

theorem zeroD_ok {t : TypeId} {z : List D} (h : zeroD P t = some z) : ∃ i u, P.info? t = some i ∧ i.zero = some u ∧ u.cells.size = i.size ∧ z.length = i.size ∧
    ∀ (j : Nat) (d : D), z[j]? = some d → ∃ y, u.cells[j]? = some y ∧ ∀ κ : Ctx, κ.rel y d := by
  unfold zeroD at h
  cases hz : zeroW P t with
  | none => simp [hz] at h
  | some w =>
    simp [hz] at h
    obtain ⟨i, u, hi, hu, hs, hl, hc⟩ := zeroW_ok hz
    have e := (datas_rel (κ := zeroW_ok.default0) (fid := id) h).1
    refine ⟨i, u, hi, hu, hs, by omega, fun j d hj => ?_⟩
    obtain ⟨c, hcj, _⟩ := (datas_rel (κ := zeroW_ok.default0) (fid := id) h).2 j d hj
    obtain ⟨y, hy, _⟩ := (constL_rel (κ := zeroW_ok.default0) (fid := id) hc).2 j c hcj
    refine ⟨y, by simpa using hy, fun κ => ?_⟩
    obtain ⟨c', hc', hr⟩ := (datas_rel (κ := κ) (fid := id) h).2 j d hj
    obtain ⟨y', hy', q⟩ := (constL_rel (κ := κ) (fid := id) hc).2 j c' hc'
    rw [hy] at hy'; cases hy'
    exact hr _ q

/-- A new block that holds a slice's rows. -/
theorem new_row (I : Inv fid G E κ H FN FZ) {w' : World} {arr : Array Value} {T : TypeId} {st : Option Nat} {sz ro : Nat} {rows : List (List D)}
    (hh : w'.heap = κ.w.heap.push (.cells arr T (0, 0))) (ho : w'.os = κ.w.os) (ht : w'.tape = κ.w.tape) (hu : w'.output = κ.w.output) (hg : FN g)
    (hlen : ∀ row ∈ rows, row.length = sz) (hfit : rows.length * sz ≤ arr.size) (hrows : RowsAt κ arr 0 sz rows) (hst : st = none ∨ st = some 0) :
    ∃ κ' : Ctx, κ'.w = w' ∧ κ.le κ' ∧ κ'.β g = some ⟨κ.w.heap.size, 0, sz, arr.size, true⟩ ∧ Inv fid G E κ' (upd H g (.row st sz rows ro)) (fun n => FN n ∧ n ≠ g) FZ :=
  I.new (i := ⟨κ.w.heap.size, 0, sz, arr.size, true⟩) (.row st sz rows ro) hh ho ht hu hg rfl
    (fun κ' hle hw him hz hb hheap => ⟨_, hb, rfl, hlen, .inr ⟨arr, T, rfl, by rw [hw]; exact hheap, rfl, by simpa using hfit, hrows.mono hle,
      fun o ho => by rw [him] at ho; exact absurd (I.imlt _ _ ho) (Nat.lt_irrefl _),
      by
        rcases hst with rfl | rfl
        · intro t ht'; rw [hz] at ht'; exact absurd (I.zlt _ _ ht') (Nat.lt_irrefl _)
        · intro h; exact absurd rfl h⟩⟩)

theorem i64_small {n : Int} (h0 : 0 ≤ n) (h : n ≤ 2 ^ 40) : IntKind.i64.wrap n = n := by
  rw [IntKind.wrap_i64]; omega

theorem room_ok {n bytes : Nat} (h : room n bytes = true) : n * bytes ≤ 2 ^ 40 ∧ n ≤ 2 ^ 40 := by simpa [room] using h

/-- 'make' of a slice. -/
theorem good_msl {t e0 : TypeId} {ti : TypeInfo} {z : List D} {l c : Operand} {L C : X} {ln cp : Int} {e : Eff} (I : Inv fid G E κ H FN FZ) (hev : ∀ x X, stripX cid x = some X → VRel fid κ (ρ x) (ev X)) (hfn : ∀ n, g ≤ n → n < g + 64 → FN n)
    (ho : o.op = .makeSlice t l c) (hu : P.underlying t = some (.slice e0)) (hi : P.info? e0 = some ti) (hz : zeroD P e0 = some z) (hpos : 0 < ti.size) (hL : stripX cid l = some L) (hC : stripX cid c = some C)
    (hl : (ev L).int? = some (.i64, ln)) (hc : (ev C).int? = some (.i64, cp)) (h0 : 0 ≤ ln ∧ ln ≤ cp) (hr : room cp.toNat ti.bytes = true)
    (he : e = ⟨.w (.own g 0 ln.toNat (some cp.toNat)), upd H g (.row none ti.size (List.replicate ln.toNat z) 0), [], false⟩) : Good P fid G E κ FN FZ g s ρ o e := by
  subst he
  obtain ⟨i', u, hi', hzu, hus, hzl, hzr⟩ := zeroD_ok hz
  rw [hi] at hi'; cases hi'
  obtain ⟨hr1, hr2⟩ := room_ok hr
  have hcp : cp ≤ 2 ^ 40 := by omega
  have w1 := i64_small (n := ln) h0.1 (by omega)
  have w2 := i64_small (n := cp) (by omega) hcp
  let arr : Array Value := (Array.range (cp.toNat * ti.size)).map (fun k => (if cp.toNat * ti.size = 0 then #[] else u.cells)[k % (if cp.toNat * ti.size = 0 then #[] else u.cells).size]!)
  have hrun : (execOp ρ o).run P κ.w = .ok (.value (.slice (some ⟨κ.w.heap.size, 0, none⟩) ln.toNat cp.toNat)) (κ.w.alloc (.cells arr e0)) := by
    have hb : ¬ ((ti.bytes : Int) * cp > 2 ^ 48) := by
      have : ((cp.toNat * ti.bytes : Nat) : Int) ≤ 2 ^ 40 := by exact_mod_cast hr1
      have e1 : ((cp.toNat * ti.bytes : Nat) : Int) = (ti.bytes : Int) * cp := by rw [Int.natCast_mul, Int.toNat_of_nonneg (by omega), Int.mul_comm]
      rw [e1] at this; omega
    have hcond : (decide (cp < 0) || decide ((ti.bytes : Int) * cp > 2 ^ 48) || decide (ln < 0) || decide (ln > cp)) = false := by
      simp only [Bool.or_eq_false_iff, decide_eq_false_iff_not]
      exact ⟨⟨⟨by omega, hb⟩, by omega⟩, by omega⟩
    simp only [execOp, ho, Instr.makeSlice, Sem.run_bind, run_underlying hu, Result.andThen_ok, asInt, asIntOf, int?_rel (hev l L hL) hl, int?_rel (hev c C hC) hc, Sem.run_pure, typeInfo, run_program, hi, w1, w2]
    have hcond' : ((decide (cp < 0) || decide (2 ^ 48 < (ti.bytes : Int) * cp) || decide (ln < 0)) || decide (cp < ln)) = false := by simpa using hcond
    simp only [gt_iff_lt, Bool.or_eq_true, decide_eq_true_eq]
    rw [if_neg (by simpa [Bool.or_eq_false_iff, not_or] using hcond')]
    by_cases h00 : cp.toNat * ti.size = 0
    · simp [run_askRoom, sizeOf, typeInfo, hi, h00, newRow, arr]
    · simp [run_askRoom, sizeOf, typeInfo, hi, h00, newRow, zeroValue, hzu, arr]
  have hsize : arr.size = cp.toNat * ti.size := by simp [arr]
  have hfit : ln.toNat * ti.size ≤ cp.toNat * ti.size := Nat.mul_le_mul_right _ (by omega)
  obtain ⟨κ', hw, hle, hb, I'⟩ := new_row (g := g) (sz := ti.size) (ro := 0) (st := none) (rows := List.replicate ln.toNat z) I (w' := κ.w.alloc (.cells arr e0)) (arr := arr) (T := e0) rfl rfl rfl rfl (hfn g (Nat.le_refl _) (by omega))
    (fun row hrow => by rw [List.eq_of_mem_replicate hrow]; exact hzl) (by simpa [hsize] using hfit) (fun k row hk j d hj => by
      rw [List.getElem?_replicate] at hk
      split at hk
      · rename_i hkl
        cases hk
        obtain ⟨y, hy, q⟩ := hzr j d hj
        have hjs : j < ti.size := by have := List.getElem?_eq_some_iff.1 hj; obtain ⟨h, _⟩ := this; omega
        have hkn : (k + 1) * ti.size ≤ cp.toNat * ti.size := Nat.mul_le_mul_right _ (by omega)
        rw [Nat.add_mul] at hkn
        refine ⟨y, ?_, q κ⟩
        have h00 : cp.toNat * ti.size ≠ 0 := by omega
        have hlt : k * ti.size + j < cp.toNat * ti.size := by omega
        have hmod : (k * ti.size + j) % ti.size = j := by rw [Nat.add_comm, Nat.add_mul_mod_self_right, Nat.mod_eq_of_lt hjs]
        have : u.cells[j]! = y := by rw [getElem!_def, hy]
        simp [arr, h00, hlt, hus, hmod, this]
      · cases hk) (.inl rfl)
  refine ⟨_, _, κ', by rw [hw]; exact hrun, .inl rfl, hle, ⟨_, cp.toNat, hb, .inr rfl, by omega, .inr ⟨rfl, 0, rfl, .inr ⟨by simp, by simp [hsize]⟩⟩⟩, I'.weak FN'_of (fun n h => h.1)⟩

end
end Go.VM
