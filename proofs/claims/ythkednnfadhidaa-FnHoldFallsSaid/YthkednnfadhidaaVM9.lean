/- The value machine: reading, reslicing and indexing of slices; literals; comparisons. Conditions: none. -/
import Derived.Test.YthkednnfadhidaaVM8
import Derived.Laws.BytesString
namespace Go.VM
set_option linter.unusedVariables false
set_option linter.unusedSimpArgs false
set_option linter.unusedSectionVars false

section
variable {P : Program} {fid : Nat → FuncId} {cid : FuncId → Nat} {G : Nat → Option (List D)} {E : Entry} {κ : Ctx} {H : Nat → Box} {FN FZ : Nat → Prop} {g : Nat} {s : Sup}
variable {ρ : Operand → Value} {ev : X → V} {o : Oper}

/-- A slice value reads as these rows. -/
def Reads (κ : Ctx) (v : Value) (rows : List (List D)) : Prop :=
  ((v = .slice none 0 0 ∨ ∃ a, v = .slice (some a) 0 0) ∧ rows = []) ∨ ∃ (blk o cap sz : Nat) (f : Nat → Nat → Value), v = .slice (some ⟨blk, o, none⟩) rows.length cap ∧ rows.length ≤ cap ∧
    (∀ (i : Nat) (row : List D), rows[i]? = some row → row.length = sz) ∧
    (∀ i j, i < rows.length → j < sz → κ.w.cell? ⟨blk, o + i * sz + j, none⟩ = some (f i j)) ∧
    (∀ (i : Nat) (row : List D) (j : Nat) (x : D), rows[i]? = some row → row[j]? = some x → κ.rel (f i j) x)

theorem rel_reads {v : Value} {st : Nat} {rows : List (List D)} (h : κ.rel v (.l st rows)) : Reads κ v rows := by
  cases h with
  | nil st => exact .inl ⟨.inl rfl, rfl⟩
  | e a => exact .inl ⟨.inr ⟨a, rfl⟩, rfl⟩
  | l st rows blk o cap sz f hlen hcap hb hcell him hrel hst => exact .inr ⟨blk, o, cap, sz, f, rfl, hcap, hlen, hcell, hrel⟩

theorem rows_read (I : Inv fid G E κ H FN FZ) {v : Value} {y : W} {rows : List (List D)} {t : List Nat} (hv : WRel fid κ v y) (h : rowsOf H y = some (rows, t)) : Reads κ v rows := by
  cases y with
  | d x =>
    cases x with
    | s u => simp [rowsOf] at h
    | l st rs => simp [rowsOf] at h; obtain ⟨rfl, rfl⟩ := h; exact rel_reads hv
  | nil => simp [rowsOf] at h; obtain ⟨rfl, rfl⟩ := h; exact .inl ⟨.inl hv, rfl⟩
  | ln st rs => simp [rowsOf] at h; obtain ⟨rfl, rfl⟩ := h; exact rel_reads hv.1
  | own b off len cap =>
    simp only [rowsOf] at h
    split at h
    · rename_i st sz rs ro hH
      split at h
      · rename_i hf
        cases h
        obtain ⟨i, cap', hb, hc, hlc, ⟨rfl, rfl, rfl⟩ | ⟨hr, o, rfl, ho⟩⟩ := hv
        · exact .inl ⟨.inl rfl, by simp⟩
        · have hbox := I.box b
          rw [hH] at hbox
          obtain ⟨i'', hb'', hsz, hlen, ⟨hr', _⟩ | ⟨arr, T, q⟩⟩ := hbox <;> (rw [hb] at hb''; cases hb'')
          · rw [hr] at hr'; cases hr'
          · right
            have hll : ((rs.drop off).take len).length = len := by simp; omega
            rcases Nat.eq_zero_or_pos len with h0 | h0
            · subst h0
              refine ⟨i.blk, o, cap', sz, fun _ _ => undef, by simp, by simp, fun k row hk => by simp at hk, fun k j hk => by simp at hk, fun k row j x hk => by simp at hk⟩
            · have ho' : o = i.δ + off * sz := by rw [← hsz]; rcases ho with h | h; omega; exact h.1
              refine ⟨i.blk, o, cap', sz, fun k j => (arr[o + k * sz + j]?).getD undef, by rw [hll], by rw [hll]; exact hlc, ?_, ?_, ?_⟩
              · intro k row hk
                rw [seg_get] at hk
                split at hk
                · exact hlen row (List.mem_of_getElem? hk)
                · cases hk
              · intro k j hk hj
                rw [hll] at hk
                have h1 : off + k < rs.length := by omega
                have h2 : rs[off + k]? = some rs[off + k] := List.getElem?_eq_getElem h1
                have h3 : (rs[off + k]).length = sz := hlen _ (List.getElem_mem h1)
                obtain ⟨y, hy, _⟩ := q.rows _ _ h2 j _ (List.getElem?_eq_getElem (by omega))
                have e : i.δ + (off + k) * i.sz + j = o + k * sz + j := by rw [hsz, ho', Nat.add_mul]; omega
                rw [e] at hy
                rw [cell_of q.heap]; simp [hy]
              · intro k row j x hk hj
                rw [seg_get] at hk
                split at hk
                · obtain ⟨y, hy, hyr⟩ := q.rows _ _ hk j x hj
                  have e : i.δ + (off + k) * i.sz + j = o + k * sz + j := by rw [hsz, ho', Nat.add_mul]; omega
                  rw [e] at hy
                  simpa [hy] using hyr
                · cases hk
      · cases h
    · cases h
  | ptr b off => simp [rowsOf] at h
  | rp b i off => simp [rowsOf] at h
  | lp r off => simp [rowsOf] at h
  | gp k off => simp [rowsOf] at h
  | fn f c => simp [rowsOf] at h

/-- The bytes of a slice of bytes. -/
theorem bytes_rel : ∀ {rows : List (List D)} {bs : List UInt8}, bytesOf rows = some bs → ∃ ns : List Int, rows = ns.map (fun n => [.s (.int .u8 n)]) ∧ bs = ns.map (fun n => UInt8.ofNat n.toNat)
  | [], bs, h => by simp [bytesOf] at h; subst h; exact ⟨[], rfl, rfl⟩
  | r :: rs, bs, h => by
    unfold bytesOf at h
    split at h
    · rename_i heq; cases heq
    · rename_i n rs' heq
      cases heq
      cases hb : bytesOf rs with
      | none => simp [hb] at h
      | some l =>
        simp [hb] at h; subst h
        obtain ⟨ns, h1, h2⟩ := bytes_rel hb
        exact ⟨n :: ns, by simp [h1], by simp [h2]⟩
    · cases h

theorem foldl_push : ∀ (ns : List Int) (acc : ByteArray), ns.foldl (fun (r : ByteArray) n => r.push (UInt8.ofNat n.toNat)) acc = ⟨acc.data ++ (ns.map (fun n => UInt8.ofNat n.toNat)).toArray⟩
  | [], acc => by cases acc; simp
  | n :: ns, acc => by
    rw [List.foldl_cons, foldl_push ns]
    cases acc with | mk d => simp [ByteArray.push]

section ops
variable (I : Inv fid G E κ H FN FZ) (hev : ∀ x X, stripX cid x = some X → VRel fid κ (ρ x) (ev X))
include I hev

theorem good_cbs {src dst e0 : TypeId} {x : Operand} {X : X} {y : W} {rows : List (List D)} {t : List Nat} {bs : List UInt8} {e : Eff} (ho : o.op = .convert src dst x) (hs : P.underlying src = some (.slice e0)) (hd : P.underlying dst = some .string)
    (hu8 : P.underlying e0 = some (.int .u8)) (hX : stripX cid x = some X) (hy : ev X = .w y) (hr : rowsOf H y = some (rows, t)) (hb : bytesOf rows = some bs)
    (he : e = ⟨sV (.string ⟨bs.toArray⟩), H, t, false⟩) : Good P fid G E κ FN FZ g s ρ o e := by
  subst he
  have hv := hev x X hX
  rw [hy] at hv
  obtain ⟨ns, hns, hbs⟩ := bytes_rel hb
  refine good_pure I (v := .string ⟨bs.toArray⟩) ?_ (sV_rel rfl)
  rcases rows_read I hv hr with ⟨hv0, h0⟩ | ⟨blk, o', cap, sz, f, hv0, hcap, hlen, hcell, hrel⟩
  · rw [h0] at hns
    have : ns = [] := by cases ns with | nil => rfl | cons a b => simp at hns
    subst this
    subst hbs
    rcases hv0 with hx | ⟨a, hx⟩
    · simp [execOp, ho, hx, convert, run_underlying hs, run_underlying hd, run_underlying hu8, Conv.bytesToString]; try rfl
    · have hload := run_loadCells_list (P := P) κ.w a [] (by simp)
      simp [execOp, ho, hx, convert, run_underlying hs, run_underlying hd, run_underlying hu8, Conv.bytesToString, hload]; try rfl
  · have hx : ρ x = .slice (some ⟨blk, o', none⟩) rows.length cap := hv0
    have hload := run_loadCells_list (P := P) κ.w ⟨blk, o', none⟩ (ns.map (Value.int .u8)) (fun j v hj => by
      rw [List.getElem?_map] at hj
      cases hn : ns[j]? with
      | none => simp [hn] at hj
      | some n =>
        simp [hn] at hj; subst hj
        have hrow : rows[j]? = some [.s (.int .u8 n)] := by rw [hns, List.getElem?_map, hn]; rfl
        have hjl : j < rows.length := by have := List.getElem?_eq_some_iff.1 hrow; exact this.1
        have hsz : sz = 1 := (hlen _ _ hrow).symm
        have hc := hcell j 0 hjl (by omega)
        have hq := hrel j _ 0 _ hrow rfl
        generalize hfj : f j 0 = u at hc hq
        cases hq
        rw [Addr.add_none]
        subst hsz
        simpa using hc)
    have hl : (ns.map (Value.int .u8)).length = rows.length := by rw [hns]; simp
    rw [hl] at hload
    have hrun := run_bytesToString κ.w ⟨blk, o', none⟩ rows.length cap ns hload
    rw [foldl_push] at hrun
    simp [execOp, ho, hx, convert, run_underlying hs, run_underlying hd, run_underlying hu8, hrun, hbs]; try rfl

theorem good_ia_own {t e0 : TypeId} {x i : Operand} {J X : X} {b off len : Nat} {cap : Option Nat} {n ro : Nat} {st : Option Nat} {rows : List (List D)} {k : IntKind} {j : Int} {e : Eff} (ho : o.op = .indexAddr t x i) (hu : P.underlying t = some (.slice e0)) (hn : sz? P e0 = some n)
    (hX : stripX cid x = some X) (hJ : stripX cid i = some J) (hj : (ev J).int? = some (k, j)) (hx : ev X = .w (.own b off len cap)) (hH : H b = .row st n rows ro) (h0 : 0 ≤ j ∧ j < len)
    (he : e = ⟨.w (.rp b (off + j.toNat) 0), H, [b], false⟩) : Good P fid G E κ FN FZ g s ρ o e := by
  subst he
  have hr := hev x X hX
  rw [hx] at hr
  have hi := int?_rel (hev i J hJ) hj
  obtain ⟨inf, cap', hb, hc, hlc, ⟨h1, h2, h3⟩ | ⟨hreal, o', hv, ho'⟩⟩ := hr
  · omega
  · have ho'' : o' = inf.δ + off * inf.sz := by rcases ho' with h | h; omega; exact h.1
    have hbox := I.box b
    rw [hH] at hbox
    obtain ⟨i'', hb'', hsz, _, _⟩ := hbox
    rw [hb] at hb''; cases hb''
    have hx : ρ x = .slice (some ⟨inf.blk, o', none⟩) len cap' := hv
    refine good_pure I (v := .pointer (some ⟨inf.blk, o' + j.toNat * n, none⟩)) (by simp [execOp, ho, Instr.indexAt, asIntOf, run_underlying hu, hi, hx, h0, run_sz hn, Addr.add_none]) ⟨inf, hb, ?_⟩
    rw [ho'', Nat.add_mul, hsz]; simp [Nat.add_assoc]

theorem good_ia_data {t e0 : TypeId} {x i : Operand} {J X : X} {n st : Nat} {rows : List (List D)} {row : List D} {k : IntKind} {j : Int} {y : W} {e : Eff} (ho : o.op = .indexAddr t x i) (hu : P.underlying t = some (.slice e0)) (hn : sz? P e0 = some n)
    (hX : stripX cid x = some X) (hJ : stripX cid i = some J) (hj : (ev J).int? = some (k, j)) (hx : ev X = .w y) (hy : y = .d (.l st rows) ∨ y = .ln st rows) (h0 : 0 ≤ j) (hrow : rows[j.toNat]? = some row) (hl : row.length = n)
    (he : e = ⟨.w (.lp row 0), H, [], false⟩) : Good P fid G E κ FN FZ g s ρ o e := by
  subst he
  have hr := hev x X hX
  rw [hx] at hr
  have hi := int?_rel (hev i J hJ) hj
  have hrel : κ.rel (ρ x) (.l st rows) := by rcases hy with rfl | rfl; exact hr; exact hr.1
  have hjl : j.toNat < rows.length := by have := List.getElem?_eq_some_iff.1 hrow; exact this.1
  generalize hvx : ρ x = vx at hrel
  cases hrel with
  | nil st => simp at hrow
  | e a => simp at hrow
  | l _ _ blk o' cap sz f hlen hcap hb hcell him hrel hst =>
    have hs : sz = n := by rw [← hl, hlen _ _ hrow]
    subst hs
    refine good_pure I (v := .pointer (some ⟨blk, o' + j.toNat * sz, none⟩)) (by simp [execOp, ho, Instr.indexAt, asIntOf, run_underlying hu, hi, hvx, h0, show j < rows.length by omega, run_sz hn, Addr.add_none]) ?_
    refine ⟨blk, o' + j.toNat * sz, fun m => f j.toNat m, hb, rfl, fun m x hm => ?_⟩
    have hms : m < sz := by rw [← hl]; have := List.getElem?_eq_some_iff.1 hm; exact this.1
    exact ⟨him _ _ hjl hms, hcell _ _ hjl hms, hrel _ _ _ _ hrow hm⟩

end ops
end
end Go.VM
