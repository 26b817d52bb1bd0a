/- The value machine: operations that make, read and write memory keep the frame. Conditions: none. -/
import Derived.Test.YthkednnfadhidaaVM6
namespace Go.VM
set_option linter.unusedVariables false
set_option linter.unusedSimpArgs false
set_option linter.unusedSectionVars false

section
variable {P : Program} {fid : Nat → FuncId} {cid : FuncId → Nat} {G : Nat → Option (List D)} {E : Entry} {κ : Ctx} {H : Nat → Box} {FN FZ : Nat → Prop} {g : Nat} {s : Sup}
variable {ρ : Operand → Value} {ev : X → V} {o : Oper}

theorem FN'_of {g : Nat} : ∀ n, FN' FN g n → FN n ∧ n ≠ g := fun n h => ⟨h.1, fun e => h.2 ⟨by omega, by omega⟩⟩

theorem mkV_rel {a : Bool} {l : List W} {x : V} {cs : List Value} {v : Value} (hx : mkV a l = some x) (hl : cs.length = l.length)
    (hc : ∀ (j : Nat) (c : W), l[j]? = some c → ∃ y : Value, cs[j]? = some y ∧ WRel fid κ y c) (h1 : a = true → v = .agg cs.toArray) (h2 : a = false → cs = [v]) : VRel fid κ v x := by
  cases a with
  | true =>
    simp [mkV] at hx; subst hx
    exact ⟨cs.toArray, h1 rfl, by simpa using hl, fun j c hj => by simpa using hc j c hj⟩
  | false =>
    have := h2 rfl; subst this
    match l, hl, hx, hc with
    | [c], _, hx, hc =>
      simp [mkV] at hx; subst hx
      obtain ⟨y, hy, q⟩ := hc 0 c rfl
      simp at hy; subst hy; exact q

theorem part?_some {α : Type} {l p : List α} {off sz : Nat} (h : part? l off sz = some p) : off + sz ≤ l.length ∧ p.length = sz ∧ ∀ j, p[j]? = if j < sz then l[off + j]? else none := by
  unfold part? at h
  split at h
  · rename_i hf
    cases h
    exact ⟨hf, by simp; omega, fun j => seg_get l off sz j⟩
  · cases h

/-- A load, whatever it is read through. -/
theorem good_ld {t : TypeId} {a : Bool} {n : Nat} {x : Operand} {e : Eff} {l : List W} {v : V} {blk off : Nat} (I : Inv fid G E κ H FN FZ) (ho : o.op = .load t x)
    (ha : agg? P t = some a) (hn : sz? P t = some n) (h1 : (a || n == 1) = true) (hx : ρ x = .pointer (some ⟨blk, off, none⟩)) (hl : l.length = n) (hv : mkV a l = some v)
    (hc : ∀ (j : Nat) (c : W), l[j]? = some c → ∃ y : Value, κ.w.cell? ⟨blk, off + j, none⟩ = some y ∧ WRel fid κ y c) (hev : e.v = v) (heH : e.H = H) : Good P fid G E κ FN FZ g s ρ o e := by
  obtain ⟨ev, eH, et, ew⟩ := e
  simp only at hev heH; subst hev heH
  let cs := (List.range n).map fun j => (κ.w.cell? ⟨blk, off + j, none⟩).getD undef
  have hget : ∀ j, j < n → ∃ c y, l[j]? = some c ∧ cs[j]? = some y ∧ κ.w.cell? ⟨blk, off + j, none⟩ = some y ∧ WRel fid κ y c := by
    intro j hj
    have h2 : l[j]? = some l[j] := List.getElem?_eq_getElem (by omega)
    obtain ⟨y, hy, q⟩ := hc j _ h2
    exact ⟨_, y, h2, by simp [cs, hj, hy], hy, q⟩
  have hcl : cs.length = n := by simp [cs]
  obtain ⟨u, hr, hu1, hu2⟩ := run_loadAt_cells (P := P) (w := κ.w) ha hn h1 (b := blk) (o := off) cs hcl (fun j u hj => by
    have : j < n := by have := List.getElem?_eq_some_iff.1 hj; obtain ⟨h, _⟩ := this; omega
    obtain ⟨c, y, _, hy, hcell, _⟩ := hget j this
    rw [hj] at hy; cases hy; exact hcell)
  refine good_pure I (v := u) (by simp [execOp, ho, hx, hr]) (mkV_rel hv (by omega) (fun j c hj => ?_) hu1 hu2)
  have : j < n := by have := List.getElem?_eq_some_iff.1 hj; obtain ⟨h, _⟩ := this; omega
  obtain ⟨c', y, hc', hy, _, q⟩ := hget j this
  rw [hj] at hc'; cases hc'
  exact ⟨y, hy, q⟩

/-- What a pointer into a box leads to. -/
theorem ptr_cell (I : Inv fid G E κ H FN FZ) {b off : Nat} {v : Value} {cs : List W} (hv : WRel fid κ v (.ptr b off)) (hH : H b = .cells cs) :
    ∃ i arr T, κ.β b = some i ∧ i.real = true ∧ v = .pointer (some ⟨i.blk, off, none⟩) ∧ κ.w.heap[i.blk]? = some (.cells arr T (0, 0)) ∧ LRel fid κ arr cs ∧ ∀ o, ¬ κ.Im i.blk o := by
  obtain ⟨i, hb, hd, rfl⟩ := hv
  have hbox := I.box b
  rw [hH] at hbox
  obtain ⟨i', arr, T, hb', hr, _, hheap, hl, him⟩ := hbox
  rw [hb] at hb'; cases hb'
  exact ⟨i, arr, T, hb, hr, rfl, hheap, hl, him⟩

theorem row_cell (I : Inv fid G E κ H FN FZ) {b j off : Nat} {v : Value} {st : Option Nat} {sz : Nat} {rows : List (List D)} {ro : Nat} {row : List D}
    (hv : WRel fid κ v (.rp b j off)) (hH : H b = .row st sz rows ro) (hrow : rows[j]? = some row) :
    ∃ i arr T, κ.β b = some i ∧ i.sz = sz ∧ (∀ row ∈ rows, row.length = sz) ∧ v = .pointer (some ⟨i.blk, i.δ + j * i.sz + off, none⟩) ∧ RowBox κ i st rows ro arr T := by
  obtain ⟨i, hb, rfl⟩ := hv
  have hbox := I.box b
  rw [hH] at hbox
  obtain ⟨i', hb', hsz, hlen, ⟨_, h0⟩ | ⟨arr, T, q⟩⟩ := hbox <;> (rw [hb] at hb'; cases hb')
  · subst h0; simp at hrow
  · exact ⟨i, arr, T, hb, hsz, hlen, rfl, q⟩

/-- A new block of cells. -/
theorem good_newcells {e : Eff} {T : TypeId} {arr : Array Value} {cs : List W} (I : Inv fid G E κ H FN FZ) (hfn : ∀ n, g ≤ n → n < g + 64 → FN n)
    (hr : (execOp ρ o).run P κ.w = .ok (.value (.pointer (some ⟨κ.w.heap.size, 0, none⟩))) (κ.w.alloc (.cells arr T))) (hl : LRel fid κ arr cs)
    (he : e = ⟨.w (.ptr g 0), upd H g (.cells cs), [], false⟩) : Good P fid G E κ FN FZ g s ρ o e := by
  subst he
  obtain ⟨κ', hw, hle, hb, I'⟩ := I.new (w' := κ.w.alloc (.cells arr T)) (arr := arr) (T := T) (g := g) (i := ⟨κ.w.heap.size, 0, 0, 0, true⟩) (.cells cs) rfl rfl rfl rfl (hfn g (Nat.le_refl _) (by omega)) rfl
    (fun κ' hle hw him hz hb hheap => ⟨_, arr, T, hb, rfl, rfl, by rw [hw]; exact hheap, hl.mono hle, fun o ho => by
      rw [him] at ho; exact absurd (I.imlt _ _ ho) (Nat.lt_irrefl _)⟩)
  refine ⟨_, .pointer (some ⟨κ.w.heap.size, 0, none⟩), κ', by rw [hw]; exact hr, .inl rfl, hle, ⟨_, hb, rfl, rfl⟩, I'.weak (FN'_of) (fun n h => h.1)⟩

section ops
variable (I : Inv fid G E κ H FN FZ) (hev : ∀ x X, stripX cid x = some X → VRel fid κ (ρ x) (ev X)) (hfn : ∀ n, g ≤ n → n < g + 64 → FN n)
include I hev hfn

theorem good_new {t : TypeId} {z : List W} {e : Eff} (ho : o.op = .alloc t) (hz : zeroW P t = some z) (he : e = ⟨.w (.ptr g 0), upd H g (.cells z), [], false⟩) : Good P fid G E κ FN FZ g s ρ o e := by
  unfold zeroW at hz
  split at hz
  · rename_i i hi
    split at hz
    · rename_i u hu
      split at hz
      · rename_i l hl
        split at hz
        · cases hz
          obtain ⟨h1, h2⟩ := constL_rel (κ := κ) (fid := fid) hl
          exact good_newcells I hfn (arr := u.cells) (T := t) (by simp [execOp, ho, run_alloc hi hu]) ⟨by simpa using h1, fun j c hj => by simpa using h2 j c hj⟩ he
        · cases hz
      · cases hz
    · cases hz
  · cases hz

theorem good_box {t : TypeId} {x : Operand} {X : X} {cs : List W} {e : Eff} (ho : o.op = .box t x) (hX : stripX cid x = some X) (hc : (ev X).cells? = some cs)
    (he : e = ⟨.w (.ptr g 0), upd H g (.cells cs), [], false⟩) : Good P fid G E κ FN FZ g s ρ o e :=
  good_newcells I hfn (arr := (ρ x).cells) (T := t) (by simp [execOp, ho, run_box]) (VRel.cells (hev x X hX) hc) he

end ops

theorem LRel.splice {arr brr : Array Value} {old cs : List W} {off : Nat} (h : LRel fid κ arr old) (hc : LRel fid κ brr cs) (hf : off + cs.length ≤ old.length) :
    LRel fid κ (splice arr.toList off brr.toList).toArray (splice old off cs) := by
  have e1 := h.1
  have e2 := hc.1
  refine ⟨by simp [VM.splice]; omega, fun j c hj => ?_⟩
  simp only [VM.splice, List.getElem?_append, List.length_take, List.length_append] at hj
  simp only [VM.splice, List.getElem?_toArray, List.getElem?_append, List.length_take, List.length_append, Array.length_toList, e1, e2]
  split at hj
  · rename_i h1
    rw [if_pos h1]
    split at hj
    · rename_i h2
      rw [if_pos h2]
      rw [List.getElem?_take] at hj ⊢
      split at hj
      · rename_i h3; rw [if_pos h3]; simpa using h.2 _ c hj
      · cases hj
    · rename_i h2
      rw [if_neg h2]
      simpa using hc.2 _ c hj
  · rename_i h1
    rw [if_neg h1]
    rw [List.getElem?_drop] at hj ⊢
    simpa using h.2 _ c hj

theorem splice_length {α : Type} {l cs : List α} {off : Nat} (h : off + cs.length ≤ l.length) : (splice l off cs).length = l.length := by simp [splice]; omega
theorem splice_get {α : Type} {l cs : List α} {off : Nat} (h : off + cs.length ≤ l.length) (j : Nat) :
    (splice l off cs)[j]? = if off ≤ j ∧ j < off + cs.length then cs[j - off]? else l[j]? := by
  simp only [splice, List.getElem?_append, List.length_take, List.length_append, List.getElem?_take, List.getElem?_drop]
  have hm : min off l.length = off := by omega
  rw [hm]
  by_cases h1 : j < off
  · rw [if_pos (by omega), if_pos h1, if_pos h1, if_neg (by omega)]
  · by_cases h2 : j < off + cs.length
    · rw [if_pos h2, if_neg h1, if_pos ⟨by omega, h2⟩]
    · rw [if_neg h2, if_neg (by omega)]; congr 1; omega

/-- A store into a box of cells. -/
theorem good_stp {t : TypeId} {n b off : Nat} {x y : Operand} {Y X : X} {cs old : List W} {e : Eff} (I : Inv fid G E κ H FN FZ) (hev : ∀ x X, stripX cid x = some X → VRel fid κ (ρ x) (ev X))
    (ho : o.op = .store t x y) (hn : sz? P t = some n) (hX : stripX cid x = some X) (hY : stripX cid y = some Y) (hc : (ev Y).cells? = some cs) (hl : cs.length = n)
    (hp : ev X = .w (.ptr b off)) (hH : H b = .cells old) (hf : off + n ≤ old.length) (he : e = ⟨.tup [], upd H b (.cells (splice old off cs)), [b], true⟩) : Good P fid G E κ FN FZ g s ρ o e := by
  subst he
  have hr := hev x X hX
  rw [hp] at hr
  obtain ⟨i, arr, T, hb, hreal, hv, hheap, hL, him⟩ := ptr_cell I hr hH
  have hcL := VRel.cells (hev y Y hY) hc
  have hsz : (ρ y).cells.size = n := by rw [hcL.1, hl]
  have hrun := run_storeAt_cells (P := P) (w := κ.w) hn (b := i.blk) (o := off) arr (ρ y) hsz hheap (by rw [hL.1]; omega) (fun u hu => by
    obtain ⟨k, hk, e⟩ := List.mem_iff_getElem.1 hu
    have hk' : k < cs.length := by rw [← hcL.1]; simpa using hk
    obtain ⟨u', hu', q⟩ := hcL.2 k _ (List.getElem?_eq_getElem hk')
    have : u' = u := by
      have h3 : (ρ y).cells[k]? = some u := by rw [← e]; simp at hk ⊢
      rw [hu'] at h3; cases h3; rfl
    subst this; exact q.oneCell)
  obtain ⟨hle, I'⟩ := I.store (w' := κ.w.setRow i.blk (splice arr.toList off (ρ y).cells.toList).toArray) (B := .cells (splice old off cs)) hb hreal (by rw [hH]; simp) hheap (setRow_heap _ _ _ _ _ _ hheap)
    (size_setRow _ _ _) (fun k hk => setRow_other _ _ _ _ hk) rfl rfl rfl (fun o ho => absurd ho (him o))
    (fun hle => ⟨i, _, T, hle.b _ _ hb, hreal, by obtain ⟨_, _, _, hb', _, h0, _⟩ := (hH ▸ I.box b : BoxRel fid κ b (.cells old)); rw [hb] at hb'; cases hb'; exact h0,
      setRow_heap _ _ _ _ _ _ hheap, (hL.mono hle).splice (hcL.mono hle) (by rw [hl]; exact hf), him⟩)
  refine ⟨.skip, undef, _, ?_, .inr ⟨rfl, rfl⟩, hle, ⟨#[], rfl, rfl, by simp⟩, I'.weak (fun n h => h.1) (fun n h => h.1)⟩
  have : ρ x = .pointer (some ⟨i.blk, off, none⟩) := hv
  simp [execOp, ho, this, hrun]

theorem datas_rel : ∀ {l : List W} {ds : List D}, datas? l = some ds → l.length = ds.length ∧ ∀ (j : Nat) (d : D), ds[j]? = some d → ∃ c, l[j]? = some c ∧ ∀ v, WRel fid κ v c → κ.rel v d
  | [], ds, h => by simp [datas?] at h; subst h; simp
  | x :: r, ds, h => by
    simp only [datas?] at h
    split at h
    · rename_i d l hd hl
      cases h
      obtain ⟨h1, h2⟩ := datas_rel hl
      refine ⟨by simp [h1], fun j c hj => ?_⟩
      match j with
      | 0 =>
        simp at hj; subst hj
        refine ⟨x, rfl, fun v hv => ?_⟩
        cases x <;> simp [W.data?] at hd
        · subst hd; exact hv
        · subst hd; cases hv; exact .nil 0
        · subst hd; exact hv.1
      | j + 1 => simpa using h2 j c (by simpa using hj)
    · cases h

/-- A store into a row of a slice's own block. -/
theorem good_str {t : TypeId} {n b j off : Nat} {x y : Operand} {Y X : X} {cs l : List W} {ds row : List D} {st : Option Nat} {sz : Nat} {rows : List (List D)} {ro : Nat} {z : Fz} {stamp : Bool} {e : Eff}
    (I : Inv fid G E κ H FN FZ) (hev : ∀ x X, stripX cid x = some X → VRel fid κ (ρ x) (ev X)) (hinj : ∀ a b, s a = s b → a = b) (hs : ∀ k, FZ (s k))
    (ho : o.op = .store t x y) (hn : sz? P t = some n) (hX : stripX cid x = some X) (hY : stripX cid y = some Y) (hc : (ev Y).cells? = some cs) (hl : cs.length = n)
    (hp : ev X = .w (.rp b j off)) (hz : frzL stamp s ⟨H, 0, []⟩ cs = some (l, z)) (hd : datas? l = some ds) (hH : z.H b = .row st sz rows ro) (hrow : rows[j]? = some row)
    (hro : ro ≤ j) (hf : off + n ≤ row.length) (he : e = ⟨.tup [], upd z.H b (.row st sz (rows.set j (splice row off ds)) ro), z.touch ++ [b], true⟩) : Good P fid G E κ FN FZ g s ρ o e := by
  subst he
  have hcL := VRel.cells (hev y Y hY) hc
  have hsz : (ρ y).cells.size = n := by rw [hcL.1, hl]
  obtain ⟨κ₁, f, hll, hlr⟩ := frzL_ok (FN := FN) (FZ := FZ) hinj hs (z := ⟨H, 0, []⟩) (vs := (ρ y).cells.toList) (I.weak (fun _ h => h) (fun t h => h.1)) (by simpa using hcL.1) (fun i c hi => by simpa using hcL.2 i c hi) hz
  have hr := (hev x X hX).mono f.le
  rw [hp] at hr
  obtain ⟨i, arr, T, hb, hisz, hlen, hv, q⟩ := row_cell f.inv hr hH hrow
  obtain ⟨hdl, hdr⟩ := datas_rel (κ := κ₁) (fid := fid) hd
  have hll' : (ρ y).cells.size = l.length := by simpa using hll
  have hdsl : ds.length = n := by omega
  have hrl : row.length = sz := hlen _ (List.mem_of_getElem? hrow)
  have hj : j < rows.length := by have := List.getElem?_eq_some_iff.1 hrow; exact this.1
  have hjs : (j + 1) * sz ≤ rows.length * sz := Nat.mul_le_mul_right _ hj
  rw [Nat.add_mul] at hjs
  have hfits := q.fits
  rw [hisz] at hfits
  have hspan : i.δ + j * sz + off + n ≤ arr.size := by rw [q.size]; omega
  rw [hisz] at hv
  have hrun := run_storeAt_cells (P := P) (w := κ₁.w) hn (b := i.blk) (o := i.δ + j * sz + off) arr (ρ y) hsz q.heap hspan (fun u hu => by
    obtain ⟨k, hk, e⟩ := List.mem_iff_getElem.1 hu
    have hk' : k < cs.length := by rw [← hcL.1]; simpa using hk
    obtain ⟨u', hu', q⟩ := hcL.2 k _ (List.getElem?_eq_getElem hk')
    have : u' = u := by
      have h3 : (ρ y).cells[k]? = some u := by rw [← e]; simp at hk ⊢
      rw [hu'] at h3; cases h3; rfl
    subst this; exact q.oneCell)
  have hvl : (ρ y).cells.toList.length = n := by simpa using hsz
  have hfit2 : i.δ + j * sz + off + (ρ y).cells.toList.length ≤ arr.toList.length := by simpa [hvl] using hspan
  have hget := fun m => splice_get (l := arr.toList) (cs := (ρ y).cells.toList) hfit2 m
  have hget2 := fun m => splice_get (l := row) (cs := ds) (off := off) (by omega) m
  obtain ⟨hle, I'⟩ := f.inv.store (w' := κ₁.w.setRow i.blk (splice arr.toList (i.δ + j * sz + off) (ρ y).cells.toList).toArray) (B := .row st sz (rows.set j (splice row off ds)) ro) hb q.real (by rw [hH]; simp) q.heap (setRow_heap _ _ _ _ _ _ q.heap)
    (size_setRow _ _ _) (fun k hk => setRow_other _ _ _ _ hk) rfl rfl rfl (fun m hm => by
      have h1 := q.im m hm
      rw [hisz] at h1
      have h2 : ro * sz ≤ j * sz := Nat.mul_le_mul_right _ hro
      rw [List.getElem?_toArray, hget, if_neg (by omega)]; simp)
    (fun hle => by
      refine ⟨i, hle.b _ _ hb, hisz, ?_, .inr ⟨_, T, q.real, setRow_heap _ _ _ _ _ _ q.heap, ?_, by rw [List.length_set]; exact q.fits, ?_, q.im, ?_⟩⟩
      · intro r hr
        rcases List.mem_or_eq_of_mem_set hr with h | h
        · exact hlen r h
        · rw [h, splice_length (by omega)]; exact hrl
      · rw [List.size_toArray, splice_length hfit2]; simpa using q.size
      · intro k r hk m d hm
        rw [hisz]
        rw [List.getElem?_toArray, hget]
        have hm' : m < sz := by
          have h1 : r.length = sz := by
            rcases List.mem_or_eq_of_mem_set (List.mem_of_getElem? hk) with h | h
            · exact hlen r h
            · rw [h, splice_length (by omega)]; exact hrl
          have := List.getElem?_eq_some_iff.1 hm; obtain ⟨h2, _⟩ := this; omega
        rw [List.getElem?_set] at hk
        split at hk
        · rename_i hjk
          subst hjk
          simp only [hj, if_true, Option.some.injEq] at hk
          subst hk
          rw [hget2] at hm
          split at hm
          · rename_i hin
            rw [if_pos (by omega)]
            obtain ⟨c, hc', hcr⟩ := hdr _ d hm
            obtain ⟨u, hu, qu⟩ := hlr _ c hc'
            refine ⟨u, ?_, hle.rel (hcr u qu)⟩
            rw [← hu]; congr 1; omega
          · rename_i hout
            rw [if_neg (by omega)]
            obtain ⟨u, hu, qu⟩ := q.rows _ _ hrow _ _ hm
            rw [hisz] at hu
            exact ⟨u, by simpa using hu, hle.rel qu⟩
        · rename_i hjk
          have hout : ¬ (i.δ + j * sz + off ≤ i.δ + k * sz + m ∧ i.δ + k * sz + m < i.δ + j * sz + off + (ρ y).cells.toList.length) := by
            rcases Nat.lt_or_ge k j with h | h
            · have : (k + 1) * sz ≤ j * sz := Nat.mul_le_mul_right _ h
              rw [Nat.add_mul] at this; omega
            · have h' : j + 1 ≤ k := by omega
              have : (j + 1) * sz ≤ k * sz := Nat.mul_le_mul_right _ h'
              rw [Nat.add_mul] at this; omega
          rw [if_neg hout]
          obtain ⟨u, hu, qu⟩ := q.rows _ _ hk _ _ hm
          rw [hisz] at hu
          exact ⟨u, by simpa using hu, hle.rel qu⟩
      · have := q.st
        cases st with
        | none => exact this
        | some t => exact this)
  refine ⟨.skip, undef, _, ?_, .inr ⟨rfl, rfl⟩, f.le.trans hle, ⟨#[], rfl, rfl, by simp⟩, I'.weak (fun n h => h.1) (fun n h => ⟨h.1, fun k hk => h.2 k⟩)⟩
  have hvx : ρ x = .pointer (some ⟨i.blk, i.δ + j * sz + off, none⟩) := hv
  have hw : κ₁.w = κ.w := f.w
  simp only [hw] at hrun
  simp [execOp, ho, hvx, hrun, hw]

end
end Go.VM
