/- The value machine: append. Conditions: none. -/
import Derived.Test.YthkednnfadhidaaVM13
import Derived.Laws.AppendOwn
namespace Go.VM
set_option linter.unnecessarySimpa false
set_option linter.unusedVariables false
set_option linter.unusedSimpArgs false
set_option linter.unusedSectionVars false

section
variable {P : Program} {fid : Nat → FuncId} {cid : FuncId → Nat} {G : Nat → Option (List D)} {E : Entry} {κ : Ctx} {H : Nat → Box} {FN FZ : Nat → Prop} {g : Nat} {s : Sup}
variable {ρ : Operand → Value} {ev : X → V} {o : Oper}

/-- What is appended: its number, its cells. -/
structure Src (P : Program) (κ : Ctx) (n : Nat) (v : Value) (ys : List (List D)) (news : List Value) : Prop where
  len : news.length = ys.length * n
  lenOf : (Builtin.lenOf v).run P κ.w = .ok ys.length κ.w
  first : ∀ w' : World, w'.heap = κ.w.heap → (Builtin.firstCells n ys.length v).run P w' = .ok news.toArray w'
  rows : RowsAt κ news.toArray 0 n ys
  one : ∀ x ∈ news, x.oneCell' = true

theorem src_of {v : Value} {ys : List (List D)} {n : Nat} (h : Reads κ v ys) (hlen : ∀ row ∈ ys, row.length = n) (hn : 0 < n) : ∃ news, Src P κ n v ys news := by
  rcases h with ⟨rfl | ⟨a, rfl⟩, rfl⟩ | ⟨blk, o, cap, sz, f, rfl, hcap, hl, hcell, hrel⟩
  · exact ⟨[], by simp, by simp [Builtin.lenOf], fun w' _ => by simp [Builtin.firstCells], fun i row hi => by simp at hi, by simp⟩
  · exact ⟨[], by simp, by simp [Builtin.lenOf], fun w' _ => by
      have hload := run_loadCells_list (P := P) w' a [] (by simp)
      simpa [Builtin.firstCells] using hload, fun i row hi => by simp at hi, by simp⟩
  · have hpos : ∀ m, m < ys.length * n → m / n < ys.length ∧ m % n < n ∧ sz = n := by
      intro m hm
      have h1 : m / n < ys.length := (Nat.div_lt_iff_lt_mul hn).2 hm
      refine ⟨h1, Nat.mod_lt _ hn, ?_⟩
      rw [← hl _ _ (List.getElem?_eq_getElem h1)]; exact hlen _ (List.getElem_mem h1)
    refine ⟨(List.range (ys.length * n)).map fun m => f (m / n) (m % n), by simp, by simp [Builtin.lenOf], ?_, ?_, ?_⟩
    · intro w' hw'
      simp only [Builtin.firstCells]
      refine run_loadCells w' ⟨blk, o, none⟩ (ys.length * n) (fun m => f (m / n) (m % n)) (fun m hm => ?_)
      obtain ⟨h1, h2, h3⟩ := hpos m hm
      rw [Addr.add_none, cell_heap (w := κ.w) (by rw [hw'])]
      have := hcell (m / n) (m % n) h1 (by omega)
      rw [h3] at this
      have e : o + m / n * n + m % n = o + m := by have := Nat.div_add_mod m n; rw [Nat.mul_comm] at this; omega
      rwa [e] at this
    · intro i row hi j x hj
      have hil : i < ys.length := by have := List.getElem?_eq_some_iff.1 hi; exact this.1
      have hjn : j < n := by
        have h1 := hlen row (List.mem_of_getElem? hi)
        have := List.getElem?_eq_some_iff.1 hj; obtain ⟨h2, _⟩ := this; omega
      have hlt : i * n + j < ys.length * n := by
        have : (i + 1) * n ≤ ys.length * n := Nat.mul_le_mul_right _ hil
        rw [Nat.add_mul] at this; omega
      have hd : (i * n + j) / n = i := by rw [Nat.mul_comm, Nat.mul_add_div hn, Nat.div_eq_of_lt hjn, Nat.add_zero]
      have hm : (i * n + j) % n = j := by rw [Nat.mul_comm, Nat.mul_add_mod, Nat.mod_eq_of_lt hjn]
      refine ⟨f i j, ?_, hrel i row j x hi hj⟩
      simp [hlt, hd, hm]
    · intro x hx
      obtain ⟨m, hm, rfl⟩ := List.mem_map.1 hx
      obtain ⟨h1, h2, h3⟩ := hpos m (List.mem_range.1 hm)
      have hrow := List.getElem?_eq_getElem h1
      have hl' : (ys[m / n]).length = n := hlen _ (List.getElem_mem h1)
      exact Rel.oneCell (hrel _ _ (m % n) _ hrow (List.getElem?_eq_getElem (by omega)))

theorem zeroCells_none (z : Array Value) : Builtin.zeroCells z 0 = #[] := by simp [Builtin.zeroCells]

section app
variable {t u ty e0 : TypeId} {ti : TypeInfo} {z : Value} {v2 : Value} {ys : List (List D)} {news : List Value}
variable (ht : P.underlying t = some (.slice e0)) (hu : ∃ e, P.underlying u = some (.slice e)) (hi : P.info? e0 = some ti) (hz : ti.zero = some z) (hS : Src P κ ti.size v2 ys news)
include ht hu hi hS

theorem run_app_room {base : Option Addr} {n c : Nat} (hroom : n + ys.length ≤ c) {w' : World} (hst : ∀ a, base = some a → (storeCells (a.add (n * ti.size)) news).run P κ.w = .ok () w') (hb : base = none → w' = κ.w) :
    (Builtin.append_ #[t, u] ty #[.slice base n c, v2]).run P κ.w = .ok (.slice base (n + ys.length) c) w' := by
  obtain ⟨e, hu⟩ := hu
  cases base with
  | none =>
    rw [hb rfl]
    simp [Builtin.append_, run_underlying ht, run_underlying hu, sizeOf, typeInfo, hi, hS.lenOf, hroom, hS.first κ.w rfl]
  | some a =>
    simp [Builtin.append_, run_underlying ht, run_underlying hu, sizeOf, typeInfo, hi, hS.lenOf, hroom, hS.first κ.w rfl, hst a rfl]

include hz

theorem run_app_grow {base : Option Addr} {n c : Nat} {olds : List Value} (hroom : ¬ n + ys.length ≤ c) (hbig : (n + ys.length) * ti.bytes ≤ 2 ^ 40 ∧ n + ys.length ≤ 2 ^ 40)
    (hold : ∀ w' : World, w'.heap = κ.w.heap → (Builtin.firstCells ti.size n (.slice base n c)).run P w' = .ok olds.toArray w') :
    (Builtin.append_ #[t, u] ty #[.slice base n c, v2]).run P κ.w = .ok (.slice (some ⟨κ.w.heap.size, 0, none⟩) (n + ys.length) (grownCap κ.w (n + ys.length) c e0))
      (κ.w.drew.alloc (.cells (olds.toArray ++ news.toArray ++ Builtin.zeroCells z.cells (grownCap κ.w (n + ys.length) c e0 - (n + ys.length))) e0)) := by
  obtain ⟨e, hu⟩ := hu
  have h63 : ¬ (9223372036854775807 < ((n : Int) + (ys.length : Int))) := by omega
  have hfit : ¬ (281474976710656 < Builtin.nextslicecap (n + ys.length) c * ti.bytes) := by
    have := growslice_fits (need := n + ys.length) (old := c) (bytes := ti.bytes) (by omega) (by omega); omega
  have hold' := hold κ.w.drew rfl
  have hnew' := hS.first κ.w.drew rfl
  simp [Builtin.append_, run_underlying ht, run_underlying hu, sizeOf, typeInfo, zeroValue, hi, hz, hS.lenOf, hroom, h63, hfit, Question.forced, hold', hnew', newRow, grownCap]
  congr 2
  apply Array.ext'
  simp [List.append_assoc]

end app

/-- A further name for a box, in the world as it is. -/
theorem Inv.name (I : Inv fid G E κ H FN FZ) (hg : FN g) (i : Inf) (B : Box) (hblk : i.real = true → E.κ.w.heap.size ≤ i.blk ∨ E.pass i.blk)
    (hB : ∀ κ' : Ctx, κ.le κ' → κ'.w = κ.w → κ'.Im = κ.Im → κ'.ζ = κ.ζ → κ'.β g = some i → BoxRel fid κ' g B)
    (hd : ∀ b j, H b ≠ .dead → κ.β b = some j → j.real = true → i.real = true → j.blk ≠ i.blk) :
    ∃ κ' : Ctx, κ'.w = κ.w ∧ κ.le κ' ∧ κ'.β g = some i ∧ Inv fid G E κ' (upd H g B) (fun n => FN n ∧ n ≠ g) FZ := by
  have hng := I.nfree g hg
  let κ' : Ctx := { w := κ.w, Im := κ.Im, ζ := κ.ζ, β := fun n => if n = g then some i else κ.β n }
  have hle : κ.le κ' := ⟨Nat.le_refl _, fun _ _ h => h, fun b o h => rfl, fun _ _ h => h, fun n j hn => by
    show (if n = g then some i else κ.β n) = some j
    rw [if_neg (by intro e; rw [e, hng] at hn; cases hn)]; exact hn⟩
  have hbg : κ'.β g = some i := if_pos rfl
  have hbo : ∀ n, n ≠ g → κ'.β n = κ.β n := fun n hn => if_neg hn
  refine ⟨κ', rfl, hle, hbg, I.le.trans hle, I.os, I.tape, I.output, I.same, I.im, I.imlt, I.zlt, I.zinj, I.znew, I.zfree, ?_, ?_, ?_, ?_, I.glob.mono hle⟩
  · intro b ⟨h1, h2⟩; rw [hbo b h2]; exact I.nfree b h1
  · intro b j hd1 hj hr
    by_cases e : b = g
    · subst e; rw [hbg] at hj; cases hj; exact hblk hr
    · rw [hbo b e] at hj; simp only [upd, if_neg e] at hd1; exact I.blk b j hd1 hj hr
  · intro b
    by_cases e : b = g
    · subst e; simp only [upd, if_pos]; exact hB κ' hle rfl rfl rfl hbg
    · simp only [upd, if_neg e]
      exact (I.box b).keep hle (fun j _ _ _ => ⟨rfl, fun _ h => h, fun _ h => h⟩)
  · intro b b' j j' hne hd1 hd2 hj hj' hr hr'
    by_cases e : b = g
    · subst e
      rw [hbg] at hj; cases hj
      have e' : b' ≠ b := fun h => hne h.symm
      rw [hbo b' e'] at hj'
      simp only [upd, if_neg e'] at hd2
      exact fun h => hd b' j' hd2 hj' hr' hr h.symm
    · rw [hbo b e] at hj
      simp only [upd, if_neg e] at hd1
      by_cases e' : b' = g
      · subst e'
        rw [hbg] at hj'; cases hj'
        exact hd b j hd1 hj hr hr'
      · rw [hbo b' e'] at hj'
        simp only [upd, if_neg e'] at hd2
        exact I.dist b b' j j' hne hd1 hd2 hj hj' hr hr'

theorem virt (I : Inv fid G E κ H FN FZ) (hg : FN g) (st : Option Nat) (sz ro : Nat) :
    ∃ κ' : Ctx, κ'.w = κ.w ∧ κ.le κ' ∧ κ'.β g = some ⟨0, 0, sz, 0, false⟩ ∧ Inv fid G E κ' (upd H g (.row st sz [] ro)) (fun n => FN n ∧ n ≠ g) FZ :=
  I.name hg ⟨0, 0, sz, 0, false⟩ (.row st sz [] ro) (fun h => by cases h) (fun κ' _ _ _ _ hb => ⟨_, hb, rfl, by simp, .inl ⟨rfl, rfl⟩⟩) (fun _ _ _ _ _ h => by cases h)

theorem Inv.kill' (I : Inv fid G E κ H FN FZ) (b : Nat) : Inv fid G E κ (upd H b .dead) FN FZ := I.kill b

/-- What a fresh row of an append's own holds. -/
theorem good_fresh {c : Call} {x y : Operand} {u : Value} {olds news : List Value} {sz n : Nat} {rows : List (List D)} {T : TypeId} {cap : Nat} {zs : Array Value} {st : Option Nat} {ro : Nat} {tt : List Nat} {wr : Bool} {e : Eff} {H' : Nat → Box}
    (I : Inv fid G E κ H' FN FZ) (hg : FN g) (hr : (execOp ρ o).run P κ.w = .ok (.value (.slice (some ⟨κ.w.heap.size, 0, none⟩) n cap)) (κ.w.drew.alloc (.cells (olds.toArray ++ news.toArray ++ zs) T)))
    (hn : rows.length = n) (hcap : n ≤ cap) (hlen : ∀ row ∈ rows, row.length = sz) (hR : RowsAt κ (olds ++ news).toArray 0 sz rows) (hs : (olds ++ news).length = n * sz) (hz : zs.size = (cap - n) * sz) (hst : st = none ∨ st = some 0)
    (he : e = ⟨.w (.own g 0 n none), upd H' g (.row st sz rows ro), tt, wr⟩) : Good P fid G E κ FN FZ g s ρ o e := by
  subst he
  have hsz : (olds.toArray ++ news.toArray ++ zs).size = cap * sz := by
    simp at hs ⊢
    rw [hz, hs, ← Nat.add_mul]; congr 1; omega
  obtain ⟨κ', hw, hle, hb, I'⟩ := new_row (g := g) (sz := sz) (ro := ro) (st := st) (rows := rows) I (w' := κ.w.drew.alloc (.cells (olds.toArray ++ news.toArray ++ zs) T)) (arr := olds.toArray ++ news.toArray ++ zs) (T := T) rfl rfl rfl rfl hg
    hlen (by rw [hsz, hn]; exact Nat.mul_le_mul_right _ hcap) (fun i row hi j d hj => by
      obtain ⟨y, hy, q⟩ := hR i row hi j d hj
      refine ⟨y, ?_, q⟩
      have : (olds.toArray ++ news.toArray) = (olds ++ news).toArray := by simp
      rw [this, Array.getElem?_append_left]
      · exact hy
      · have := (Array.getElem?_eq_some_iff.1 hy); exact this.1) hst
  refine ⟨_, _, κ', by rw [hw]; exact hr, .inl rfl, hle, ⟨_, cap, hb, .inl rfl, hcap, .inr ⟨rfl, 0, rfl, .inr ⟨by simp, by rw [hsz]; simp⟩⟩⟩, I'.weak FN'_of (fun n h => h.1)⟩

theorem rows_append {κ : Ctx} {olds news : List Value} {sz : Nat} {a b : List (List D)} (ha : RowsAt κ olds.toArray 0 sz a) (hl : olds.length = a.length * sz) (hb : RowsAt κ news.toArray 0 sz b) (hla : ∀ row ∈ a, row.length = sz) :
    RowsAt κ (olds ++ news).toArray 0 sz (a ++ b) := by
  intro i row hi j x hj
  rw [List.getElem?_append] at hi
  split at hi
  · rename_i hia
    obtain ⟨y, hy, q⟩ := ha i row hi j x hj
    refine ⟨y, ?_, q⟩
    simp only [List.getElem?_toArray] at hy ⊢
    rw [List.getElem?_append_left]
    · exact hy
    · have := List.getElem?_eq_some_iff.1 hy; exact this.1
  · rename_i hia
    obtain ⟨y, hy, q⟩ := hb (i - a.length) row hi j x hj
    refine ⟨y, ?_, q⟩
    simp only [List.getElem?_toArray] at hy ⊢
    have e : a.length * sz + (i - a.length) * sz = i * sz := by rw [← Nat.add_mul]; congr 1; omega
    rw [List.getElem?_append_right (by omega), ← hy]
    congr 1; omega

section ops
variable (I : Inv fid G E κ H FN FZ) (hev : ∀ x X, stripX cid x = some X → VRel fid κ (ρ x) (ev X)) (hfn : ∀ n, g ≤ n → n < g + 64 → FN n)
include I hev hfn

theorem good_app_nil {c : Call} {t u e0 e1 : TypeId} {ti : TypeInfo} {zd : List D} {x y : Operand} {Y X : VM.X} {yw : W} {ys : List (List D)} {tt : List Nat} {e : Eff} (ho : o.op = .call c) (hc : c.callee = .builtin .append) (hat : c.argTypes.toList = [t, u]) (hag : c.args.toList = [x, y])
    (ht : P.underlying t = some (.slice e0)) (hu : P.underlying u = some (.slice e1)) (hi : P.info? e0 = some ti) (hz : zeroD P e0 = some zd) (hpos : 0 < ti.size) (hX : stripX cid x = some X) (hY : stripX cid y = some Y)
    (hx : ev X = .w .nil) (hy : ev Y = .w yw) (hrows : rowsOf H yw = some (ys, tt)) (hall : ys.all (·.length == ti.size) = true) (hroom : room ys.length ti.bytes = true)
    (he : e = ⟨.w (.own g 0 ys.length none), upd H g (.row none ti.size ys 0), tt, false⟩) : Good P fid G E κ FN FZ g s ρ o e := by
  obtain ⟨_, z, hi', hzu, hus, _, _⟩ := zeroD_ok hz
  rw [hi] at hi'; cases hi'
  have h1 : c.argTypes = #[t, u] := by rw [← Array.toArray_toList (xs := c.argTypes), hat]
  have h2 : c.args = #[x, y] := by rw [← Array.toArray_toList (xs := c.args), hag]
  have hvx := hev x X hX
  rw [hx] at hvx
  have hvx' : ρ x = .slice none 0 0 := hvx
  have hvy := hev y Y hY
  rw [hy] at hvy
  have hlen : ∀ row ∈ ys, row.length = ti.size := by simpa using hall
  obtain ⟨news, hS⟩ := src_of (P := P) (rows_read I hvy hrows) hlen hpos
  have hr := room_ok hroom
  have hop : ∀ v w', (Builtin.append_ #[t, u] o.type #[.slice none 0 0, ρ y]).run P κ.w = .ok v w' → (execOp ρ o).run P κ.w = .ok (.value v) w' := fun v w' h => by
    simp [execOp, ho, resolve, hc, invoke, builtin, h1, h2, hvx', h]
  have hg := hfn g (Nat.le_refl _) (by omega)
  rcases Nat.eq_zero_or_pos ys.length with h0 | h0
  · have hys : ys = [] := List.eq_nil_of_length_eq_zero h0
    subst hys
    subst he
    obtain ⟨κ', hw, hle, hb, I'⟩ := virt I hg none ti.size 0
    have hrun := run_app_room (ty := o.type) ht ⟨e1, hu⟩ hi hS (base := none) (n := 0) (c := 0) (w' := κ.w) (by simp) (fun a h => by cases h) (fun _ => rfl)
    refine ⟨_, _, κ', by rw [hw]; exact hop _ _ hrun, .inl rfl, hle, ⟨_, 0, hb, .inl rfl, by simp, .inl ⟨rfl, rfl, rfl⟩⟩, I'.weak FN'_of (fun n h => h.1)⟩
  · have hrun := run_app_grow (ty := o.type) ht ⟨e1, hu⟩ hi hzu hS (base := none) (n := 0) (c := 0) (olds := []) (by omega) (by simpa using hr) (fun w' _ => by simp [Builtin.firstCells])
    simp only [Nat.zero_add] at hrun
    have hge := grownCap_ge κ.w ys.length 0 e0
    exact good_fresh (c := c) (x := x) (y := y) (u := ρ x) (zs := Builtin.zeroCells z.cells (grownCap κ.w ys.length 0 e0 - ys.length)) I hg (hop _ _ hrun) rfl hge hlen (by simpa using hS.rows) (by simpa using hS.len) (by rw [size_zeroCells, hus]) (.inl rfl) he

theorem good_app_own {c : Call} {t u e0 e1 : TypeId} {ti : TypeInfo} {zd : List D} {x y : Operand} {Y X : VM.X} {yw : W} {ys : List (List D)} {tt : List Nat} {b off len ro : Nat} {cap : Option Nat} {st : Option Nat} {rows : List (List D)} {e : Eff} (ho : o.op = .call c) (hc : c.callee = .builtin .append) (hat : c.argTypes.toList = [t, u]) (hag : c.args.toList = [x, y])
    (ht : P.underlying t = some (.slice e0)) (hu : P.underlying u = some (.slice e1)) (hi : P.info? e0 = some ti) (hz : zeroD P e0 = some zd) (hpos : 0 < ti.size) (hX : stripX cid x = some X) (hY : stripX cid y = some Y)
    (hx : ev X = .w (.own b off len cap)) (hy : ev Y = .w yw) (hrows : rowsOf H yw = some (ys, tt)) (hall : ys.all (·.length == ti.size) = true) (hH : H b = .row st ti.size rows ro) (hfit : off + len ≤ rows.length) (hro : ro ≤ off + len)
    (hroom : room (len + ys.length) ti.bytes = true)
    (he : e = ⟨.w (.own g 0 (len + ys.length) none), upd (upd H b .dead) g (.row (taint st) ti.size ((rows.drop off).take len ++ ys) (ro - off)), tt ++ [b], true⟩) : Good P fid G E κ FN FZ g s ρ o e := by
  obtain ⟨_, z, hi', hzu, hus, _, _⟩ := zeroD_ok hz
  rw [hi] at hi'; cases hi'
  have h1 : c.argTypes = #[t, u] := by rw [← Array.toArray_toList (xs := c.argTypes), hat]
  have h2 : c.args = #[x, y] := by rw [← Array.toArray_toList (xs := c.args), hag]
  have hvx := hev x X hX
  rw [hx] at hvx
  have hvy := hev y Y hY
  rw [hy] at hvy
  have hlen : ∀ row ∈ ys, row.length = ti.size := by simpa using hall
  obtain ⟨news, hS⟩ := src_of (P := P) (rows_read I hvy hrows) hlen hpos
  have hr := room_ok hroom
  have hop : ∀ v w', (Builtin.append_ #[t, u] o.type #[ρ x, ρ y]).run P κ.w = .ok v w' → (execOp ρ o).run P κ.w = .ok (.value v) w' := fun v w' h => by
    simp [execOp, ho, resolve, hc, invoke, builtin, h1, h2, h]
  have hg := hfn g (Nat.le_refl _) (by omega)
  have hst : taint st = none ∨ taint st = some 0 := by cases st <;> simp [taint]
  have hst2 : ∀ κ' : Ctx, κ'.ζ = κ.ζ → ∀ i' : Inf, StOk κ i'.blk st → StOk κ' i'.blk (taint st) := fun κ' hz i' h => by
    cases st with
    | none => intro t' ht'; rw [hz] at ht'; exact h t' ht'
    | some t0 => intro h; exact absurd rfl h
  generalize taint st = st' at hst he hst2
  have hll : ((rows.drop off).take len).length = len := by simp; omega
  have hbox := I.box b
  rw [hH] at hbox
  obtain ⟨i, hb, hsz, hlenr, hq⟩ := hbox
  have hhdr : ∀ row ∈ (rows.drop off).take len, row.length = ti.size := fun row h => hlenr row (List.mem_of_mem_drop (List.mem_of_mem_take h))
  have hbothl : ∀ row ∈ (rows.drop off).take len ++ ys, row.length = ti.size := fun row h => by
    rcases List.mem_append.1 h with h | h
    · exact hhdr row h
    · exact hlen row h
  obtain ⟨i', cap', hb', hcc, hlc, ⟨hv0, hl0, hc0⟩ | ⟨hreal, o', hv0, ho'⟩⟩ := hvx <;> (rw [hb] at hb'; cases hb')
  · -- the slice is nil
    have hvx' : ρ x = .slice none 0 0 := hv0
    subst hl0
    rcases Nat.eq_zero_or_pos ys.length with h0 | h0
    · have hys : ys = [] := List.eq_nil_of_length_eq_zero h0
      subst hys
      subst he
      obtain ⟨κ', hw, hle, hbg, I'⟩ := virt (I.kill b) hg st' ti.size (ro - off)
      have hrun := run_app_room (ty := o.type) ht ⟨e1, hu⟩ hi hS (base := none) (n := 0) (c := 0) (w' := κ.w) (by simp) (fun a h => by cases h) (fun _ => rfl)
      refine ⟨_, _, κ', by rw [hw]; exact hop _ _ (by rw [hvx']; exact hrun), .inl rfl, hle, ⟨_, 0, hbg, .inl rfl, by simp, .inl ⟨rfl, rfl, rfl⟩⟩, ?_⟩
      have I2 := I'.weak (FN₁ := FN' FN g) (FZ₁ := FZ' FZ s) FN'_of (fun n h => h.1)
      simpa using I2
    · have hrun := run_app_grow (ty := o.type) ht ⟨e1, hu⟩ hi hzu hS (base := none) (n := 0) (c := 0) (olds := []) (by omega) (by simpa using hr) (fun w' _ => by simp [Builtin.firstCells])
      have hge := grownCap_ge κ.w (0 + ys.length) 0 e0
      refine good_fresh (c := c) (x := x) (y := y) (u := ρ x) (zs := Builtin.zeroCells z.cells (grownCap κ.w (0 + ys.length) 0 e0 - (0 + ys.length))) (I.kill b) hg (hop _ _ (by rw [hvx']; exact hrun)) (by simp) hge hbothl (by simpa using hS.rows) (by simpa using hS.len) (by rw [size_zeroCells, hus]) hst he
  · have hvx' : ρ x = .slice (some ⟨i.blk, o', none⟩) len cap' := hv0
    rcases hq with ⟨hr', _⟩ | ⟨arr, T, q⟩
    · rw [hreal] at hr'; cases hr'
    have hkey : ∀ k row, ((rows.drop off).take len)[k]? = some row → ∀ j d, row[j]? = some d → j < ti.size ∧ k < len ∧ ∃ y, arr[o' + k * ti.size + j]? = some y ∧ κ.rel y d := by
      intro k row hk j d hj
      have hjs : j < ti.size := by
        have h1 := hhdr row (List.mem_of_getElem? hk)
        have := List.getElem?_eq_some_iff.1 hj; obtain ⟨h2, _⟩ := this; omega
      rw [seg_get] at hk
      split at hk
      · rename_i hkl
        have ho1 : o' = i.δ + off * ti.size := by rw [← hsz]; rcases ho' with h | h; omega; exact h.1
        obtain ⟨y, hy, qy⟩ := q.rows _ _ hk j d hj
        refine ⟨hjs, hkl, y, ?_, qy⟩
        rw [← hy, hsz, ho1]; congr 1; rw [Nat.add_mul]; omega
      · cases hk
    by_cases hin : len + ys.length ≤ cap'
    · -- in its place
      have hfits : len + ys.length = 0 ∨ (o' = i.δ + off * ti.size ∧ o' + (len + ys.length) * ti.size ≤ arr.size) := by
        rcases ho' with h | ⟨h1, h2⟩
        · left; omega
        · right
          rw [hsz] at h1 h2
          have : (len + ys.length) * ti.size ≤ cap' * ti.size := Nat.mul_le_mul_right _ hin
          exact ⟨h1, by rw [q.size]; omega⟩
      subst he
      rcases hfits with h0 | ⟨ho1, hfits⟩
      · have hl0 : len = 0 := by omega
        have hys : ys = [] := List.eq_nil_of_length_eq_zero (by omega)
        subst hys hl0
        obtain ⟨κ', hw, hle, hbg, I'⟩ := (I.kill b).name hg ⟨i.blk, i.δ + off * ti.size, ti.size, i.room, true⟩ (.row st' ti.size [] (ro - off)) (fun _ => I.blk b i (by rw [hH]; simp) hb hreal)
          (fun κ' hle hw him hz hbg => ⟨_, hbg, rfl, by simp, .inr ⟨arr, T, rfl, by rw [hw]; exact q.heap, q.size, by
              have := q.fits
              have h3 : off * ti.size ≤ rows.length * ti.size := Nat.mul_le_mul_right _ (by omega)
              rw [hsz] at this; simp; omega, fun k row hk => by simp at hk, fun m hm => by
              rw [him] at hm
              have h1 := q.im m hm
              rw [hsz] at h1
              show m < i.δ + off * ti.size + (ro - off) * ti.size
              have : ro * ti.size ≤ off * ti.size + (ro - off) * ti.size := by rw [← Nat.add_mul]; exact Nat.mul_le_mul_right _ (by omega)
              omega, by
              exact hst2 κ' hz i q.st⟩⟩)
          (fun b' j hd hj hrj _ => by
            by_cases e : b' = b
            · subst e; simp [upd] at hd
            · simp only [upd, if_neg e] at hd
              exact I.dist b' b j i e hd (by rw [hH]; simp) hj hb hrj hreal)
        have hrun := run_app_room (ty := o.type) ht ⟨e1, hu⟩ hi hS (base := some ⟨i.blk, o', none⟩) (n := 0) (c := cap') (w' := κ.w) (by simpa using hin) (fun a _ => by
          have : news = [] := List.eq_nil_of_length_eq_zero (by simpa using hS.len)
          rw [this]; rfl) (fun h => by cases h)
        refine ⟨_, _, κ', by rw [hw]; exact hop _ _ (by rw [hvx']; exact hrun), .inl rfl, hle, ⟨_, cap', hbg, .inl rfl, by simp, .inr ⟨rfl, o', rfl, ?_⟩⟩, ?_⟩
        · rcases ho' with h | h
          · exact .inl h
          · right; rw [hsz] at h; exact ⟨by simpa using h.1, h.2⟩
        · have I2 := I'.weak (FN₁ := FN' FN g) (FZ₁ := FZ' FZ s) FN'_of (fun n h => h.1)
          simpa using I2
      · have hnl := hS.len
        have hmul : (len + ys.length) * ti.size = len * ti.size + news.length := by rw [Nat.add_mul, hnl]
        have hspan : o' + len * ti.size + news.length ≤ arr.size := by omega
        have hstc := run_storeCells_at P i.blk (o' + len * ti.size) T news 0 arr κ.w q.heap (by simpa using hspan) hS.one
        simp only [Nat.add_zero] at hstc
        have hspan2 : o' + len * ti.size + news.length ≤ arr.toList.length := by simpa using hspan
        have hget := fun m => splice_get (l := arr.toList) (cs := news) hspan2 m
        have himlow : ∀ m, κ.Im i.blk m → m < o' + len * ti.size := fun m hm => by
          have h1 := q.im m hm
          rw [hsz] at h1
          have : ro * ti.size ≤ (off + len) * ti.size := Nat.mul_le_mul_right _ hro
          rw [Nat.add_mul] at this; omega
        obtain ⟨hle1, I1⟩ := I.store (w' := κ.w.setRow i.blk (splice arr.toList (o' + len * ti.size) news).toArray) (B := .dead) hb hreal (by rw [hH]; simp) q.heap (setRow_heap _ _ _ _ _ _ q.heap) (size_setRow _ _ _) (fun k hk => setRow_other _ _ _ _ hk) rfl rfl rfl
          (fun m hm => by
            have := himlow m hm
            rw [List.getElem?_toArray, hget, if_neg (by omega)]; simp) (fun _ => trivial)
        obtain ⟨κ', hw, hle, hbg, I'⟩ := I1.name hg ⟨i.blk, i.δ + off * ti.size, ti.size, i.room, true⟩ (.row st' ti.size ((rows.drop off).take len ++ ys) (ro - off)) (fun _ => I.blk b i (by rw [hH]; simp) hb hreal)
          (fun κ' hle hw him hz hbg => ⟨_, hbg, rfl, hbothl, .inr ⟨(splice arr.toList (o' + len * ti.size) news).toArray, T, rfl, by rw [hw]; exact setRow_heap _ _ _ _ _ _ q.heap, by rw [List.size_toArray, splice_length hspan2]; simpa using q.size, by
              show i.δ + off * ti.size + ((rows.drop off).take len ++ ys).length * ti.size ≤ i.room
              rw [List.length_append, hll, ← ho1, ← q.size]; exact hfits, by
              show RowsAt κ' _ (i.δ + off * ti.size) ti.size _
              rw [← ho1]
              intro k row hk j d hj
              rw [List.getElem?_toArray, hget]
              rw [List.getElem?_append] at hk
              split at hk
              · obtain ⟨hjs, hkl, y, hy, qy⟩ := hkey k row hk j d hj
                have : (k + 1) * ti.size ≤ len * ti.size := Nat.mul_le_mul_right _ hkl
                rw [Nat.add_mul] at this
                rw [if_neg (by omega)]
                exact ⟨y, by simpa using hy, hle.rel (hle1.rel qy)⟩
              · rename_i hkl
                rw [hll] at hk hkl
                obtain ⟨y, hy, qy⟩ := hS.rows (k - len) row hk j d hj
                simp only [List.getElem?_toArray, Nat.zero_add] at hy
                have hlt := List.getElem?_eq_some_iff.1 hy
                obtain ⟨hlt, _⟩ := hlt
                have e1 : len * ti.size + (k - len) * ti.size = k * ti.size := by rw [← Nat.add_mul]; congr 1; omega
                rw [if_pos (by omega)]
                refine ⟨y, ?_, hle.rel (hle1.rel qy)⟩
                rw [← hy]; congr 1; omega, fun m hm => by
              rw [him] at hm
              have h1 := q.im m hm
              rw [hsz] at h1
              show m < i.δ + off * ti.size + (ro - off) * ti.size
              have : ro * ti.size ≤ off * ti.size + (ro - off) * ti.size := by rw [← Nat.add_mul]; exact Nat.mul_le_mul_right _ (by omega)
              omega, by
              exact hst2 κ' hz i q.st⟩⟩)
          (fun b' j hd hj hrj _ => by
            by_cases e : b' = b
            · subst e; simp [upd] at hd
            · simp only [upd, if_neg e] at hd
              exact I.dist b' b j i e hd (by rw [hH]; simp) hj hb hrj hreal)
        have hrun := run_app_room (ty := o.type) ht ⟨e1, hu⟩ hi hS (base := some ⟨i.blk, o', none⟩) (n := len) (c := cap') (w' := κ.w.setRow i.blk (splice arr.toList (o' + len * ti.size) news).toArray) hin (fun a ha => by
          cases ha
          rw [Addr.add_none]; exact hstc) (fun h => by cases h)
        refine ⟨_, _, κ', by rw [hw]; exact hop _ _ (by rw [hvx']; exact hrun), .inl rfl, hle1.trans hle, ⟨_, cap', hbg, .inl rfl, hin, .inr ⟨rfl, o', rfl, ?_⟩⟩, I'.weak FN'_of (fun n h => h.1)⟩
        rcases ho' with h | h
        · exact .inl h
        · right; rw [hsz] at h; exact ⟨by simpa using h.1, h.2⟩
    · -- a fresh block
      let olds : List Value := (List.range (len * ti.size)).map fun m => (arr[o' + m]?).getD undef
      have hocell : ∀ m, m < len * ti.size → ∃ y, arr[o' + m]? = some y := by
        intro m hm
        have h1 : m / ti.size < len := (Nat.div_lt_iff_lt_mul hpos).2 hm
        have h2 : ((rows.drop off).take len)[m / ti.size]? = some ((rows.drop off).take len)[m / ti.size] := List.getElem?_eq_getElem (by omega)
        have h3 := hhdr _ (List.mem_of_getElem? h2)
        obtain ⟨_, _, y, hy, _⟩ := hkey _ _ h2 (m % ti.size) _ (List.getElem?_eq_getElem (by rw [h3]; exact Nat.mod_lt _ hpos))
        refine ⟨y, ?_⟩
        have e : o' + m / ti.size * ti.size + m % ti.size = o' + m := by have := Nat.div_add_mod m ti.size; rw [Nat.mul_comm] at this; omega
        rwa [e] at hy
      have hold : ∀ w' : World, w'.heap = κ.w.heap → (Builtin.firstCells ti.size len (.slice (some ⟨i.blk, o', none⟩) len cap')).run P w' = .ok olds.toArray w' := fun w' hw' => by
        simp only [Builtin.firstCells]
        refine run_loadCells w' ⟨i.blk, o', none⟩ (len * ti.size) (fun m => (arr[o' + m]?).getD undef) (fun m hm => ?_)
        obtain ⟨y, hy⟩ := hocell m hm
        rw [Addr.add_none, cell_heap (w := κ.w) (by rw [hw']), cell_of q.heap, hy]; rfl
      have hrun := run_app_grow (ty := o.type) ht ⟨e1, hu⟩ hi hzu hS (base := some ⟨i.blk, o', none⟩) (n := len) (c := cap') (olds := olds) hin hr hold
      have hge := grownCap_ge κ.w (len + ys.length) cap' e0
      refine good_fresh (c := c) (x := x) (y := y) (u := ρ x) (zs := Builtin.zeroCells z.cells (grownCap κ.w (len + ys.length) cap' e0 - (len + ys.length))) (I.kill b) hg (hop _ _ (by rw [hvx']; exact hrun)) (by simp; omega) hge hbothl ?_ ?_ (by rw [size_zeroCells, hus]) hst he
      · refine rows_append (fun k row hk j d hj => ?_) (by simp [olds, hll]) hS.rows hhdr
        obtain ⟨hjs, hkl, y, hy, qy⟩ := hkey k row hk j d hj
        refine ⟨y, ?_, qy⟩
        have hlt : k * ti.size + j < len * ti.size := by
          have : (k + 1) * ti.size ≤ len * ti.size := Nat.mul_le_mul_right _ hkl
          rw [Nat.add_mul] at this; omega
        rw [Nat.add_assoc] at hy
        simp [olds, hlt, hy]
      · simp [olds, hS.len, Nat.add_mul]

end ops
end
end Go.VM
