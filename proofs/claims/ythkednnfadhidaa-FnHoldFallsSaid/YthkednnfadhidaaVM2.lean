/- The value machine: what holds in a frame, and how it is kept by a new block, a store, a freezing. Conditions: none. -/
import Derived.Test.YthkednnfadhidaaVM1
namespace Go.VM
set_option linter.unusedVariables false

def StOk (κ : Ctx) (blk : Nat) : Option Nat → Prop
  | none => ∀ t, κ.ζ t ≠ some blk
  | some t => t ≠ 0 → κ.ζ t = some blk

/-- The cells of rows, in an array from a place on. -/
def RowsAt (κ : Ctx) (arr : Array Value) (δ sz : Nat) (rows : List (List D)) : Prop :=
  ∀ (i : Nat) (row : List D), rows[i]? = some row → ∀ (j : Nat) (x : D), row[j]? = some x → ∃ y : Value, arr[δ + i * sz + j]? = some y ∧ κ.rel y x

structure RowBox (κ : Ctx) (i : Inf) (st : Option Nat) (rows : List (List D)) (ro : Nat) (arr : Array Value) (T : TypeId) : Prop where
  real : i.real = true
  heap : κ.w.heap[i.blk]? = some (.cells arr T (0, 0))
  size : arr.size = i.room
  fits : i.δ + rows.length * i.sz ≤ i.room
  rows : RowsAt κ arr i.δ i.sz rows
  im : ∀ o, κ.Im i.blk o → o < i.δ + ro * i.sz
  st : StOk κ i.blk st

def BoxRel (fid : Nat → FuncId) (κ : Ctx) (b : Nat) : Box → Prop
  | .dead => True
  | .cells cs => ∃ (i : Inf) (arr : Array Value) (T : TypeId), κ.β b = some i ∧ i.real = true ∧ i.δ = 0 ∧
      κ.w.heap[i.blk]? = some (.cells arr T (0, 0)) ∧ LRel fid κ arr cs ∧ ∀ o, ¬ κ.Im i.blk o
  | .row st sz rows ro => ∃ i : Inf, κ.β b = some i ∧ i.sz = sz ∧ (∀ row ∈ rows, row.length = sz) ∧
      ((i.real = false ∧ rows = []) ∨ ∃ (arr : Array Value) (T : TypeId), RowBox κ i st rows ro arr T)

structure Entry where
  κ : Ctx
  Z : Nat → Prop
  pass : Nat → Prop

def Glob (G : Nat → Option (List D)) (κ : Ctx) : Prop :=
  ∀ g row, G g = some row → g < κ.w.heap.size ∧ ∀ (j : Nat) (x : D), row[j]? = some x → κ.Im g j ∧ ∃ y, κ.w.cell? ⟨g, j, none⟩ = some y ∧ κ.rel y x

structure Inv (fid : Nat → FuncId) (G : Nat → Option (List D)) (E : Entry) (κ : Ctx) (H : Nat → Box) (FN FZ : Nat → Prop) : Prop where
  le : E.κ.le κ
  os : κ.w.os = E.κ.w.os
  tape : κ.w.tape = E.κ.w.tape
  output : κ.w.output = E.κ.w.output
  same : ∀ k, k < E.κ.w.heap.size → ¬ E.pass k → κ.w.heap[k]? = E.κ.w.heap[k]?
  im : ∀ k o, κ.Im k o → E.κ.Im k o ∨ E.κ.w.heap.size ≤ k ∨ E.pass k
  imlt : ∀ k o, κ.Im k o → k < κ.w.heap.size
  zlt : ∀ t b, κ.ζ t = some b → b < κ.w.heap.size
  zinj : ∀ t t' b, κ.ζ t = some b → κ.ζ t' = some b → t = t'
  znew : ∀ t b, κ.ζ t = some b → E.κ.ζ t = some b ∨ (E.Z t ∧ (E.κ.w.heap.size ≤ b ∨ E.pass b))
  zfree : ∀ t, FZ t → κ.ζ t = none ∧ t ≠ 0 ∧ E.Z t
  nfree : ∀ b, FN b → κ.β b = none
  blk : ∀ b i, H b ≠ .dead → κ.β b = some i → i.real = true → E.κ.w.heap.size ≤ i.blk ∨ E.pass i.blk
  box : ∀ b, BoxRel fid κ b (H b)
  dist : ∀ b b' i i', b ≠ b' → H b ≠ .dead → H b' ≠ .dead → κ.β b = some i → κ.β b' = some i' → i.real = true → i'.real = true → i.blk ≠ i'.blk
  glob : Glob G κ

section
variable {fid : Nat → FuncId} {G : Nat → Option (List D)} {E : Entry} {κ κ' : Ctx} {H : Nat → Box} {FN FZ : Nat → Prop}

theorem cell_heap {w w' : World} {b : Nat} (h : w'.heap[b]? = w.heap[b]?) (o : Nat) : w'.cell? ⟨b, o, none⟩ = w.cell? ⟨b, o, none⟩ := by
  simp [World.cell?, h]
theorem cell_of {w : World} {b : Nat} {arr : Array Value} {T : TypeId} {fr : Nat × Nat} (h : w.heap[b]? = some (.cells arr T fr)) (o : Nat) : w.cell? ⟨b, o, none⟩ = arr[o]? := by
  simp [World.cell?, h]
theorem lt_of_heap {w : World} {b : Nat} {x : Obj} (h : w.heap[b]? = some x) : b < w.heap.size := by
  rcases Nat.lt_or_ge b w.heap.size with h' | h'
  · exact h'
  · simp [Array.getElem?_eq_none h'] at h

theorem RowsAt.mono (h : κ.le κ') {arr : Array Value} {δ sz : Nat} {rows : List (List D)} (r : RowsAt κ arr δ sz rows) : RowsAt κ' arr δ sz rows :=
  fun i row hi j x hj => let ⟨y, hy, q⟩ := r i row hi j x hj; ⟨y, hy, h.rel q⟩

/-- A box that nothing has touched. -/
theorem BoxRel.keep (h : κ.le κ') {b : Nat} {B : Box} (r : BoxRel fid κ b B)
    (hh : ∀ i, B ≠ .dead → κ.β b = some i → i.real = true → κ'.w.heap[i.blk]? = κ.w.heap[i.blk]? ∧ (∀ o, κ'.Im i.blk o → κ.Im i.blk o) ∧ (∀ t, κ'.ζ t = some i.blk → κ.ζ t = some i.blk)) : BoxRel fid κ' b B := by
  cases B with
  | dead => trivial
  | cells cs =>
    obtain ⟨i, arr, T, hb, hr, hδ, hheap, hl, him⟩ := r
    obtain ⟨h1, h2, h3⟩ := hh i (by simp) hb hr
    exact ⟨i, arr, T, h.b _ _ hb, hr, hδ, h1.trans hheap, hl.mono h, fun o ho => him o (h2 o ho)⟩
  | row st sz rows ro =>
    obtain ⟨i, hb, hsz, hlen, hr | ⟨arr, T, q⟩⟩ := r
    · exact ⟨i, h.b _ _ hb, hsz, hlen, .inl hr⟩
    · obtain ⟨h1, h2, h3⟩ := hh i (by simp) hb q.real
      refine ⟨i, h.b _ _ hb, hsz, hlen, .inr ⟨arr, T, q.real, h1.trans q.heap, q.size, q.fits, q.rows.mono h, fun o ho => q.im o (h2 o ho), ?_⟩⟩
      have := q.st
      cases st with
      | none => exact fun t ht => this t (h3 t ht)
      | some t => exact fun ht => h.z _ _ (this ht)

theorem Glob.mono (h : κ.le κ') (g : Glob G κ) : Glob G κ' := fun k row hk => by
  obtain ⟨h1, h2⟩ := g k row hk
  exact ⟨Nat.lt_of_lt_of_le h1 h.size, fun j x hj => let ⟨a, y, hy, q⟩ := h2 j x hj; ⟨h.im _ _ a, y, (h.cell _ _ a).trans hy, h.rel q⟩⟩

/-- Only draws have gone. -/
theorem Inv.draw (I : Inv fid G E κ H FN FZ) {w' : World} (hh : w'.heap = κ.w.heap) (ho : w'.os = κ.w.os) (ht : w'.tape = κ.w.tape) (hu : w'.output = κ.w.output) :
    Inv fid G E { κ with w := w' } H FN FZ ∧ κ.le { κ with w := w' } := by
  have hle : κ.le { κ with w := w' } := ⟨by simp [hh], fun _ _ h => h, fun b o _ => cell_heap (by simp [hh]) o, fun _ _ h => h, fun _ _ h => h⟩
  exact ⟨⟨I.le.trans hle, ho.trans I.os, ht.trans I.tape, hu.trans I.output, fun k hk hp => by simpa [hh] using I.same k hk hp, I.im, by simpa [hh] using I.imlt, by simpa [hh] using I.zlt, I.zinj, I.znew, I.zfree, I.nfree, I.blk,
    fun b => (I.box b).keep hle (fun i _ _ _ => ⟨by simp [hh], fun _ h => h, fun _ h => h⟩), I.dist, I.glob.mono hle⟩, hle⟩

/-- A new block with a box of its own. -/
theorem Inv.new (I : Inv fid G E κ H FN FZ) {w' : World} {arr : Array Value} {T : TypeId} {g : Nat} {i : Inf} (B : Box)
    (hh : w'.heap = κ.w.heap.push (.cells arr T (0, 0))) (ho : w'.os = κ.w.os) (ht : w'.tape = κ.w.tape) (hu : w'.output = κ.w.output)
    (hg : FN g) (hb : i.blk = κ.w.heap.size)
    (hB : ∀ κ' : Ctx, κ.le κ' → κ'.w = w' → κ'.Im = κ.Im → κ'.ζ = κ.ζ → κ'.β g = some i → w'.heap[κ.w.heap.size]? = some (.cells arr T (0, 0)) → BoxRel fid κ' g B) :
    ∃ κ' : Ctx, κ'.w = w' ∧ κ.le κ' ∧ κ'.β g = some i ∧ Inv fid G E κ' (upd H g B) (fun n => FN n ∧ n ≠ g) FZ := by
  have hsz : w'.heap.size = κ.w.heap.size + 1 := by simp [hh]
  have hold : ∀ k, k < κ.w.heap.size → w'.heap[k]? = κ.w.heap[k]? := fun k hk => by rw [hh, Array.getElem?_push, if_neg (by omega)]
  have hnew : w'.heap[κ.w.heap.size]? = some (.cells arr T (0, 0)) := by rw [hh, Array.getElem?_push, if_pos rfl]
  have hng := I.nfree g hg
  let κ' : Ctx := { w := w', Im := κ.Im, ζ := κ.ζ, β := fun n => if n = g then some i else κ.β n }
  have hle : κ.le κ' := ⟨by simp [κ', hsz], fun _ _ h => h, fun b o h => cell_heap (hold b (I.imlt _ _ h)) o, fun _ _ h => h, fun n j hn => by
    show (if n = g then some i else κ.β n) = some j
    rw [if_neg (by intro e; rw [e, hng] at hn; cases hn)]; exact hn⟩
  have hbg : κ'.β g = some i := if_pos rfl
  have hbo : ∀ n, n ≠ g → κ'.β n = κ.β n := fun n hn => if_neg hn
  refine ⟨κ', rfl, hle, hbg, I.le.trans hle, ho.trans I.os, ht.trans I.tape, hu.trans I.output, ?_, I.im, ?_, ?_, I.zinj, I.znew, I.zfree, ?_, ?_, ?_, ?_, I.glob.mono hle⟩
  · intro k hk hp
    exact (hold k (Nat.lt_of_lt_of_le hk I.le.size)).trans (I.same k hk hp)
  · intro k o h; show k < w'.heap.size; have := I.imlt k o h; omega
  · intro t b h; show b < w'.heap.size; have := I.zlt t b h; omega
  · intro b ⟨h1, h2⟩; rw [hbo b h2]; exact I.nfree b h1
  · intro b j hd hj hr
    by_cases e : b = g
    · subst e; rw [hbg] at hj; cases hj; left; have := I.le.size; omega
    · rw [hbo b e] at hj; simp only [upd, if_neg e] at hd; exact I.blk b j hd hj hr
  · intro b
    by_cases e : b = g
    · subst e; simp only [upd, if_pos]; exact hB κ' hle rfl rfl rfl hbg hnew
    · simp only [upd, if_neg e]
      refine (I.box b).keep hle (fun j hd hj hr => ⟨hold _ ?_, fun _ h => h, fun _ h => h⟩)
      have := I.box b
      revert this hd
      cases H b with
      | dead => intro hd; exact absurd rfl hd
      | cells cs => rintro _ ⟨i', arr', T', hb', _, _, hheap, _⟩; rw [hj] at hb'; cases hb'; exact lt_of_heap hheap
      | row st sz rows ro =>
        rintro _ ⟨i', hb', _, _, hx | ⟨arr', T', q⟩⟩ <;> (rw [hj] at hb'; cases hb')
        · rw [hx.1] at hr; cases hr
        · exact lt_of_heap q.heap
  · intro b b' j j' hne hd hd' hj hj' hr hr'
    have key : ∀ n jn, n ≠ g → H n ≠ .dead → κ.β n = some jn → jn.real = true → jn.blk < κ.w.heap.size := by
      intro n jn _ hd hj hr
      have := I.box n
      revert this hd
      cases H n with
      | dead => intro hd; exact absurd rfl hd
      | cells cs => rintro _ ⟨i', arr', T', hb', _, _, hheap, _⟩; rw [hj] at hb'; cases hb'; exact lt_of_heap hheap
      | row st sz rows ro =>
        rintro _ ⟨i', hb', _, _, hx | ⟨arr', T', q⟩⟩ <;> (rw [hj] at hb'; cases hb')
        · rw [hx.1] at hr; cases hr
        · exact lt_of_heap q.heap
    by_cases e : b = g
    · subst e
      rw [hbg] at hj; cases hj
      have e' : b' ≠ b := fun h => hne h.symm
      rw [hbo b' e'] at hj'
      simp only [upd, if_neg e'] at hd'
      have := key b' j' e' hd' hj' hr'; omega
    · rw [hbo b e] at hj
      simp only [upd, if_neg e] at hd
      by_cases e' : b' = g
      · subst e'
        rw [hbg] at hj'; cases hj'
        have := key b j e hd hj hr; omega
      · rw [hbo b' e'] at hj'
        simp only [upd, if_neg e'] at hd'
        exact I.dist b b' j j' hne hd hd' hj hj' hr hr'

/-- A box that is not kept any more. -/
theorem Inv.kill (I : Inv fid G E κ H FN FZ) (b : Nat) : Inv fid G E κ (upd H b .dead) FN FZ := by
  refine ⟨I.le, I.os, I.tape, I.output, I.same, I.im, I.imlt, I.zlt, I.zinj, I.znew, I.zfree, I.nfree, ?_, ?_, ?_, I.glob⟩
  · intro n i hd
    by_cases e : n = b
    · simp [upd, e] at hd
    · simp only [upd, if_neg e] at hd; exact I.blk n i hd
  · intro n; by_cases e : n = b
    · simp only [upd, if_pos e]; trivial
    · simp only [upd, if_neg e]; exact I.box n
  · intro n n' i i' hne hd hd' 
    by_cases e : n = b
    · simp [upd, e] at hd
    · by_cases e' : n' = b
      · simp [upd, e'] at hd'
      · simp only [upd, if_neg e] at hd; simp only [upd, if_neg e'] at hd'; exact I.dist n n' i i' hne hd hd'

/-- A store into the block of a live box. -/
theorem Inv.store (I : Inv fid G E κ H FN FZ) {w' : World} {arr arr' : Array Value} {T : TypeId} {b : Nat} {i : Inf} (B : Box)
    (hb : κ.β b = some i) (hr : i.real = true) (hd : H b ≠ .dead)
    (hold : κ.w.heap[i.blk]? = some (.cells arr T (0, 0))) (hnew : w'.heap[i.blk]? = some (.cells arr' T (0, 0)))
    (hsize : w'.heap.size = κ.w.heap.size) (hoth : ∀ k, k ≠ i.blk → w'.heap[k]? = κ.w.heap[k]?)
    (ho : w'.os = κ.w.os) (ht : w'.tape = κ.w.tape) (hu : w'.output = κ.w.output)
    (him : ∀ o, κ.Im i.blk o → arr'[o]? = arr[o]?)
    (hB : κ.le { κ with w := w' } → BoxRel fid { κ with w := w' } b B) :
    κ.le { κ with w := w' } ∧ Inv fid G E { κ with w := w' } (upd H b B) FN FZ := by
  have hle : κ.le { κ with w := w' } := ⟨Nat.le_of_eq hsize.symm, fun _ _ h => h, fun k o h => by
    by_cases e : k = i.blk
    · subst e; rw [cell_of hnew, cell_of hold]; exact him o h
    · exact cell_heap (hoth k e) o, fun _ _ h => h, fun _ _ h => h⟩
  have f : ∀ m, upd H b B m ≠ .dead → H m ≠ .dead := by
    intro m hm
    by_cases e : m = b
    · subst e; exact hd
    · simpa only [upd, if_neg e] using hm
  refine ⟨hle, I.le.trans hle, ho.trans I.os, ht.trans I.tape, hu.trans I.output, ?_, I.im, ?_, ?_, I.zinj, I.znew, I.zfree, I.nfree, fun n i hn => I.blk n i (f n hn), ?_, ?_, I.glob.mono hle⟩
  · intro k hk hp
    have : k ≠ i.blk := by
      intro e; subst e
      rcases I.blk b i hd hb hr with h | h
      · omega
      · exact hp h
    exact (hoth k this).trans (I.same k hk hp)
  · intro k o h; show k < w'.heap.size; rw [hsize]; exact I.imlt k o h
  · intro t k h; show k < w'.heap.size; rw [hsize]; exact I.zlt t k h
  · intro n
    by_cases e : n = b
    · subst e; simp only [upd, if_pos]; exact hB hle
    · simp only [upd, if_neg e]
      exact (I.box n).keep hle (fun j hdn hj hrj => ⟨hoth _ (I.dist n b j i e hdn hd hj hb hrj hr), fun _ h => h, fun _ h => h⟩)
  · intro n n' j j' hne hdn hdn' hj hj' hrj hrj'
    exact I.dist n n' j j' hne (f n hdn) (f n' hdn') hj hj' hrj hrj'

/-- Cells of a live box are laid down for good, perhaps under a stamp. -/
theorem Inv.freeze (I : Inv fid G E κ H FN FZ) {b : Nat} {i : Inf} {st : Option Nat} {sz : Nat} {rows : List (List D)} {ro : Nat} (t n : Nat)
    (hH : H b = .row st sz rows ro) (hb : κ.β b = some i)
    (ht : (st = some t) ∨ (st = none ∧ (t = 0 ∨ FZ t))) (hn : n ≤ rows.length) :
    ∃ κ' : Ctx, κ'.w = κ.w ∧ κ'.β = κ.β ∧ κ.le κ' ∧ (∀ o, i.real = true → i.δ ≤ o → o < i.δ + n * sz → κ'.Im i.blk o) ∧ (t ≠ 0 → i.real = true → κ'.ζ t = some i.blk) ∧
      Inv fid G E κ' (upd H b (.row (some t) sz rows (max ro n))) FN (fun z => FZ z ∧ (z ≠ t ∨ st ≠ none)) := by
  have hbox := I.box b
  rw [hH] at hbox
  obtain ⟨i', hb', hsz, hlen, hq⟩ := hbox
  rw [hb] at hb'; cases hb'
  have f : ∀ x, upd H b (.row (some t) sz rows (max ro n)) x ≠ .dead → H x ≠ .dead := by
    intro x hx
    by_cases e : x = b
    · subst e; rw [hH]; simp
    · simpa only [upd, if_neg e] using hx
  have hlive : H b ≠ .dead := by rw [hH]; simp
  rcases hq with ⟨hr, hrows⟩ | ⟨arr, T, q⟩
  · -- no block: nothing is laid down
    refine ⟨κ, rfl, rfl, Ctx.le.refl κ, (fun o h => by rw [hr] at h; cases h), (fun _ h => by rw [hr] at h; cases h), I.le, I.os, I.tape, I.output, I.same, I.im, I.imlt, I.zlt, I.zinj, I.znew, fun z h => I.zfree z h.1, I.nfree, fun n i hn => I.blk n i (f n hn), ?_, ?_, I.glob⟩
    · intro m
      by_cases e : m = b
      · subst e; simp only [upd, if_pos]; exact ⟨i, hb, hsz, hlen, .inl ⟨hr, hrows⟩⟩
      · simp only [upd, if_neg e]; exact I.box m
    · intro m m' j j' hne hdm hdm' 
      exact I.dist m m' j j' hne (f m hdm) (f m' hdm')
  · let add : Prop := st = none ∧ t ≠ 0
    let κ' : Ctx := { w := κ.w, Im := fun k o => κ.Im k o ∨ (k = i.blk ∧ i.δ ≤ o ∧ o < i.δ + n * sz), ζ := fun z => open Classical in if add ∧ z = t then some i.blk else κ.ζ z, β := κ.β }
    have hzt : add → κ.ζ t = none := fun h => by
      rcases ht with h' | ⟨_, h' | h'⟩
      · rw [h.1] at h'; cases h'
      · exact absurd h' h.2
      · exact (I.zfree t h').1
    have hnz : add → ∀ z, κ.ζ z ≠ some i.blk := fun h z => by have := q.st; rw [h.1] at this; exact this z
    have hz1 : ∀ z k, κ.ζ z = some k → κ'.ζ z = some k := fun z k hk => by
      show (if add ∧ z = t then some i.blk else κ.ζ z) = some k
      rw [if_neg]; exact hk
      rintro ⟨ha, rfl⟩; rw [hzt ha] at hk; cases hk
    have hz2 : ∀ z k, κ'.ζ z = some k → κ.ζ z = some k ∨ (add ∧ z = t ∧ k = i.blk) := fun z k hk => by
      have hk' : (if add ∧ z = t then some i.blk else κ.ζ z) = some k := hk
      by_cases e : add ∧ z = t
      · rw [if_pos e] at hk'; cases hk'; exact .inr ⟨e.1, e.2, rfl⟩
      · rw [if_neg e] at hk'; exact .inl hk'
    have hle : κ.le κ' := ⟨Nat.le_refl _, fun _ _ h => .inl h, fun _ _ _ => rfl, hz1, fun _ _ h => h⟩
    have htz : t ≠ 0 → κ'.ζ t = some i.blk := fun h0 => by
      rcases ht with h' | ⟨h', _⟩
      · have := q.st; rw [h'] at this; exact hz1 _ _ (this h0)
      · show (if add ∧ t = t then some i.blk else κ.ζ t) = some i.blk
        rw [if_pos ⟨⟨h', h0⟩, rfl⟩]
    refine ⟨κ', rfl, rfl, hle, fun o _ h1 h2 => .inr ⟨rfl, h1, h2⟩, fun h0 _ => htz h0, I.le.trans hle, I.os, I.tape, I.output, I.same, ?_, ?_, ?_, ?_, ?_, ?_, I.nfree, fun n i hn => I.blk n i (f n hn), ?_, ?_, I.glob.mono hle⟩
    · rintro k o (h | ⟨rfl, _⟩)
      · exact I.im k o h
      · exact .inr (I.blk b i hlive hb q.real)
    · rintro k o (h | ⟨rfl, _⟩)
      · exact I.imlt k o h
      · exact lt_of_heap q.heap
    · intro z k hk
      rcases hz2 z k hk with h | ⟨_, _, rfl⟩
      · exact I.zlt z k h
      · exact lt_of_heap q.heap
    · intro z z' k hk hk'
      rcases hz2 z k hk with h | ⟨ha, e, hkk⟩ <;> rcases hz2 z' k hk' with h' | ⟨ha', e', hk''⟩
      · exact I.zinj z z' k h h'
      · subst hk''; exact absurd h (hnz ha' z)
      · subst hkk; exact absurd h' (hnz ha z')
      · rw [e, e']
    · intro z k hk
      rcases hz2 z k hk with h | ⟨ha, e, rfl⟩
      · exact I.znew z k h
      · right
        have hZ : FZ t := by
          rcases ht with h' | ⟨_, h' | h'⟩
          · rw [ha.1] at h'; cases h'
          · exact absurd h' ha.2
          · exact h'
        rw [e]; exact ⟨(I.zfree t hZ).2.2, I.blk b i hlive hb q.real⟩
    · rintro z ⟨hz, hz'⟩
      refine ⟨?_, (I.zfree z hz).2⟩
      show (if add ∧ z = t then some i.blk else κ.ζ z) = none
      rw [if_neg]; exact (I.zfree z hz).1
      rintro ⟨ha, e⟩
      rcases hz' with h | h
      · exact h e
      · exact h ha.1
    · intro m
      by_cases e : m = b
      · subst e; simp only [upd, if_pos]
        refine ⟨i, hb, hsz, hlen, .inr ⟨arr, T, q.real, q.heap, q.size, q.fits, q.rows.mono hle, ?_, ?_⟩⟩
        · rw [hsz]
          have h2 : n * sz ≤ max ro n * sz := Nat.mul_le_mul_right _ (Nat.le_max_right _ _)
          have h3 : ro * sz ≤ max ro n * sz := Nat.mul_le_mul_right _ (Nat.le_max_left _ _)
          rintro o (h | ⟨_, _, h⟩)
          · have h1 := q.im o h; rw [hsz] at h1; omega
          · omega
        · exact htz
      · simp only [upd, if_neg e]
        refine (I.box m).keep hle (fun j hdm hj hrj => ?_)
        have hne : j.blk ≠ i.blk := I.dist m b j i e hdm (by rw [hH]; simp) hj hb hrj q.real
        refine ⟨rfl, ?_, ?_⟩
        · rintro o (h | ⟨h, _⟩)
          · exact h
          · exact absurd h hne
        · intro z hz
          rcases hz2 z _ hz with h | ⟨_, _, h⟩
          · exact h
          · exact absurd h hne
    · intro m m' j j' hne hdm hdm' 
      exact I.dist m m' j j' hne (f m hdm) (f m' hdm')

end
end Go.VM
