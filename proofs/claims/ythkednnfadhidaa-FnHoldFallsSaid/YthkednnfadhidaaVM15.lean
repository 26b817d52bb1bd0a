/- The value machine: names, renaming, what a call gets and gives. Conditions: none. -/
import Derived.Test.YthkednnfadhidaaVM14
namespace Go.VM
set_option linter.unusedVariables false
set_option linter.unusedSimpArgs false
set_option linter.unusedSectionVars false

section
variable {P : Program} {fid : Nat → FuncId} {cid : FuncId → Nat} {G : Nat → Option (List D)} {E : Entry} {κ : Ctx} {H : Nat → Box} {FN FZ : Nat → Prop} {g : Nat} {s : Sup}

/-! ### names -/
theorem mem_addN {acc : List Nat} {x y : Nat} : y ∈ addN acc x ↔ y ∈ acc ∨ y = x := by
  unfold addN; split <;> simp_all
theorem nodup_addN {acc : List Nat} {x : Nat} (h : acc.Nodup) : (addN acc x).Nodup := by
  unfold addN
  split
  · exact h
  · rename_i hx
    exact List.nodup_append.2 ⟨h, by simp, fun a ha b hb => by simp at hb; subst hb; exact fun e => hx (e ▸ ha)⟩
theorem mem_addAll {l acc : List Nat} {y : Nat} : y ∈ addAll acc l ↔ y ∈ acc ∨ y ∈ l := by
  unfold addAll
  induction l generalizing acc with
  | nil => simp
  | cons x r ih => rw [List.foldl_cons, ih, mem_addN]; simp [or_assoc]
theorem nodup_addAll {l acc : List Nat} (h : acc.Nodup) : (addAll acc l).Nodup := by
  unfold addAll
  induction l generalizing acc with
  | nil => exact h
  | cons x r ih => rw [List.foldl_cons]; exact ih (nodup_addN h)
theorem reach_sub {H : Nat → Box} {n : Nat} {acc : List Nat} {y : Nat} (h : y ∈ acc) : y ∈ reach H n acc := by
  induction n generalizing acc with
  | zero => exact h
  | succ n ih => exact ih (mem_addAll.2 (.inl h))
theorem reach_nodup {H : Nat → Box} {n : Nat} {acc : List Nat} (h : acc.Nodup) : (reach H n acc).Nodup := by
  induction n generalizing acc with
  | zero => exact h
  | succ n ih => exact ih (nodup_addAll h)
theorem reach_mem {H : Nat → Box} {n : Nat} {acc : List Nat} {y : Nat} (h : y ∈ reach H n acc) : y ∈ acc ∨ ∃ b, y ∈ (H b).names := by
  induction n generalizing acc with
  | zero => exact .inl h
  | succ n ih =>
    rcases ih h with h | h
    · rcases mem_addAll.1 h with h | h
      · exact .inl h
      · obtain ⟨b, _, hb⟩ := List.mem_flatMap.1 h; exact .inr ⟨b, hb⟩
    · exact .inr h

theorem idx_lt {l : List Nat} {x : Nat} (h : x ∈ l) : idx l x < l.length := List.findIdx_lt_length_of_exists ⟨x, h, by simp⟩
theorem getD_lt {l : List Nat} {k : Nat} (h : k < l.length) : l.getD k 0 = l[k] := by
  rw [List.getD_eq_getElem?_getD, List.getElem?_eq_getElem h]; rfl
theorem idx_get {l : List Nat} {x : Nat} (h : x ∈ l) : l.getD (idx l x) 0 = x := by
  have h1 := idx_lt h
  rw [getD_lt h1]
  have := List.findIdx_getElem (p := (· == x)) (xs := l) (w := h1)
  simp at this; exact this
theorem idx_at {l : List Nat} (h : l.Nodup) {k : Nat} (hk : k < l.length) : idx l (l.getD k 0) = k := by
  have hm : l.getD k 0 ∈ l := by rw [getD_lt hk]; exact List.getElem_mem hk
  have h1 := idx_lt hm
  have h2 := idx_get hm
  generalize idx l (l.getD k 0) = m at h1 h2
  rw [getD_lt h1, getD_lt hk] at h2
  exact (List.getElem_inj h).1 h2

theorem updL_not {H : Nat → Box} {l : List (Nat × Box)} {b : Nat} (h : ∀ p ∈ l, p.1 ≠ b) : updL H l b = H b := by
  induction l generalizing H with
  | nil => rfl
  | cons p r ih =>
    obtain ⟨n, x⟩ := p
    simp only [updL]
    rw [ih (fun q hq => h q (List.mem_cons_of_mem _ hq))]
    have := h (n, x) (List.mem_cons_self ..)
    have h' : b ≠ n := fun e => this e.symm
    simp only [upd, if_neg h']
theorem updL_mem {H : Nat → Box} {l : List (Nat × Box)} {b : Nat} {x : Box} (hn : (l.map (·.1)).Nodup) (h : (b, x) ∈ l) : updL H l b = x := by
  induction l generalizing H with
  | nil => cases h
  | cons p r ih =>
    obtain ⟨n, y⟩ := p
    simp only [List.map_cons, List.nodup_cons] at hn
    simp only [updL]
    rcases List.mem_cons.1 h with h | h
    · cases h
      rw [updL_not (fun q hq e => hn.1 (List.mem_map.2 ⟨q, hq, e⟩))]
      simp [upd]
    · exact ih hn.2 h

/-! ### names are known -/
theorem capNames_known {v : Value} {c : Cap} (h : CapRel κ v c) : ∀ n ∈ c.names, ∃ i, κ.β n = some i := by
  intro n hn
  cases c with
  | d x => simp [Cap.names] at hn
  | ptr b off => simp [Cap.names] at hn; subst hn; obtain ⟨i, hi, _⟩ := h; exact ⟨i, hi⟩
theorem wNames_known {v : Value} {x : W} (h : WRel fid κ v x) : ∀ n ∈ x.names, ∃ i, κ.β n = some i := by
  intro n hn
  cases x with
  | own b off len cap => simp [W.names] at hn; subst hn; obtain ⟨i, _, hi, _⟩ := h; exact ⟨i, hi⟩
  | ptr b off => simp [W.names] at hn; subst hn; obtain ⟨i, hi, _⟩ := h; exact ⟨i, hi⟩
  | rp b j off => simp [W.names] at hn; subst hn; obtain ⟨i, hi, _⟩ := h; exact ⟨i, hi⟩
  | fn f caps =>
    simp only [W.names, List.mem_flatMap] at hn
    obtain ⟨c, hc, hn⟩ := hn
    obtain ⟨k, hk⟩ := List.mem_iff_getElem?.1 hc
    obtain ⟨_, _, _, hr⟩ := h
    obtain ⟨y, _, q⟩ := hr k c hk
    exact capNames_known q n hn
  | d x => simp [W.names] at hn
  | nil => simp [W.names] at hn
  | ln a b => simp [W.names] at hn
  | lp a b => simp [W.names] at hn
  | gp a b => simp [W.names] at hn
theorem lNames_known {arr : Array Value} {cs : List W} (h : LRel fid κ arr cs) : ∀ n ∈ wnames cs, ∃ i, κ.β n = some i := by
  intro n hn
  simp only [wnames, List.mem_flatMap] at hn
  obtain ⟨c, hc, hn⟩ := hn
  obtain ⟨k, hk⟩ := List.mem_iff_getElem?.1 hc
  obtain ⟨y, _, q⟩ := h.2 k c hk
  exact wNames_known q n hn
theorem pNames_known {v : Value} {p : Bool × List W} (h : PRel fid κ v p) : ∀ n ∈ wnames p.2, ∃ i, κ.β n = some i := by
  obtain ⟨b, cs⟩ := p
  cases b with
  | true => obtain ⟨arr, _, h⟩ := h; exact lNames_known h
  | false =>
    match cs, h with
    | [x], h => intro n hn; simp [wnames] at hn; exact wNames_known h n hn
theorem vNames_known {v : Value} {x : V} (h : VRel fid κ v x) : ∀ n ∈ x.names, ∃ i, κ.β n = some i := by
  intro n hn
  cases x with
  | w x => exact wNames_known h n hn
  | agg cs => obtain ⟨arr, _, h⟩ := h; exact lNames_known h n hn
  | tup vs =>
    simp only [V.names, List.mem_flatMap] at hn
    obtain ⟨p, hp, hn⟩ := hn
    obtain ⟨k, hk⟩ := List.mem_iff_getElem?.1 hp
    obtain ⟨arr, _, _, hr⟩ := h
    obtain ⟨y, _, q⟩ := hr k p hk
    exact pNames_known q n hn
theorem bNames_known {b : Nat} {B : Box} (h : BoxRel fid κ b B) : ∀ n ∈ B.names, ∃ i, κ.β n = some i := by
  intro n hn
  cases B with
  | cells cs => obtain ⟨_, arr, _, _, _, _, _, h, _⟩ := h; exact lNames_known h n hn
  | row st sz rows ro => simp [Box.names] at hn
  | dead => simp [Box.names] at hn

/-! ### renaming -/
section ren
variable {β' : Nat → Option Inf} {r : Nat → Nat}

theorem CapRel.ren {v : Value} {c : Cap} (h : CapRel κ v c) (hr : ∀ n ∈ c.names, β' (r n) = κ.β n) : CapRel { κ with β := β' } v (c.ren r) := by
  cases c with
  | d x => exact h
  | ptr b off => obtain ⟨i, hi, h0, hv⟩ := h; exact ⟨i, by rw [← hi]; exact hr b (by simp [Cap.names]), h0, hv⟩
theorem WRel.ren {v : Value} {x : W} (h : WRel fid κ v x) (hr : ∀ n ∈ x.names, β' (r n) = κ.β n) : WRel fid { κ with β := β' } v (x.ren r) := by
  cases x with
  | own b off len cap => obtain ⟨i, c, hi, h⟩ := h; exact ⟨i, c, by rw [← hi]; exact hr b (by simp [W.names]), h⟩
  | ptr b off => obtain ⟨i, hi, h⟩ := h; exact ⟨i, by rw [← hi]; exact hr b (by simp [W.names]), h⟩
  | rp b j off => obtain ⟨i, hi, h⟩ := h; exact ⟨i, by rw [← hi]; exact hr b (by simp [W.names]), h⟩
  | fn f caps =>
    obtain ⟨arr, hv, hs, h⟩ := h
    refine ⟨arr, hv, by simpa using hs, fun i c hc => ?_⟩
    rw [List.getElem?_map] at hc
    cases hci : caps[i]? with
    | none => simp [hci] at hc
    | some c' =>
      simp [hci] at hc; subst hc
      obtain ⟨y, hy, q⟩ := h i c' hci
      exact ⟨y, hy, q.ren (fun n hn => hr n (by simp only [W.names, List.mem_flatMap]; exact ⟨c', List.mem_of_getElem? hci, hn⟩))⟩
  | d x => exact h
  | nil => exact h
  | ln a b => exact h
  | lp a b => exact h
  | gp a b => exact h
theorem LRel.ren {arr : Array Value} {cs : List W} (h : LRel fid κ arr cs) (hr : ∀ n ∈ wnames cs, β' (r n) = κ.β n) : LRel fid { κ with β := β' } arr (cs.map (W.ren r)) := by
  refine ⟨by simpa using h.1, fun i c hc => ?_⟩
  rw [List.getElem?_map] at hc
  cases hci : cs[i]? with
  | none => simp [hci] at hc
  | some c' =>
    simp [hci] at hc; subst hc
    obtain ⟨y, hy, q⟩ := h.2 i c' hci
    exact ⟨y, hy, q.ren (fun n hn => hr n (by simp only [wnames, List.mem_flatMap]; exact ⟨c', List.mem_of_getElem? hci, hn⟩))⟩
theorem PRel.ren {v : Value} {p : Bool × List W} (h : PRel fid κ v p) (hr : ∀ n ∈ wnames p.2, β' (r n) = κ.β n) : PRel fid { κ with β := β' } v (p.1, p.2.map (W.ren r)) := by
  obtain ⟨b, cs⟩ := p
  cases b with
  | true => obtain ⟨arr, hv, h⟩ := h; exact ⟨arr, hv, h.ren hr⟩
  | false =>
    match cs, h, hr with
    | [x], h, hr => exact WRel.ren h (fun n hn => hr n (by simpa [wnames] using hn))
theorem VRel.ren {v : Value} {x : V} (h : VRel fid κ v x) (hr : ∀ n ∈ x.names, β' (r n) = κ.β n) : VRel fid { κ with β := β' } v (x.ren r) := by
  cases x with
  | w x => exact WRel.ren h hr
  | agg cs => obtain ⟨arr, hv, h⟩ := h; exact ⟨arr, hv, h.ren hr⟩
  | tup vs =>
    obtain ⟨arr, hv, hs, h⟩ := h
    refine ⟨arr, hv, by simpa using hs, fun i p hp => ?_⟩
    rw [List.getElem?_map] at hp
    cases hpi : vs[i]? with
    | none => simp [hpi] at hp
    | some p' =>
      simp [hpi] at hp; subst hp
      obtain ⟨y, hy, q⟩ := h i p' hpi
      exact ⟨y, hy, q.ren (fun n hn => hr n (by simp only [V.names, List.mem_flatMap]; exact ⟨p', List.mem_of_getElem? hpi, hn⟩))⟩
theorem BoxRel.ren {b b' : Nat} {B : Box} (h : BoxRel fid κ b B) (hr : ∀ n ∈ B.names, β' (r n) = κ.β n) (hb : β' b' = κ.β b) : BoxRel fid { κ with β := β' } b' (B.ren r) := by
  cases B with
  | cells cs => obtain ⟨i, arr, T, hi, h1, h2, h3, h4, h5⟩ := h; exact ⟨i, arr, T, by rw [← hi]; exact hb, h1, h2, h3, h4.ren hr, h5⟩
  | row st sz rows ro =>
    obtain ⟨i, hi, h1, h2, h3⟩ := h
    refine ⟨i, by rw [← hi]; exact hb, h1, h2, ?_⟩
    rcases h3 with h | ⟨arr, T, q⟩
    · exact .inl h
    · refine .inr ⟨arr, T, q.real, q.heap, q.size, q.fits, q.rows, q.im, ?_⟩
      have := q.st
      cases st with
      | none => exact this
      | some t => exact this
  | dead => trivial
theorem Box.ren_dead {B : Box} : B.ren r = .dead ↔ B = .dead := by cases B <;> simp [Box.ren]
end ren

/-! ### what a call gets and gives -/
def passOf (κ : Ctx) (bs : List Box) (k : Nat) : Prop := ∃ n i, bs.getD n .dead ≠ .dead ∧ κ.β n = some i ∧ i.real = true ∧ i.blk = k

structure In (fid : Nat → FuncId) (G : Nat → Option (List D)) (κ : Ctx) (bs : List Box) (s : Sup) : Prop where
  imlt : ∀ k o, κ.Im k o → k < κ.w.heap.size
  zlt : ∀ t b, κ.ζ t = some b → b < κ.w.heap.size
  zinj : ∀ t t' b, κ.ζ t = some b → κ.ζ t' = some b → t = t'
  zfree : ∀ k, κ.ζ (s k) = none ∧ s k ≠ 0
  sinj : ∀ a b, s a = s b → a = b
  dom : ∀ b, bs.length ≤ b → κ.β b = none
  some : ∀ b, b < bs.length → ∃ i, κ.β b = some i
  box : ∀ b, BoxRel fid κ b (bs.getD b .dead)
  dist : ∀ b b' i i', b ≠ b' → bs.getD b .dead ≠ .dead → bs.getD b' .dead ≠ .dead → κ.β b = Option.some i → κ.β b' = Option.some i' → i.real = true → i'.real = true → i.blk ≠ i'.blk
  glob : Glob G κ

structure Out (fid : Nat → FuncId) (κ : Ctx) (bs : List Box) (s : Sup) (κ' : Ctx) (r : Res) (v : Value) : Prop where
  le : κ.le κ'
  os : κ'.w.os = κ.w.os
  tape : κ'.w.tape = κ.w.tape
  output : κ'.w.output = κ.w.output
  same : ∀ k, k < κ.w.heap.size → ¬ passOf κ bs k → κ'.w.heap[k]? = κ.w.heap[k]?
  im : ∀ k o, κ'.Im k o → κ.Im k o ∨ κ.w.heap.size ≤ k ∨ passOf κ bs k
  imlt : ∀ k o, κ'.Im k o → k < κ'.w.heap.size
  zlt : ∀ t b, κ'.ζ t = some b → b < κ'.w.heap.size
  zinj : ∀ t t' b, κ'.ζ t = some b → κ'.ζ t' = some b → t = t'
  znew : ∀ t b, κ'.ζ t = some b → κ.ζ t = some b ∨ ((∃ k, t = s k) ∧ (κ.w.heap.size ≤ b ∨ passOf κ bs b))
  lenb : r.bs.length = bs.length
  bsame : ∀ b, b < bs.length → κ'.β b = κ.β b
  dom : ∀ b, bs.length + r.news.length ≤ b → κ'.β b = none
  blk : ∀ b i, (r.bs ++ r.news).getD b .dead ≠ .dead → κ'.β b = some i → i.real = true → κ.w.heap.size ≤ i.blk ∨ passOf κ bs i.blk
  box : ∀ b, BoxRel fid κ' b ((r.bs ++ r.news).getD b .dead)
  dist : ∀ b b' i i', b ≠ b' → (r.bs ++ r.news).getD b .dead ≠ .dead → (r.bs ++ r.news).getD b' .dead ≠ .dead → κ'.β b = some i → κ'.β b' = some i' → i.real = true → i'.real = true → i.blk ≠ i'.blk
  v : VRel fid κ' v r.v

/-- A Go function can be entered: it has a body. -/
def Enters (P : Program) (f : FuncId) : Prop := ∀ (args : Array Value) (w : World), (callFunc f args).run P w = .ok (.enter f args) w

def CallOK (P : Program) (fid : Nat → FuncId) (G : Nat → Option (List D)) (f : Nat) (args : List V) (bs : List Box) (s : Sup) (r : Res) : Prop :=
  Enters P (fid f) ∧ ∀ (κ : Ctx) (vs : List Value), In fid G κ bs s → vs.length = args.length → (∀ (i : Nat) (x : V), args[i]? = some x → ∃ v : Value, vs[i]? = some v ∧ VRel fid κ v x) →
    Calls P (fid f) vs.toArray κ.w fun e w' => ∃ v κ', e = .returned v ∧ κ'.w = w' ∧ Out fid κ bs s κ' r v

end
end Go.VM
