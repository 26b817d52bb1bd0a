/- The value machine: what an operation reads and writes. Conditions: none. -/
import Derived.Test.YthkednnfadhidaaVM19
namespace Go.VM
set_option linter.unusedVariables false
set_option linter.unusedSimpArgs false
set_option linter.unusedSectionVars false

/-- A freezing reads and writes only what it says. -/
def FLoc {α : Type} (F : Fz → Option (α × Fz)) : Prop := ∀ z y z', F z = some (y, z') →
  (∀ b ∈ z.touch, b ∈ z'.touch) ∧ (∀ b, b ∉ z'.touch → z'.H b = z.H b) ∧
  ∀ z2 : Fz, z2.k = z.k → z2.touch = z.touch → (∀ b ∈ z'.touch, z2.H b = z.H b) →
    ∃ z2', F z2 = some (y, z2') ∧ z2'.k = z'.k ∧ z2'.touch = z'.touch ∧ ∀ b ∈ z'.touch, z2'.H b = z'.H b

theorem FLoc.pure {α : Type} (x : α) : FLoc fun z => some (x, z) := fun z y z' h => by
  cases h
  exact ⟨fun _ h => h, fun _ _ => rfl, fun z2 h1 h2 h3 => ⟨z2, rfl, h1, h2, h3⟩⟩
theorem FLoc.none {α : Type} : FLoc (α := α) fun _ => .none := fun z y z' h => by cases h

theorem FLoc.bind {α β : Type} {F : Fz → Option (α × Fz)} {K : α → Fz → Option (β × Fz)} (hF : FLoc F) (hK : ∀ x, FLoc (K x)) :
    FLoc fun z => match F z with | some (x, z') => K x z' | .none => .none := by
  intro z y z' h
  simp only at h
  split at h
  · rename_i x z1 h1
    obtain ⟨a1, a2, a3⟩ := hF z x z1 h1
    obtain ⟨b1, b2, b3⟩ := hK x z1 y z' h
    refine ⟨fun b hb => b1 b (a1 b hb), fun b hb => ?_, fun z2 hk ht hz => ?_⟩
    · rw [b2 b hb, a2 b (fun hm => hb (b1 b hm))]
    · obtain ⟨z3, c1, c2, c3, c4⟩ := a3 z2 hk ht (fun b hb => hz b (b1 b hb))
      obtain ⟨d1, d2, -⟩ := hF z2 x z3 c1
      obtain ⟨z4, e1, e2, e3, e4⟩ := b3 z3 c2 c3 (fun b hb => by
        by_cases hm : b ∈ z1.touch
        · exact c4 b hm
        · rw [d2 b (by rw [c3]; exact hm), hz b hb, a2 b hm])
      exact ⟨z4, by simp only [c1]; exact e1, e2, e3, e4⟩
  · cases h

theorem FLoc.congr {α : Type} {F F' : Fz → Option (α × Fz)} (h : FLoc F) (e : ∀ z, F' z = F z) : FLoc F' := by
  have : F' = F := funext e
  rw [this]; exact h

theorem frzW_loc (stamp : Bool) (s : Sup) (x : W) : FLoc fun z => frzW stamp s z x := by
  cases x with
  | own b off len cap =>
    intro z y z' h
    simp only [frzW] at h
    split at h
    · rename_i st sz rows ro hb
      split at h
      · rename_i hl
        cases h
        refine ⟨fun c hc => by simp [hc], fun c hc => ?_, fun z2 hk ht hz => ?_⟩
        · have : c ≠ b := fun e => hc (by simp [e])
          simp [upd, this]
        · have h2 := hz b (by simp)
          refine ⟨_, by simp only [frzW, h2, hb, if_pos hl, hk]; rfl, by simp [hk], by simp [ht], fun c hc => ?_⟩
          simp only [upd]
          by_cases e : c = b
          · simp [e]
          · simp [e]; exact hz c hc
      · cases h
    · cases h
  | nil => exact FLoc.pure _
  | ln st rows => exact FLoc.pure _
  | d _ => exact FLoc.pure _
  | ptr _ _ => exact FLoc.pure _
  | rp _ _ _ => exact FLoc.pure _
  | lp _ _ => exact FLoc.pure _
  | gp _ _ => exact FLoc.pure _
  | fn _ _ => exact FLoc.pure _

theorem frzL_loc (stamp : Bool) (s : Sup) : ∀ l : List W, FLoc fun z => frzL stamp s z l
  | [] => FLoc.pure _
  | x :: r => ((frzW_loc stamp s x).bind (fun y => (frzL_loc stamp s r).bind (fun l => FLoc.pure (y :: l)))).congr fun z => by
    simp only [frzL]
    cases frzW stamp s z x with
    | none => rfl
    | some p =>
      simp only
      cases frzL stamp s p.2 r <;> rfl

theorem frzP_loc (stamp : Bool) (s : Sup) : ∀ l : List (Bool × List W), FLoc fun z => frzP stamp s z l
  | [] => FLoc.pure _
  | x :: r => ((frzL_loc stamp s x.2).bind (fun y => (frzP_loc stamp s r).bind (fun l => FLoc.pure ((x.1, y) :: l)))).congr fun z => by
    simp only [frzP]
    cases frzL stamp s z x.2 with
    | none => rfl
    | some p =>
      simp only
      cases frzP stamp s p.2 r <;> rfl

theorem frzV_loc (stamp : Bool) (s : Sup) : ∀ x : V, FLoc fun z => frzV stamp s z x
  | .w x => ((frzW_loc stamp s x).bind (fun y => FLoc.pure (V.w y))).congr fun z => by
    simp only [frzV]; cases frzW stamp s z x <;> rfl
  | .agg x => ((frzL_loc stamp s x).bind (fun y => FLoc.pure (V.agg y))).congr fun z => by
    simp only [frzV]; cases frzL stamp s z x <;> rfl
  | .tup x => ((frzP_loc stamp s x).bind (fun y => FLoc.pure (V.tup y))).congr fun z => by
    simp only [frzV]; cases frzP stamp s z x <;> rfl

theorem frzA_loc (stamp : Bool) (s : Sup) : ∀ l : List V, FLoc fun z => frzA stamp s z l
  | [] => FLoc.pure _
  | x :: r => ((frzV_loc stamp s x).bind (fun y => (frzA_loc stamp s r).bind (fun l => FLoc.pure (y :: l)))).congr fun z => by
    simp only [frzA]
    cases frzV stamp s z x with
    | none => rfl
    | some p =>
      simp only
      cases frzA stamp s p.2 r <;> rfl

theorem rowParts_loc (stamp : Bool) (s : Sup) (sz : Nat) : ∀ (l : List (Nat × V)) (rows : List (List D)), FLoc fun z => rowParts stamp s sz rows z l
  | [], rows => FLoc.pure _
  | (i, v) :: r, rows => by
    cases hv : v.cells? with
    | none => exact FLoc.none.congr fun z => by simp [rowParts, hv]
    | some cs =>
      refine ((frzL_loc stamp s cs).bind (K := fun l z => match datas? l with
        | some ds => if ds.length = sz ∧ i < rows.length then rowParts stamp s sz (rows.set i ds) z r else .none
        | .none => .none) (fun l => ?_)).congr fun z => by
          simp only [rowParts, hv]
          cases frzL stamp s z cs <;> rfl
      cases datas? l with
      | none => exact FLoc.none
      | some ds =>
        simp only
        split
        · exact rowParts_loc stamp s sz r _
        · exact FLoc.none

/-- What an operation may look at or write. -/
def Eff.at (e : Eff) (g b : Nat) : Prop := b ∈ e.touch ∨ (g ≤ b ∧ b < g + 64)

/-- An operation reads and writes only what it says. -/
def OLoc (g : Nat) (f : (Nat → Box) → Option Eff) : Prop := ∀ H e, f H = some e →
  (∀ b, ¬ e.at g b → e.H b = H b) ∧
  (e.wr = false → ∀ b, ¬ (g ≤ b ∧ b < g + 64) → e.H b = H b) ∧
  ∀ H', (∀ b, e.at g b → H' b = H b) → ∃ e', f H' = some e' ∧ e'.v = e.v ∧ e'.touch = e.touch ∧ e'.wr = e.wr ∧
    ∀ b, e.at g b → e'.H b = e.H b

theorem OLoc.ret {g : Nat} {v : Option V} : OLoc g fun H => ret0 H v := fun H e h => by
  cases v with
  | none => cases h
  | some v => cases h; exact ⟨fun _ _ => rfl, fun _ _ _ => rfl, fun H' hH => ⟨_, rfl, rfl, rfl, rfl, hH⟩⟩
theorem OLoc.none {g : Nat} : OLoc g fun _ => .none := fun H e h => by cases h
theorem OLoc.const {g : Nat} {v : V} {t : List Nat} : OLoc g fun H => some ⟨v, H, t, false⟩ := fun H e h => by
  cases h; exact ⟨fun _ _ => rfl, fun _ _ _ => rfl, fun H' hH => ⟨_, rfl, rfl, rfl, rfl, hH⟩⟩
theorem OLoc.new {g : Nat} {v : V} {t : List Nat} {x : Box} : OLoc g fun H => some ⟨v, upd H g x, t, false⟩ := fun H e h => by
  cases h
  refine ⟨fun b hb => ?_, fun _ b hb => ?_, fun H' hH => ⟨_, rfl, rfl, rfl, rfl, fun b hb => ?_⟩⟩
  · simp only [upd]; rw [if_neg]; intro e; exact hb (.inr ⟨by omega, by omega⟩)
  · simp only [upd]; rw [if_neg]; intro e; exact hb ⟨by omega, by omega⟩
  · simp only [upd]; split
    · rfl
    · exact hH b hb

/-- An operation that looks at a box first. -/
theorem OLoc.look {g : Nat} {f : (Nat → Box) → Option Eff} (c : Nat) {K : Box → (Nat → Box) → Option Eff} (hf : ∀ H, f H = K (H c) H) (hK : ∀ x, OLoc g (K x))
    (ht : ∀ H e, f H = some e → e.at g c) : OLoc g f := fun H e h => by
  have h' := h
  rw [hf] at h'
  obtain ⟨a1, a2, a3⟩ := hK _ H e h'
  refine ⟨a1, a2, fun H' hH => ?_⟩
  obtain ⟨e', b1, b2⟩ := a3 H' hH
  refine ⟨e', ?_, b2⟩
  rw [hf, hH c (ht H e h)]
  exact b1

theorem OLoc.congr {g : Nat} {f f' : (Nat → Box) → Option Eff} (h : OLoc g f) (e : ∀ H, f' H = f H) : OLoc g f' := by
  have : f' = f := funext e
  rw [this]; exact h

/-- Reading rows. -/
theorem OLoc.rows {g : Nat} {y : W} {K : List (List D) → List Nat → (Nat → Box) → Option Eff} (hK : ∀ rows t, OLoc g (K rows t))
    (ht : ∀ rows t H e, rowsOf H y = some (rows, t) → K rows t H = some e → ∀ b ∈ t, b ∈ e.touch) : OLoc g fun H => match rowsOf H y with | some (rows, t) => K rows t H | .none => .none := by
  cases y with
  | own b off len cap =>
    refine OLoc.look b (K := fun x H => match x with
      | .row _ _ rows _ => if off + len ≤ rows.length then K ((rows.drop off).take len) [b] H else .none
      | _ => .none) (fun H => ?_) (fun x => ?_) (fun H e h => ?_)
    · simp only [rowsOf]
      cases H b with
      | row st sz rows ro => by_cases hl : off + len ≤ rows.length <;> simp [hl]
      | _ => rfl
    · cases x with
      | row st sz rows ro =>
        simp only
        split
        · exact hK _ _
        · exact OLoc.none
      | _ => exact OLoc.none
    · simp only [rowsOf] at h
      cases hb : H b with
      | row st sz rows ro =>
        simp only [hb] at h
        split at h
        · rename_i rows' t ht'
          split at ht'
          · rename_i hl; cases ht'; exact .inl (ht _ _ H _ (by simp [rowsOf, hb, hl]) h b (by simp))
          · cases ht'
        · cases h
      | cells cs => simp [hb] at h
      | dead => simp [hb] at h
  | nil => exact hK _ _
  | ln st rows => exact hK _ _
  | d x =>
    cases x with
    | s v => exact OLoc.none
    | l st rows => exact hK _ _
  | ptr _ _ => exact OLoc.none
  | rp _ _ _ => exact OLoc.none
  | lp _ _ => exact OLoc.none
  | gp _ _ => exact OLoc.none
  | fn _ _ => exact OLoc.none

/-- Freezing first. -/
theorem OLoc.frz {g : Nat} {α : Type} {F : Fz → Option (α × Fz)} (hF : FLoc F) {K : α → Fz → Option Eff} (k : Nat)
    (h0 : ∀ x z e, K x z = some e → (∀ b ∈ z.touch, b ∈ e.touch) ∧ (e.wr = false → z.touch = []) )
    (hK : ∀ x k t, OLoc g fun H => K x ⟨H, k, t⟩) : OLoc g fun H => match F ⟨H, k, []⟩ with | some (x, z) => K x z | .none => .none := by
  intro H e h
  simp only at h
  split at h
  · rename_i x z hz
    obtain ⟨a1, a2, a3⟩ := hF _ _ _ hz
    obtain ⟨b1, b2, b3⟩ := hK x z.k z.touch z.H e h
    obtain ⟨c1, c2⟩ := h0 _ _ _ h
    refine ⟨fun b hb => ?_, fun hw b hb => ?_, fun H' hH => ?_⟩
    · rw [b1 b hb, a2 b (fun hm => hb (.inl (c1 b hm)))]
    · rw [b2 hw b hb, a2 b (by rw [c2 hw]; simp)]
    · obtain ⟨z2, d1, d2, d3, d4⟩ := a3 ⟨H', k, []⟩ rfl rfl (fun b hb => hH b (.inl (c1 b hb)))
      have hoff : ∀ b, b ∉ z.touch → z2.H b = H' b := (hF _ _ _ d1).2.1 |> fun q b hb => q b (by rw [d3]; exact hb)
      obtain ⟨e', f1, f2⟩ := b3 z2.H (fun b hb => by
        by_cases hm : b ∈ z.touch
        · exact d4 b hm
        · rw [hoff b hm, hH b hb, a2 b hm])
      refine ⟨e', ?_, f2⟩
      simp only [d1]
      rw [← f1, ← d2, ← d3]
  · cases h

theorem updL_off : ∀ (l : List (Nat × Box)) (H : Nat → Box) (b : Nat), (∀ p ∈ l, p.1 ≠ b) → updL H l b = H b
  | [], H, b, h => rfl
  | (c, x) :: r, H, b, h => by
    rw [updL, updL_off r _ b (fun p hp => h p (List.mem_cons_of_mem _ hp))]
    have := h (c, x) (List.mem_cons_self ..)
    simp only [upd]
    rw [if_neg (fun e => this e.symm)]
theorem updL_on : ∀ (l : List (Nat × Box)) (H H' : Nat → Box) (b : Nat), (H b = H' b ∨ ∃ p ∈ l, p.1 = b) → updL H l b = updL H' l b
  | [], H, H', b, h => by simpa [updL] using h
  | (c, x) :: r, H, H', b, h => by
    rw [updL, updL]
    refine updL_on r _ _ b ?_
    simp only [upd]
    by_cases e : b = c
    · left; simp [e]
    · rcases h with h | ⟨p, hp, he⟩
      · left; simp [e, h]
      · simp only [List.mem_cons] at hp
        rcases hp with rfl | hp
        · exact absurd he.symm e
        · exact .inr ⟨p, hp, he⟩

theorem mem_reach : ∀ (H : Nat → Box) (n : Nat) (acc : List Nat) (b : Nat), b ∈ acc → b ∈ reach H n acc
  | H, 0, acc, b, h => h
  | H, n + 1, acc, b, h => mem_reach H n _ b ((mem_addAll ..).2 (.inl h))
theorem flatMap_congr' {α β : Type} {f f' : α → List β} : ∀ {l : List α}, (∀ x ∈ l, f x = f' x) → l.flatMap f = l.flatMap f'
  | [], h => rfl
  | x :: l, h => by
    simp only [List.flatMap_cons]
    rw [h x (List.mem_cons_self ..), flatMap_congr' (fun y hy => h y (List.mem_cons_of_mem _ hy))]
theorem reach_congr : ∀ (H H' : Nat → Box) (n : Nat) (acc : List Nat), (∀ b ∈ reach H n acc, H' b = H b) → reach H' n acc = reach H n acc
  | H, H', 0, acc, h => rfl
  | H, H', n + 1, acc, h => by
    have e : acc.flatMap (fun b => (H' b).names) = acc.flatMap fun b => (H b).names :=
      flatMap_congr' fun b hb => by rw [h b (mem_reach H (n + 1) acc b hb)]
    simp only [reach]
    rw [e]
    exact reach_congr H H' n _ h
theorem all_congr' {α : Type} {f f' : α → Bool} : ∀ {l : List α}, (∀ x ∈ l, f x = f' x) → l.all f = l.all f'
  | [], h => rfl
  | x :: l, h => by
    simp only [List.all_cons]
    rw [h x (List.mem_cons_self ..), all_congr' (fun y hy => h y (List.mem_cons_of_mem _ hy))]
theorem closed_congr {H H' : Nat → Box} {ns : List Nat} (h : ∀ b ∈ ns, H' b = H b) : closed H' ns = closed H ns :=
  all_congr' fun b hb => by simp only [h b hb]

/-- A call behind its frozen arguments. -/
def callK (call : CallT) (g f : Nat) (s : Sup) (args : List V) (z : Fz) : Option Eff :=
    let ns := reach z.H 4 (addAll [] (args.flatMap V.names))
    match call f (args.map (V.ren (idx ns))) (ns.map fun b => (z.H b).ren (idx ns)) (fun k => s (2 * k + 1)) with
    | none => none
    | some r =>
      if r.bs.length = ns.length ∧ r.news.length ≤ 64 ∧ closed z.H ns = true then
        let σ : Nat → Nat := fun k => if k < ns.length then ns.getD k 0 else g + (k - ns.length)
        some ⟨r.v.ren σ, updL z.H ((ns.zip (r.bs.map (Box.ren σ))) ++ ((List.range r.news.length).map (g + ·)).zip (r.news.map (Box.ren σ))),
          z.touch ++ ns, !(z.touch ++ ns).isEmpty⟩
      else none

theorem callK_loc (call : CallT) (g f : Nat) (s : Sup) (args : List V) (k : Nat) (t : List Nat) : OLoc g fun H => callK call g f s args ⟨H, k, t⟩ := by
  intro H e h
  simp only [callK] at h
  split at h
  · cases h
  · rename_i r hr
    split at h
    · rename_i hc
      cases h
      simp only [Eff.at, Bool.not_eq_false']
      generalize hns : reach H 4 (addAll [] (args.flatMap V.names)) = ns at *
      obtain ⟨h1, h2, h3⟩ := hc
      have hoff : ∀ b, ¬ ((b ∈ t ++ ns) ∨ (g ≤ b ∧ b < g + 64)) → ∀ p ∈ (ns.zip (r.bs.map (Box.ren fun k => if k < ns.length then ns.getD k 0 else g + (k - ns.length)))) ++
          ((List.range r.news.length).map (g + ·)).zip (r.news.map (Box.ren fun k => if k < ns.length then ns.getD k 0 else g + (k - ns.length))), p.1 ≠ b := by
        rintro b hb ⟨c, x⟩ hp rfl
        simp only [List.mem_append] at hp
        rcases hp with hp | hp
        · exact hb (.inl (by simp [(List.of_mem_zip hp).1]))
        · have := (List.of_mem_zip hp).1
          simp only [List.mem_map, List.mem_range] at this
          obtain ⟨i, hi, rfl⟩ := this
          exact hb (.inr ⟨by omega, by omega⟩)
      refine ⟨fun b hb => updL_off _ _ _ (hoff b hb), fun hw b hb => updL_off _ _ _ (hoff b ?_), fun H' hH => ?_⟩
      · rintro (hm | hm)
        · rw [List.isEmpty_iff] at hw; rw [hw] at hm; simp at hm
        · exact hb hm
      · have hns' : reach H' 4 (addAll [] (args.flatMap V.names)) = ns := by
          rw [← hns]; exact reach_congr _ _ _ _ fun b hb => hH b (.inl (by rw [hns] at hb; simp [hb]))
        have hHn : ∀ b ∈ ns, H' b = H b := fun b hb => hH b (.inl (by simp [hb]))
        have hmap : (ns.map fun b => (H' b).ren (idx ns)) = ns.map fun b => (H b).ren (idx ns) := List.map_congr_left fun b hb => by rw [hHn b hb]
        refine ⟨_, by simp only [callK, hns', hmap, hr, closed_congr hHn, h1, h2, h3, and_self, if_true]; rfl, rfl, rfl, rfl, fun b hb => ?_⟩
        exact updL_on _ _ _ _ (.inl (hH b hb))
    · cases h

theorem callV_loc (call : CallT) (M : Nat → Mode) (stamp : Bool) (g : Nat) (s : Sup) (f : Nat) (args : List V) : OLoc g fun H => callV call M stamp H g s f args := by
  by_cases hm : (M f).inout
  · exact (callK_loc call g f s args 0 []).congr fun H => by simp only [callV, hm, if_true, callK]; rfl
  · refine (OLoc.frz (F := fun z => frzA stamp (fun k => s (2 * k)) z args) (frzA_loc _ _ _) (K := fun args z => callK call g f s args z) 0 (fun x z e h => ?_) (fun x k t => callK_loc call g f s x k t)).congr fun H => ?_
    · simp only [callK] at h
      split at h
      · cases h
      · split at h
        · cases h
          refine ⟨fun b hb => by simp [hb], fun hw => ?_⟩
          simp only [Bool.not_eq_false', List.isEmpty_iff, List.append_eq_nil_iff] at hw
          exact hw.1
        · cases h
    · simp only [callV, hm, callK]
      simp only [Bool.false_eq_true, if_false]
      cases frzA stamp (fun k => s (2 * k)) ⟨H, 0, []⟩ args <;> rfl

/-- An operation that only reads, and reads one box. -/
theorem OLoc.look1 {g : Nat} {f : (Nat → Box) → Option Eff} (b : Nat) (h1 : ∀ H, f H = (f fun _ => H b).map fun e => { e with H := H })
    (h2 : ∀ x e, f (fun _ => x) = some e → b ∈ e.touch ∧ e.wr = false) : OLoc g f := by
  intro H e h
  have h' := h
  rw [h1] at h'
  simp only [Option.map_eq_some_iff] at h'
  obtain ⟨e0, he0, rfl⟩ := h'
  obtain ⟨k1, k2⟩ := h2 _ _ he0
  refine ⟨fun _ _ => rfl, fun _ _ _ => rfl, fun H' hH => ⟨{ e0 with H := H' }, ?_, rfl, rfl, rfl, hH⟩⟩
  rw [h1, hH b (.inl k1), he0]
  rfl

theorem sl_loc (call : CallT) (M : Nat → Mode) (G : Nat → Option (List D)) (stamp : Bool) (ev : X → V) (g : Nat) (s : Sup) (sz : Nat) (x : X) (lo hi mx : Option X) :
    OLoc g fun H => opV call M G stamp ev H g s (.sl sz x lo hi mx) := by
  simp only [opV]
  cases ev x with
  | w y =>
    cases optInt ev lo with
    | none => exact OLoc.none
    | some lo =>
      cases optInt ev hi with
      | none => exact OLoc.none
      | some hi =>
        cases optInt ev mx with
        | none => exact OLoc.none
        | some mx =>
          cases y with
          | own b off len cap =>
            refine OLoc.look1 b (fun H => ?_) (fun x e h => ?_)
            · simp only [rowsOf]
              cases H b with
              | row st sz' rows ro =>
                by_cases hl : off + len ≤ rows.length
                · simp only [hl, if_true]
                  split
                  · split <;> rfl
                  · rfl
                · simp [hl]
              | _ => rfl
            · simp only [rowsOf] at h
              cases x with
              | row st sz' rows ro =>
                by_cases hl : off + len ≤ rows.length
                · simp only [hl, if_true] at h
                  split at h
                  · split at h
                    · cases h; exact ⟨by simp, rfl⟩
                    · cases h
                  · cases h
                · simp [hl] at h
              | cells _ => cases h
              | dead => cases h
          | nil =>
            simp only [rowsOf]
            split <;> first | exact OLoc.ret | exact OLoc.none
          | ln st rows =>
            simp only [rowsOf]
            split
            · split <;> first | exact OLoc.ret | exact OLoc.none
            · exact OLoc.none
          | d x =>
            cases x with
            | s v => exact OLoc.none
            | l st rows =>
              simp only [rowsOf]
              split
              · split <;> first | exact OLoc.ret | exact OLoc.none
              · exact OLoc.none
          | ptr _ _ => exact OLoc.none
          | rp _ _ _ => exact OLoc.none
          | lp _ _ => exact OLoc.none
          | gp _ _ => exact OLoc.none
          | fn _ _ => exact OLoc.none
  | _ => exact OLoc.none

theorem op_loc (call : CallT) (M : Nat → Mode) (G : Nat → Option (List D)) (stamp : Bool) (ev : X → V) (g : Nat) (s : Sup) (o : O) : OLoc g fun H => opV call M G stamp ev H g s o := by
  cases o with
  | mv x =>
    simp only [opV]
    exact OLoc.ret
  | pick c a b =>
    simp only [opV]
    exact OLoc.ret
  | new zero =>
    simp only [opV]
    exact OLoc.new
  | box sz x =>
    simp only [opV]
    cases (ev x).cells? with
    | none => exact OLoc.none
    | some cs =>
      simp only
      split
      · exact OLoc.new
      · exact OLoc.none
  | bld zero parts =>
    simp only [opV]
    exact OLoc.ret
  | bsl sz n zero parts =>
    refine (OLoc.frz (F := fun z => rowParts stamp s sz (List.replicate n zero) z (parts.map fun p => (p.1, ev p.2))) (rowParts_loc _ _ _ _ _)
      (K := fun rows z => some ⟨.w (.own g 0 n (some n)), upd z.H g (.row none sz rows 0), z.touch, !z.touch.isEmpty⟩) 0 (fun x z e h => ?_) (fun x k t => ?_)).congr fun H => ?_
    · cases h
      exact ⟨fun b hb => hb, fun hw => by simpa using hw⟩
    · intro H e h
      cases h
      refine ⟨fun b hb => ?_, fun _ b hb => ?_, fun H' hH => ⟨_, rfl, rfl, rfl, rfl, fun b hb => ?_⟩⟩
      · simp only [upd]; rw [if_neg]; intro e; exact hb (.inr ⟨by omega, by omega⟩)
      · simp only [upd]; rw [if_neg]; intro e; exact hb ⟨by omega, by omega⟩
      · simp only [upd]; split
        · rfl
        · exact hH b hb
    · simp only [opV]
      cases rowParts stamp s sz (List.replicate n zero) ⟨H, 0, []⟩ (parts.map fun p => (p.1, ev p.2)) <;> rfl
  | ld agg sz x =>
    simp only [opV]
    cases ev x with
    | w w =>
      cases w with
      | ptr b off =>
        refine OLoc.look b (K := fun x H => match x with
          | .cells cs => match (part? cs off sz).bind (mkV agg) with | some v => some ⟨v, H, [b], false⟩ | none => none
          | _ => none) (fun H => rfl) (fun x => ?_) (fun H e h => ?_)
        · cases x with
          | cells cs =>
            simp only
            cases (part? cs off sz).bind (mkV agg) with
            | none => exact OLoc.none
            | some v => exact OLoc.const
          | _ => exact OLoc.none
        · simp only at h
          split at h
          · split at h
            · cases h; exact .inl (by simp)
            · cases h
          · cases h
      | rp b i off =>
        refine OLoc.look b (K := fun x H => match x with
          | .row _ _ rows _ => match rows[i]? with
            | some row => match (part? row off sz).bind (fun l => mkV agg (l.map .d)) with | some v => some ⟨v, H, [b], false⟩ | none => none
            | none => none
          | _ => none) (fun H => rfl) (fun x => ?_) (fun H e h => ?_)
        · cases x with
          | row st sz' rows ro =>
            simp only
            cases rows[i]? with
            | none => exact OLoc.none
            | some row =>
              simp only
              cases (part? row off sz).bind (fun l => mkV agg (l.map .d)) with
              | none => exact OLoc.none
              | some v => exact OLoc.const
          | _ => exact OLoc.none
        · simp only at h
          split at h
          · split at h
            · split at h
              · cases h; exact .inl (by simp)
              · cases h
            · cases h
          · cases h
      | lp row off => exact OLoc.ret
      | gp k off => exact OLoc.ret
      | _ => exact OLoc.none
    | _ => exact OLoc.none
  | st sz x y =>
    simp only [opV]
    cases (ev y).cells? with
    | none => exact OLoc.none
    | some cs =>
      simp only
      split
      case isFalse => exact OLoc.none
      cases ev x with
      | w w =>
        cases w with
        | ptr b off =>
          refine OLoc.look b (K := fun x H => match x with
            | .cells old => if off + sz ≤ old.length then some ⟨.tup [], upd H b (.cells (splice old off cs)), [b], true⟩ else none
            | _ => none) (fun H => rfl) (fun x => ?_) (fun H e h => ?_)
          · cases x with
            | cells old =>
              simp only
              split
              · intro H e h
                cases h
                refine ⟨fun c hc => ?_, fun hw => by simp at hw, fun H' hH => ⟨_, rfl, rfl, rfl, rfl, fun c hc => ?_⟩⟩
                · simp only [upd]; rw [if_neg]; intro e; exact hc (.inl (by simp [e]))
                · simp only [upd]; split
                  · rfl
                  · exact hH c hc
              · exact OLoc.none
            | _ => exact OLoc.none
          · simp only at h
            split at h
            · split at h
              · cases h; exact .inl (by simp)
              · cases h
            · cases h
        | rp b i off =>
          refine (OLoc.frz (F := fun z => frzL stamp s z cs) (frzL_loc _ _ _) (K := fun l z => match datas? l, z.H b with
            | some ds, .row st sz' rows ro => match rows[i]? with
              | some row => if ro ≤ i ∧ off + sz ≤ row.length then
                  some ⟨.tup [], upd z.H b (.row st sz' (rows.set i (splice row off ds)) ro), z.touch ++ [b], true⟩ else none
              | none => none
            | _, _ => none) 0 (fun x z e h => ?_) (fun x k t => ?_)).congr fun H => ?_
          · split at h
            · split at h
              · split at h
                · cases h; exact ⟨fun b hb => by simp [hb], fun hw => by simp at hw⟩
                · cases h
              · cases h
            · cases h
          · cases datas? x with
            | none => exact OLoc.none
            | some ds =>
              refine OLoc.look b (K := fun x H => match x with
                | .row st sz' rows ro => match rows[i]? with
                  | some row => if ro ≤ i ∧ off + sz ≤ row.length then
                      some ⟨.tup [], upd H b (.row st sz' (rows.set i (splice row off ds)) ro), t ++ [b], true⟩ else none
                  | none => none
                | _ => none) (fun H => by cases hb : H b <;> simp [hb]) (fun x => ?_) (fun H e h => ?_)
              · cases x with
                | row st sz' rows ro =>
                  simp only
                  cases rows[i]? with
                  | none => exact OLoc.none
                  | some row =>
                    simp only
                    split
                    · intro H e h
                      cases h
                      refine ⟨fun c hc => ?_, fun hw => by simp at hw, fun H' hH => ⟨_, rfl, rfl, rfl, rfl, fun c hc => ?_⟩⟩
                      · simp only [upd]; rw [if_neg]; intro e; exact hc (.inl (by simp [e]))
                      · simp only [upd]; split
                        · rfl
                        · exact hH c hc
                    · exact OLoc.none
                | _ => exact OLoc.none
              · simp only at h
                split at h
                · split at h
                  · split at h
                    · cases h; exact .inl (by simp)
                    · cases h
                  · cases h
                · cases h
          · simp only
            cases frzL stamp s ⟨H, 0, []⟩ cs <;> rfl
        | _ => exact OLoc.none
      | _ => exact OLoc.none
  | nc x =>
    simp only [opV]
    split <;> first | exact OLoc.ret | exact OLoc.none
  | bin op c x y =>
    simp only [opV]
    exact OLoc.ret
  | un op x =>
    simp only [opV]
    exact OLoc.ret
  | cvi k x =>
    simp only [opV]
    exact OLoc.ret
  | cbs x =>
    simp only [opV]
    cases ev x with
    | w y =>
      refine OLoc.rows (y := y) (K := fun rows t H => match bytesOf rows with
        | some bs => some ⟨sV (.string ⟨bs.toArray⟩), H, t, false⟩
        | none => none) (fun rows t => ?_) (fun rows t H e _ h => ?_)
      · cases bytesOf rows with
        | none => exact OLoc.none
        | some bs => exact OLoc.const
      · skip
        split at h
        · cases h; exact fun b hb => hb
        · cases h
    | _ => exact OLoc.none
  | msl sz bytes zero l c =>
    simp only [opV]
    split
    · split
      · exact OLoc.new
      · exact OLoc.none
    · exact OLoc.none
  | sls x lo hi =>
    simp only [opV]
    split
    · split <;> first | exact OLoc.ret | exact OLoc.none
    · exact OLoc.none
  | sl sz x lo hi mx => exact sl_loc call M G stamp ev g s sz x lo hi mx
  | fa off x =>
    simp only [opV]
    split <;> first | exact OLoc.ret | exact OLoc.none
  | fld agg off sz x =>
    simp only [opV]
    split <;> first | exact OLoc.ret | exact OLoc.none
  | ia sz x i =>
    simp only [opV]
    cases ev x with
    | w w =>
      cases (ev i).int? with
      | none =>
        refine OLoc.none.congr fun H => ?_
        cases w <;> simp
      | some p =>
        cases w with
        | own b off len cap =>
          refine OLoc.look b (K := fun x H => match x with
            | .row _ sz' _ _ => if sz' = sz ∧ 0 ≤ p.2 ∧ p.2 < len then some ⟨.w (.rp b (off + p.2.toNat) 0), H, [b], false⟩ else none
            | _ => none) (fun H => rfl) (fun x => ?_) (fun H e h => ?_)
          · cases x with
            | row st sz' rows ro =>
              simp only
              split
              · exact OLoc.const
              · exact OLoc.none
            | _ => exact OLoc.none
          · simp only at h
            split at h
            · split at h
              · cases h; exact .inl (by simp)
              · cases h
            · cases h
        | d x =>
          cases x with
          | s v => exact OLoc.none
          | l st rows =>
            simp only
            split
            · cases rows[p.2.toNat]? with
              | none => exact OLoc.none
              | some row =>
                simp only
                split
                · exact OLoc.ret
                · exact OLoc.none
            · exact OLoc.none
        | ln st rows =>
          simp only
          split
          · cases rows[p.2.toNat]? with
            | none => exact OLoc.none
            | some row =>
              simp only
              split
              · exact OLoc.ret
              · exact OLoc.none
          · exact OLoc.none
        | _ => exact OLoc.none
    | _ => exact OLoc.none
  | iaa n sz x i =>
    simp only [opV]
    split
    · split
      · split <;> first | exact OLoc.ret | exact OLoc.none
      · exact OLoc.none
    · exact OLoc.none
  | ixs x i =>
    simp only [opV]
    split
    · split
      · split <;> first | exact OLoc.ret | exact OLoc.none
      · exact OLoc.none
    · exact OLoc.none
  | ixa agg n sz x i =>
    simp only [opV]
    split
    · split <;> first | exact OLoc.ret | exact OLoc.none
    · exact OLoc.none
  | ext i x =>
    simp only [opV]
    split
    · split <;> first | exact OLoc.ret | exact OLoc.none
    · exact OLoc.none
  | mkf f caps =>
    simp only [opV]
    split <;> first | exact OLoc.ret | exact OLoc.none
  | call f args =>
    simp only [opV]
    split
    · exact callV_loc call M stamp g s _ _
    · exact OLoc.none
  | lens x =>
    simp only [opV]
    split <;> first | exact OLoc.ret | exact OLoc.none
  | lenl x =>
    simp only [opV]
    split <;> first | exact OLoc.ret | exact OLoc.none
  | app sz bytes zero x y =>
    simp only [opV]
    cases ev y with
    | w y =>
      refine OLoc.rows (y := y) (K := fun ys t H => if ys.all (·.length == sz) && zero.length == sz then match ev x with
        | .w .nil => if room ys.length bytes = true then some ⟨.w (.own g 0 ys.length none), upd H g (.row none sz ys 0), t, false⟩ else none
        | .w (.own b off len _) => match H b with
          | .row st sz' rows ro =>
            if sz' = sz ∧ off + len ≤ rows.length ∧ ro ≤ off + len ∧ room (len + ys.length) bytes = true then
              some ⟨.w (.own g 0 (len + ys.length) none),
                upd (upd H b .dead) g (.row (taint st) sz ((rows.drop off).take len ++ ys) (ro - off)), t ++ [b], true⟩
            else none
          | _ => none
        | _ => none
        else none) (fun ys t => ?_) (fun ys t H e _ h => ?_)
      · skip
        split
        case isFalse => exact OLoc.none
        cases ev x with
        | w w =>
          cases w with
          | nil =>
            simp only
            split
            · exact OLoc.new
            · exact OLoc.none
          | own b off len cap =>
            refine OLoc.look b (K := fun x H => match x with
              | .row st sz' rows ro =>
                if sz' = sz ∧ off + len ≤ rows.length ∧ ro ≤ off + len ∧ room (len + ys.length) bytes = true then
                  some ⟨.w (.own g 0 (len + ys.length) none),
                    upd (upd H b .dead) g (.row (taint st) sz ((rows.drop off).take len ++ ys) (ro - off)), t ++ [b], true⟩
                else none
              | _ => none) (fun H => rfl) (fun x => ?_) (fun H e h => ?_)
            · cases x with
              | row st sz' rows ro =>
                simp only
                split
                · intro H e h
                  cases h
                  refine ⟨fun c hc => ?_, fun hw => by simp at hw, fun H' hH => ⟨_, rfl, rfl, rfl, rfl, fun c hc => ?_⟩⟩
                  · simp only [upd]
                    rw [if_neg (fun e => hc (.inr ⟨by omega, by omega⟩)), if_neg (fun e => hc (.inl (by simp [e])))]
                  · simp only [upd]; split
                    · rfl
                    · split
                      · rfl
                      · exact hH c hc
                · exact OLoc.none
              | _ => exact OLoc.none
            · simp only at h
              split at h
              · split at h
                · cases h; exact .inl (by simp)
                · cases h
              · cases h
          | _ => exact OLoc.none
        | _ => exact OLoc.none
      · skip
        split at h
        · split at h
          · split at h
            · cases h; exact fun b hb => hb
            · cases h
          · split at h
            · split at h
              · cases h; exact fun b hb => by simp [hb]
              · cases h
            · cases h
          · cases h
        · cases h
    | _ => exact OLoc.none
  | mmx isMax args =>
    simp only [opV]
    split
    · split <;> first | exact OLoc.ret | exact OLoc.none
    · exact OLoc.none
  | bad => exact OLoc.none

end Go.VM
