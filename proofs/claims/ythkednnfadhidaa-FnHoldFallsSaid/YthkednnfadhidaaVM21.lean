/- The value machine: operations without an order between them change places. Conditions: none. -/
import Derived.Test.YthkednnfadhidaaVM20
namespace Go.VM
set_option linter.unusedVariables false
set_option linter.unusedSimpArgs false
set_option linter.unusedSectionVars false

/-- The operands of an operation. -/
def O.xs : O → List X
  | .mv x => [x]
  | .pick c a b => [c, a, b]
  | .new _ => []
  | .box _ x => [x]
  | .bld _ parts => parts.map fun p => p.2.2
  | .bsl _ _ _ parts => parts.map fun p => p.2
  | .ld _ _ x => [x]
  | .st _ x y => [x, y]
  | .nc x => [x]
  | .bin _ _ x y => [x, y]
  | .un _ x => [x]
  | .cvi _ x => [x]
  | .cbs x => [x]
  | .msl _ _ _ l c => [l, c]
  | .sls x lo hi => x :: lo.toList ++ hi.toList
  | .sl _ x lo hi mx => x :: lo.toList ++ hi.toList ++ mx.toList
  | .fa _ x => [x]
  | .fld _ _ _ x => [x]
  | .ia _ x i => [x, i]
  | .iaa _ _ x i => [x, i]
  | .ixs x i => [x, i]
  | .ixa _ _ _ x i => [x, i]
  | .ext _ x => [x]
  | .mkf _ caps => caps
  | .call f args => f :: args
  | .lens x => [x]
  | .lenl x => [x]
  | .app _ _ _ x y => [x, y]
  | .mmx _ args => args
  | .bad => []

theorem optInt_congr {ev ev' : X → V} {o : Option X} (h : ∀ x ∈ o.toList, ev x = ev' x) : optInt ev o = optInt ev' o := by
  cases o with
  | none => rfl
  | some x => simp only [optInt]; rw [h x (by simp)]

theorem opV_congr {call : CallT} {M : Nat → Mode} {G : Nat → Option (List D)} {stamp : Bool} {ev ev' : X → V} {H : Nat → Box} {g : Nat} {s : Sup} {o : O} (h : ∀ x ∈ o.xs, ev x = ev' x) :
    opV call M G stamp ev H g s o = opV call M G stamp ev' H g s o := by
  cases o with
  | bld zero parts =>
    simp only [opV]
    rw [show parts.map (fun p => (p.1, p.2.1, ev p.2.2)) = parts.map fun p => (p.1, p.2.1, ev' p.2.2) from
      List.map_congr_left fun p hp => by rw [h p.2.2 (List.mem_map.2 ⟨p, hp, rfl⟩)]]
  | bsl sz n zero parts =>
    simp only [opV]
    rw [show parts.map (fun p => (p.1, ev p.2)) = parts.map fun p => (p.1, ev' p.2) from
      List.map_congr_left fun p hp => by rw [h p.2 (List.mem_map.2 ⟨p, hp, rfl⟩)]]
  | sls x lo hi =>
    simp only [O.xs, List.mem_cons, List.mem_append] at h
    simp only [opV]
    rw [h x (by simp), optInt_congr (o := lo) (fun y hy => h y (by simp_all)), optInt_congr (o := hi) (fun y hy => h y (by simp_all))]
  | sl sz x lo hi mx =>
    simp only [O.xs, List.mem_cons, List.mem_append] at h
    simp only [opV]
    rw [h x (by simp), optInt_congr (o := lo) (fun y hy => h y (by simp_all)), optInt_congr (o := hi) (fun y hy => h y (by simp_all)), optInt_congr (o := mx) (fun y hy => h y (by simp_all))]
  | mkf f caps =>
    simp only [opV]
    rw [show caps.map ev = caps.map ev' from List.map_congr_left fun p hp => h p hp]
  | call f args =>
    simp only [opV]
    rw [show args.map ev = args.map ev' from List.map_congr_left fun p hp => h p (List.mem_cons_of_mem _ hp), h f (List.mem_cons_self ..)]
  | mmx isMax args =>
    simp only [opV]
    rw [show args.map ev = args.map ev' from List.map_congr_left fun p hp => h p hp]
  | _ => simp only [O.xs, List.mem_cons, List.not_mem_nil, or_false, forall_eq_or_imp, forall_eq, List.mem_singleton] at h <;> simp only [opV] <;> simp only [h]

/-- The slots at which an operation looks. -/
def RO.looks (o : RO) : List Nat := (o.op.xs.filterMap fun | .t n => some n | _ => none) ++ (match o.guard with | some (t, _) => [t] | none => [])
def optNe (a : Option Nat) (b : Option Nat) : Bool := match a, b with | some x, some y => !(x == y) | _, _ => true
def optOut (a : Option Nat) (l : List Nat) : Bool := match a with | some x => !l.contains x | none => true
def apart (x y : RO) : Bool := optOut x.dst y.looks && optOut y.dst x.looks && optNe x.dst y.dst

theorem stepE_congr {call : CallT} {M : Nat → Mode} {G : Nat → Option (List D)} {stamp : Bool} {τ τ' : Nat → V} {H : Nat → Box} {g : Nat} {s : Sup} {o : RO} (h : ∀ t ∈ o.looks, τ t = τ' t) :
    stepE call M G stamp τ H g s o = stepE call M G stamp τ' H g s o := by
  have hx : ∀ x ∈ o.op.xs, evX τ x = evX τ' x := fun x hx => by
    cases x with
    | t n => exact h n (by simp only [RO.looks, List.mem_append, List.mem_filterMap]; exact .inl ⟨.t n, hx, rfl⟩)
    | k v => rfl
    | g n => rfl
  unfold stepE
  cases hg : o.guard with
  | none => exact opV_congr hx
  | some p =>
    obtain ⟨t, w⟩ := p
    have ht : τ t = τ' t := h t (by simp [RO.looks, hg])
    simp only [ht, opV_congr hx]

theorem put_looks {N : Nat} {τ τ' : Nat → V} {d : Option Nat} {v : V} {l : List Nat} (hp : put N τ d v = some τ') (h : optOut d l = true) : ∀ t ∈ l, τ' t = τ t := by
  intro t ht
  cases d with
  | none => simp [put] at hp; rw [hp]
  | some d =>
    simp only [put] at hp
    split at hp
    · cases hp
      simp [optOut] at h
      simp only [upd]
      rw [if_neg]; rintro rfl; exact h ht
    · cases hp

theorem put_comm {N : Nat} {τ τ1 τ2 : Nat → V} {d e : Option Nat} {v u : V} (h1 : put N τ d v = some τ1) (h2 : put N τ1 e u = some τ2) (h : optNe d e = true) :
    ∃ τ3, put N τ e u = some τ3 ∧ put N τ3 d v = some τ2 := by
  cases d with
  | none => simp [put] at h1; subst h1; exact ⟨τ2, h2, rfl⟩
  | some d =>
    cases e with
    | none => simp [put] at h2; subst h2; exact ⟨τ, rfl, h1⟩
    | some e =>
      simp only [put] at h1 h2
      split at h1
      · rename_i hd
        cases h1
        split at h2
        · rename_i he
          cases h2
          refine ⟨upd τ e u, by simp [put, he], ?_⟩
          simp only [put, if_pos hd, Option.some.injEq]
          simp [optNe] at h
          funext t
          simp only [upd]
          by_cases h1 : t = d
          · subst h1; simp [h]
          · simp [h1]
        · cases h2
      · cases h1

section
variable {call : CallT} {M : Nat → Mode} {G : Nat → Option (List D)} {stamp : Bool} {N g : Nat} {s : Sup}

theorem step_loc (call : CallT) (M : Nat → Mode) (G : Nat → Option (List D)) (stamp : Bool) (τ : Nat → V) (g : Nat) (s : Sup) (o : RO) : OLoc g fun H => stepE call M G stamp τ H g s o := by
  unfold stepE
  cases o.guard with
  | none => exact op_loc call M G stamp (evX τ) g s o.op
  | some p =>
    simp only
    split
    · split
      · exact op_loc call M G stamp (evX τ) g s o.op
      · exact OLoc.const
    · exact OLoc.const
    · exact OLoc.none

/-- One step of a region. -/
def step1 (call : CallT) (M : Nat → Mode) (G : Nat → Option (List D)) (stamp : Bool) (N g : Nat) (s : Sup) (x : Nat × RO) (τ : Nat → V) (H : Nat → Box) : Option ((Nat → V) × (Nat → Box) × (List Nat × Bool)) :=
  match stepE call M G stamp τ H (g + 64 * x.1) (subS s x.1) x.2 with
  | some e => match put N τ x.2.dst e.v with
    | some τ' => some (τ', e.H, (e.touch, e.wr))
    | none => none
  | none => none

theorem step1_some {x : Nat × RO} {τ : Nat → V} {H : Nat → Box} {τ' : Nat → V} {H' : Nat → Box} {l : List Nat × Bool} (h : step1 call M G stamp N g s x τ H = some (τ', H', l)) :
    ∃ e, stepE call M G stamp τ H (g + 64 * x.1) (subS s x.1) x.2 = some e ∧ put N τ x.2.dst e.v = some τ' ∧ e.H = H' ∧ l = (e.touch, e.wr) := by
  unfold step1 at h
  split at h
  · rename_i e he
    split at h
    · rename_i τ1 hp; cases h; exact ⟨e, he, hp, rfl, rfl⟩
    · cases h
  · cases h

/-- Two that are apart change places. -/
theorem step_swap {x y : Nat × RO} {τ τ1 τ2 : Nat → V} {H H1 H2 : Nat → Box} {lx ly : List Nat × Bool} (hne : x.1 ≠ y.1) (ha : apart x.2 y.2 = true) (hc : ncW g x.1 y.1 lx ly = true)
    (h1 : step1 call M G stamp N g s x τ H = some (τ1, H1, lx)) (h2 : step1 call M G stamp N g s y τ1 H1 = some (τ2, H2, ly)) :
    ∃ τ3 H3, step1 call M G stamp N g s y τ H = some (τ3, H3, ly) ∧ step1 call M G stamp N g s x τ3 H3 = some (τ2, H2, lx) := by
  obtain ⟨e, he, hp, rfl, rfl⟩ := step1_some h1
  obtain ⟨e', he', hp', rfl, rfl⟩ := step1_some h2
  simp only [apart, Bool.and_eq_true] at ha
  obtain ⟨⟨ha1, ha2⟩, ha3⟩ := ha
  simp only [ncW, Bool.and_eq_true, Bool.or_eq_true, Bool.not_eq_true', List.all_eq_true, Bool.and_eq_false_imp, decide_eq_true_eq, decide_eq_false_iff_not, Bool.or_eq_false_iff] at hc
  obtain ⟨⟨hc1, hc2⟩, hc3⟩ := hc
  obtain ⟨p1, p2, p3⟩ := step_loc call M G stamp τ (g + 64 * x.1) (subS s x.1) x.2 H e he
  rw [stepE_congr (put_looks hp ha1)] at he'
  obtain ⟨q1, q2, q3⟩ := step_loc call M G stamp τ (g + 64 * y.1) (subS s y.1) y.2 e.H e' he'
  -- what y looks at, x has left alone
  have hy : ∀ b, e'.at (g + 64 * y.1) b → e.H b = H b := fun b hb => by
    rcases hb with hb | hb
    · have hn : ¬ (g + 64 * x.1 ≤ b ∧ b < g + 64 * x.1 + 64) := fun ⟨h1, h2⟩ => hc2 b hb h1 h2
      rcases hc1 with hw | hd
      · exact p2 hw.1 b hn
      · refine p1 b ?_
        rintro (hm | hm)
        · have := hd b hm; simp at this; exact this hb
        · exact hn hm
    · refine p1 b ?_
      rintro (hm | hm)
      · exact hc3 b hm hb.1 hb.2
      · omega
  obtain ⟨f, f1, f2, f3, f4, f5⟩ := q3 H (fun b hb => (hy b hb).symm)
  simp only at f1
  obtain ⟨q1', q2', -⟩ := step_loc call M G stamp τ (g + 64 * y.1) (subS s y.1) y.2 H f f1
  have hx : ∀ b, e.at (g + 64 * x.1) b → f.H b = H b := fun b hb => by
    rcases hb with hb | hb
    · have hn : ¬ (g + 64 * y.1 ≤ b ∧ b < g + 64 * y.1 + 64) := fun ⟨h1, h2⟩ => hc3 b hb h1 h2
      rcases hc1 with hw | hd
      · exact q2' (by rw [f4]; exact hw.2) b hn
      · refine q1' b ?_
        rintro (hm | hm)
        · rw [f3] at hm
          have := hd b hb; simp at this; exact this hm
        · exact hn hm
    · refine q1' b ?_
      rintro (hm | hm)
      · rw [f3] at hm; exact hc2 b hm hb.1 hb.2
      · omega
  obtain ⟨k, k1, k2, k3, k4, k5⟩ := p3 f.H hx
  simp only at k1
  obtain ⟨r1, r2, -⟩ := step_loc call M G stamp τ (g + 64 * x.1) (subS s x.1) x.2 f.H k k1
  obtain ⟨τ3, t1, t2⟩ := put_comm hp hp' ha3
  have hτ3 : ∀ t ∈ x.2.looks, τ3 t = τ t := put_looks t1 ha2
  refine ⟨τ3, f.H, ?_, ?_⟩
  · unfold step1; rw [f1]; simp only; rw [f2, t1]; simp [f3, f4]
  · unfold step1
    rw [stepE_congr hτ3, k1]; simp only; rw [k2, t2]
    simp only [Option.some.injEq, Prod.mk.injEq, true_and]
    refine ⟨?_, by rw [k3, k4]; exact ⟨rfl, rfl⟩⟩
    funext b
    by_cases hbx : e.at (g + 64 * x.1) b
    · rw [k5 b hbx]
      by_cases hby : e'.at (g + 64 * y.1) b
      · -- both look at it: none writes
        have hb1 : e.H b = H b := hy b hby
        rw [hb1]
        rcases hby with hb | hb
        · rcases hbx with ha | ha
          · rcases hc1 with hw | hd
            · rw [q2 hw.2 b (fun ⟨h1, h2⟩ => hc3 b ha h1 h2), hb1]
            · exact absurd hb (by have := hd b ha; simpa using this)
          · exact absurd ha.2 (hc2 b hb ha.1)
        · rcases hbx with ha | ha
          · exact absurd hb.2 (hc3 b ha hb.1)
          · omega
      · rw [q1 b hby]
    · rw [r1 b (by simpa [Eff.at, k3] using hbx)]
      by_cases hby : e'.at (g + 64 * y.1) b
      · rw [f5 b hby]
      · rw [q1' b (by simpa [Eff.at, f3] using hby), q1 b hby, p1 b hbx]

/-- Many steps, with a row of what each touched. -/
def runG (call : CallT) (M : Nat → Mode) (G : Nat → Option (List D)) (stamp : Bool) (N g : Nat) (s : Sup) : List (Nat × RO) → (Nat → V) → (Nat → Box) → Option ((Nat → V) × (Nat → Box) × List (List Nat × Bool))
  | [], τ, H => some (τ, H, [])
  | x :: r, τ, H => match step1 call M G stamp N g s x τ H with
    | some (τ', H', l) => match runG call M G stamp N g s r τ' H' with
      | some (τ'', H'', ls) => some (τ'', H'', l :: ls)
      | none => none
    | none => none

theorem runG_cons {x : Nat × RO} {r : List (Nat × RO)} {τ τ' : Nat → V} {H H' : Nat → Box} {L : List (List Nat × Bool)} :
    runG call M G stamp N g s (x :: r) τ H = some (τ', H', L) ↔ ∃ τ1 H1 l L', step1 call M G stamp N g s x τ H = some (τ1, H1, l) ∧ runG call M G stamp N g s r τ1 H1 = some (τ', H', L') ∧ L = l :: L' := by
  simp only [runG]
  cases step1 call M G stamp N g s x τ H with
  | none => simp
  | some p =>
    obtain ⟨τ1, H1, l⟩ := p
    simp only
    cases hr : runG call M G stamp N g s r τ1 H1 with
    | none =>
      constructor
      · intro h; cases h
      · rintro ⟨_, _, _, _, h1, h2, _⟩; cases h1; rw [hr] at h2; cases h2
    | some q =>
      obtain ⟨a, b, c⟩ := q
      constructor
      · intro h; cases h; exact ⟨_, _, _, _, rfl, hr, rfl⟩
      · rintro ⟨_, _, _, _, h1, h2, h3⟩; cases h1; rw [hr] at h2; cases h2; rw [h3]

/-- One that is apart from all ahead of it goes to the front. -/
theorem runG_front : ∀ (l1 : List (Nat × RO)) (x : Nat × RO) (l2 : List (Nat × RO)) (L1 : List (List Nat × Bool)) (lx : List Nat × Bool) (L2 : List (List Nat × Bool)) (τ τ' : Nat → V) (H H' : Nat → Box),
    L1.length = l1.length → (∀ p ∈ l1.zip L1, p.1.1 ≠ x.1 ∧ apart p.1.2 x.2 = true ∧ ncW g p.1.1 x.1 p.2 lx = true) →
    runG call M G stamp N g s (l1 ++ x :: l2) τ H = some (τ', H', L1 ++ lx :: L2) → runG call M G stamp N g s (x :: (l1 ++ l2)) τ H = some (τ', H', lx :: (L1 ++ L2))
  | [], x, l2, L1, lx, L2, τ, τ', H, H', hl, ha, h => by
    cases L1 with
    | nil => exact h
    | cons => simp at hl
  | y :: l1, x, l2, [], lx, L2, τ, τ', H, H', hl, ha, h => by simp at hl
  | y :: l1, x, l2, ly :: L1, lx, L2, τ, τ', H, H', hl, ha, h => by
    simp only [List.cons_append] at h
    obtain ⟨τ1, H1, l, L', h1, h2, h3⟩ := runG_cons.1 h
    simp only [List.cons_append, List.cons.injEq] at h3
    obtain ⟨rfl, rfl⟩ := h3
    have := runG_front l1 x l2 L1 lx L2 τ1 τ' H1 H' (by simpa using hl) (fun p hp => ha p (by simp [hp])) h2
    obtain ⟨τ2, H2, l, L', k1, k2, k3⟩ := runG_cons.1 this
    cases k3
    obtain ⟨hne, hap, hnc⟩ := ha (y, ly) (by simp)
    obtain ⟨τ3, H3, m1, m2⟩ := step_swap hne hap hnc h1 k1
    exact runG_cons.2 ⟨τ3, H3, lx, _, m1, runG_cons.2 ⟨τ2, H2, ly, _, m2, k2, rfl⟩, rfl⟩

end
end Go.VM
