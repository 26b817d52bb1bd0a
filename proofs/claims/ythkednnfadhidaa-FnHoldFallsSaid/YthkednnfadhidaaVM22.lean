/- The value machine: a region whose order is drawn. Conditions: none. -/
import Derived.Test.YthkednnfadhidaaVM21
import Derived.Orders
namespace Go.VM
set_option linter.unusedVariables false
set_option linter.unusedSimpArgs false
set_option linter.unusedSectionVars false

/-- What a row of sets of what goes ahead must say. -/
def bfAt (bf : List Nat) (i j : Nat) : Bool := (bf.getD i 0).testBit j
def dregOk (ops : Array Oper) (ros : List RO) (bf : List Nat) : Bool :=
  bf.length == ops.size && ros.length == ops.size &&
  (List.range ops.size).all fun i =>
    ((ops[i]?).map (·.after.all fun e => !Region.binds .any e || decide (e.on < i))).getD false &&
    (List.range i).all fun j =>
      (!bfAt bf i j || ((ops[i]?).map (·.after.toList.any fun e => Region.binds .any e && (e.on == j || (decide (j < e.on) && bfAt bf e.on j)))).getD false) &&
      (bfAt bf i j || apart (ros.getD j default) (ros.getD i default))

section
variable {call : CallT} {M : Nat → Mode} {G : Nat → Option (List D)} {stamp : Bool} {N g : Nat} {s : Sup}

theorem runG_length : ∀ (l : List (Nat × RO)) {τ τ' : Nat → V} {H H' : Nat → Box} {L : List (List Nat × Bool)}, runG call M G stamp N g s l τ H = some (τ', H', L) → L.length = l.length
  | [], τ, τ', H, H', L, h => by simp [runG] at h; simp [h.2.2.symm]
  | x :: r, τ, τ', H, H', L, h => by
    obtain ⟨τ1, H1, l, L', h1, h2, rfl⟩ := runG_cons.1 h
    simp [runG_length r h2]

theorem runG_runL : ∀ (l : List (Nat × RO)) {τ τ' : Nat → V} {H H' : Nat → Box} {L : List (List Nat × Bool)}, runG call M G stamp N g s l τ H = some (τ', H', L) → runL call M G stamp N g s l τ H = some (τ', H')
  | [], τ, τ', H, H', L, h => by simp [runG] at h; simp [runL, h.1, h.2.1]
  | x :: r, τ, τ', H, H', L, h => by
    obtain ⟨τ1, H1, l, L', h1, h2, rfl⟩ := runG_cons.1 h
    obtain ⟨e, he, hp, rfl, rfl⟩ := step1_some h1
    obtain ⟨i, o⟩ := x
    simp only [runL, he, hp]
    exact runG_runL r h2

theorem regL_runG : ∀ (ros : List RO) (i : Nat) {τ τ' : Nat → V} {H H' : Nat → Box} {L : List (List Nat × Bool)}, regL call M G stamp N g s i ros τ H = some (τ', H', L) →
    runG call M G stamp N g s ((List.range' i ros.length).zip ros) τ H = some (τ', H', L)
  | [], i, τ, τ', H, H', L, h => by simpa [regL, runG] using h
  | r :: ros, i, τ, τ', H, H', L, h => by
    simp only [regL] at h
    split at h
    · rename_i e he
      split at h
      · rename_i τ1 hp
        split at h
        · rename_i τ2 H2 l hr
          cases h
          simp only [List.length_cons, List.range'_succ, List.zip_cons_cons]
          exact runG_cons.2 ⟨τ1, e.H, _, l, by simp [step1, he, hp], regL_runG ros (i + 1) hr, rfl⟩
        · cases h
      · cases h
    · cases h

/-- What calm says. -/
def Calm (g : Nat) (bf : List Nat) (l : List ((Nat × RO) × (List Nat × Bool))) : Prop :=
  l.Pairwise fun p q => bfAt bf q.1.1 p.1.1 = true ∨ ncW g p.1.1 q.1.1 p.2 q.2 = true

theorem calmWith_at {x : List Nat × Bool} {i : Nat} : ∀ (L : List (List Nat × Bool)) (j : Nat) (bf : List Nat), calmWith g x i j L bf = true → ∀ k y b, L[k]? = some y → bf[k]? = some b →
    b.testBit i = true ∨ ncW g i (j + k) x y = true
  | [], j, bf, h, k, y, b, hy, hb => by simp at hy
  | z :: L, j, [], h, k, y, b, hy, hb => by simp at hb
  | z :: L, j, c :: bf, h, k, y, b, hy, hb => by
    simp only [calmWith, Bool.and_eq_true, Bool.or_eq_true] at h
    match k with
    | 0 => simp at hy hb; subst hy hb; exact h.1
    | k + 1 =>
      have := calmWith_at L (j + 1) bf h.2 k y b (by simpa using hy) (by simpa using hb)
      rwa [show j + 1 + k = j + (k + 1) by omega] at this

theorem calm_calm : ∀ (L : List (List Nat × Bool)) (ros : List RO) (i : Nat) (bf bf0 : List Nat), calm g i L bf = true → bf.length = L.length → (∀ k, bf[k]? = bf0[i + k]?) →
    Calm g bf0 (((List.range' i ros.length).zip ros).zip L)
  | [], ros, i, bf, bf0, h, hl, hb => by simp [Calm]
  | x :: L, [], i, bf, bf0, h, hl, hb => by simp [Calm]
  | x :: L, r :: ros, i, [], bf0, h, hl, hb => by simp at hl
  | x :: L, r :: ros, i, c :: bf, bf0, h, hl, hb => by
    simp only [calm, Bool.and_eq_true] at h
    simp only [Calm, List.length_cons, List.range'_succ, List.zip_cons_cons, List.pairwise_cons]
    refine ⟨?_, calm_calm L ros (i + 1) bf bf0 h.2 (by simpa using hl) (fun k => by have := hb (k + 1); simpa [show i + 1 + k = i + (k + 1) by omega] using this)⟩
    intro q hq
    obtain ⟨k, hk⟩ := List.getElem?_of_mem hq
    simp only [List.getElem?_zip_eq_some, List.getElem?_range'] at hk
    obtain ⟨⟨h1, h2⟩, h3⟩ := hk
    have hkl : k < bf.length := by
      have : k < L.length := (List.getElem?_eq_some_iff.1 h3).1
      simp at hl; omega
    have hkb : bf[k]? = some bf[k] := List.getElem?_eq_getElem hkl
    have e1 : q.1.1 = i + 1 + k := by
      rw [List.getElem?_range' (List.getElem?_eq_some_iff.1 h2).1] at h1
      have := Option.some.inj h1
      omega
    have := calmWith_at L (i + 1) bf h.1 k q.2 bf[k] h3 hkb
    rw [e1]
    refine this.imp (fun ht => ?_) (fun h => h)
    have hb' := hb (k + 1)
    simp only [List.getElem?_cons_succ, hkb] at hb'
    simp only [bfAt, List.getD_eq_getElem?_getD]
    rw [show i + 1 + k = i + (k + 1) by omega, ← hb']
    exact ht

theorem sublist_zip {α β : Type} : ∀ (l1 : List α) (x : α) (l2 : List α) (L1 : List β) (y : β) (L2 : List β), L1.length = l1.length →
    ((l1 ++ l2).zip (L1 ++ L2)).Sublist ((l1 ++ x :: l2).zip (L1 ++ y :: L2))
  | [], x, l2, [], y, L2, h => by simp
  | [], x, l2, z :: L1, y, L2, h => by simp at h
  | a :: l1, x, l2, [], y, L2, h => by simp at h
  | a :: l1, x, l2, b :: L1, y, L2, h => by
    simp only [List.cons_append, List.zip_cons_cons]
    exact (sublist_zip l1 x l2 L1 y L2 (by simpa using h)).cons_cons _

/-- Any order that keeps to the edges gives what the text's order gives. -/
theorem perm {ops : Array Oper} {ros : List RO} {bf : List Nat} (hok : dregOk ops ros bf = true) :
    ∀ (fuel t : Nat) (listed : Array Bool) (l : List (Nat × RO)) (L : List (List Nat × Bool)) (τ τ' : Nat → V) (H H' : Nat → Box),
      fuel = l.length → listed.size = ops.size → (∀ i, i ∈ l.map (·.1) ↔ listed.getD i true = false) → (l.map (·.1)).Pairwise (· < ·) →
      (∀ p ∈ l, ros[p.1]? = some p.2) → (∀ i, i < ops.size → listed.getD i true = true → ∀ j, j < i → bfAt bf i j = true → listed.getD j true = true) →
      Calm g bf (l.zip L) → runG call M G stamp N g s l τ H = some (τ', H', L) →
      ∃ l' : List (Nat × RO), l'.map (·.1) = Region.linearise.go .any ops fuel t listed [] ∧ (l'.map (·.1)).Nodup ∧ (∀ p ∈ l', p ∈ l) ∧ runL call M G stamp N g s l' τ H = some (τ', H')
  | 0, t, listed, l, L, τ, τ', H, H', hf, hs, hl, hp, hr, hcl, hc, h => by
    have : l = [] := List.eq_nil_of_length_eq_zero hf.symm
    subst this
    exact ⟨[], by simp [Region.linearise.go], by simp, by simp, runG_runL _ h⟩
  | fuel + 1, t, listed, l, L, τ, τ', H, H', hf, hs, hl, hp, hr, hcl, hc, h => by
    simp only [dregOk, Bool.and_eq_true, beq_iff_eq, List.all_eq_true, List.mem_range, Bool.or_eq_true, Bool.not_eq_true'] at hok
    obtain ⟨⟨ok1, ok2⟩, ok3⟩ := hok
    have hlt : ∀ i, i ∈ l.map (·.1) → i < ops.size := fun i hi => by
      have := (hl i).1 hi
      rw [← hs]
      by_cases hlt : i < listed.size
      · exact hlt
      · simp [Array.getD, hlt] at this
    have hedge : ∀ i, i < ops.size → ∀ o, ops[i]? = some o → ∀ e ∈ o.after, Region.binds .any e = true → e.on < i := fun i hi o ho e he hb => by
      have := (ok3 i hi).1
      rw [ho] at this
      simp only [Option.map_some, Option.getD_some, Array.all_eq_true_iff_forall_mem, Bool.or_eq_true, Bool.not_eq_true', decide_eq_true_eq] at this
      have := this e he
      rw [hb] at this
      simpa using this
    -- someone is ready
    have hne : Region.ready .any ops listed ≠ [] := by
      cases l with
      | nil => simp at hf
      | cons x l =>
        have hx : x.1 ∈ (x :: l).map (·.1) := by simp
        have hx2 := hlt _ hx
        obtain ⟨o, ho⟩ : ∃ o, ops[x.1]? = some o := ⟨ops[x.1], by simp [hx2]⟩
        have : x.1 ∈ Region.ready .any ops listed := by
          simp only [Region.ready, List.mem_filter, List.mem_range, Bool.and_eq_true, Bool.not_eq_true']
          refine ⟨hx2, (hl _).1 hx, ?_⟩
          rw [ho]
          simp only [Option.map_some, Option.getD_some, Array.all_eq_true_iff_forall_mem, Bool.or_eq_true, Bool.not_eq_true']
          intro e he
          cases hb : Region.binds .any e with
          | false => exact .inl rfl
          | true =>
            have h1 := hedge x.1 hx2 o ho e he hb
            right
            have h2 : ¬ e.on ∈ (x :: l).map (·.1) := by
              simp only [List.map_cons, List.pairwise_cons] at hp
              simp only [List.map_cons, List.mem_cons, not_or]
              exact ⟨by omega, fun hm => by have := hp.1 _ hm; omega⟩
            have h3 : e.on < listed.size := by omega
            have h4 := mt (hl e.on).2 h2
            simp [Array.getD, h3] at h4 ⊢
            exact h4
        intro e
        rw [e] at this
        simp at this
    simp only [Region.linearise.go]
    change ∃ l' : List (Nat × RO), l'.map (·.1) = (match (Region.ready .any ops listed)[t % (Region.ready .any ops listed).length]? with
      | some i => Region.linearise.go .any ops fuel (t / (Region.ready .any ops listed).length) (listed.setIfInBounds i true) [i]
      | none => [].reverse) ∧ _
    cases hi : (Region.ready .any ops listed)[t % (Region.ready .any ops listed).length]? with
    | none =>
      exfalso
      have h1 : (Region.ready .any ops listed).length ≤ t % (Region.ready .any ops listed).length := List.getElem?_eq_none_iff.1 hi
      have h2 : 0 < (Region.ready .any ops listed).length := List.length_pos_iff.2 hne
      have := Nat.mod_lt t h2
      omega
    | some i =>
      have him := List.mem_of_getElem? hi
      simp only [Region.ready, List.mem_filter, List.mem_range, Bool.and_eq_true, Bool.not_eq_true'] at him
      obtain ⟨i1, i2, i3⟩ := him
      have hil := (hl i).2 i2
      obtain ⟨o, ho⟩ : ∃ o, ops[i]? = some o := ⟨ops[i], by simp [i1]⟩
      rw [ho] at i3
      simp only [Option.map_some, Option.getD_some, Array.all_eq_true_iff_forall_mem, Bool.or_eq_true, Bool.not_eq_true'] at i3
      obtain ⟨⟨i', r⟩, hx, rfl⟩ := List.mem_map.1 hil
      obtain ⟨l1, l2, rfl⟩ := List.append_of_mem hx
      simp only at *
      have hLl := runG_length _ h
      obtain ⟨L1, L2', hL, hL1⟩ : ∃ L1 L2', L = L1 ++ L2' ∧ L1.length = l1.length := ⟨L.take l1.length, L.drop l1.length, by simp, by simp at hLl ⊢; omega⟩
      subst hL
      cases L2' with
      | nil => simp at hLl; omega
      | cons lx L2 =>
      -- what goes ahead of it has been listed
      have hbf : ∀ j, j < i' → bfAt bf i' j = true → listed.getD j true = true := fun j hj hb => by
        have := ((ok3 i' i1).2 j hj).1
        rw [hb, ho] at this
        simp only [Bool.true_eq_false, Option.map_some, Option.getD_some, List.any_eq_true, Bool.and_eq_true, Bool.or_eq_true, beq_iff_eq, false_or, decide_eq_true_eq, Array.mem_toList_iff] at this
        obtain ⟨e, he, hb2, hor⟩ := this
        have h1 := hedge i' i1 o ho e he hb2
        have h2 : listed.getD e.on false = true := by
          have := i3 e he
          rw [hb2] at this
          simpa using this
        have h2' : listed.getD e.on true = true := by
          have h3 : e.on < listed.size := by omega
          simp [Array.getD, h3] at h2 ⊢; exact h2
        rcases hor with rfl | hor
        · exact h2'
        · exact hcl e.on (by omega) h2' j hor.1 hor.2
      have hahead : ∀ p ∈ l1.zip L1, p.1.1 ≠ i' ∧ apart p.1.2 r = true ∧ ncW g p.1.1 i' p.2 lx = true := by
        intro p hpm
        have hp1 := (List.of_mem_zip hpm).1
        have hlt1 : p.1.1 < i' := by
          simp only [List.map_append, List.map_cons, List.pairwise_append] at hp
          exact hp.2.2 _ (List.mem_map.2 ⟨_, hp1, rfl⟩) _ (List.mem_cons_self ..)
        have hun : listed.getD p.1.1 true = false := (hl _).1 (by simp only [List.map_append, List.mem_append]; exact .inl (List.mem_map.2 ⟨_, hp1, rfl⟩))
        have hnb : bfAt bf i' p.1.1 = false := by
          cases hb : bfAt bf i' p.1.1 with
          | false => rfl
          | true => rw [hbf _ hlt1 hb] at hun; cases hun
        refine ⟨by omega, ?_, ?_⟩
        · have := ((ok3 i' i1).2 p.1.1 hlt1).2
          rw [hnb] at this
          have e1 := hr p.1 (by simp [hp1])
          have e2 := hr (i', r) (by simp)
          simp only [List.getD_eq_getElem?_getD, e1, e2, Option.getD_some] at this
          simpa using this
        · have : (l1 ++ (i', r) :: l2).zip (L1 ++ lx :: L2) = l1.zip L1 ++ ((i', r), lx) :: l2.zip L2 := by
            rw [List.zip_append hL1.symm]; rfl
          rw [this] at hc
          simp only [Calm, List.pairwise_append] at hc
          have := hc.2.2 p hpm ((i', r), lx) (List.mem_cons_self ..)
          simp only [hnb] at this
          simpa using this
      have hfront := runG_front l1 (i', r) l2 L1 lx L2 τ τ' H H' hL1 hahead h
      obtain ⟨τ1, H1, ly, L', k1, k2, k3⟩ := runG_cons.1 hfront
      cases k3
      have hset : ∀ j, (listed.setIfInBounds i' true).getD j true = if j = i' then true else listed.getD j true := fun j => by
        simp only [Array.getD_eq_getD_getElem?, Array.getElem?_setIfInBounds]
        by_cases e : i' = j
        · subst e; simp [hs, i1]
        · simp [e, Ne.symm e]
      have hnd : ∀ j, j ∈ (l1 ++ l2).map (·.1) ↔ j ∈ (l1 ++ (i', r) :: l2).map (·.1) ∧ j ≠ i' := fun j => by
        simp only [List.map_append, List.map_cons, List.mem_append, List.mem_cons]
        simp only [List.map_append, List.map_cons, List.pairwise_append, List.pairwise_cons, List.mem_cons] at hp
        constructor
        · rintro (hm | hm)
          · exact ⟨.inl hm, by have := hp.2.2 j hm i' (.inl rfl); omega⟩
          · exact ⟨.inr (.inr hm), by have := hp.2.1.1 j hm; omega⟩
        · rintro ⟨hm | hm | hm, hne⟩
          · exact .inl hm
          · exact absurd hm hne
          · exact .inr hm
      have hsub : ((l1 ++ l2).map (·.1)).Sublist ((l1 ++ (i', r) :: l2).map (·.1)) := by
        simp only [List.map_append, List.map_cons]
        exact (List.Sublist.refl _).append (List.sublist_cons_self ..)
      obtain ⟨l', m1, m2, m3, m4⟩ := perm (by simp only [dregOk, Bool.and_eq_true, beq_iff_eq, List.all_eq_true, List.mem_range, Bool.or_eq_true, Bool.not_eq_true']; exact ⟨⟨ok1, ok2⟩, ok3⟩) fuel (t / (Region.ready .any ops listed).length) (listed.setIfInBounds i' true) (l1 ++ l2) (L1 ++ L2) τ1 τ' H1 H'
        (by simp at hf ⊢; omega) (by simp [hs]) (fun j => by rw [hnd, hset, hl]; by_cases e : j = i' <;> simp [e])
        (hp.sublist hsub) (fun p hp => hr p (by simp only [List.mem_append, List.mem_cons] at hp ⊢; rcases hp with h | h; exact .inl h; exact .inr (.inr h)))
        (fun a ha hla j hj hb => by
          rw [hset] at hla ⊢
          split
          · rfl
          · split at hla
            · rename_i e; subst e; exact hbf j hj hb
            · exact hcl a ha hla j hj hb)
        (hc.sublist (sublist_zip l1 (i', r) l2 L1 lx L2 hL1)) k2
      refine ⟨(i', r) :: l', ?_, ?_, ?_, ?_⟩
      · show ((i', r) :: l').map (·.1) = Region.linearise.go .any ops fuel (t / (Region.ready .any ops listed).length) (listed.setIfInBounds i' true) [i']
        rw [linearise_go_acc, List.reverse_singleton, List.singleton_append, List.map_cons, m1]
      · simp only [List.map_cons, List.nodup_cons]
        refine ⟨fun hm => ?_, m2⟩
        obtain ⟨p, hp, he⟩ := List.mem_map.1 hm
        exact ((hnd i').1 (List.mem_map.2 ⟨p, m3 p hp, he⟩)).2 rfl
      · intro p hp
        simp only [List.mem_cons] at hp
        rcases hp with rfl | hp
        · simp
        · have := m3 p hp
          simp only [List.mem_append, List.mem_cons] at this ⊢
          rcases this with h | h
          · exact .inl h
          · exact .inr (.inr h)
      · obtain ⟨e, he, hp, rfl, rfl⟩ := step1_some k1
        simp only [runL, he, hp]
        exact m4

end
end Go.VM
