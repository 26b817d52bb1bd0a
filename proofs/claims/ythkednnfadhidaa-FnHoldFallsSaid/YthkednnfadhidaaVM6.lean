/- The value machine: freezing keeps the frame, and what is frozen reads as it did. Conditions: none. -/
import Derived.Test.YthkednnfadhidaaVM5
namespace Go.VM
set_option linter.unusedVariables false
set_option linter.unusedSimpArgs false
set_option linter.unusedSectionVars false

section
variable {P : Program} {fid : Nat → FuncId} {cid : FuncId → Nat} {G : Nat → Option (List D)} {E : Entry} {κ : Ctx} {H : Nat → Box} {FN FZ : Nat → Prop} {g : Nat} {s : Sup}

theorem seg_get {α : Type} (rows : List α) (off len i : Nat) : ((rows.drop off).take len)[i]? = if i < len then rows[off + i]? else none := by
  rw [List.getElem?_take]
  split <;> simp

/-- An owned slice whose rows are laid down for good reads as data. -/
theorem own_data {v : Value} {b off len : Nat} {cap : Option Nat} {st : Option Nat} {sz : Nat} {rows : List (List D)} {ro : Nat} {i : Inf} {t : Nat} {κ' : Ctx}
    (I : Inv fid G E κ H FN FZ) (hH : H b = .row st sz rows ro) (hv : WRel fid κ v (.own b off len cap)) (hb : κ.β b = some i) (hfit : off + len ≤ rows.length)
    (hw : κ'.w = κ.w) (hle : κ.le κ') (him : ∀ o, i.real = true → i.δ ≤ o → o < i.δ + (off + len) * sz → κ'.Im i.blk o) (hz : t ≠ 0 → i.real = true → κ'.ζ t = some i.blk) :
    κ'.rel v (.l t ((rows.drop off).take len)) := by
  obtain ⟨i', cap', hb', hc, hlc, ⟨rfl, rfl, rfl⟩ | ⟨hr, o, rfl, ho⟩⟩ := hv
  · simp only [List.take_zero]; exact .nil t
  · rw [hb] at hb'; cases hb'
    have hbox := I.box b
    rw [hH] at hbox
    obtain ⟨i'', hb'', hsz, hlen, ⟨hr', _⟩ | ⟨arr, T, q⟩⟩ := hbox <;> (rw [hb] at hb''; cases hb'')
    · rw [hr] at hr'; cases hr'
    · have hlt : i.blk < κ'.w.heap.size := by rw [hw]; exact lt_of_heap q.heap
      have hll : ((rows.drop off).take len).length = len := by simp; omega
      have hlen' : ∀ (k : Nat) (row : List D), ((rows.drop off).take len)[k]? = some row → row.length = sz := by
        intro k row hk
        rw [seg_get] at hk
        split at hk
        · exact hlen row (List.mem_of_getElem? hk)
        · cases hk
      suffices key : κ'.rel (.slice (some ⟨i.blk, o, none⟩) ((rows.drop off).take len).length cap') (.l t ((rows.drop off).take len)) by rw [hll] at key; exact key
      rcases Nat.eq_zero_or_pos len with h0 | h0
      · refine .l t _ i.blk o cap' sz (fun _ _ => undef) hlen' (by rw [hll]; exact hlc) hlt ?_ ?_ ?_ (fun h => hz h hr)
        · intro k j hk; rw [hll] at hk; omega
        · intro k j hk; rw [hll] at hk; omega
        · intro k row j x hk; rw [seg_get, h0] at hk; simp at hk
      · have ho' : o = i.δ + off * i.sz := by rcases ho with h | h; omega; exact h.1
        rw [hsz] at ho'
        have cell : ∀ k j, k < len → j < sz → ∃ x row y, rows[off + k]? = some row ∧ row[j]? = some x ∧ arr[o + k * sz + j]? = some y ∧ κ.rel y x := by
          intro k j hk hj
          have h1 : off + k < rows.length := by omega
          have h2 : rows[off + k]? = some rows[off + k] := List.getElem?_eq_getElem h1
          have h3 : (rows[off + k]).length = sz := hlen _ (List.getElem_mem h1)
          have h4 : (rows[off + k])[j]? = some (rows[off + k])[j] := List.getElem?_eq_getElem (by omega)
          obtain ⟨y, hy, hyr⟩ := q.rows _ _ h2 _ _ h4
          refine ⟨_, _, y, h2, h4, ?_, hyr⟩
          rw [← hy, hsz]; congr 1; rw [ho', Nat.add_mul]; omega
        refine .l t _ i.blk o cap' sz (fun k j => (arr[o + k * sz + j]?).getD undef) hlen' (by rw [hll]; exact hlc) hlt ?_ ?_ ?_ (fun h => hz h hr)
        · intro k j hk hj
          rw [hll] at hk
          obtain ⟨x, row, y, _, _, hy, _⟩ := cell k j hk hj
          rw [hw, cell_of q.heap, hy]; rfl
        · intro k j hk hj
          rw [hll] at hk
          refine him _ hr (by omega) ?_
          have : (off + k + 1) * sz ≤ (off + len) * sz := Nat.mul_le_mul_right _ (by omega)
          rw [Nat.add_mul, Nat.add_mul] at this
          rw [ho']; simp at this; omega
        · intro k row j x hk hj
          rw [seg_get] at hk
          split at hk
          · rename_i hkl
            have hjs : j < sz := by
              have := hlen row (List.mem_of_getElem? hk)
              have := List.getElem?_eq_some_iff.1 hj
              obtain ⟨h, _⟩ := this; omega
            obtain ⟨x', row', y, hk', hj', hy, hyr⟩ := cell k j hkl hjs
            rw [hk] at hk'; cases hk'
            rw [hj] at hj'; cases hj'
            show Rel κ'.w κ'.Im κ'.ζ _ _
            rw [hy]; exact hle.rel hyr
          · cases hk

/-- What freezing leaves: the stamps from k on are still free. -/
structure Frozen (fid : Nat → FuncId) (G : Nat → Option (List D)) (E : Entry) (κ : Ctx) (FN FZ : Nat → Prop) (s : Sup) (z : Fz) (κ' : Ctx) (z' : Fz) : Prop where
  w : κ'.w = κ.w
  β : κ'.β = κ.β
  le : κ.le κ'
  k : z.k ≤ z'.k
  inv : Inv fid G E κ' z'.H FN (fun t => FZ t ∧ ∀ k, k < z'.k → t ≠ s k)

theorem Frozen.trans {κ₁ κ₂ : Ctx} {z z₁ z₂ : Fz} (h : Frozen fid G E κ FN FZ s z κ₁ z₁) (h' : Frozen fid G E κ₁ FN FZ s z₁ κ₂ z₂) : Frozen fid G E κ FN FZ s z κ₂ z₂ :=
  ⟨h'.w.trans h.w, h'.β.trans h.β, h.le.trans h'.le, Nat.le_trans h.k h'.k, h'.inv⟩

theorem frzW_ok {stamp : Bool} (hinj : ∀ a b, s a = s b → a = b) (hs : ∀ k, FZ (s k)) {z z' : Fz} {x y : W} {v : Value}
    (I : Inv fid G E κ z.H FN (fun t => FZ t ∧ ∀ k, k < z.k → t ≠ s k)) (hv : WRel fid κ v x) (h : frzW stamp s z x = some (y, z')) :
    ∃ κ', Frozen fid G E κ FN FZ s z κ' z' ∧ WRel fid κ' v y ∧ (∀ b off len cap, y ≠ .own b off len cap) ∧ (∀ a b, y ≠ .ln a b) ∧ y ≠ .nil := by
  have same : ∀ y, some (x, z) = some (y, z') → (∀ b off len cap, x ≠ .own b off len cap) → (∀ a b, x ≠ .ln a b) → x ≠ .nil →
      ∃ κ', Frozen fid G E κ FN FZ s z κ' z' ∧ WRel fid κ' v y ∧ (∀ b off len cap, y ≠ .own b off len cap) ∧ (∀ a b, y ≠ .ln a b) ∧ y ≠ .nil := by
    intro y h n1 n2 n3
    cases h
    exact ⟨κ, ⟨rfl, rfl, Ctx.le.refl κ, Nat.le_refl _, I⟩, hv, n1, n2, n3⟩
  cases x with
  | own b off len cap =>
    simp only [frzW] at h
    split at h
    · rename_i st sz rows ro hH
      split at h
      · rename_i hfit
        generalize ht0 : stampOf stamp s z.k st = t at h
        cases h
        obtain ⟨i, cap', hb, rest⟩ := id hv
        have ht : (st = some t) ∨ (st = none ∧ (t = 0 ∨ (FZ t ∧ ∀ k, k < z.k → t ≠ s k))) := by
          cases st with
          | some t' => left; simpa [stampOf] using ht0
          | none =>
            refine .inr ⟨rfl, ?_⟩
            cases stamp with
            | false => left; simpa [stampOf] using ht0.symm
            | true => simp [stampOf] at ht0; subst ht0; exact .inr ⟨hs _, fun k hk e => by have := hinj _ _ e; omega⟩
        obtain ⟨κ', hw, hβ, hle, him, hz, I'⟩ := I.freeze t (off + len) hH hb ht hfit
        refine ⟨κ', ⟨hw, hβ, hle, Nat.le_succ _, ?_⟩, own_data I hH hv hb hfit hw hle him hz, by simp, by simp, by simp⟩
        refine I'.weak (fun _ h => h) ?_
        rintro a ⟨ha1, ha2⟩
        have ha3 : ∀ k, k < z.k → a ≠ s k := fun k hk => ha2 k (by show k < z.k + 1; omega)
        refine ⟨⟨ha1, ha3⟩, ?_⟩
        cases st with
        | some t' => exact .inr (by simp)
        | none =>
          left
          cases stamp with
          | false => simp [stampOf] at ht0; subst ht0; exact (I.zfree a ⟨ha1, ha3⟩).2.1
          | true => simp [stampOf] at ht0; subst ht0; exact ha2 z.k (Nat.lt_succ_self _)
      · cases h
    · cases h
  | nil =>
    cases h; cases hv
    exact ⟨κ, ⟨rfl, rfl, Ctx.le.refl κ, Nat.le_refl _, I⟩, .nil 0, by simp, by simp, by simp⟩
  | ln st rows =>
    cases h
    exact ⟨κ, ⟨rfl, rfl, Ctx.le.refl κ, Nat.le_refl _, I⟩, hv.1, by simp, by simp, by simp⟩
  | d x => exact same y h (by simp) (by simp) (by simp)
  | ptr b off => exact same y h (by simp) (by simp) (by simp)
  | rp b i off => exact same y h (by simp) (by simp) (by simp)
  | lp row off => exact same y h (by simp) (by simp) (by simp)
  | gp k off => exact same y h (by simp) (by simp) (by simp)
  | fn f caps => exact same y h (by simp) (by simp) (by simp)

theorem frzL_ok {stamp : Bool} (hinj : ∀ a b, s a = s b → a = b) (hs : ∀ k, FZ (s k)) : ∀ {cs ys : List W} {z z' : Fz} {vs : List Value} {κ : Ctx},
    Inv fid G E κ z.H FN (fun t => FZ t ∧ ∀ k, k < z.k → t ≠ s k) → vs.length = cs.length → (∀ (i : Nat) (c : W), cs[i]? = some c → ∃ x : Value, vs[i]? = some x ∧ WRel fid κ x c) →
    frzL stamp s z cs = some (ys, z') →
    ∃ κ', Frozen fid G E κ FN FZ s z κ' z' ∧ vs.length = ys.length ∧ ∀ (i : Nat) (c : W), ys[i]? = some c → ∃ x : Value, vs[i]? = some x ∧ WRel fid κ' x c
  | [], ys, z, z', vs, κ, I, hl, hv, h => by
    cases h
    exact ⟨κ, ⟨rfl, rfl, Ctx.le.refl κ, Nat.le_refl _, I⟩, hl, hv⟩
  | c :: r, ys, z, z', vs, κ, I, hl, hv, h => by
    simp only [frzL] at h
    split at h
    · rename_i y z₁ h₁
      split at h
      · rename_i l z₂ h₂
        cases h
        match vs, hl, hv with
        | v :: vr, hl, hv =>
          obtain ⟨v', e, hv0⟩ := hv 0 c rfl
          cases e
          obtain ⟨κ₁, f₁, r₁, _⟩ := frzW_ok hinj hs I hv0 h₁
          obtain ⟨κ₂, f₂, hl₂, r₂⟩ := frzL_ok hinj hs (vs := vr) f₁.inv (by simpa using hl) (fun i d hi => let ⟨x, hx, q⟩ := hv (i + 1) d (by simpa using hi); ⟨x, by simpa using hx, q.mono f₁.le⟩) h₂
          refine ⟨κ₂, f₁.trans f₂, by simp [hl₂], fun i d hi => ?_⟩
          match i with
          | 0 => simp at hi; subst hi; exact ⟨v, rfl, r₁.mono f₂.le⟩
          | i + 1 => simpa using r₂ i d (by simpa using hi)
      · cases h
    · cases h

theorem frzP_ok {stamp : Bool} (hinj : ∀ a b, s a = s b → a = b) (hs : ∀ k, FZ (s k)) : ∀ {ps ys : List (Bool × List W)} {z z' : Fz} {vs : List Value} {κ : Ctx},
    Inv fid G E κ z.H FN (fun t => FZ t ∧ ∀ k, k < z.k → t ≠ s k) → vs.length = ps.length → (∀ (i : Nat) (c : Bool × List W), ps[i]? = some c → ∃ x : Value, vs[i]? = some x ∧ PRel fid κ x c) →
    frzP stamp s z ps = some (ys, z') →
    ∃ κ', Frozen fid G E κ FN FZ s z κ' z' ∧ vs.length = ys.length ∧ ∀ (i : Nat) (c : Bool × List W), ys[i]? = some c → ∃ x : Value, vs[i]? = some x ∧ PRel fid κ' x c
  | [], ys, z, z', vs, κ, I, hl, hv, h => by
    cases h
    exact ⟨κ, ⟨rfl, rfl, Ctx.le.refl κ, Nat.le_refl _, I⟩, hl, hv⟩
  | c :: r, ys, z, z', vs, κ, I, hl, hv, h => by
    simp only [frzP] at h
    split at h
    · rename_i y z₁ h₁
      split at h
      · rename_i l z₂ h₂
        cases h
        match vs, hl, hv with
        | v :: vr, hl, hv =>
          obtain ⟨v', e, hv0⟩ := hv 0 c rfl
          cases e
          have step : ∃ κ₁, Frozen fid G E κ FN FZ s z κ₁ z₁ ∧ PRel fid κ₁ v (c.1, y) := by
            obtain ⟨b, cs⟩ := c
            cases b with
            | true =>
              obtain ⟨arr, rfl, ha⟩ := hv0
              obtain ⟨κ₁, f₁, hl₁, r₁⟩ := frzL_ok hinj hs (vs := arr.toList) I (by simpa using ha.1) (fun i d hi => by simpa using ha.2 i d hi) h₁
              exact ⟨κ₁, f₁, arr, rfl, by simpa using hl₁, fun i d hi => by simpa using r₁ i d hi⟩
            | false =>
              match cs, hv0, h₁ with
              | [x], hv0, h₁ =>
                obtain ⟨κ₁, f₁, hl₁, r₁⟩ := frzL_ok hinj hs (vs := [v]) I rfl (fun i d hi => by
                  match i with
                  | 0 => simp at hi; subst hi; exact ⟨v, rfl, hv0⟩
                  | i + 1 => simp at hi) h₁
                match y, hl₁, r₁ with
                | [y0], _, r₁ => obtain ⟨_, e, q⟩ := r₁ 0 y0 rfl; cases e; exact ⟨κ₁, f₁, q⟩
          obtain ⟨κ₁, f₁, r₁⟩ := step
          obtain ⟨κ₂, f₂, hl₂, r₂⟩ := frzP_ok hinj hs (vs := vr) f₁.inv (by simpa using hl) (fun i d hi => let ⟨x, hx, q⟩ := hv (i + 1) d (by simpa using hi); ⟨x, by simpa using hx, q.mono f₁.le⟩) h₂
          refine ⟨κ₂, f₁.trans f₂, by simp [hl₂], fun i d hi => ?_⟩
          match i with
          | 0 => simp at hi; subst hi; exact ⟨v, rfl, r₁.mono f₂.le⟩
          | i + 1 => simpa using r₂ i d (by simpa using hi)
      · cases h
    · cases h

theorem frzV_ok {stamp : Bool} (hinj : ∀ a b, s a = s b → a = b) (hs : ∀ k, FZ (s k)) {z z' : Fz} {x y : V} {v : Value}
    (I : Inv fid G E κ z.H FN (fun t => FZ t ∧ ∀ k, k < z.k → t ≠ s k)) (hv : VRel fid κ v x) (h : frzV stamp s z x = some (y, z')) :
    ∃ κ', Frozen fid G E κ FN FZ s z κ' z' ∧ VRel fid κ' v y := by
  cases x with
  | w x =>
    simp only [frzV] at h
    split at h
    · rename_i y' z₁ h₁
      cases h
      obtain ⟨κ₁, f₁, r₁, _⟩ := frzW_ok hinj hs I hv h₁
      exact ⟨κ₁, f₁, r₁⟩
    · cases h
  | agg cs =>
    simp only [frzV] at h
    split at h
    · rename_i l z₁ h₁
      cases h
      obtain ⟨arr, rfl, ha⟩ := hv
      obtain ⟨κ₁, f₁, hl₁, r₁⟩ := frzL_ok hinj hs (vs := arr.toList) I (by simpa using ha.1) (fun i d hi => by simpa using ha.2 i d hi) h₁
      exact ⟨κ₁, f₁, arr, rfl, by simpa using hl₁, fun i d hi => by simpa using r₁ i d hi⟩
    · cases h
  | tup vs =>
    simp only [frzV] at h
    split at h
    · rename_i l z₁ h₁
      cases h
      obtain ⟨arr, rfl, hl, ha⟩ := hv
      obtain ⟨κ₁, f₁, hl₁, r₁⟩ := frzP_ok hinj hs (vs := arr.toList) I (by simpa using hl) (fun i d hi => by simpa using ha i d hi) h₁
      exact ⟨κ₁, f₁, arr, rfl, by simpa using hl₁, fun i d hi => by simpa using r₁ i d hi⟩
    · cases h

theorem frzA_ok {stamp : Bool} (hinj : ∀ a b, s a = s b → a = b) (hs : ∀ k, FZ (s k)) : ∀ {ps ys : List V} {z z' : Fz} {vs : List Value} {κ : Ctx},
    Inv fid G E κ z.H FN (fun t => FZ t ∧ ∀ k, k < z.k → t ≠ s k) → vs.length = ps.length → (∀ (i : Nat) (c : V), ps[i]? = some c → ∃ x : Value, vs[i]? = some x ∧ VRel fid κ x c) →
    frzA stamp s z ps = some (ys, z') →
    ∃ κ', Frozen fid G E κ FN FZ s z κ' z' ∧ vs.length = ys.length ∧ ∀ (i : Nat) (c : V), ys[i]? = some c → ∃ x : Value, vs[i]? = some x ∧ VRel fid κ' x c
  | [], ys, z, z', vs, κ, I, hl, hv, h => by
    cases h
    exact ⟨κ, ⟨rfl, rfl, Ctx.le.refl κ, Nat.le_refl _, I⟩, hl, hv⟩
  | c :: r, ys, z, z', vs, κ, I, hl, hv, h => by
    simp only [frzA] at h
    split at h
    · rename_i y z₁ h₁
      split at h
      · rename_i l z₂ h₂
        cases h
        match vs, hl, hv with
        | v :: vr, hl, hv =>
          obtain ⟨v', e, hv0⟩ := hv 0 c rfl
          cases e
          obtain ⟨κ₁, f₁, r₁⟩ := frzV_ok hinj hs I hv0 h₁
          obtain ⟨κ₂, f₂, hl₂, r₂⟩ := frzA_ok hinj hs (vs := vr) f₁.inv (by simpa using hl) (fun i d hi => let ⟨x, hx, q⟩ := hv (i + 1) d (by simpa using hi); ⟨x, by simpa using hx, q.mono f₁.le⟩) h₂
          refine ⟨κ₂, f₁.trans f₂, by simp [hl₂], fun i d hi => ?_⟩
          match i with
          | 0 => simp at hi; subst hi; exact ⟨v, rfl, r₁.mono f₂.le⟩
          | i + 1 => simpa using r₂ i d (by simpa using hi)
      · cases h
    · cases h

end
end Go.VM
