/- The value machine: comparisons, max and min, literals. Conditions: none. -/
import Derived.Test.YthkednnfadhidaaVM10
import Derived.Laws.StructEq
namespace Go.VM
set_option linter.unusedVariables false
set_option linter.unusedSimpArgs false
set_option linter.unusedSectionVars false

section
variable {P : Program} {fid : Nat → FuncId} {cid : FuncId → Nat} {G : Nat → Option (List D)} {E : Entry} {κ : Ctx} {H : Nat → Box} {FN FZ : Nat → Prop} {g : Nat} {s : Sup}
variable {ρ : Operand → Value} {ev : X → V} {o : Oper}

theorem part_one {w : World} {t : TypeId} {k : Nat} (hk : kindT P t = some k) {xs : Array Value} {j : Nat} {v : Value} (hx : xs[j]? = some v) : (part t xs j).run P w = .ok v w := by
  have ha : agg? P t = some false := by
    unfold kindT at hk
    unfold agg?
    split at hk <;> simp_all
  simp [part, run_agg ha, hx]

theorem eqCells_nil {p q : List W} {b : Bool} (h : eqCells [] p q = some b) : b = true := by
  cases p with
  | nil => cases q with
    | nil => simpa [eqCells] using h.symm
    | cons c r => simp [eqCells] at h
  | cons c r => simp [eqCells] at h

theorem eqCells_cons {k : Nat} {ks : List Nat} {p q : List W} {b : Bool} (h : eqCells (k :: ks) p q = some b) :
    ∃ a r a' q' x y, p = .d (.s a) :: r ∧ q = .d (.s a') :: q' ∧ eq1 k a a' = some x ∧ eqCells ks r q' = some y ∧ b = (x && y) := by
  match p, q, h with
  | .d (.s a) :: r, .d (.s a') :: q', h =>
    simp only [eqCells] at h
    split at h
    · rename_i x y hx hy
      cases h
      exact ⟨a, r, a', q', x, y, rfl, rfl, hx, hy, rfl⟩
    · cases h

theorem eq1_run {w : World} {t : TypeId} {k : Nat} {a b : Value} {x : Bool} (hk : kindT P t = some k) (h : eq1 k a b = some x) (d : Nat) : (Op.equalIn (d + 1) t a b).run P w = .ok x w := by
  unfold kindT at hk
  split at hk
  · rename_i hu; cases hk
    cases a <;> cases b <;> simp [eq1] at h
    subst h; exact run_equalIn_bool' w d t _ _ hu
  · rename_i hu; cases hk
    cases a <;> cases b <;> simp [eq1] at h
    obtain ⟨rfl, rfl⟩ := h
    exact run_equalIn_int w d t _ _ _ _ hu
  · rename_i hu; cases hk
    cases a <;> cases b <;> simp [eq1] at h
    subst h; exact run_equalIn_string w d t _ _ hu
  · cases hk

theorem eqFields_run {w : World} (d : Nat) {xs ys : Array Value} : ∀ {fs : List Field} {n : Nat} {ks : List Nat} {p q : List W} {b : Bool}, flat P n fs = some ks →
    (∀ (i : Nat) (c : W), p[i]? = some c → ∃ x : Value, xs[n + i]? = some x ∧ WRel fid κ x c) → (∀ (i : Nat) (c : W), q[i]? = some c → ∃ x : Value, ys[n + i]? = some x ∧ WRel fid κ x c) →
    eqCells ks p q = some b → (Op.eqFields (d + 1) xs ys fs).run P w = .ok b w
  | [], n, ks, p, q, b, hf, hp, hq, h => by
    simp [flat] at hf; subst hf
    rw [eqCells_nil h]; rfl
  | f :: fs, n, ks, p, q, b, hf, hp, hq, h => by
    simp only [flat] at hf
    split at hf
    · rename_i k l hk hl
      split at hf
      · rename_i hfo
        cases hf
        obtain ⟨a, r, a', q', x, y, rfl, rfl, hxy, hrec, rfl⟩ := eqCells_cons h
        obtain ⟨u, hu, hur⟩ := hp 0 _ rfl
        obtain ⟨u', hu', hur'⟩ := hq 0 _ rfl
        have e1 : u = a := by cases hur; rfl
        have e2 : u' = a' := by cases hur'; rfl
        subst e1 e2
        have ih := eqFields_run (w := w) d hl (p := r) (q := q') (fun i c hi => by have := hp (i + 1) c (by simpa using hi); rwa [show n + (i + 1) = n + 1 + i by omega] at this)
          (fun i c hi => by have := hq (i + 1) c (by simpa using hi); rwa [show n + (i + 1) = n + 1 + i by omega] at this) hrec
        have heqn := eq1_run (w := w) hk hxy d
        rw [Nat.add_zero] at hu hu'
        rw [← hfo.1] at hu hu'
        simp only [Op.eqFields, hfo.2, ne_eq, not_false_eq_true, if_true, Sem.run_bind, part_one hk hu, part_one hk hu', Result.andThen_ok, heqn, Sem.run_ite]
        cases x
        · simp
        · simp [ih]
      · cases hf
    · cases hf

theorem run_eqGuard_any {w : World} (op : BinOp) (t : TypeId) (x y : Operand) (a b : Value) (h1 : ∀ c, a ≠ .agg c) (h2 : a ≠ .nilIface) : (eqGuard op t x y a b).run P w = .ok () w := by
  unfold eqGuard
  cases op <;> simp <;> (cases a <;> simp_all)

theorem ptrNil_rel {v : Value} {x : W} {b : Bool} (hv : WRel fid κ v x) (h : ptrNil? x = some b) : ∃ a, v = .pointer a ∧ a.isNone = b := by
  cases x with
  | d y =>
    cases y with
    | s u =>
      cases u with
      | pointer a => cases a with
        | none => simp [ptrNil?] at h; subst h; cases hv; exact ⟨none, rfl, rfl⟩
        | some a => simp [ptrNil?] at h
      | _ => simp [ptrNil?] at h
    | l st rows => simp [ptrNil?] at h
  | ptr b off => simp [ptrNil?] at h; subst h; obtain ⟨i, _, _, rfl⟩ := hv; exact ⟨_, rfl, rfl⟩
  | rp b i off => simp [ptrNil?] at h; subst h; obtain ⟨i, _, rfl⟩ := hv; exact ⟨_, rfl, rfl⟩
  | lp r off => simp [ptrNil?] at h; subst h; obtain ⟨_, _, _, _, rfl, _⟩ := hv; exact ⟨_, rfl, rfl⟩
  | gp k off => simp [ptrNil?] at h; subst h; cases hv; exact ⟨_, rfl, rfl⟩
  | _ => simp [ptrNil?] at h

theorem isNil_rel {v : Value} {x : W} {b : Bool} (hv : WRel fid κ v x) (h : isNil? x = some b) : ∃ a n c, v = .slice a n c ∧ a.isNone = b := by
  cases x with
  | d y =>
    cases y with
    | s u => simp [isNil?] at h
    | l st rows =>
      simp [isNil?] at h
      obtain ⟨hne, rfl⟩ := h
      cases hv with
      | nil st => exact absurd rfl hne
      | e a => exact absurd rfl hne
      | l => exact ⟨_, _, _, rfl, rfl⟩
  | nil => simp [isNil?] at h; subst h; cases hv; exact ⟨_, _, _, rfl, rfl⟩
  | ln st rows =>
    simp [isNil?] at h; subst h
    obtain ⟨hv, hne⟩ := hv
    cases hv with
    | nil st => exact absurd rfl hne
    | e a => exact ⟨_, _, _, rfl, rfl⟩
    | l => exact ⟨_, _, _, rfl, rfl⟩
  | own b off len cap =>
    simp [isNil?] at h
    obtain ⟨hne, rfl⟩ := h
    obtain ⟨i, cap', _, _, _, ⟨_, h0, _⟩ | ⟨_, o, rfl, _⟩⟩ := hv
    · exact absurd h0 hne
    · exact ⟨_, _, _, rfl, rfl⟩
  | _ => simp [isNil?] at h

theorem eqIn_ptr {w : World} {t e0 : TypeId} (hu : P.underlying t = some (.pointer e0)) (d : Nat) (u : Option Addr) : (Op.equalIn (d + 1) t (.pointer u) (.pointer none)).run P w = .ok u.isNone w := by
  cases u <;> simp [Op.equalIn, run_underlying hu]
theorem eqIn_sl {w : World} {t e0 : TypeId} (hu : P.underlying t = some (.slice e0)) (d : Nat) (u : Option Addr) (n c : Nat) : (Op.equalIn (d + 1) t (.slice u n c) (.slice none 0 0)).run P w = .ok u.isNone w := by
  cases u <;> simp [Op.equalIn, run_underlying hu]

theorem s?_not {v : Value} {x : V} {u : Value} (hv : VRel fid κ v x) (h : x.s? = some u) : v = u ∧ (∀ c, u ≠ .agg c) := by
  have := wrel_s hv h
  refine ⟨this, fun c hc => ?_⟩
  subst this
  cases x with
  | w x =>
    have := WRel.oneCell hv
    rw [hc] at this; cases this
  | _ => simp [V.s?] at h

section ops
variable (I : Inv fid G E κ H FN FZ) (hev : ∀ x X, stripX cid x = some X → VRel fid κ (ρ x) (ev X))
include I hev

theorem good_bin {op : BinOp} {t yt : TypeId} {x y : Operand} {Y X : X} {c : Cls} {e : Eff} (ho : o.op = .binOp op t x y yt) (hc : cls? P t = some c) (hX : stripX cid x = some X) (hY : stripX cid y = some Y)
    (h : ret0 H (binV op c (ev X) (ev Y)) = some e) : Good P fid G E κ FN FZ g s ρ o e := by
  obtain ⟨v, hv, rfl⟩ := ret0_some h
  have hx := hev x X hX
  have hy := hev y Y hY
  have fin : ∀ u : Value, (binOp op t (ρ x) (ρ y)).run P κ.w = .ok u κ.w → (∀ c, ρ x ≠ .agg c) → ρ x ≠ .nilIface → (execOp ρ o).run P κ.w = .ok (.value u) κ.w := fun u hu h1 h2 => by
    simp [execOp, ho, run_eqGuard_any op t x y _ _ h1 h2, hu]
  cases c with
  | one =>
    simp only [binV] at hv
    split at hv
    · cases hv
    · rename_i a b hnb hsa hsb
      cases hbs : binS op a b with
      | none => simp [hbs] at hv
      | some u =>
        simp [hbs] at hv; subst hv
        obtain ⟨e1, n1⟩ := s?_not hx hsa
        obtain ⟨e2, n2⟩ := s?_not hy hsb
        obtain ⟨r1, r2⟩ := binS_run (P := P) (t := t) (w := κ.w) hbs (fun ⟨p, q, h1, h2⟩ => (hnb p h1).elim)
        refine good_pure I (fin u (by rw [e1, e2]; exact r1) (by rw [e1]; exact n1) ?_) (sV_rel r2)
        rw [e1]; intro h; rw [h] at hbs; simp [binS] at hbs
    · cases hv
  | b =>
    simp only [binV] at hv
    have hu : P.underlying t = some .bool := by
      unfold cls? at hc
      split at hc <;> first | assumption | (cases hc; done) | (split at hc <;> first | (cases hc; done) | (split at hc <;> cases hc))
    split at hv
    · rename_i a b ha hb
      have e1 := bool?_rel hx ha
      have e2 := bool?_rel hy hb
      have he : (Op.equal t (.bool a) (.bool b)).run P κ.w = .ok (a == b) κ.w := eqIn_bool hu 9999 a b κ.w
      split at hv
      · cases hv
        exact good_pure I (fin (.bool (a == b)) (by rw [e1, e2]; simp only [binOp, Sem.run_bind, he, Result.andThen_ok, Sem.run_pure]) (by rw [e1]; simp) (by rw [e1]; simp)) (sV_rel rfl)
      · cases hv
        exact good_pure I (fin (.bool !(a == b)) (by rw [e1, e2]; simp only [binOp, Sem.run_bind, he, Result.andThen_ok, Sem.run_pure]) (by rw [e1]; simp) (by rw [e1]; simp)) (sV_rel rfl)
      · cases hv
    · cases hv
  | p =>
    simp only [binV] at hv
    have hu : ∃ e, P.underlying t = some (.pointer e) := by
      unfold cls? at hc
      split at hc <;> first | exact ⟨_, by assumption⟩ | (cases hc; done) | (split at hc <;> first | (cases hc; done) | (split at hc <;> cases hc))
    obtain ⟨e0, hu⟩ := hu
    split at hv
    · rename_i p q hp hq
      split at hv
      · rename_i a ha hb
        rw [hp] at hx; rw [hq] at hy
        obtain ⟨u, e1, hu1⟩ := ptrNil_rel hx ha
        obtain ⟨u', e2, hu2⟩ := ptrNil_rel hy hb
        have hnone : u' = none := by simpa using hu2
        subst hnone
        have he : (Op.equal t (.pointer u) (.pointer none)).run P κ.w = .ok a κ.w := by
          rw [← hu1]; exact eqIn_ptr hu 9999 u
        split at hv
        · cases hv
          exact good_pure I (fin (.bool a) (by rw [e1, e2]; simp only [binOp, Sem.run_bind, he, Result.andThen_ok, Sem.run_pure]) (by rw [e1]; simp) (by rw [e1]; simp)) (sV_rel rfl)
        · cases hv
          exact good_pure I (fin (.bool !a) (by rw [e1, e2]; simp only [binOp, Sem.run_bind, he, Result.andThen_ok, Sem.run_pure]) (by rw [e1]; simp) (by rw [e1]; simp)) (sV_rel rfl)
        · cases hv
      · cases hv
    · cases hv
  | sl =>
    simp only [binV] at hv
    have hu : ∃ e, P.underlying t = some (.slice e) := by
      unfold cls? at hc
      split at hc <;> first | exact ⟨_, by assumption⟩ | (cases hc; done) | (split at hc <;> first | (cases hc; done) | (split at hc <;> cases hc))
    obtain ⟨e0, hu⟩ := hu
    split at hv
    · rename_i p hp hq
      split at hv
      · rename_i a ha
        rw [hp] at hx; rw [hq] at hy
        obtain ⟨u, n, c, e1, hu1⟩ := isNil_rel hx ha
        have e2 : ρ y = .slice none 0 0 := hy
        have he : (Op.equal t (.slice u n c) (.slice none 0 0)).run P κ.w = .ok a κ.w := by
          rw [← hu1]; exact eqIn_sl hu 9999 u n c
        split at hv
        · cases hv
          exact good_pure I (fin (.bool a) (by rw [e1, e2]; simp only [binOp, Sem.run_bind, he, Result.andThen_ok, Sem.run_pure]) (by rw [e1]; simp) (by rw [e1]; simp)) (sV_rel rfl)
        · cases hv
          exact good_pure I (fin (.bool !a) (by rw [e1, e2]; simp only [binOp, Sem.run_bind, he, Result.andThen_ok, Sem.run_pure]) (by rw [e1]; simp) (by rw [e1]; simp)) (sV_rel rfl)
        · cases hv
      · cases hv
    · cases hv
  | agg ks =>
    simp only [binV] at hv
    obtain ⟨fs, hu, hfl, hst, hgd⟩ : ∃ fs, P.underlying t = some (.struct fs) ∧ flat P 0 fs.toList = some ks ∧ P.stoodInHeld t = false ∧ P.eqGuardType P.depth t = false := by
      unfold cls? at hc
      split at hc <;> first | (cases hc; done) | skip
      split at hc
      · split at hc
        · rename_i h; cases hc; exact ⟨_, by assumption, by assumption, h.1, h.2⟩
        · cases hc
      · cases hc
    split at hv
    · rename_i p q hp hq
      split at hv
      · rename_i b hb
        rw [hp] at hx; rw [hq] at hy
        obtain ⟨xs, e1, _, hxs⟩ := hx
        obtain ⟨ys, e2, _, hys⟩ := hy
        have hfo : P.fieldsOf t = fs := by simp [Program.fieldsOf, hu]
        have he : (Op.equalIn 10000 t (.agg xs) (.agg ys)).run P κ.w = .ok b κ.w := by
          show (Op.equalIn (9999 + 1) t _ _).run P κ.w = _
          rw [run_equalIn_struct κ.w 9999 t xs ys (by rw [hfo]; exact hu) hst, hfo]
          exact eqFields_run (fid := fid) (κ := κ) 9998 hfl (fun i c hi => by simpa using hxs i c hi) (fun i c hi => by simpa using hys i c hi) hb
        have hgu : (eqGuard op t x y (ρ x) (ρ y)).run P κ.w = .ok () κ.w := by rw [e1, e2]; exact run_eqGuard_agg κ.w op t x y xs ys hgd
        split at hv
        · cases hv
          exact good_pure I (v := .bool b) (by simp only [execOp, ho, Sem.run_bind, hgu, Result.andThen_ok]; rw [e1, e2, run_eql_struct, he]; rfl) (sV_rel rfl)
        · cases hv
          exact good_pure I (v := .bool !b) (by simp only [execOp, ho, Sem.run_bind, hgu, Result.andThen_ok]; rw [e1, e2, run_neq_struct, he]; rfl) (sV_rel rfl)
        · cases hv
      · cases hv
    · cases hv

end ops
end
end Go.VM
