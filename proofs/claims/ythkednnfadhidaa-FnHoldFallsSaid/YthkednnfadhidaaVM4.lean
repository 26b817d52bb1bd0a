/- The value machine: each pure operation computes what the machine's does. Conditions: none. -/
import Derived.Test.YthkednnfadhidaaVM3
namespace Go.VM
set_option linter.unusedVariables false
set_option linter.unusedSimpArgs false

section
variable {P : Program} {fid : Nat → FuncId} {cid : FuncId → Nat} {κ : Ctx}

theorem Act_put (a : Act) (d : Option Nat) (v : Value) : a.put d v = a.put d v := rfl

theorem wrel_s {v : Value} {x : V} {u : Value} (h : VRel fid κ v x) (hx : x.s? = some u) : v = u := by
  cases x with
  | w x =>
    cases x with
    | d x =>
      cases x with
      | s y => simp [V.s?] at hx; subst hx; cases h with | s _ _ => rfl
      | l st rows => simp [V.s?] at hx
    | _ => simp [V.s?] at hx
  | _ => simp [V.s?] at hx

theorem sV_rel {v : Value} (h : v.oneCell' = true) : VRel fid κ v (sV v) := .s v h

theorem int?_rel {v : Value} {x : V} {k : IntKind} {n : Int} (h : VRel fid κ v x) (hx : x.int? = some (k, n)) : v = .int k n := by
  cases x with
  | w x =>
    cases x with
    | d x =>
      cases x with
      | s y =>
        cases y <;> simp [V.int?, W.int?] at hx
        obtain ⟨rfl, rfl⟩ := hx
        cases h with | s _ _ => rfl
      | l st rows => simp [V.int?, W.int?] at hx
    | _ => simp [V.int?, W.int?] at hx
  | _ => simp [V.int?] at hx

theorem bool?_rel {v : Value} {x : V} {b : Bool} (h : VRel fid κ v x) (hx : x.bool? = some b) : v = .bool b := by
  cases x with
  | w x =>
    cases x with
    | d x =>
      cases x with
      | s y =>
        cases y <;> simp [V.bool?, W.bool?] at hx
        subst hx
        cases h with | s _ _ => rfl
      | l st rows => simp [V.bool?, W.bool?] at hx
    | _ => simp [V.bool?, W.bool?] at hx
  | _ => simp [V.bool?] at hx

/-- A constant reads as itself. -/
theorem constW_rel {v : Value} {x : W} (h : constW v = some x) : WRel fid κ v x := by
  unfold constW at h
  split at h <;> first | (cases h; rfl) | (cases h; exact .s _ rfl) | cases h

theorem constL_rel : ∀ {l : List Value} {cs : List W}, constL l = some cs → l.length = cs.length ∧ ∀ (i : Nat) (c : W), cs[i]? = some c → ∃ x : Value, l[i]? = some x ∧ WRel fid κ x c
  | [], cs, h => by simp [constL] at h; subst h; simp
  | v :: r, cs, h => by
    simp only [constL] at h
    split at h
    · rename_i x l hx hl
      cases h
      obtain ⟨h1, h2⟩ := constL_rel hl
      refine ⟨by simp [h1], fun i c hi => ?_⟩
      match i with
      | 0 => simp at hi; subst hi; exact ⟨v, rfl, constW_rel hx⟩
      | i + 1 => simpa using h2 i c (by simpa using hi)
    · cases h

theorem constV_rel {v : Value} {x : V} (h : constV v = some x) : VRel fid κ v x := by
  unfold constV at h
  split at h
  · rename_i cs
    cases hl : constL cs.toList with
    | none => simp [hl] at h
    | some l =>
      simp [hl] at h; subst h
      obtain ⟨h1, h2⟩ := constL_rel (κ := κ) (fid := fid) hl
      exact ⟨cs, rfl, by simpa using h1, fun i c hi => by simpa using h2 i c hi⟩
  · cases hw : constW v with
    | none => simp [hw] at h
    | some y => simp [hw] at h; subst h; exact constW_rel hw

theorem eqIn_bool {t : TypeId} (hu : P.underlying t = some .bool) (d : Nat) (a b : Bool) (w : World) :
    (Op.equalIn (d + 1) t (.bool a) (.bool b)).run P w = .ok (a == b) w := by
  simp only [Op.equalIn, Sem.run_bind, run_underlying hu, Result.andThen_ok, Sem.run_pure]

/-- Binary operations on scalars. -/
theorem binS_run {op : BinOp} {t : TypeId} {a b v : Value} {w : World} (h : binS op a b = some v)
    (ht : (∃ x y, a = .bool x ∧ b = .bool y) → P.underlying t = some .bool) : (binOp op t a b).run P w = .ok v w ∧ v.oneCell' = true := by
  unfold binS at h
  split at h
  · rename_i k x k' y
    split at h
    · split at h
      · rename_i hy
        cases h
        refine ⟨?_, rfl⟩
        simp [binOp, Op.shift, show ¬ y < 0 by omega]
      · cases h
    · split at h
      · rename_i hy
        cases h
        refine ⟨?_, rfl⟩
        simp [binOp, Op.shift, show ¬ y < 0 by omega]
      · cases h
    · split at h
      · rename_i hk
        subst hk
        split at h <;> first
          | (cases h; exact ⟨by simp [binOp, Op.intArith, Op.intBits, Op.intCmp], rfl⟩)
          | (split at h
             · cases h
             · rename_i hb; cases h; exact ⟨by simp [binOp, Op.intDiv, hb], rfl⟩)
          | cases h
      · cases h
  · rename_i x y
    have hu := ht ⟨x, y, rfl, rfl⟩
    have he : (Op.equal t (.bool x) (.bool y)).run P w = .ok (x == y) w := eqIn_bool hu 9999 x y w
    split at h
    · cases h; exact ⟨by simp only [binOp, Sem.run_bind, he, Result.andThen_ok, Sem.run_pure], rfl⟩
    · cases h; exact ⟨by simp only [binOp, Sem.run_bind, he, Result.andThen_ok, Sem.run_pure], rfl⟩
    · cases h
  · rename_i x y
    split at h
    · split at h
      · rename_i hl
        cases h
        have : ¬ (((x.size + y.size : Nat) : Int) > IntKind.i64.max) := by
          have : IntKind.i64.max = 9223372036854775807 := by decide
          omega
        exact ⟨by simp only [binOp, Op.stringOp, this, if_false]; rfl, rfl⟩
      · cases h
    · cases h; exact ⟨by simp [binOp, Op.stringOp], rfl⟩
    · cases h; exact ⟨by simp [binOp, Op.stringOp], rfl⟩
    · cases h
  · cases h

end
end Go.VM
