/- The value machine: a law over a seat: what its row asks for follows from the machine's answer. Conditions: none. -/
import Derived.Test.YthkednnfadhidaaVM26
import Derived.ProofKit
import Derived.Carry
import Derived.JoinedOf
namespace Go.VM
open Go.ChangeShapes Go.WideShapes Go.ChangeAt Go.RowKit
set_option linter.unusedVariables false
set_option linter.unusedSimpArgs false
set_option linter.unusedSectionVars false

def argV (agg : Bool) (ds : List D) : V := if agg then .agg (ds.map .d) else match ds with | [d] => .w (.d d) | _ => .tup []

/-- Arguments of these types. -/
def ArgOk (P : Program) : List TypeId → List V → Prop
  | [], [] => True
  | t :: ts, x :: xs => (∃ n ds a, TyD P n t ds ∧ agg? P t = some a ∧ x = argV a ds) ∧ ArgOk P ts xs
  | _, _ => False

section
variable {H : Type} {enc : TypeId × Value → H} {P : Program} {W : World} {fid : Nat → FuncId}

theorem arg_rel {S : List TypeId} (hl : laidOutB P = true) (hS : plainIn P S = true) {t : TypeId} (ht : t ∈ S) {v : Value} {d : DataW H} {ps : List MemPlace} {r : Reach} {b0 : Nat}
    (hval : Value.okWide P W r b0 t v) (h : DataW.Trod enc P W 0 (fun _ => true) true t v d ps) :
    ∃ n ds a, TyD P n t ds ∧ agg? P t = some a ∧ VRel fid (ctx0 W) v (argV a ds) := by
  obtain ⟨n, h⟩ := h
  obtain ⟨ds, h1, h2⟩ := glue hl hS n t _ _ ht h
  have hS' := hS
  simp only [plainIn, List.all_eq_true, Bool.and_eq_true, decide_eq_true_eq] at hS'
  obtain ⟨hlt, hu⟩ := hS' t ht
  unfold Value.okWide at hval
  have scalar : ∀ d : D, ds = [d] → v.cells.toList = [v] → VRel fid (ctx0 W) v (argV false ds) := fun d hd hc => by
    subst hd
    rw [hc] at h1
    obtain ⟨d', hd', hr⟩ := h1.2 0 v rfl
    simp at hd'; subst hd'
    exact hr
  have aggr : ∀ cs, v = .agg cs → VRel fid (ctx0 W) v (argV true ds) := fun cs hc => by
    subst hc
    refine ⟨cs, rfl, by simpa [Value.cells] using h1.1.symm, fun i c hc => ?_⟩
    rw [List.getElem?_map, Option.map_eq_some_iff] at hc
    obtain ⟨d, hd, rfl⟩ := hc
    have hlt : i < cs.size := by
      have := (List.getElem?_eq_some_iff.1 hd).1
      have h3 : ds.length = cs.size := by simpa [Value.cells] using h1.1
      omega
    obtain ⟨d', hd', hr⟩ := h1.2 i cs[i] (by simp [Value.cells, hlt])
    rw [hd] at hd'; cases hd'
    exact ⟨cs[i], by simp [hlt], hr⟩
  cases n with
  | zero => exact absurd h2 (by simp [TyD])
  | succ n =>
    have h2' := h2
    unfold TyD at h2'
    cases hd : P.underlying t with
    | none => rw [hd] at hu; cases hu
    | some k =>
      have one : ∀ x ds', ds = [x] → v.cells.toList = ds' → ds'.length = 1 → agg? P t = some false → ∃ n ds a, TyD P n t ds ∧ agg? P t = some a ∧ VRel fid (ctx0 W) v (argV a ds) := fun x ds' hx hc hlen ha => by
        refine ⟨n + 1, ds, false, h2, ha, scalar x hx ?_⟩
        subst hc
        cases v <;> simp [Value.cells] at hlen ⊢
        rename_i cs
        rw [hd] at hval
        cases k <;> simp [agg?, hd] at ha <;> simp [Cell.okWide, hd, Cell.ok] at hval
      rw [hd] at h2' hu hval
      have hlen := h1.1
      cases k
      case bool => obtain ⟨b, rfl⟩ := h2'; exact one _ _ rfl rfl (by simpa using hlen.symm) (by simp [agg?, hd])
      case int k => obtain ⟨b, rfl, _⟩ := h2'; exact one _ _ rfl rfl (by simpa using hlen.symm) (by simp [agg?, hd])
      case float k => obtain ⟨b, rfl, _⟩ := h2'; exact one _ _ rfl rfl (by simpa using hlen.symm) (by simp [agg?, hd])
      case string => obtain ⟨b, rfl, _⟩ := h2'; exact one _ _ rfl rfl (by simpa using hlen.symm) (by simp [agg?, hd])
      case slice e => obtain ⟨b, rfl, _⟩ := h2'; exact one _ _ rfl rfl (by simpa using hlen.symm) (by simp [agg?, hd])
      case struct fs => obtain ⟨cs, hc, _⟩ := hval; exact ⟨n + 1, ds, true, h2, by simp [agg?, hd], aggr cs hc⟩
      case array k e => obtain ⟨cs, hc, _⟩ := hval; exact ⟨n + 1, ds, true, h2, by simp [agg?, hd], aggr cs hc⟩
      all_goals cases hu

theorem args_rel {S : List TypeId} (hl : laidOutB P = true) (hS : plainIn P S = true) {r : Reach} {b0 : Nat} : ∀ (ts : List TypeId) (vs : List Value) (ds : List (DataW H)) (ps : List MemPlace), (∀ t ∈ ts, t ∈ S) →
    (∀ (j : Nat) (t : TypeId) (v : Value), ts[j]? = some t → vs[j]? = some v → Value.okWide P W r b0 t v) → DataW.TrodAll enc P W 0 (fun _ => true) true ts vs ds ps →
    ∃ xs, ArgOk P ts xs ∧ vs.length = xs.length ∧ ds.length = ts.length ∧ ∀ (i : Nat) (x : V), xs[i]? = some x → ∃ v : Value, vs[i]? = some v ∧ VRel fid (ctx0 W) v x
  | [], [], [], ps, hT, hv, h => ⟨[], trivial, rfl, rfl, by simp⟩
  | t :: ts, v :: vs, d :: ds, ps, hT, hv, h => by
    obtain ⟨p, q, h1, h2, rfl⟩ := h
    obtain ⟨n, dd, a, k1, k2, k3⟩ := arg_rel (fid := fid) hl hS (hT t (List.mem_cons_self ..)) (hv 0 t v rfl rfl) h1
    obtain ⟨xs, m1, m2, m4, m3⟩ := args_rel hl hS ts vs ds q (fun u hu => hT u (List.mem_cons_of_mem _ hu)) (fun j u w hj hw => hv (j + 1) u w (by simpa using hj) (by simpa using hw)) h2
    refine ⟨argV a dd :: xs, ⟨⟨n, dd, a, k1, k2, rfl⟩, m1⟩, by simp [m2], by simp [m4], fun i x hx => ?_⟩
    match i with
    | 0 => simp at hx; subst hx; exact ⟨v, rfl, k3⟩
    | i + 1 => simp at hx ⊢; exact m3 i x hx
  | [], [], _ :: _, ps, hT, hv, h => by cases h
  | [], _ :: _, _, ps, hT, hv, h => by simp [DataW.TrodAll] at h
  | _ :: _, [], _, ps, hT, hv, h => by simp [DataW.TrodAll] at h
  | _ :: _, _ :: _, [], ps, hT, hv, h => by simp [DataW.TrodAll] at h

theorem args_stay (hl : laidOutB P = true) {W' : World} {sp : Nat → Bool} (hb : Below W.heap.size W W') : ∀ (ts : List TypeId) (vs : List Value) (ds : List (DataW H)) (ps : List MemPlace), (∀ t ∈ ts, P.readableRec t = true ∧ t < P.types.size) →
    (∀ x ∈ ps, x.block < W.heap.size) → (∀ x ∈ ps, sp x.block = true) → DataW.TrodAll enc P W 0 (fun _ => true) true ts vs ds ps → DataW.TrodAll enc P W' 0 sp true ts vs ds ps
  | [], [], [], ps, hT, hp, hs, h => h
  | t :: ts, v :: vs, d :: ds, ps, hT, hp, hs, h => by
    obtain ⟨p, q, h1, h2, rfl⟩ := h
    refine ⟨p, q, ?_, args_stay hl hb ts vs ds q (fun u hu => hT u (List.mem_cons_of_mem _ hu)) (fun x hx => hp x (by simp [hx])) (fun x hx => hs x (by simp [hx])) h2, rfl⟩
    obtain ⟨k1, k2⟩ := hT t (List.mem_cons_self ..)
    exact WideElems.Trod_stays hl k1 k2 h1 (fun x hx => hb.same (hp x (by simp [hx]))) (fun x hx => hs x (by simp [hx]))
  | [], [], _ :: _, ps, hT, hp, hs, h => h
  | [], _ :: _, _, ps, hT, hp, hs, h => by simp [DataW.TrodAll] at h
  | _ :: _, [], _, ps, hT, hp, hs, h => by simp [DataW.TrodAll] at h
  | _ :: _, _ :: _, [], ps, hT, hp, hs, h => by simp [DataW.TrodAll] at h

/-- At the entry of a law all is laid down. -/
theorem in0 {G : Nat → Option (List D)} {s : Sup} (hs : ∀ k, s k ≠ 0) (hinj : ∀ a b, s a = s b → a = b) (hG : Glob G (ctx0 W)) : In fid G (ctx0 W) [] s where
  imlt := fun _ _ h => h
  zlt := fun _ _ h => by cases h
  zinj := fun _ _ _ h => by cases h
  zfree := fun k => ⟨rfl, hs k⟩
  sinj := hinj
  dom := fun _ _ => rfl
  some := fun _ h => by simp at h
  box := fun b => by simp [BoxRel]
  dist := fun _ _ _ _ _ h => by simp at h
  glob := hG

theorem passOf_nil {κ : Ctx} {k : Nat} : ¬ passOf κ [] k := by
  rintro ⟨n, i, h, _⟩
  simp at h

theorem out_below {G : Nat → Option (List D)} {s : Sup} {κ κ' : Ctx} {r : Res} {v : Value} (h : Out fid κ [] s κ' r v) : Below κ.w.heap.size κ.w κ'.w :=
  ⟨h.os, h.tape, h.output, h.le.size, fun k hk => h.same k hk passOf_nil⟩

end
end Go.VM
