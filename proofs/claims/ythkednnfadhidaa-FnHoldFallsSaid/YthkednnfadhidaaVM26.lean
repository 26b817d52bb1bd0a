/- The value machine: an argument that reads as data. Conditions: none. -/
import Derived.Test.YthkednnfadhidaaVM25
import Derived.OpenShut
import Derived.ChangeArms
import Derived.DeepKeys4
import Derived.DataReads
namespace Go.VM
set_option linter.unusedVariables false
set_option linter.unusedSimpArgs false
set_option linter.unusedSectionVars false

/-- These types are built of each other, of scalars, slices, structs and arrays alone. -/
def plainIn (P : Program) (S : List TypeId) : Bool := S.all fun t => decide (t < P.types.size) && match P.underlying t with
  | some .bool => true
  | some (.int _) => true
  | some (.float _) => true
  | some .string => true
  | some (.slice e) => S.contains e && decide (0 < P.cellsOf e) && P.cellsOf t == 1
  | some (.struct fs) => fs.toList.all fun f => S.contains f.type
  | some (.array _ e) => S.contains e
  | _ => false

/-- Data of a type. -/
def TyD (P : Program) : Nat → TypeId → List D → Prop
  | 0, _, _ => False
  | n + 1, t, ds => match P.underlying t with
    | some .bool => ∃ b, ds = [.s (.bool b)]
    | some (.int k) => ∃ m, ds = [.s (.int k m)] ∧ (Lit.int k m).wf = true
    | some (.float k) => ∃ b, ds = [.s (.float k b)] ∧ (Lit.float k b).wf = true
    | some .string => ∃ s : ByteArray, ds = [.s (.string s)] ∧ s.size ≤ maxLen
    | some (.slice e) => ∃ rows : List (List D), ds = [.l 0 rows] ∧ rows.length ≤ maxLen ∧ ∀ row ∈ rows, row.length = P.cellsOf e ∧ TyD P n e row
    | some (.struct fs) => ds.length = P.cellsOf t ∧ ∀ f ∈ fs.toList, TyD P n f.type ((ds.drop f.offset).take (P.cellsOf f.type))
    | some (.array k e) => ds.length = P.cellsOf t ∧ ∀ i, i < k → TyD P n e ((ds.drop (i * P.cellsOf e)).take (P.cellsOf e))
    | _ => False

/-- Where all that was there before is laid down for good. -/
def ctx0 (w : World) : Ctx := ⟨w, fun b _ => b < w.heap.size, fun _ => none, fun _ => none⟩

def RelL (w : World) (cs : List Value) (ds : List D) : Prop := ds.length = cs.length ∧ ∀ (i : Nat) (v : Value), cs[i]? = some v → ∃ d, ds[i]? = some d ∧ (ctx0 w).rel v d

theorem RelL.one {w : World} {v : Value} {d : D} (h : (ctx0 w).rel v d) : RelL w [v] [d] := by
  refine ⟨rfl, fun i u hu => ?_⟩
  match i with
  | 0 => simp at hu; subst hu; exact ⟨d, rfl, h⟩
  | i + 1 => simp at hu

section
variable {H : Type} {enc : TypeId × Value → H} {P : Program} {w : World} {base : Nat} {held : Bool}

/-- Parts, one behind the other. -/
theorem parts_glue {n : Nat} {cs : List Value} : ∀ (l : List (Nat × TypeId)) (o : Nat), (∀ (j : Nat) (f : Nat × TypeId), l[j]? = some f → f.1 = o + ((l.take j).map fun f => P.cellsOf f.2).sum) →
    o + (l.map fun f => P.cellsOf f.2).sum = cs.length → (∀ f ∈ l, ∃ ds, RelL w ((cs.drop f.1).take (P.cellsOf f.2)) ds ∧ TyD P n f.2 ds) →
    ∃ ds, RelL w (cs.drop o) ds ∧ ∀ f ∈ l, TyD P n f.2 ((ds.drop (f.1 - o)).take (P.cellsOf f.2))
  | [], o, ho, hs, hf => by
    simp at hs
    refine ⟨[], ⟨by simp; omega, fun i v hv => ?_⟩, by simp⟩
    simp only [List.getElem?_drop] at hv
    have := (List.getElem?_eq_some_iff.1 hv).1
    omega
  | f :: l, o, ho, hs, hf => by
    have h0 : f.1 = o := by simpa using ho 0 f rfl
    simp only [List.map_cons, List.sum_cons] at hs
    obtain ⟨d1, ⟨r1, r2⟩, r3⟩ := hf f (List.mem_cons_self ..)
    obtain ⟨d2, ⟨q1, q2⟩, q3⟩ := parts_glue l (o + P.cellsOf f.2) (fun j g hj => by
      have := ho (j + 1) g (by simpa using hj)
      simp only [List.take_succ_cons, List.map_cons, List.sum_cons] at this
      omega) (by omega) (fun g hg => hf g (List.mem_cons_of_mem _ hg))
    have hl1 : d1.length = P.cellsOf f.2 := by rw [r1]; simp; omega
    refine ⟨d1 ++ d2, ⟨by simp [q1, hl1]; omega, fun i v hv => ?_⟩, fun g hg => ?_⟩
    · by_cases hi : i < P.cellsOf f.2
      · obtain ⟨d, hd, hr⟩ := r2 i v (by rw [List.getElem?_take, if_pos hi, h0]; exact hv)
        exact ⟨d, by rw [List.getElem?_append_left (by omega)]; exact hd, hr⟩
      · obtain ⟨d, hd, hr⟩ := q2 (i - P.cellsOf f.2) v (by
          simp only [List.getElem?_drop] at hv ⊢
          rw [← hv]; congr 1; omega)
        exact ⟨d, by rw [List.getElem?_append_right (by omega), hl1]; exact hd, hr⟩
    · rcases List.mem_cons.1 hg with rfl | hg
      · have : ((d1 ++ d2).drop (g.1 - o)).take (P.cellsOf g.2) = d1 := by
          rw [h0, Nat.sub_self, List.drop_zero, ← hl1, List.take_left]
        rw [this]; exact r3
      · obtain ⟨j, hj⟩ := List.getElem?_of_mem hg
        have hoff := ho (j + 1) g (by simpa using hj)
        simp only [List.take_succ_cons, List.map_cons, List.sum_cons] at hoff
        have := q3 g hg
        have e : (d1 ++ d2).drop (g.1 - o) = d2.drop (g.1 - (o + P.cellsOf f.2)) := by
          rw [List.drop_append, hl1]
          rw [List.drop_eq_nil_of_le (by omega), List.nil_append]
          congr 1; omega
        rw [e]; exact this

theorem glue (hl : laidOutB P = true) {S : List TypeId} (hS : plainIn P S = true) : ∀ (fuel : Nat) (t : TypeId) (cs : List Value) (x : DataW H × List MemPlace), t ∈ S →
    DataW.trod enc P w base (fun _ => true) held fuel t cs = some x → ∃ ds, RelL w cs ds ∧ TyD P fuel t ds
  | 0, t, cs, x, ht, h => by simp [DataW.trod] at h
  | fuel + 1, t, cs, x, ht, h => by
    have hS' := hS
    simp only [plainIn, List.all_eq_true, Bool.and_eq_true, decide_eq_true_eq] at hS'
    obtain ⟨hlt, hu⟩ := hS' t ht
    have hfine := rowFine_of_laidOut hl hlt
    unfold rowFine at hfine
    cases hd : P.underlying t with
    | none => rw [hd] at hu; cases hu
    | some d =>
      have hvar : kindOk (some d) = true → isVar P t = true := fun hk => by simp [isVar, hlt, hd, hk]
      cases d
      case bool =>
        obtain ⟨b, rfl, rfl⟩ := DataW.trod_bool hd h
        exact ⟨[.s (.bool b)], .one (.s _ rfl), by simp only [TyD, hd]; exact ⟨b, rfl⟩⟩
      case int k =>
        obtain ⟨n, rfl, rfl, hw⟩ := DataW.trod_int hd h
        exact ⟨[.s (.int k n)], .one (.s _ rfl), by simp only [TyD, hd]; exact ⟨n, rfl, hw⟩⟩
      case float k =>
        unfold DataW.trod at h
        rw [hd] at h
        split at h <;> simp_all
        obtain ⟨⟨rfl, hw⟩, rfl⟩ := h
        exact ⟨_, .one (.s _ rfl), by simp only [TyD, hd]; exact ⟨_, rfl, hw⟩⟩
      case string =>
        obtain ⟨s, rfl, rfl, hw⟩ := DataW.trod_string hd h
        exact ⟨[.s (.string s)], .one (.s _ rfl), by simp only [TyD, hd]; exact ⟨s, rfl, hw⟩⟩
      case slice e =>
        rw [hd] at hu
        simp only [Bool.and_eq_true, List.contains_iff_mem, decide_eq_true_eq, beq_iff_eq] at hu
        obtain ⟨⟨heS, hpos⟩, hone⟩ := hu
        rcases DataW.trod_slice hd h with ⟨rfl, rfl⟩ | ⟨a, len, cap, elems, rest, n, hfu, rfl, rfl, hb, hlc, hm, hlen, hel, hsp, -⟩
        · exact ⟨[.l 0 []], .one (.nil 0), by simp only [TyD, hd]; exact ⟨[], rfl, by simp, by simp⟩⟩
        · have hnf : n = fuel := by omega
          subst hnf
          obtain ⟨hrl, hr⟩ := hsp rfl
          have each : ∀ i, i < len → ∃ cs', (w.cells? base (a.add (i * P.cellsOf e)) (P.cellsOf e)) = some cs' ∧ ∃ row, RelL w cs' row ∧ TyD P n e row := fun i hi => by
            have h1 := hel i hi
            rw [List.getElem?_eq_getElem (by omega)] at h1
            obtain ⟨cs', h2, h3⟩ := Option.bind_eq_some_iff.1 h1
            exact ⟨cs', h2, glue hl hS n e cs' _ heS h3⟩
          rcases Nat.eq_zero_or_pos cap with hc0 | hc0
          · have hl0 : len = 0 := by omega
            subst hc0 hl0
            exact ⟨[.l 0 []], .one (.e a), by simp only [TyD, hd]; exact ⟨[], rfl, by simp, by simp⟩⟩
          · -- the first cell tells that the address is plain
            have hfirst : ∃ v, w.cell? a = some v := by
              have : ∃ cs', w.cells? base (a.add (0 * P.cellsOf e)) (P.cellsOf e) = some cs' := by
                rcases Nat.eq_zero_or_pos len with h0 | h0
                · have h1 := hr 0 (by omega)
                  rw [List.getElem?_eq_getElem (by omega)] at h1
                  obtain ⟨cs', h2, h3⟩ := Option.bind_eq_some_iff.1 h1
                  exact ⟨cs', by rw [h0] at h2; simpa using h2⟩
                · obtain ⟨cs', h2, _⟩ := each 0 h0
                  exact ⟨cs', h2⟩
              obtain ⟨cs', h2⟩ := this
              obtain ⟨_, hcl, hc⟩ := World.cells?_some h2
              have h3 := hc 0 hpos
              rw [List.getElem?_eq_getElem (by omega)] at h3
              have e0 : (a.add (0 * P.cellsOf e)).add 0 = a := by simp [Addr.add]
              rw [e0] at h3
              exact ⟨_, h3⟩
            obtain ⟨v0, hv0⟩ := hfirst
            obtain ⟨hspot, hblk⟩ : a.spot = none ∧ a.block < w.heap.size := by
              unfold World.cell? at hv0
              split at hv0
              · rename_i c _ _ hh
                split at hv0
                · cases hv0
                · rename_i hs
                  refine ⟨by simpa using hs, ?_⟩
                  rcases Nat.lt_or_ge a.block w.heap.size with h' | h'
                  · exact h'
                  · simp [Array.getElem?_eq_none h'] at hh
              · cases hv0
            obtain ⟨blk, o, sp⟩ := a
            simp only at hspot hblk
            subst hspot
            have hch : ∀ i, ∃ row : List D, i < len → ∃ cs', (w.cells? base (Addr.add ⟨blk, o, none⟩ (i * P.cellsOf e)) (P.cellsOf e)) = some cs' ∧ RelL w cs' row ∧ TyD P n e row := fun i => by
              by_cases hi : i < len
              · obtain ⟨cs', h1, row, h2, h3⟩ := each i hi
                exact ⟨row, fun _ => ⟨cs', h1, h2, h3⟩⟩
              · exact ⟨[], fun h => absurd h hi⟩
            obtain ⟨R, hR⟩ := Classical.axiomOfChoice hch
            have hrowlen : ∀ i, i < len → (R i).length = P.cellsOf e := fun i hi => by
              obtain ⟨cs', h1, h2, _⟩ := hR i hi
              obtain ⟨_, hcl, _⟩ := World.cells?_some h1
              rw [h2.1, hcl]
            have hget : ∀ (i : Nat) (row : List D), ((List.range len).map R)[i]? = some row → i < len ∧ row = R i := fun i row hi => by
              rw [List.getElem?_map] at hi
              by_cases hil : i < len
              · simp [hil] at hi; exact ⟨hil, hi.symm⟩
              · simp [hil] at hi
            refine ⟨[.l 0 ((List.range len).map R)], .one ?_, ?_⟩
            · have key : (ctx0 w).rel (.slice (some ⟨blk, o, none⟩) ((List.range len).map R).length cap) (.l 0 ((List.range len).map R)) := by
                refine .l 0 _ blk o cap (P.cellsOf e) (fun i j => (w.cell? ⟨blk, o + i * P.cellsOf e + j, none⟩).getD undef) ?_ (by simp; omega) hblk ?_ (fun _ _ _ _ => hblk) ?_ (fun h => absurd rfl h)
                · intro i row hi
                  obtain ⟨h1, rfl⟩ := hget i row hi
                  exact hrowlen i h1
                · intro i j hi hj
                  simp only [List.length_map, List.length_range] at hi
                  obtain ⟨cs', h1, _, _⟩ := hR i hi
                  obtain ⟨_, hcl, hc⟩ := World.cells?_some h1
                  have h3 := hc j hj
                  rw [List.getElem?_eq_getElem (by omega), Addr.add_none, Addr.add_none] at h3
                  show w.cell? _ = _
                  rw [h3]; rfl
                · intro i row j x hi hj
                  obtain ⟨h1, rfl⟩ := hget i row hi
                  obtain ⟨cs', k1, k2, _⟩ := hR i h1
                  obtain ⟨_, hcl, hc⟩ := World.cells?_some k1
                  have hjl : j < P.cellsOf e := by rw [← hrowlen i h1]; exact (List.getElem?_eq_some_iff.1 hj).1
                  have h3 := hc j hjl
                  rw [List.getElem?_eq_getElem (by omega), Addr.add_none, Addr.add_none] at h3
                  rw [h3]
                  obtain ⟨d, hd', hr'⟩ := k2.2 j cs'[j] (List.getElem?_eq_getElem (by omega))
                  rw [hj] at hd'; cases hd'
                  exact hr'
              simpa using key
            · simp only [TyD, hd]
              refine ⟨_, rfl, by simp; omega, fun row hrow => ?_⟩
              obtain ⟨i, hi, rfl⟩ := List.mem_map.1 hrow
              have hi' := List.mem_range.1 hi
              obtain ⟨_, _, _, h3⟩ := hR i hi'
              exact ⟨hrowlen i hi', h3⟩
      case struct fs =>
        rw [hd] at hu
        simp only [List.all_eq_true, List.contains_iff_mem] at hu
        rw [hvar rfl, hd] at hfine
        simp only [Bool.not_true, Bool.false_or, Bool.and_eq_true, List.all_eq_true, beq_iff_eq, List.mem_range] at hfine
        obtain ⟨xs, n, hfu, rfl, hcl, hxl, hx⟩ := DataW.trod_struct hd h
        have hnf : n = fuel := by omega
        subst hnf
        obtain ⟨ds, h1, h2⟩ := parts_glue (n := n) (cs := cs) (w := w) (P := P) (fs.toList.map fun f => (f.offset, f.type)) 0 (fun j f hj => by
          rw [List.getElem?_map, Option.map_eq_some_iff] at hj
          obtain ⟨g, hg, rfl⟩ := hj
          have := hfine.2 j (List.getElem?_eq_some_iff.1 hg).1
          rw [hg] at this
          simp only [beq_iff_eq] at this
          rw [Nat.zero_add, ← List.map_take, List.map_map]
          simpa [Function.comp_def] using this) (by rw [List.map_map, hcl, hfine.1.2]; simp [Function.comp_def]) (fun f hf => by
          obtain ⟨g, hg, rfl⟩ := List.mem_map.1 hf
          obtain ⟨j, hj⟩ := List.getElem?_of_mem hg
          have hj' : fs[j]? = some g := by rw [← Array.getElem?_toList]; exact hj
          have h3 := hx j g hj'
          rw [List.getElem?_eq_getElem (by rw [hxl]; exact (Array.getElem?_eq_some_iff.1 hj').1)] at h3
          exact glue hl hS n g.type _ _ (hu g hg) h3)
        refine ⟨ds, h1, ?_⟩
        simp only [TyD, hd]
        refine ⟨by rw [h1.1, List.drop_zero, hcl], fun f hf => ?_⟩
        have := h2 (f.offset, f.type) (List.mem_map.2 ⟨f, hf, rfl⟩)
        simpa using this
      case array k e =>
        rw [hd] at hu
        simp only [List.contains_iff_mem] at hu
        rw [hvar rfl, hd] at hfine
        simp only [Bool.not_true, Bool.false_or, Bool.and_eq_true, beq_iff_eq] at hfine
        obtain ⟨xs, n, hfu, rfl, hcl, hxl, hx⟩ := DataW.trod_array hd h
        have hnf : n = fuel := by omega
        subst hnf
        have hsum : ∀ m, (((List.range m).map fun i => (i * P.cellsOf e, e)).map fun f : Nat × TypeId => P.cellsOf f.2).sum = m * P.cellsOf e := fun m => by
          rw [List.map_map]
          induction m with
          | zero => simp
          | succ m ih => rw [List.range_succ, List.map_append, List.sum_append, ih]; simp [Nat.add_mul, Function.comp_def]
        obtain ⟨ds, h1, h2⟩ := parts_glue (n := n) (cs := cs) (w := w) (P := P) ((List.range k).map fun i => (i * P.cellsOf e, e)) 0 (fun j f hj => by
          rw [List.getElem?_map, Option.map_eq_some_iff] at hj
          obtain ⟨g, hg, rfl⟩ := hj
          have hjk : j < k := by simpa using (List.getElem?_eq_some_iff.1 hg).1
          have : g = j := by simp [hjk] at hg; exact hg.symm
          subst this
          rw [Nat.zero_add, ← List.map_take, List.take_range, Nat.min_eq_left (by omega), hsum]) (by rw [hsum, hcl, hfine.2]; simp) (fun f hf => by
          obtain ⟨i, hi, rfl⟩ := List.mem_map.1 hf
          have hi' := List.mem_range.1 hi
          have h3 := hx i hi'
          rw [List.getElem?_eq_getElem (by omega)] at h3
          exact glue hl hS n e _ _ hu h3)
        refine ⟨ds, h1, ?_⟩
        simp only [TyD, hd]
        refine ⟨by rw [h1.1, List.drop_zero, hcl], fun i hi => ?_⟩
        have := h2 (i * P.cellsOf e, e) (List.mem_map.2 ⟨i, by simpa using hi, rfl⟩)
        simpa using this
      all_goals (rw [hd] at hu; cases hu)

end
end Go.VM
