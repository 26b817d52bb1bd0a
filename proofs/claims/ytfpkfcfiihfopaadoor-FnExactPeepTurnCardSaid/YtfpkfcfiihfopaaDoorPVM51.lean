/- Memory that is one's own, written cell by cell: what is kept, what is changed. Conditions: none. -/
import Derived.Test.YtfpkfcfiihfopaaDoorPVMM
import Derived.Test.YtfpkfcfiihfopaaDoorPVM50

namespace Go.VM
set_option linter.unusedVariables false
set_option linter.unusedSimpArgs false
set_option linter.unusedSectionVars false
structure Wr (w : World) (b o : Nat) (v : Value) (w' : World) : Prop where
 size : w'.heap.size = w.heap.size
 os : w'.os = w.os
 tape : w'.tape = w.tape
 output : w'.output = w.output
 cell : ∀ b' o', ¬ (b' = b ∧ o' = o) → w'.cell? ⟨b', o', none⟩ = w.cell? ⟨b', o', none⟩
 here : w'.cell? ⟨b, o, none⟩ = some v
 heap : ∀ b', b' ≠ b → w'.heap[b']? = w.heap[b']?
 clean : Clean w' b
theorem mst_of {w : World} {b o : Nat} {u v : Value} {K : Value → World → Prop} (hc : Clean w b) (hu : w.cell? ⟨b, o, none⟩ = some u) (hv : v.oneCell' = true)
 (hk : ∀ w', Wr w b o v w' → K undef w') : mst w K (some (.pointer (some ⟨b, o, none⟩))) (some v) := by
 obtain ⟨arr, T, hb⟩ := hc; have hlt : o < arr.size := by
  rw [cell_of hb] at hu; exact (Array.getElem?_eq_some_iff.1 hu).1
 refine ⟨hv, arr, T, hb, hlt, hk _ ?_⟩
 have hb' := setRow_heap w b arr (splice arr.toList o [v]).toArray T (0, 0) hb; have hin : o + [v].length ≤ arr.toList.length := by simp; omega
 refine ⟨size_setRow _ _ _, rfl, rfl, rfl, fun b' o' h => ?_, ?_, fun b' h => setRow_other _ _ _ _ h, ⟨_, _, hb'⟩⟩
 · by_cases e : b' = b
   · subst e
     rw [cell_of hb', cell_of hb, List.getElem?_toArray, splice_get hin, if_neg (by
      have : o' ≠ o := fun e => h ⟨rfl, e⟩
      simp; omega), Array.getElem?_toList]
   · exact cell_heap (setRow_other _ _ _ _ e) _
 · rw [cell_of hb', List.getElem?_toArray, splice_get hin, if_pos (by simp)]
   simp
structure Tou (S : Nat → Prop) (w w' : World) : Prop where
 size : w.heap.size ≤ w'.heap.size
 os : w'.os = w.os
 tape : w'.tape = w.tape
 output : w'.output = w.output
 heap : ∀ b, b < w.heap.size → ¬ S b → w'.heap[b]? = w.heap[b]?
 clean : ∀ b, Clean w b → Clean w' b
theorem Tou.refl (S : Nat → Prop) (w : World) : Tou S w w := ⟨Nat.le_refl _, rfl, rfl, rfl, fun _ _ _ => rfl, fun _ h => h⟩
theorem Tou.trans {S : Nat → Prop} {a b c : World} (h : Tou S a b) (k : Tou S b c) : Tou S a c :=
 ⟨Nat.le_trans h.size k.size, k.os.trans h.os, k.tape.trans h.tape, k.output.trans h.output, fun x hx hn => (k.heap x (Nat.lt_of_lt_of_le hx h.size) hn).trans (h.heap x hx hn), fun x hx => k.clean x (h.clean x hx)⟩
theorem Tou.mono {S S' : Nat → Prop} {a b : World} (h : Tou S a b) (hs : ∀ x, S x → S' x) : Tou S' a b :=
 ⟨h.size, h.os, h.tape, h.output, fun x hx hn => h.heap x hx (fun e => hn (hs x e)), h.clean⟩
theorem Wr.tou {w w' : World} {b o : Nat} {v : Value} (h : Wr w b o v w') {S : Nat → Prop} (hb : S b) : Tou S w w' :=
 ⟨Nat.le_of_eq h.size.symm, h.os, h.tape, h.output, fun x _ hn => h.heap x (fun e => hn (e ▸ hb)), fun x hx => by
  by_cases e : x = b
  · subst e; exact h.clean
  · exact hx.of (h.heap x e)⟩
def Top : Nat → Nat → Prop := fun _ _ => True
structure Own (w : World) (ζ : Nat → Option Nat) (v : Value) (d : D) : Prop where
 rel : Rel w Top ζ v d
 nz : ∀ t ∈ d.sts, t ≠ 0
 nd : d.sts.Nodup
 cl : ∀ t ∈ d.sts, ∀ b, ζ t = some b → Clean w b
def Sb (ζ : Nat → Option Nat) (l : List Nat) : Nat → Prop := fun b => ∃ t ∈ l, ζ t = some b
theorem Rel.top {w : World} {Im : Nat → Nat → Prop} {ζ : Nat → Option Nat} {v : Value} {d : D} (h : Rel w Im ζ v d) : Rel w Top ζ v d :=
 Rel.mono (Nat.le_refl _) (fun _ _ _ => trivial) (fun _ _ _ => rfl) (fun _ _ h => h) h
theorem Rel.tou {S : Nat → Prop} {w w' : World} {ζ : Nat → Option Nat} {v : Value} {d : D} (h : Rel w Top ζ v d) (hw : Tou S w w') (nz : ∀ t ∈ d.sts, t ≠ 0) (hs : ∀ b, Sb ζ d.sts b → ¬ S b) : Rel w' Top ζ v d := by
 induction h with
 | s v h => exact .s v h
 | nil st => exact .nil st
 | e a => exact .e a
 | l st rows blk o cap sz f hlen hcap hb hcell him hrel hst ih =>
  refine .l st rows blk o cap sz f hlen hcap (Nat.lt_of_lt_of_le hb hw.size) (fun i j hi hj => ?_) (fun _ _ _ _ => trivial) (fun i row j x h1 h2 => ?_) hst
  · have hm : st ∈ (D.l st rows).sts := by
     cases rows with
     | nil => simp at hi
     | cons x r => simp [D.sts]
    have hz := hst (nz st hm); rw [cell_heap (hw.heap blk hb (hs blk ⟨st, hm, hz⟩))]; exact hcell i j hi hj
  · have hm : ∀ t ∈ x.sts, t ∈ (D.l st rows).sts := fun t ht => by
     rw [sts_l, if_neg (by
      intro e; rw [List.isEmpty_iff] at e; subst e; simp at h1)]
     exact List.mem_cons_of_mem _ (stsR_mem (List.mem_of_getElem? h1) (stsL_mem (List.mem_of_getElem? h2) ht))
    exact ih i row j x h1 h2 (fun t ht => nz t (hm t ht)) (fun b ⟨t, ht, hz⟩ => hs b ⟨t, hm t ht, hz⟩)
theorem Own.tou {S : Nat → Prop} {w w' : World} {ζ : Nat → Option Nat} {v : Value} {d : D} (h : Own w ζ v d) (hw : Tou S w w') (hs : ∀ b, Sb ζ d.sts b → ¬ S b) : Own w' ζ v d :=
 ⟨h.rel.tou hw h.nz hs, h.nz, h.nd, fun t ht b e => hw.clean b (h.cl t ht b e)⟩
theorem Rel.old {S : Nat → Prop} {w w' : World} {N : Nat} {ζ : Nat → Option Nat} {v : Value} {d : D} (h : Rel w (fun b _ => b < N) ζ v d) (hN : N ≤ w.heap.size) (hw : Tou S w w') (hs : ∀ b, S b → N ≤ b) : Rel w' (fun b _ => b < N) ζ v d :=
 Rel.mono hw.size (fun _ _ h => h) (fun b o hb => cell_heap (hw.heap b (Nat.lt_of_lt_of_le hb hN) (fun e => by have := hs b e; omega)) o) (fun _ _ h => h) h
structure Part (w : World) (ζ : Nat → Option Nat) (st : Nat) (rows : List (List D)) (v : Value) (blk o cap sz : Nat) (f : Nat → Nat → Value) : Prop where
 v : v = .slice (some ⟨blk, o, none⟩) rows.length cap
 len : ∀ (i : Nat) (row : List D), rows[i]? = some row → row.length = sz
 cap : rows.length ≤ cap
 lt : blk < w.heap.size
 cell : ∀ i j, i < rows.length → j < sz → w.cell? ⟨blk, o + i * sz + j, none⟩ = some (f i j)
 rel : ∀ (i : Nat) (row : List D) (j : Nat) (x : D), rows[i]? = some row → row[j]? = some x → Rel w Top ζ (f i j) x
 st : st ≠ 0 → ζ st = some blk
theorem Own.part {w : World} {ζ : Nat → Option Nat} {v : Value} {st : Nat} {rows : List (List D)} (h : Own w ζ v (.l st rows)) (hne : rows ≠ []) : ∃ blk o cap sz f, Part w ζ st rows v blk o cap sz f ∧ ζ st = some blk := by
 have hr := h.rel; cases hr with
 | nil => exact absurd rfl hne
 | e => exact absurd rfl hne
 | l _ _ blk o cap sz f hlen hcap hb hcell him hrel hst =>
  have : st ∈ (D.l st rows).sts := by
   cases rows with
   | nil => exact absurd rfl hne
   | cons x r => simp [D.sts]
  exact ⟨blk, o, cap, sz, f, ⟨rfl, hlen, hcap, hb, hcell, hrel, hst⟩, hst (h.nz _ this)⟩
theorem Part.back {w : World} {ζ : Nat → Option Nat} {st : Nat} {rows : List (List D)} {v : Value} {blk o cap sz : Nat} {f : Nat → Nat → Value} (p : Part w ζ st rows v blk o cap sz f) : Rel w Top ζ v (.l st rows) := by
 rw [p.v]; exact .l st rows blk o cap sz f p.len p.cap p.lt p.cell (fun _ _ _ _ => trivial) p.rel p.st
theorem sts_ne {st : Nat} {rows : List (List D)} (h : rows ≠ []) : (D.l st rows).sts = st :: stsR rows := by
 cases rows with
 | nil => exact absurd rfl h
 | cons x r => simp [D.sts, stsR]
theorem cell_inj {sz i j i' j' o : Nat} (hj : j < sz) (hj' : j' < sz) (h : o + i * sz + j = o + i' * sz + j') : i = i' ∧ j = j' := by
 have h2 : i * sz + j = i' * sz + j' := by omega
 have e1 : (i * sz + j) / sz = i := by rw [Nat.mul_comm, Nat.mul_add_div (by omega), Nat.div_eq_of_lt hj]; rfl
 have e2 : (i' * sz + j') / sz = i' := by rw [Nat.mul_comm, Nat.mul_add_div (by omega), Nat.div_eq_of_lt hj']; rfl
 have : i = i' := by rw [← e1, ← e2, h2]
 subst this; exact ⟨rfl, by omega⟩
theorem part_set {w w' : World} {ζ : Nat → Option Nat} {st : Nat} {rows : List (List D)} {v : Value} {blk o cap sz : Nat} {f : Nat → Nat → Value} (p : Part w ζ st rows v blk o cap sz f) {i j : Nat} {row : List D} {d : D} {u : Value}
 (hi : rows[i]? = some row) (hj : j < sz) (hw : w.heap.size ≤ w'.heap.size) (hc : ∀ i' j', i' < rows.length → j' < sz → ¬ (i' = i ∧ j' = j) → w'.cell? ⟨blk, o + i' * sz + j', none⟩ = w.cell? ⟨blk, o + i' * sz + j', none⟩)
 (hu : w'.cell? ⟨blk, o + i * sz + j, none⟩ = some u) (hd : Rel w' Top ζ u d)
 (ho : ∀ (i' : Nat) (row' : List D) (j' : Nat) (x : D), ¬ (i' = i ∧ j' = j) → rows[i']? = some row' → row'[j']? = some x → Rel w' Top ζ (f i' j') x) :
 Part w' ζ st (rows.set i (row.set j d)) v blk o cap sz (fun i' j' => if i' = i ∧ j' = j then u else f i' j') := by
 have hil : i < rows.length := (List.getElem?_eq_some_iff.1 hi).1; refine ⟨by rw [List.length_set]; exact p.v, fun i' row' h => ?_, by simpa using p.cap, Nat.lt_of_lt_of_le p.lt hw, fun i' j' h1 h2 => ?_, fun i' row' j' x h1 h2 => ?_, p.st⟩
 · rw [List.getElem?_set] at h
   split at h
   · rename_i e; subst e
     try rw [if_pos hil] at h
     cases h
     rw [List.length_set]; exact p.len i row hi
   · exact p.len i' row' h
 · show _ = some (if i' = i ∧ j' = j then u else f i' j')
   by_cases e : i' = i ∧ j' = j
   · obtain ⟨rfl, rfl⟩ := e; rw [if_pos ⟨rfl, rfl⟩]; exact hu
   · rw [if_neg e]
     rw [List.length_set] at h1; rw [hc i' j' h1 h2 e]; exact p.cell i' j' h1 h2
 · show Rel w' Top ζ (if i' = i ∧ j' = j then u else f i' j') x
   by_cases e : i' = i ∧ j' = j
   · obtain ⟨rfl, rfl⟩ := e; rw [if_pos ⟨rfl, rfl⟩]
     have hjl : j' < row.length := by rw [p.len i' row hi]; exact hj
     simp [hil] at h1; subst h1
     simp [hjl] at h2; subst h2
     exact hd
   · rw [if_neg e]
     rw [List.getElem?_set] at h1; split at h1
     · rename_i e2; subst e2
       try rw [if_pos hil] at h1
       cases h1
       rw [List.getElem?_set, if_neg (fun e3 => e ⟨rfl, e3.symm⟩)] at h2; exact ho i row j' x e hi h2
     · exact ho i' row' j' x e h1 h2
end Go.VM
