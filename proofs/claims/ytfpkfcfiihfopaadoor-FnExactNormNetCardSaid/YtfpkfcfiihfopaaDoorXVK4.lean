/- Kinds of data in the laws of exactness: slices, and structs that hold slices. Conditions: none. -/
import Derived.Test.YtfpkfcfiihfopaaDoorXVK2
import Derived.Test.YtfpkfcfiihfopaaDoorXVP9

namespace Go.VM
set_option linter.unusedVariables false
set_option linter.unusedSimpArgs false
set_option linter.unusedSectionVars false
set_option maxHeartbeats 4000000
def Kind.rows (rows : List (List D)) : Kind where
 Rd := fun N w v => Go.VM.Rd N w v (.l 0 rows)
 Ow := fun w ζ v l => ∃ st R, Own w ζ v (.l st R) ∧ erR R = rows ∧ l = (D.l st R).sts
 Mk := fun w ζ v l => ∃ st R, Own w ζ v (.l st (mkR R 1)) ∧ erR R = rows ∧ l = (D.l st R).sts
 n := ctR rows
 rd_tou := fun h hw hs => h.tou hw hs
 ow_tou := fun ⟨st, R, h1, h2, h3⟩ hw hs => ⟨st, R, h1.tou hw (by subst h3; exact hs), h2, h3⟩
 mk_tou := fun ⟨st, R, h1, h2, h3⟩ hw hs => ⟨st, R, h1.tou hw (by subst h3; rw [show (D.l st (mkR R 1)).sts = (D.l st R).sts from D.sts_mk (.l st R) 1]; exact hs), h2, h3⟩
 ow_lt := fun ⟨st, R, h1, h2, h3⟩ => by subst h3; exact h1.lt
 ow_rd := fun ⟨st, R, h1, h2, h3⟩ => h1.rd h2
structure OwnRow (w : World) (ζ : Nat → Option Nat) (arr : Array Value) (ds : List D) : Prop where
 size : arr.size = ds.length
 rel : ∀ (i : Nat) (d : D), ds[i]? = some d → ∃ x : Value, arr[i]? = some x ∧ Rel w Top ζ x d
 nz : ∀ t ∈ stsL ds, t ≠ 0
 nd : (stsL ds).Nodup
 cl : ∀ t ∈ stsL ds, ∀ b, ζ t = some b → Clean w b
theorem OwnRow.tou {S : Nat → Prop} {w w' : World} {ζ : Nat → Option Nat} {arr : Array Value} {ds : List D} (h : OwnRow w ζ arr ds) (hw : Tou S w w') (hs : ∀ b, Sb ζ (stsL ds) b → ¬ S b) : OwnRow w' ζ arr ds :=
 ⟨h.size, fun i d hi => by
  obtain ⟨x, hx, q⟩ := h.rel i d hi; have hm : ∀ t ∈ d.sts, t ∈ stsL ds := fun t ht => stsL_mem (List.mem_of_getElem? hi) ht
  exact ⟨x, hx, q.tou hw (fun t ht => h.nz t (hm t ht)) fun b ⟨t, ht, e⟩ => hs b ⟨t, hm t ht, e⟩⟩, h.nz, h.nd, fun t ht b e => hw.clean b (h.cl t ht b e)⟩
def RdRow (N : Nat) (w : World) (v : Value) (row : List D) : Prop := N ≤ w.heap.size ∧ ∃ arr : Array Value, v = .agg arr ∧ arr.size = row.length ∧ ∀ (i : Nat) (d : D), row[i]? = some d → ∃ x : Value, arr[i]? = some x ∧ Rel w (fun b _ => b < N) (fun _ => none) x d
def mkTop : List D → Nat → List D
 | [], _ => []
 | .s v :: r, k => .s v :: mkTop r k
 | .l st R :: r, k => .l st (mkR R k) :: mkTop r (k + ctR R)
def ctTop : List D → Nat
 | [] => 0
 | .s v :: r => ctTop r
 | .l _ R :: r => ctR R + ctTop r
theorem stsL_mkTop : ∀ (l : List D) (k : Nat), stsL (mkTop l k) = stsL l
 | [], k => rfl
 | .s v :: r, k => by simp only [mkTop, stsL]; rw [stsL_mkTop r]
 | .l st R :: r, k => by
  simp only [mkTop, stsL]; rw [stsL_mkTop r, show (D.l st (mkR R k)).sts = (D.l st R).sts from D.sts_mk (.l st R) k]
def Kind.agg (row : List D) : Kind where
 Rd := fun N w v => RdRow N w v row
 Ow := fun w ζ v l => ∃ arr ds, v = .agg arr ∧ OwnRow w ζ arr ds ∧ erL ds = row ∧ l = stsL ds
 Mk := fun w ζ v l => ∃ arr ds, v = .agg arr ∧ OwnRow w ζ arr (mkTop ds 1) ∧ erL ds = row ∧ l = stsL ds
 n := ctTop row
 rd_tou := fun ⟨h1, arr, h2, h3, h4⟩ hw hs => ⟨Nat.le_trans h1 hw.size, arr, h2, h3, fun i d hi => let ⟨x, hx, q⟩ := h4 i d hi; ⟨x, hx, Rel.old q h1 hw hs⟩⟩
 ow_tou := fun ⟨arr, ds, h1, h2, h3, h4⟩ hw hs => ⟨arr, ds, h1, h2.tou hw (by subst h4; exact hs), h3, h4⟩
 mk_tou := fun ⟨arr, ds, h1, h2, h3, h4⟩ hw hs => ⟨arr, ds, h1, h2.tou hw (by subst h4; rw [stsL_mkTop]; exact hs), h3, h4⟩
 ow_lt := fun ⟨arr, ds, h1, h2, h3, h4⟩ b ⟨t, ht, e⟩ => (h2.cl t (by rw [← h4]; exact ht) b e).lt
 ow_rd := fun ⟨arr, ds, h1, h2, h3, h4⟩ => by
  subst h1 h3; refine ⟨Nat.le_refl _, arr, rfl, by rw [h2.size, erL_length], fun i d hi => ?_⟩
  rw [erL_get, Option.map_eq_some_iff] at hi; obtain ⟨d0, hd, rfl⟩ := hi; obtain ⟨x, hx, q⟩ := h2.rel i d0 hd; exact ⟨x, hx, (q.size).er⟩
section
variable {P : Program} {fid : Nat → FuncId} {cid : FuncId → Nat} {w0 w : World}
theorem row_new {N : Nat} {s : Sup} {κ' : Ctx} {r : Res} {u : Value} {arr : Array Value} {ds : List D} (hs : ∀ k, s k ≠ 0) (O : Out fid (ctxN N w) [] s κ' r u) (h : LRel fid κ' arr (ds.map W.d)) (hf : Fr s (stsL ds)) {row : List D} (e : erL ds = row) : KNew (Kind.agg row) w κ'.w κ'.ζ (.agg arr) (stsL ds) := by
 refine ⟨out_tou O, ⟨arr, ds, rfl, ⟨by simpa using h.1, fun i d hi => ?_, fun t ht => ?_, hf.1, fun t ht b e => O.zlt t b e⟩, e, rfl⟩, fun t t' b e e' => O.zinj t t' b e e', fun b ⟨t, ht, e⟩ => ?_⟩
 · obtain ⟨x, hx, q⟩ := h.2 i (.d d) (by rw [List.getElem?_map, hi]; rfl)
   exact ⟨x, hx, Rel.top q⟩
 · obtain ⟨k, rfl⟩ := hf.2 t ht
   exact hs k
 · rcases O.znew t b e with h | ⟨_, h | h⟩
   · cases h
   · exact h
   · exact absurd h passOf_nil
theorem row_rd {N : Nat} {s : Sup} {κ' : Ctx} {r : Res} {u : Value} {arr : Array Value} {ds : List D} (O : Out fid (ctxN N w) [] s κ' r u) (h : LRel fid κ' arr (ds.map W.d)) (e : erL ds = ds) : RdRow κ'.w.heap.size κ'.w (.agg arr) ds := by
 refine ⟨Nat.le_refl _, arr, rfl, by simpa using h.1, fun i d hi => ?_⟩
 obtain ⟨x, hx, q⟩ := h.2 i (.d d) (by rw [List.getElem?_map, hi]; rfl); have hd : d.er = d := by
  have : (erL ds)[i]? = some d.er := by rw [erL_get, hi]; rfl
  rw [e, hi] at this; exact (Option.some.inj this).symm
 have q' : Rel κ'.w κ'.Im κ'.ζ x d := q; have := (Rel.top q').size.er (ζ' := fun _ => none); rw [hd] at this; exact ⟨x, hx, this⟩
theorem RdRow.rel {N : Nat} {v : Value} {row : List D} (h : RdRow N w v row) : VRel fid (ctxN w.heap.size w) v (.agg (row.map W.d)) := by
 obtain ⟨h1, arr, rfl, h3, h4⟩ := h; refine ⟨arr, rfl, by simpa using h3, fun i c hc => ?_⟩
 rw [List.getElem?_map, Option.map_eq_some_iff] at hc; obtain ⟨d, hd, rfl⟩ := hc; obtain ⟨x, hx, q⟩ := h4 i d hd; exact ⟨x, hx, Rel.mono (Nat.le_refl _) (fun b _ hb => Nat.lt_of_lt_of_le hb h1) (fun _ _ _ => rfl) (fun _ _ h => h) q⟩
end
end Go.VM
