/- BackNet, with stamps. Conditions: none. -/
import Derived.Test.YtfpkfcfiihfopaaDoorBVP5
import Derived.Test.YtfpkfcfiihfopaaDoorBVY43
import Derived.Test.YtfpkfcfiihfopaaDoorBVN1
import Derived.Test.YtfpkfcfiihfopaaDoorBVP9

namespace Go.VM
set_option linter.unusedSimpArgs false
set_option linter.unusedVariables false
set_option maxHeartbeats 16000000
theorem fr_nil {s : Sup} : Fr s [] := ⟨by simp, by simp⟩
theorem ps_BackNet {n : Nat} (l : List Ins) (ha : ∀ x ∈ l, x.e.as.length < 2 ^ 40) (hW : lWt l < 2 ^ 27) (hl : l.length < 2 ^ 40) (hn : l.length + lWt l + 100 < n) (s : Sup) :
 ∃ ds : List D, goS (n + 1) 287 [.w (isW l)] [] s = some ⟨.tup [(true, ds.map W.d), (false, [.d (.s (.bool (backNetL l).isSome))])], [], []⟩ ∧ erL ds = ((backNetL l).getD Net.nil).row ∧ (Inj s → Fr s (stsL ds)) := by
 have nil : ∀ (h : (backNetL l).getD Net.nil = Net.nil), erL [iD 0, iD 0, .l 0 [], .l 0 []] = ((backNetL l).getD Net.nil).row ∧ (Inj s → Fr s (stsL [iD 0, iD 0, .l 0 [], .l 0 []])) := fun h => by
  rw [h]; exact ⟨by simp [erL, D.er, erR, Net.nil, Net.row, argRows, netRows], fun _ => by simpa [stsL_c, stsL_n, sts_s, D.sts] using fr_nil⟩
 revert nil
 unfold backNetL
 by_cases h : 1000 < l.length
 · have hi : ((1000 : Int) < (l.length : Int)) = True := eq_true (by omega)
   intro nil; refine ⟨[iD 0, iD 0, .l 0 [], .l 0 []], ?_, nil (by simp [h])⟩
   simp [gos_of (n := n) FT_287 rfl, F287, insRows_length, h, hi]
 · have hi : ((1000 : Int) < (l.length : Int)) = False := eq_false (by omega)
   rw [if_neg h]; have key : ∀ st : St, execC (goS n) modeT GT false 54 n F287_L0 st = execC (go n) mode GT false 54 n F287_L0 st := fun st => execS_go rfl
   simp [gos_of (n := n) FT_287 rfl, F287, insRows_length, hi]; rw [key]; generalize hst : St.mk _ _ _ _ = st; obtain ⟨e, ⟨τ', H', g', s'⟩, hx, -, ⟨rfl, t, ht, hwt, h2, h3, h0, hg, hS⟩ | ⟨rfl, ht, h2, h3, h0⟩⟩ := loop287_0 (n := n) l ha hW hl (by omega) st (by simp [← hst]) (by simp [← hst]) (by simp [← hst]) (by subst hst; exact ⟨by simp, by simp, by simp, by simp, .inl ⟨rfl, by simp⟩⟩)
   · have hp : Inj s → Past s s' [] := fun hi => execC_past _ hx (by rw [← hst]; exact (past_0 hi).weak.weak.weak.weak)
     simp only at h2 h3 h0 hg; clear hst; rw [ht]; have zX := far hg; rcases hS with ⟨rfl, h4⟩ | ⟨b, c, R, hb0, -, -, hbg, h4, hB, hR⟩
     · simp only at h4
       intro nil; refine ⟨[iD 0, iD 0, .l 0 [], .l 0 []], ?_, nil rfl⟩
       simp [hx, h2, h3, h4, h0]
     · simp only at hbg h4 hB
       have bN := ne2 hb0
       match t, hwt, h4, hR with
       | [], hwt, h4, hR =>
        simp only [List.length_nil] at h4; intro nil; refine ⟨[iD 0, iD 0, .l 0 [], .l 0 []], ?_, nil rfl⟩
        simp [hx, h2, h3, h4, h0, hB, bN]
       | [x], hwt, h4, hR =>
        simp only [List.length_singleton] at h4 hR; simp only [netsWt] at hwt; have hg1 := get_top (R := R) (r := []) (a := x) (by simpa using hR); simp only [List.length_nil] at hg1; have hle := take_len hR (by simp [netRows_length]); have w1 := run_size (lWt l) x (by omega) (by omega) n (by omega); have g1 : goS n 118 = go n 118 := gos_go rfl; obtain ⟨xk, xo, xa, xs⟩ := x; obtain ⟨t1, t2, R1, R2, w2⟩ := cp_net (lWt l) xk xo xa xs (by omega) (by omega) n (by omega); have v2 := fun s => (w2 s).1
        by_cases hs : (Net.mk xk xo xa xs).size ≤ 400
        · have hs' : ((400 : Int) < ((Net.mk xk xo xa xs).size : Int)) = False := eq_false (by omega)
          simp only [if_pos hs]; intro nil; generalize (Net.mk xk xo xa xs).size = sz at w1 hs'; simp only [Net.row] at hg1
          let sp : Sup := fun q => subS (restS s') 3 (2 * q + 1)
          refine ⟨[iD xk, iD xo, .l (t1 sp) (R1 sp), .l (t2 sp) (R2 sp)], ?_, by simp [erL, D.er, (w2 _).2.1, (w2 _).2.2.1, Net.row], fun hi => ?_⟩
          · simp [-getElem?_pos, hx, h2, h3, h4, h0, hB, hg1, hle, g1, w1, v2, hs', bN, sp]
          · have h5 := ((hp hi).weak.call 3 (w2 _).2.2.2).fr
            simpa [stsL_c, stsL_n, sts_s, sp] using h5
        · have hs' : ((400 : Int) < ((Net.mk xk xo xa xs).size : Int)) = True := eq_true (by omega)
          simp only [if_neg hs]; intro nil; refine ⟨[iD 0, iD 0, .l 0 [], .l 0 []], ?_, nil rfl⟩
          generalize (Net.mk xk xo xa xs).size = sz at w1 hs'; simp only [Net.row] at hg1; simp [-getElem?_pos, hx, h2, h3, h4, h0, hB, hg1, hle, g1, w1, v2, hs', bN]
       | x :: y :: r, hwt, h4, hR =>
        simp only [List.length_cons] at h4; have q1 : ((((r.length : Int) + 1 + 1) = 1)) = False := eq_false (by omega); intro nil; refine ⟨[iD 0, iD 0, .l 0 [], .l 0 []], ?_, nil rfl⟩
        simp [-getElem?_pos, hx, h2, h3, h4, h0, hB, q1, bN]
   · simp only at h2 h3 h0
     clear hst; rw [ht]; intro nil; refine ⟨[iD 0, iD 0, .l 0 [], .l 0 []], ?_, nil rfl⟩
     simp [hx, h2, h3, h0]
end Go.VM

/- The laws of exactness, by the shape of their code, whatever the kinds of what they take and give. Conditions: none. -/
namespace Go.VM
set_option linter.unusedVariables false
set_option linter.unusedSimpArgs false
set_option maxHeartbeats 4000000
structure Kind where
 Rd : Nat → World → Value → Prop
 Ow : World → (Nat → Option Nat) → Value → List Nat → Prop
 Mk : World → (Nat → Option Nat) → Value → List Nat → Prop
 n : Nat
 rd_tou : ∀ {N : Nat} {S : Nat → Prop} {w w' : World} {v : Value}, Rd N w v → Tou S w w' → (∀ b, S b → N ≤ b) → Rd N w' v
 ow_tou : ∀ {S : Nat → Prop} {w w' : World} {ζ : Nat → Option Nat} {v : Value} {l : List Nat}, Ow w ζ v l → Tou S w w' → (∀ b, Sb ζ l b → ¬ S b) → Ow w' ζ v l
 mk_tou : ∀ {S : Nat → Prop} {w w' : World} {ζ : Nat → Option Nat} {v : Value} {l : List Nat}, Mk w ζ v l → Tou S w w' → (∀ b, Sb ζ l b → ¬ S b) → Mk w' ζ v l
 ow_lt : ∀ {w : World} {ζ : Nat → Option Nat} {v : Value} {l : List Nat}, Ow w ζ v l → ∀ b, Sb ζ l b → b < w.heap.size
 ow_rd : ∀ {w : World} {ζ : Nat → Option Nat} {v : Value} {l : List Nat}, Ow w ζ v l → Rd w.heap.size w v
theorem Kind.same (K : Kind) {w w' : World} {ζ : Nat → Option Nat} {v : Value} {l : List Nat} (h : K.Ow w ζ v l) (hw : Tou Old w w') : K.Ow w' ζ v l := K.ow_tou h hw fun _ _ h => h.elim
theorem Kind.msame (K : Kind) {w w' : World} {ζ : Nat → Option Nat} {v : Value} {l : List Nat} (h : K.Mk w ζ v l) (hw : Tou Old w w') : K.Mk w' ζ v l := K.mk_tou h hw fun _ _ h => h.elim
theorem Kind.rsame (K : Kind) {N : Nat} {w w' : World} {v : Value} (h : K.Rd N w v) (hw : Tou Old w w') : K.Rd N w' v := K.rd_tou h hw fun _ h => h.elim
structure KNew (K : Kind) (w w' : World) (ζ : Nat → Option Nat) (v : Value) (l : List Nat) : Prop where
 tou : Tou Old w w'
 own : K.Ow w' ζ v l
 inj : ZInj ζ
 low : ∀ b, Sb ζ l b → w.heap.size ≤ b
theorem KNew.rd {K : Kind} {w w' : World} {ζ : Nat → Option Nat} {v : Value} {l : List Nat} (h : KNew K w w' ζ v l) : K.Rd w'.heap.size w' v := K.ow_rd h.own
section
variable {P : Program} {fid : Nat → FuncId} {cid : FuncId → Nat}
def KMark (P : Program) (fid : Nat → FuncId) (K : Kind) (f : Nat) : Prop := ∀ (w : World) (ζ : Nat → Option Nat) (v : Value) (l : List Nat), ZInj ζ → K.Ow w ζ v l →
 MC P fid f [v, .int .i64 1] w fun r w' => r = .int .i64 ((1 + K.n : Nat) : Int) ∧ Tou (Sb ζ l) w w' ∧ K.Mk w' ζ v l
def KHeld (P : Program) (fid : Nat → FuncId) (K : Kind) (f : Nat) : Prop := ∀ (w : World) (ζ : Nat → Option Nat) (v : Value) (l : List Nat), K.Mk w ζ v l →
 MC P fid f [v, .int .i64 1] w fun r w' => r = .int .i64 ((1 + K.n : Nat) : Int) ∧ Tou Old w w'
def KEq (P : Program) (fid : Nat → FuncId) (w0 : World) (K : Kind) (f : Nat) : Prop := ∀ N M u v w, Tou (fun b => w0.heap.size ≤ b) w0 w → K.Rd N w u → K.Rd M w v → MC P fid f [u, v] w fun r w' => r = .bool true ∧ Tou Old w w'
structure KSound (P : Program) (fid : Nat → FuncId) (w0 : World) (a : Value) (K : Kind) (toA eqA markA : Nat) : Prop where
 to : ∀ w, Tou (fun b => w0.heap.size ≤ b) w0 w → MC P fid toA [a] w fun v w' => ∃ ζ l, KNew K w w' ζ v l
 eq : KEq P fid w0 K eqA
 mark : KMark P fid K markA
structure KGives2 (P : Program) (fid : Nat → FuncId) (w0 : World) (KA KR : Kind) (c : Value) (specF implF eqR markR heldR : Nat) : Prop where
 spec : ∀ N v w, Tou (fun b => w0.heap.size ≤ b) w0 w → KA.Rd N w v → MC P fid specF [v] w fun r w' => ∃ r0, r = .tuple #[r0, c] ∧ Tou Old w w' ∧ KR.Rd w'.heap.size w' r0
 impl : ∀ N v w, Tou (fun b => w0.heap.size ≤ b) w0 w → KA.Rd N w v → MC P fid implF [v] w fun r w' => ∃ r0, r = .tuple #[r0, c] ∧ ∃ ζ l, KNew KR w w' ζ r0 l
 eq : KEq P fid w0 KR eqR
 mark : KMark P fid KR markR
 held : KHeld P fid KR heldR
end
end Go.VM

/- The laws of exactness over kinds of data: a bool beside what is handed back. Conditions: none. -/
namespace Go.VM
set_option linter.unusedVariables false
set_option linter.unusedSimpArgs false
set_option maxHeartbeats 4000000
section
variable {P : Program} {fid : Nat → FuncId} {cid : FuncId → Nat}
end
end Go.VM

/- Kinds of data in the laws of exactness: slices, and structs that hold slices. Conditions: none. -/
namespace Go.VM
set_option linter.unusedVariables false
set_option linter.unusedSimpArgs false
set_option linter.unusedSectionVars false
set_option maxHeartbeats 4000000
def Kind.rows (rows : List (List D)) : Kind where
 Rd := fun N w v => Go.VM.Rd N w v (.l 0 rows)
 Ow := fun w ζ v l => ∃ st R, Own w ζ v (.l st R) ∧ erR R = rows ∧ l = (D.l st R).sts
 Mk := fun w ζ v l => ∃ st R, Own w ζ v (.l st (mkR R 1)) ∧ erR R = rows ∧ l = (D.l st R).sts
 n := ctR rows
 rd_tou := fun h hw hs => h.tou hw hs
 ow_tou := fun ⟨st, R, h1, h2, h3⟩ hw hs => ⟨st, R, h1.tou hw (by subst h3; exact hs), h2, h3⟩
 mk_tou := fun ⟨st, R, h1, h2, h3⟩ hw hs => ⟨st, R, h1.tou hw (by subst h3; rw [show (D.l st (mkR R 1)).sts = (D.l st R).sts from D.sts_mk (.l st R) 1]; exact hs), h2, h3⟩
 ow_lt := fun ⟨st, R, h1, h2, h3⟩ => by subst h3; exact h1.lt
 ow_rd := fun ⟨st, R, h1, h2, h3⟩ => h1.rd h2
structure OwnRow (w : World) (ζ : Nat → Option Nat) (arr : Array Value) (ds : List D) : Prop where
 size : arr.size = ds.length
 rel : ∀ (i : Nat) (d : D), ds[i]? = some d → ∃ x : Value, arr[i]? = some x ∧ Rel w Top ζ x d
 nz : ∀ t ∈ stsL ds, t ≠ 0
 nd : (stsL ds).Nodup
 cl : ∀ t ∈ stsL ds, ∀ b, ζ t = some b → Clean w b
theorem OwnRow.tou {S : Nat → Prop} {w w' : World} {ζ : Nat → Option Nat} {arr : Array Value} {ds : List D} (h : OwnRow w ζ arr ds) (hw : Tou S w w') (hs : ∀ b, Sb ζ (stsL ds) b → ¬ S b) : OwnRow w' ζ arr ds :=
 ⟨h.size, fun i d hi => by
  obtain ⟨x, hx, q⟩ := h.rel i d hi; have hm : ∀ t ∈ d.sts, t ∈ stsL ds := fun t ht => stsL_mem (List.mem_of_getElem? hi) ht
  exact ⟨x, hx, q.tou hw (fun t ht => h.nz t (hm t ht)) fun b ⟨t, ht, e⟩ => hs b ⟨t, hm t ht, e⟩⟩, h.nz, h.nd, fun t ht b e => hw.clean b (h.cl t ht b e)⟩
def RdRow (N : Nat) (w : World) (v : Value) (row : List D) : Prop := N ≤ w.heap.size ∧ ∃ arr : Array Value, v = .agg arr ∧ arr.size = row.length ∧ ∀ (i : Nat) (d : D), row[i]? = some d → ∃ x : Value, arr[i]? = some x ∧ Rel w (fun b _ => b < N) (fun _ => none) x d
def mkTop : List D → Nat → List D
 | [], _ => []
 | .s v :: r, k => .s v :: mkTop r k
 | .l st R :: r, k => .l st (mkR R k) :: mkTop r (k + ctR R)
def ctTop : List D → Nat
 | [] => 0
 | .s v :: r => ctTop r
 | .l _ R :: r => ctR R + ctTop r
theorem stsL_mkTop : ∀ (l : List D) (k : Nat), stsL (mkTop l k) = stsL l
 | [], k => rfl
 | .s v :: r, k => by simp only [mkTop, stsL]; rw [stsL_mkTop r]
 | .l st R :: r, k => by
  simp only [mkTop, stsL]; rw [stsL_mkTop r, show (D.l st (mkR R k)).sts = (D.l st R).sts from D.sts_mk (.l st R) k]
def Kind.agg (row : List D) : Kind where
 Rd := fun N w v => RdRow N w v row
 Ow := fun w ζ v l => ∃ arr ds, v = .agg arr ∧ OwnRow w ζ arr ds ∧ erL ds = row ∧ l = stsL ds
 Mk := fun w ζ v l => ∃ arr ds, v = .agg arr ∧ OwnRow w ζ arr (mkTop ds 1) ∧ erL ds = row ∧ l = stsL ds
 n := ctTop row
 rd_tou := fun ⟨h1, arr, h2, h3, h4⟩ hw hs => ⟨Nat.le_trans h1 hw.size, arr, h2, h3, fun i d hi => let ⟨x, hx, q⟩ := h4 i d hi; ⟨x, hx, Rel.old q h1 hw hs⟩⟩
 ow_tou := fun ⟨arr, ds, h1, h2, h3, h4⟩ hw hs => ⟨arr, ds, h1, h2.tou hw (by subst h4; exact hs), h3, h4⟩
 mk_tou := fun ⟨arr, ds, h1, h2, h3, h4⟩ hw hs => ⟨arr, ds, h1, h2.tou hw (by subst h4; rw [stsL_mkTop]; exact hs), h3, h4⟩
 ow_lt := fun ⟨arr, ds, h1, h2, h3, h4⟩ b ⟨t, ht, e⟩ => (h2.cl t (by rw [← h4]; exact ht) b e).lt
 ow_rd := fun ⟨arr, ds, h1, h2, h3, h4⟩ => by
  subst h1 h3; refine ⟨Nat.le_refl _, arr, rfl, by rw [h2.size, erL_length], fun i d hi => ?_⟩
  rw [erL_get, Option.map_eq_some_iff] at hi; obtain ⟨d0, hd, rfl⟩ := hi; obtain ⟨x, hx, q⟩ := h2.rel i d0 hd; exact ⟨x, hx, (q.size).er⟩
section
variable {P : Program} {fid : Nat → FuncId} {cid : FuncId → Nat} {w0 w : World}
theorem mark_k {f : Nat} {rows : List (List D)} (h : ∀ R, erR R = rows → MarkOK P fid f R) (hc : 1 + ctR rows < 2 ^ 62) : KMark P fid (Kind.rows rows) f := by
 rintro w ζ v l hz ⟨st, R, h1, h2, rfl⟩; have e : ctR R = ctR rows := by rw [← h2, ctR_er]
 refine (h R h2 w ζ v st 1 hz h1 (by omega)).mono ?_
 rintro r w' ⟨g1, g2, g3⟩; rw [e] at g1; exact ⟨g1, g2, st, R, g3, h2, rfl⟩
theorem new_k {w w' : World} {ζ : Nat → Option Nat} {v : Value} {st : Nat} {R rows : List (List D)} (h : New w w' ζ v (.l st R)) (e : erR R = rows) : KNew (Kind.rows rows) w w' ζ v (D.l st R).sts :=
 ⟨h.tou, ⟨st, R, h.own, e, rfl⟩, h.inj, h.low⟩
theorem row_new {N : Nat} {s : Sup} {κ' : Ctx} {r : Res} {u : Value} {arr : Array Value} {ds : List D} (hs : ∀ k, s k ≠ 0) (O : Out fid (ctxN N w) [] s κ' r u) (h : LRel fid κ' arr (ds.map W.d)) (hf : Fr s (stsL ds)) {row : List D} (e : erL ds = row) : KNew (Kind.agg row) w κ'.w κ'.ζ (.agg arr) (stsL ds) := by
 refine ⟨out_tou O, ⟨arr, ds, rfl, ⟨by simpa using h.1, fun i d hi => ?_, fun t ht => ?_, hf.1, fun t ht b e => O.zlt t b e⟩, e, rfl⟩, fun t t' b e e' => O.zinj t t' b e e', fun b ⟨t, ht, e⟩ => ?_⟩
 · obtain ⟨x, hx, q⟩ := h.2 i (.d d) (by rw [List.getElem?_map, hi]; rfl)
   exact ⟨x, hx, Rel.top q⟩
 · obtain ⟨k, rfl⟩ := hf.2 t ht
   exact hs k
 · rcases O.znew t b e with h | ⟨_, h | h⟩
   · cases h
   · exact h
   · exact absurd h passOf_nil
theorem row_rd {N : Nat} {s : Sup} {κ' : Ctx} {r : Res} {u : Value} {arr : Array Value} {ds : List D} (O : Out fid (ctxN N w) [] s κ' r u) (h : LRel fid κ' arr (ds.map W.d)) (e : erL ds = ds) : RdRow κ'.w.heap.size κ'.w (.agg arr) ds := by
 refine ⟨Nat.le_refl _, arr, rfl, by simpa using h.1, fun i d hi => ?_⟩
 obtain ⟨x, hx, q⟩ := h.2 i (.d d) (by rw [List.getElem?_map, hi]; rfl); have hd : d.er = d := by
  have : (erL ds)[i]? = some d.er := by rw [erL_get, hi]; rfl
  rw [e, hi] at this; exact (Option.some.inj this).symm
 have q' : Rel κ'.w κ'.Im κ'.ζ x d := q; have := (Rel.top q').size.er (ζ' := fun _ => none); rw [hd] at this; exact ⟨x, hx, this⟩
theorem RdRow.rel {N : Nat} {v : Value} {row : List D} (h : RdRow N w v row) : VRel fid (ctxN w.heap.size w) v (.agg (row.map W.d)) := by
 obtain ⟨h1, arr, rfl, h3, h4⟩ := h; refine ⟨arr, rfl, by simpa using h3, fun i c hc => ?_⟩
 rw [List.getElem?_map, Option.map_eq_some_iff] at hc; obtain ⟨d, hd, rfl⟩ := hc; obtain ⟨x, hx, q⟩ := h4 i d hd; exact ⟨x, hx, Rel.mono (Nat.le_refl _) (fun b _ hb => Nat.lt_of_lt_of_le hb h1) (fun _ _ _ => rfl) (fun _ _ h => h) q⟩
end
end Go.VM
