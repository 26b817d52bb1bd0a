/- What the law of exactness for BackNet wants. Conditions: none. -/
import Derived.Test.YtfpkfcfiihfopaaDoorBVW3
import Derived.Test.YtfpkfcfiihfopaaDoorBVK4
import Derived.Test.YtfpkfcfiihfopaaDoorBVK5

namespace Go.VM
set_option linter.unusedVariables false
set_option linter.unusedSimpArgs false
set_option maxHeartbeats 4000000
theorem backGo_wt : ∀ (l : List Ins) (s t : List Net), backGo s l = some t → netsWt t ≤ netsWt s + lWt l
 | [], s, t, h => by simp only [backGo, Option.some.injEq] at h; subst h; simp [lWt]
 | x :: r, s, t, h => by
  unfold backGo at h; split at h
  · cases h
  · have h1 := backGo_wt r _ _ h
    have h2 := step_wt s x; simp only [lWt]; omega
theorem backNet_wt (l : List Ins) : ((backNetL l).getD Net.nil).wt ≤ 1 + lWt l := by
 have h0 : Net.nil.wt = 1 := by simp [Net.nil, Net.wt, netsWt]
 unfold backNetL; split
 · simp [h0]
 · split
   · rename_i n hn
     have := backGo_wt l [] [n] hn; split
     · simp only [netsWt] at this
       simp; omega
     · simp [h0]
   · simp [h0]
section
variable {P : Program} {fid : Nat → FuncId} {cid : FuncId → Nat} {w0 w : World}
theorem sound_k {a : Value} {rowsA : List (List D)} {szA toA eqA markA : Nat} (h : Sound P fid w0 a rowsA szA toA eqA markA) (hc : 1 + ctR rowsA < 2 ^ 62) : KSound P fid w0 a (Kind.rows rowsA) toA eqA markA where
 to := fun w hw => (h.to w hw).mono fun v w' ⟨ζ, st, R, h1, h2⟩ => ⟨ζ, _, new_k h1 h2⟩
 eq := fun N M u v w hw hu hv => h.eq N M u v w hw hu hv
 mark := mark_k h.mark hc
theorem Env.callR2 (E : Env P fid cid) (hg : Glob GT (ctxN w0.heap.size w0)) (hw : OnW w0 w) {f n : Nat} {d e : List D} {r : Res} (h : go n f [rowX d, rowX e] [] sup0 = some r) {N M : Nat} {u v : Value} (hu : RdRow N w u d) (hv : RdRow M w v e) :
 MC P fid f [u, v] w fun u w' => ∃ κ', κ'.w = w' ∧ Out fid (ctxN w.heap.size w) [] sup0 κ' r u :=
 E.call hg hw h rfl fun i x hx => by
  match i with
  | 0 => simp at hx; subst hx; exact ⟨u, rfl, hu.rel⟩
  | 1 => simp at hx; subst hx; exact ⟨v, rfl, hv.rel⟩
  | i + 2 => simp at hx
theorem eq_netK (E : Env P fid cid) (hg : Glob GT (ctxN w0.heap.size w0)) {t : Net} (ht : t.wt < 2 ^ 28) : KEq P fid w0 (Kind.agg t.row) 223 := fun N M u v w hw hu hv => by
 have h := same_net t.wt t (Nat.le_refl _) (by omega) _ (Nat.le_refl _) sup0; rw [← rowX_net] at h; refine (E.callR2 hg hw h hu hv).mono ?_
 rintro r w' ⟨κ', rfl, O⟩; exact ⟨out_s O, out_tou O⟩
theorem out_row2 {N : Nat} {s : Sup} {κ' : Ctx} {v x : Value} {ds : List D} (O : Out fid (ctxN N w) [] s κ' ⟨.tup [(true, ds.map W.d), (false, [.d (.s x)])], [], []⟩ v) : ∃ arr : Array Value, v = .tuple #[.agg arr, x] ∧ LRel fid κ' arr (ds.map W.d) := by
 obtain ⟨arr, rfl, hs, hr⟩ := O.v; obtain ⟨a, ha, h1⟩ := hr 0 _ rfl; obtain ⟨b, hb, h2⟩ := hr 1 _ rfl; obtain ⟨ar, rfl, h1⟩ := h1; have e2 : b = x := by
  have h : Rel κ'.w κ'.Im κ'.ζ b (.s x) := h2; cases h; rfl
 subst e2; refine ⟨ar, ?_, h1⟩
 have : arr = #[.agg ar, b] := by
  apply Array.ext
  · simpa using hs
  · intro i h1 h2
    have : i < 2 := by simpa using h2
    match i with
    | 0 => rw [Array.getElem?_eq_getElem h1] at ha; simpa using ha
    | 1 => rw [Array.getElem?_eq_getElem h1] at hb; simpa using hb
 rw [this]
theorem netP_row (t : Net) : netP t = (true, t.row.map W.d) := by cases t; simp [Net.row, Net.kind, Net.op, Net.as, Net.kids]
end
end Go.VM
