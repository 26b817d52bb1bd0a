/- The laws of exactness for WayPlain and WayDown. Conditions: none. -/
import Derived.Test.YtfpkfcfiihfopaaDoorVY20

namespace Go.VM
set_option linter.unusedVariables false
set_option linter.unusedSimpArgs false
set_option maxHeartbeats 4000000
theorem same_ins {n : Nat} (x : Ins) (hn : x.e.as.length + 5 ≤ n) (hl : x.e.as.length < 2 ^ 30) (s : Sup) : go n 303 [rowX x.row, rowX x.row] [] s = some ⟨bV true, [], []⟩ := by
 obtain ⟨n, rfl⟩ : ∃ k, n = k + 1 := ⟨n - 1, by omega⟩; have w := same_el (n := n) x.e (by omega) hl; simp [go_of FT_303 rfl, F303, Ins.row, w]
theorem same_list {n : Nat} (l : List Ins) (m : Nat) (ha : ∀ x ∈ l, x.e.as.length ≤ m) (hm : m < 2 ^ 30) (hn : l.length + m + 8 ≤ n) (hl : l.length < 2 ^ 40) (s : Sup) : go n 275 [.w (isW l), .w (isW l)] [] s = some ⟨bV true, [], []⟩ := by
 obtain ⟨n, rfl⟩ : ∃ k, n = k + 1 := ⟨n - 1, by omega⟩; exact run_eqT (f := 275) (sz := 3) (c := 303) (n := n) rfl rfl rfl rfl rfl 0 0 (insRows l) (insRows l) rfl (insRows_all fun a _ => rfl) (insRows_all fun a _ => rfl)
  (fun i r r' h1 h2 s => by rw [h1] at h2; cases h2; exact insRows_all (p := fun r => go n 303 [rowX r, rowX r] [] s = some ⟨bV true, [], []⟩) (fun a h => same_ins a (by have := ha a h; omega) (by have := ha a h; omega) s) r (List.mem_of_getElem? h1)) (by simp [insRows]; omega) (by simp [insRows]; omega) s
theorem er_rows {α : Type} {row : α → List D} (h : ∀ a, erL (row a) = row a) : ∀ l : List α, erR (l.map row) = l.map row
 | [] => rfl
 | a :: r => by simp only [List.map_cons, erR]; rw [h a, er_rows h r]
theorem er_insRows (l : List Ins) : erR (insRows l) = insRows l := er_rows (fun a => by simp [erL, D.er, Ins.row, er_argRows]) l
def sup0 : Sup := fun k => k + 1
theorem sup0_ne (k : Nat) : sup0 k ≠ 0 := Nat.succ_ne_zero k
theorem sup0_inj : Inj sup0 := fun a b e => Nat.succ.inj e
abbrev OnW (w0 w : World) : Prop := Tou (fun b => w0.heap.size ≤ b) w0 w
section
variable {P : Program} {fid : Nat → FuncId} {cid : FuncId → Nat} {w0 w : World}
theorem glob_at (hg : Glob GT (ctxN w0.heap.size w0)) (hw : OnW w0 w) : Glob GT (ctxN w.heap.size w) := hg.up (Nat.le_refl _) hw (fun _ h => h) hw.size
theorem Rd.here {N : Nat} {v : Value} {d : D} (h : Rd N w v d) : Rel w (fun b _ => b < w.heap.size) (fun _ => none) v d := (h.up h.1 (Nat.le_refl _)).2
theorem Env.call (E : Env P fid cid) (hg : Glob GT (ctxN w0.heap.size w0)) (hw : OnW w0 w) {f n : Nat} {args : List V} {r : Res} (h : go n f args [] sup0 = some r) {vs : List Value} (hl : vs.length = args.length) (hr : ∀ (i : Nat) (x : V), args[i]? = some x → ∃ v : Value, vs[i]? = some v ∧ VRel fid (ctxN w.heap.size w) v x) :
 MC P fid f vs w fun u w' => ∃ κ', κ'.w = w' ∧ Out fid (ctxN w.heap.size w) [] sup0 κ' r u :=
 call_at (E.goOk _ _ _ _ _ _ h) sup0_ne sup0_inj (Nat.le_refl _) (glob_at hg hw) hl hr
theorem Env.call1 (E : Env P fid cid) (hg : Glob GT (ctxN w0.heap.size w0)) (hw : OnW w0 w) {f n : Nat} {d : D} {r : Res} (h : go n f [.w (.d d)] [] sup0 = some r) {N : Nat} {v : Value} (hv : Rd N w v d) :
 MC P fid f [v] w fun u w' => ∃ κ', κ'.w = w' ∧ Out fid (ctxN w.heap.size w) [] sup0 κ' r u :=
 E.call hg hw h rfl fun i x hx => by
  match i with
  | 0 => simp at hx; subst hx; exact ⟨v, rfl, hv.here⟩
  | i + 1 => simp at hx
theorem Env.call2 (E : Env P fid cid) (hg : Glob GT (ctxN w0.heap.size w0)) (hw : OnW w0 w) {f n : Nat} {d e : D} {r : Res} (h : go n f [.w (.d d), .w (.d e)] [] sup0 = some r) {N M : Nat} {u v : Value} (hu : Rd N w u d) (hv : Rd M w v e) :
 MC P fid f [u, v] w fun u w' => ∃ κ', κ'.w = w' ∧ Out fid (ctxN w.heap.size w) [] sup0 κ' r u :=
 E.call hg hw h rfl fun i x hx => by
  match i with
  | 0 => simp at hx; subst hx; exact ⟨u, rfl, hu.here⟩
  | 1 => simp at hx; subst hx; exact ⟨v, rfl, hv.here⟩
  | i + 2 => simp at hx
theorem Env.calls (E : Env P fid cid) (hg : Glob GT (ctxN w0.heap.size w0)) (hw : OnW w0 w) {f n : Nat} {d : D} {r : Res} (h : goS n f [.w (.d d)] [] sup0 = some r) {N : Nat} {v : Value} (hv : Rd N w v d) :
 MC P fid f [v] w fun u w' => ∃ κ', κ'.w = w' ∧ Out fid (ctxN w.heap.size w) [] sup0 κ' r u :=
 call_at (E.gosOk _ _ _ _ _ _ h) sup0_ne sup0_inj (Nat.le_refl _) (glob_at hg hw) rfl fun i x hx => by
  match i with
  | 0 => simp at hx; subst hx; exact ⟨v, rfl, hv.here⟩
  | i + 1 => simp at hx
theorem out_s {N : Nat} {s : Sup} {κ' : Ctx} {v x : Value} (O : Out fid (ctxN N w) [] s κ' ⟨.w (.d (.s x)), [], []⟩ v) : v = x := by
 have h : Rel κ'.w κ'.Im κ'.ζ v (.s x) := O.v; cases h; rfl
theorem rd_of {N : Nat} {s : Sup} {κ' : Ctx} {r : Res} {u v : Value} {d : D} (O : Out fid (ctxN N w) [] s κ' r u) (h : Rel κ'.w κ'.Im κ'.ζ v d) (e : d.er = d) : Rd κ'.w.heap.size κ'.w v d := by
 have := (Rel.top h).size.er (ζ' := fun _ => none); rw [e] at this; exact ⟨Nat.le_refl _, this⟩
theorem glob_in {κ : Ctx} {bs : List Box} {s : Sup} (hI : In fid GT κ bs s) (hG : ∀ g row, GT g = some row → erL row = row) : Glob GT (ctxN κ.w.heap.size κ.w) := by
 intro g row hg; obtain ⟨h1, h2⟩ := hI.glob g row hg; refine ⟨h1, fun j x hj => ?_⟩
 obtain ⟨a, y, hy, q⟩ := h2 j x hj; refine ⟨h1, y, hy, ?_⟩
 have e : x.er = x := by
  have h := hG g row hg; have h3 : (erL row)[j]? = some x.er := by rw [erL_get, hj]; rfl
  rw [h, hj] at h3; exact (Option.some.inj h3).symm
 have := Rel.er (ζ' := fun _ => none) (Rel.size (Rel.top q)); rw [e] at this; exact this
theorem rd_in {κ : Ctx} {v : Value} {d : D} (h : VRel fid κ v (.w (.d d))) (e : d.er = d) : Rd κ.w.heap.size κ.w v d := by
 have h' : Rel κ.w κ.Im κ.ζ v d := h; have := Rel.er (ζ' := fun _ => none) (Rel.size (Rel.top h')); rw [e] at this; exact ⟨Nat.le_refl _, this⟩
theorem gives_ins (E : Env P fid cid) (hg : Glob GT (ctxN w0.heap.size w0)) {L : List Ins} {m : Nat} (ha : ∀ x ∈ L, x.e.as.length ≤ m) (hm : m < 2 ^ 30) (hL : L.length < 2 ^ 30) :
 (∀ N M u v w, OnW w0 w → Rd N w u (.l 0 (insRows L)) → Rd M w v (.l 0 (insRows L)) → MC P fid 275 [u, v] w fun r w' => r = .bool true ∧ Tou Old w w') ∧
 (∀ R, erR R = insRows L → MarkOK P fid 276 R) ∧ ∀ R, erR R = insRows L → HeldOK P fid 277 R := by
 refine ⟨fun N M u v w hw hu hv => ?_, fun R hR => mark_ins E hR (fun x hx => by have := ha x hx; omega) (by omega), fun R hR => held_ins E hR (fun x hx => by have := ha x hx; omega) (by omega)⟩
 refine (E.call2 hg hw (same_list (n := L.length + m + 8) L m ha hm (Nat.le_refl _) (by omega) sup0) hu hv).mono ?_
 rintro r w' ⟨κ', rfl, O⟩; exact ⟨out_s O, out_tou O⟩
end
end Go.VM
