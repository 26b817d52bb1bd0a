/- The document's lists out of ladders: nets. Conditions: none. -/
import Derived.Test.YtfpkfcfiihfopaaDoorBVP5
import Derived.Test.YtfpkfcfiihfopaaDoorBVP9
import Derived.Test.YtfpkfcfiihfopaaDoorBVP2

namespace Go.VM
set_option linter.unusedSimpArgs false
set_option linter.unusedVariables false
set_option maxHeartbeats 16000000
theorem run_l14Copy {n : Nat} (e : El) (hl : e.as.length < 2 ^ 30) (s : Sup) : go (n + 1) 331 [elX e] [] s = some ⟨elX e, [], []⟩ := by
 obtain ⟨op, as⟩ := e; have rm : room as.length 24 = true := room_of (by simp only at hl; omega) (by omega); have al : (∀ x ∈ argRows as, x.length = 3) = True := eq_true (fun x hx => by simp only [argRows, List.mem_map] at hx; obtain ⟨a, -, rfl⟩ := hx; rfl); have tk : List.take as.length (argRows as) = argRows as := List.take_of_length_le (by simp [argRows]); have tk' : List.take as.length (List.map Arg.row as) = List.map Arg.row as := tk; simp [go_of (n := n) FT_331 rfl, F331, rm, tk', argRows, Arg.row]
def OwnE (st : St) (t : Nat) (L : List Ins) : Prop := ∃ b c, 0 < b ∧ b < st.g ∧ st.τ t = .w (.own b 0 L.length c) ∧ st.H b = .row none 3 (insRows L) 0
theorem OwnE.mk {st : St} {t n b : Nat} {L : List Ins} {c : Option Nat} (h2 : st.τ t = .w (.own b 0 n c)) (h0 : 0 < b) (h1 : b < st.g) (hn : n = L.length) (h3 : st.H b = .row none 3 (insRows L) 0) : OwnE st t L :=
 ⟨b, c, h0, h1, by rw [h2, hn], h3⟩
theorem OwnE.keep {st st' : St} {t : Nat} {L : List Ins} (h : OwnE st t L) (e : st'.τ t = st.τ t) (eH : ∀ b, b < st.g → st'.H b = st.H b) (hg : st.g ≤ st'.g) : OwnE st' t L := by
 obtain ⟨b, c, h0, h1, h2, h3⟩ := h; exact ⟨b, c, h0, by omega, e.trans h2, (eH b h1).trans h3⟩
end Go.VM

/- The laws of exactness for WayPlain and WayDown. Conditions: none. -/
namespace Go.VM
set_option linter.unusedVariables false
set_option linter.unusedSimpArgs false
set_option maxHeartbeats 4000000
theorem same_ins {n : Nat} (x : Ins) (hn : x.e.as.length + 5 ≤ n) (hl : x.e.as.length < 2 ^ 30) (s : Sup) : go n 303 [rowX x.row, rowX x.row] [] s = some ⟨bV true, [], []⟩ := by
 obtain ⟨n, rfl⟩ : ∃ k, n = k + 1 := ⟨n - 1, by omega⟩; have w := same_el (n := n) x.e (by omega) hl; simp [go_of FT_303 rfl, F303, Ins.row, w]
theorem same_list {n : Nat} (l : List Ins) (m : Nat) (ha : ∀ x ∈ l, x.e.as.length ≤ m) (hm : m < 2 ^ 30) (hn : l.length + m + 8 ≤ n) (hl : l.length < 2 ^ 40) (s : Sup) : go n 275 [.w (isW l), .w (isW l)] [] s = some ⟨bV true, [], []⟩ := by
 obtain ⟨n, rfl⟩ : ∃ k, n = k + 1 := ⟨n - 1, by omega⟩; exact run_eqT (f := 275) (sz := 3) (c := 303) (n := n) rfl rfl rfl rfl rfl 0 0 (insRows l) (insRows l) rfl (insRows_all fun a _ => rfl) (insRows_all fun a _ => rfl)
  (fun i r r' h1 h2 s => by rw [h1] at h2; cases h2; exact insRows_all (p := fun r => go n 303 [rowX r, rowX r] [] s = some ⟨bV true, [], []⟩) (fun a h => same_ins a (by have := ha a h; omega) (by have := ha a h; omega) s) r (List.mem_of_getElem? h1)) (by simp [insRows]; omega) (by simp [insRows]; omega) s
theorem er_rows {α : Type} {row : α → List D} (h : ∀ a, erL (row a) = row a) : ∀ l : List α, erR (l.map row) = l.map row
 | [] => rfl
 | a :: r => by simp only [List.map_cons, erR]; rw [h a, er_rows h r]
theorem er_insRows (l : List Ins) : erR (insRows l) = insRows l := er_rows (fun a => by simp [erL, D.er, Ins.row, er_argRows]) l
mutual
theorem er_netRow : ∀ t : Net, erL t.row = t.row
 | .mk k op as ks => by simp only [Net.row, erL, D.er, er_argRows, er_netRows ks]
theorem er_netRows : ∀ l : List Net, erR (netRows l) = netRows l
 | [] => rfl
 | a :: r => by simp only [netRows, erR, er_netRow a, er_netRows r]
end
def sup0 : Sup := fun k => k + 1
theorem sup0_ne (k : Nat) : sup0 k ≠ 0 := Nat.succ_ne_zero k
theorem sup0_inj : Inj sup0 := fun a b e => Nat.succ.inj e
abbrev OnW (w0 w : World) : Prop := Tou (fun b => w0.heap.size ≤ b) w0 w
section
variable {P : Program} {fid : Nat → FuncId} {cid : FuncId → Nat} {w0 w : World}
theorem glob_at (hg : Glob GT (ctxN w0.heap.size w0)) (hw : OnW w0 w) : Glob GT (ctxN w.heap.size w) := hg.up (Nat.le_refl _) hw (fun _ h => h) hw.size
theorem Rd.here {N : Nat} {v : Value} {d : D} (h : Rd N w v d) : Rel w (fun b _ => b < w.heap.size) (fun _ => none) v d := (h.up h.1 (Nat.le_refl _)).2
theorem Env.call (E : Env P fid cid) (hg : Glob GT (ctxN w0.heap.size w0)) (hw : OnW w0 w) {f n : Nat} {args : List V} {r : Res} (h : go n f args [] sup0 = some r) {vs : List Value} (hl : vs.length = args.length) (hr : ∀ (i : Nat) (x : V), args[i]? = some x → ∃ v : Value, vs[i]? = some v ∧ VRel fid (ctxN w.heap.size w) v x) :
 MC P fid f vs w fun u w' => ∃ κ', κ'.w = w' ∧ Out fid (ctxN w.heap.size w) [] sup0 κ' r u :=
 call_at (E.goOk _ _ _ _ _ _ h) sup0_ne sup0_inj (Nat.le_refl _) (glob_at hg hw) hl hr
theorem Env.call1 (E : Env P fid cid) (hg : Glob GT (ctxN w0.heap.size w0)) (hw : OnW w0 w) {f n : Nat} {d : D} {r : Res} (h : go n f [.w (.d d)] [] sup0 = some r) {N : Nat} {v : Value} (hv : Rd N w v d) :
 MC P fid f [v] w fun u w' => ∃ κ', κ'.w = w' ∧ Out fid (ctxN w.heap.size w) [] sup0 κ' r u :=
 E.call hg hw h rfl fun i x hx => by
  match i with
  | 0 => simp at hx; subst hx; exact ⟨v, rfl, hv.here⟩
  | i + 1 => simp at hx
theorem Env.call2 (E : Env P fid cid) (hg : Glob GT (ctxN w0.heap.size w0)) (hw : OnW w0 w) {f n : Nat} {d e : D} {r : Res} (h : go n f [.w (.d d), .w (.d e)] [] sup0 = some r) {N M : Nat} {u v : Value} (hu : Rd N w u d) (hv : Rd M w v e) :
 MC P fid f [u, v] w fun u w' => ∃ κ', κ'.w = w' ∧ Out fid (ctxN w.heap.size w) [] sup0 κ' r u :=
 E.call hg hw h rfl fun i x hx => by
  match i with
  | 0 => simp at hx; subst hx; exact ⟨u, rfl, hu.here⟩
  | 1 => simp at hx; subst hx; exact ⟨v, rfl, hv.here⟩
  | i + 2 => simp at hx
theorem Env.calls (E : Env P fid cid) (hg : Glob GT (ctxN w0.heap.size w0)) (hw : OnW w0 w) {f n : Nat} {d : D} {r : Res} (h : goS n f [.w (.d d)] [] sup0 = some r) {N : Nat} {v : Value} (hv : Rd N w v d) :
 MC P fid f [v] w fun u w' => ∃ κ', κ'.w = w' ∧ Out fid (ctxN w.heap.size w) [] sup0 κ' r u :=
 call_at (E.gosOk _ _ _ _ _ _ h) sup0_ne sup0_inj (Nat.le_refl _) (glob_at hg hw) rfl fun i x hx => by
  match i with
  | 0 => simp at hx; subst hx; exact ⟨v, rfl, hv.here⟩
  | i + 1 => simp at hx
theorem out_s {N : Nat} {s : Sup} {κ' : Ctx} {v x : Value} (O : Out fid (ctxN N w) [] s κ' ⟨.w (.d (.s x)), [], []⟩ v) : v = x := by
 have h : Rel κ'.w κ'.Im κ'.ζ v (.s x) := O.v; cases h; rfl
theorem glob_in {κ : Ctx} {bs : List Box} {s : Sup} (hI : In fid GT κ bs s) (hG : ∀ g row, GT g = some row → erL row = row) : Glob GT (ctxN κ.w.heap.size κ.w) := by
 intro g row hg; obtain ⟨h1, h2⟩ := hI.glob g row hg; refine ⟨h1, fun j x hj => ?_⟩
 obtain ⟨a, y, hy, q⟩ := h2 j x hj; refine ⟨h1, y, hy, ?_⟩
 have e : x.er = x := by
  have h := hG g row hg; have h3 : (erL row)[j]? = some x.er := by rw [erL_get, hj]; rfl
  rw [h, hj] at h3; exact (Option.some.inj h3).symm
 have := Rel.er (ζ' := fun _ => none) (Rel.size (Rel.top q)); rw [e] at this; exact this
theorem rd_in {κ : Ctx} {v : Value} {d : D} (h : VRel fid κ v (.w (.d d))) (e : d.er = d) : Rd κ.w.heap.size κ.w v d := by
 have h' : Rel κ.w κ.Im κ.ζ v d := h; have := Rel.er (ζ' := fun _ => none) (Rel.size (Rel.top h')); rw [e] at this; exact ⟨Nat.le_refl _, this⟩
theorem gives_ins (E : Env P fid cid) (hg : Glob GT (ctxN w0.heap.size w0)) {L : List Ins} {m : Nat} (ha : ∀ x ∈ L, x.e.as.length ≤ m) (hm : m < 2 ^ 30) (hL : L.length < 2 ^ 30) :
 (∀ N M u v w, OnW w0 w → Rd N w u (.l 0 (insRows L)) → Rd M w v (.l 0 (insRows L)) → MC P fid 275 [u, v] w fun r w' => r = .bool true ∧ Tou Old w w') ∧
 (∀ R, erR R = insRows L → MarkOK P fid 276 R) := by
 refine ⟨fun N M u v w hw hu hv => ?_, fun R hR => mark_ins E hR (fun x hx => by have := ha x hx; omega) (by omega)⟩
 refine (E.call2 hg hw (same_list (n := L.length + m + 8) L m ha hm (Nat.le_refl _) (by omega) sup0) hu hv).mono ?_
 rintro r w' ⟨κ', rfl, O⟩; exact ⟨out_s O, out_tou O⟩
end
end Go.VM

/- How high a list's stacks are. Conditions: none. -/
namespace Go.VM
set_option linter.unusedSimpArgs false
set_option linter.unusedVariables false
set_option maxHeartbeats 16000000
abbrev hX (s : Int × Int) : V := .agg [iW s.1, iW s.2]
theorem run_ListOk {n : Nat} (hn : 60 ≤ n) (i : Ins) (hl : i.e.as.length < 2 ^ 62) (s : Sup) : go (n + 1) 315 [insX i] [] s = some ⟨bV i.ok, [], []⟩ := by
 obtain ⟨c, e⟩ := i; have w1 := run_within (n := n) (by omega) c 1 3; have w2 := run_ElemIsContact (n := n) (by omega) e hl; have w3 := run_ElemIsCoil (n := n) (by omega) e; have w4 : ∀ s, go n 60 [iV c, iV 4, iV 11] [] s = some ⟨sV (.bool (decide (4 ≤ c) && decide (c ≤ 11))), [], []⟩ := fun s => run_within (by omega) c 4 11 s
 obtain ⟨op, as⟩ := e; have w5 : ∀ s, go n 138 [elX ⟨op, as⟩] [] s = some ⟨sV (.bool (decide (op = 0 ∧ as = []))), [], []⟩ := fun s => run_bare (by omega) op as s
 unfold Ins.ok El.bareB; simp only; generalize El.contact ⟨op, as⟩ = r1 at w2 ⊢; generalize El.coil ⟨op, as⟩ = r2 at w3 ⊢
 by_cases h1 : 1 ≤ c ∧ c ≤ 3
 · have e1 : (decide (1 ≤ c) && decide (c ≤ 3)) = true := by simp [h1]
   rw [e1] at w1; rw [if_pos h1]; simp [go_of (n := n) FT_315 rfl, F315, w1, w2]
 · have e1 : (decide (1 ≤ c) && decide (c ≤ 3)) = false := by simpa using h1
   rw [e1] at w1; rw [if_neg h1]
   by_cases h2 : c = 10
   · subst h2
     simp [go_of (n := n) FT_315 rfl, F315, w1, w3]
   · rw [if_neg h2]
     by_cases h3 : 4 ≤ c ∧ c ≤ 11
     · have e2 : (decide (4 ≤ c) && decide (c ≤ 11)) = true := by simp [h3]
       rw [e2] at w4; rw [decide_eq_true h3]; simp [go_of (n := n) FT_315 rfl, F315, w1, w4, w5, h2]
     · have e2 : (decide (4 ≤ c) && decide (c ≤ 11)) = false := by simpa using h3
       rw [e2] at w4; rw [decide_eq_false h3]; simp [go_of (n := n) FT_315 rfl, F315, w1, w4, w5, h2]
theorem run_needs {n : Nat} (c : Int) (s : Sup) : go (n + 1) 336 [iV c] [] s = some ⟨iV (needsI c), [], []⟩ := by
 unfold needsI
 by_cases c1 : c = 1
 · simp [go_of (n := n) FT_336 rfl, F336, c1]
 by_cases c4 : c = 4
 · simp [go_of (n := n) FT_336 rfl, F336, c4]
 by_cases c5 : c = 5
 · simp [go_of (n := n) FT_336 rfl, F336, c5]
 simp [go_of (n := n) FT_336 rfl, F336, c1, c4, c5]
theorem ptf (p : Prop) : p = True ∨ p = False := by by_cases h : p; exact .inl (eq_true h); exact .inr (eq_false h)
theorem drop_at {α : Type} {l : List α} {i : Nat} {x : α} (h : l[i]? = some x) : l.drop i = x :: l.drop (i + 1) := by
 obtain ⟨h1, h2⟩ := List.getElem?_eq_some_iff.1 h; rw [List.drop_eq_getElem_cons h1, h2]
def Net.nil : Net := .mk 0 0 [] []
def together (k : Int) (a b : Net) : Net := if a.none then b else .mk k 0 [] (a.open k ++ b.open k)
def stepR (s : List Net) (i : Ins) : List Net :=
 if i.c = 1 then .mk 1 i.e.op i.e.as [] :: s
 else if i.c = 2 ∨ i.c = 3 then (match s with | a :: r => together i.c a (.mk 1 i.e.op i.e.as []) :: r | [] => [])
 else if i.c = 4 ∨ i.c = 5 then (match s with | b :: a :: r => together (i.c - 2) a b :: r | l => l)
 else if i.c = 6 then (match s with | a :: r => .mk 4 0 [] [a] :: r | [] => [])
 else s
theorem wn_kids {k op : Int} {as : List Arg} {ks : List Net} (h : Net.wn (.mk k op as ks) = true) : (∀ n ∈ ks, ¬ (n.kind = k ∧ k ≠ 4) ∧ n.wn = true) ∧ (k = 1 ∨ k = 4 ∨ 1 < ks.length) := by
 simp only [Net.wn, Bool.and_eq_true, decide_eq_true_eq] at h; exact ⟨(netsWn_all k ks).1 h.1, h.2⟩
end Go.VM
