/- BackNet as the document has it: the hands. Conditions: none. -/
import Derived.Test.YtfpkfcfiihfopaaDoorBVY41
import Derived.Test.YtfpkfcfiihfopaaDoorBVW2

namespace Go.VM
set_option linter.unusedSimpArgs false
set_option linter.unusedVariables false
set_option maxHeartbeats 16000000
theorem run_needsS {n : Nat} (c : Int) (s : Sup) : go (n + 1) 318 [iV c] [] s = some ⟨iV (needsI c), [], []⟩ := by
 unfold needsI
 by_cases c1 : c = 1
 · simp [go_of (n := n) FT_318 rfl, F318, c1]
 by_cases c4 : c = 4
 · simp [go_of (n := n) FT_318 rfl, F318, c4]
 by_cases c5 : c = 5
 · simp [go_of (n := n) FT_318 rfl, F318, c5]
 simp [go_of (n := n) FT_318 rfl, F318, c1, c4, c5]
theorem run_l15Put {n : Nat} (k : Int) (a b : Net) (hb : (Net.open k a).length + (Net.open k b).length < 2 ^ 29) (s : Sup) : go (n + 1) 349 [iV k, netX a, netX b] [] s = some ⟨netX (.mk k 0 [] (a.open k ++ b.open k)), [], []⟩ := by
 obtain ⟨ak, ao, aa, as⟩ := a; obtain ⟨bk, bo, ba, bs⟩ := b; have rm1 : room 1 64 = true := by decide
 have rm2 : room 2 64 = true := by decide
 have al1 := eq_true (netRow_all as); have al2 := eq_true (netRow_all bs); have tk1 : List.take as.length (netRows as) = netRows as := List.take_of_length_le (by rw [netRows_length]; omega); have tk2 : List.take bs.length (netRows bs) = netRows bs := List.take_of_length_le (by rw [netRows_length]; omega); unfold Net.open at hb ⊢; simp only [Net.kind, Net.kids] at hb ⊢; rcases ptf (ak = k) with h1 | h1 <;> rcases ptf (bk = k) with h2 | h2 <;> simp only [h1, h2, if_true, if_false, List.length_singleton] at hb ⊢
 · have r1 : room as.length 64 = true := room_of (by omega) (by omega)
   have r2 : room (as.length + bs.length) 64 = true := room_of (by omega) (by omega); have tk3 : List.take (as.length + bs.length) (netRows as ++ netRows bs) = netRows as ++ netRows bs := List.take_of_length_le (by simp [netRows_length]); simp [go_of (n := n) FT_349 rfl, F349, h1, h2, al1, al2, tk1, tk2, tk3, r1, r2, netRows_length, netRows_append]
 · have r1 : room as.length 64 = true := room_of (by omega) (by omega)
   have r2 : room (as.length + 1) 64 = true := room_of (by omega) (by omega); simp [go_of (n := n) FT_349 rfl, F349, h1, h2, al1, al2, tk1, tk2, r1, r2, netRows_length, netRows_append, netRows, Net.row]
   try exact List.take_of_length_le (by simp [netRows_length])
 · have r1 : room (1 + bs.length) 64 = true := room_of (by omega) (by omega)
   have q1 : (1 + bs.length ≤ bs.length + 1) = True := eq_true (by omega); have tkx : ∀ x : List D, List.take (1 + bs.length) (x :: netRows bs) = x :: netRows bs := fun x => List.take_of_length_le (by simp [netRows_length]; omega)
   simp [go_of (n := n) FT_349 rfl, F349, h1, h2, al1, al2, tk1, tk2, rm1, r1, q1, tkx, netRows_length, netRows_append, netRows, Net.row]
 · simp [go_of (n := n) FT_349 rfl, F349, h1, h2, rm1, rm2, netRows, Net.row]
theorem run_l15Add {n : Nat} (k : Int) (a b : Net) (ha : a.kind ≠ 0) (hb : (Net.open k a).length + (Net.open k b).length < 2 ^ 29) (s : Sup) : go (n + 2) 342 [iV k, netX a, netX b] [] s = some ⟨netX (together k a b), [], []⟩ := by
 have w := run_l15Put (n := n) k a b hb; have hn : a.none = false := by unfold Net.none; simp [ha]
 unfold together; rw [hn, if_neg (by simp)]; generalize a.open k ++ b.open k = L at w ⊢; obtain ⟨ak, ao, aa, as⟩ := a; obtain ⟨bk, bo, ba, bs⟩ := b; simp only [Net.kind] at ha; simp [go_of (n := n + 1) FT_342 rfl, F342, ha, w]
theorem run_ListOkS {n : Nat} (hn : 20 ≤ n) (i : Ins) (s : Sup) : go (n + 1) 317 [insX i] [] s = some ⟨bV i.ok, [], []⟩ := by
 obtain ⟨c, e⟩ := i; have w2 : ∀ s, go n 166 [elX e] [] s = some ⟨sV (.bool e.contact), [], []⟩ := fun s => run_ElemIsContactS (by omega) e s
 have w3 : ∀ s, go n 143 [elX e] [] s = some ⟨sV (.bool e.coil), [], []⟩ := fun s => run_ElemIsCoilS (by omega) e s
 obtain ⟨op, as⟩ := e; unfold Ins.ok El.bareB; simp only; generalize El.contact ⟨op, as⟩ = r1 at w2 ⊢; generalize El.coil ⟨op, as⟩ = r2 at w3 ⊢
 by_cases h0 : c < 1
 · have : ¬ (1 ≤ c ∧ c ≤ 3) := by omega
   have e10 : ¬ c = 10 := by omega
   have e4 : ¬ (4 ≤ c ∧ c ≤ 11) := by omega
   rw [if_neg this, if_neg e10, decide_eq_false e4]; simp [go_of (n := n) FT_317 rfl, F317, h0]
 have h0' : (c < 1) = False := eq_false h0
 by_cases h11 : 11 < c
 · have : ¬ (1 ≤ c ∧ c ≤ 3) := by omega
   have e10 : ¬ c = 10 := by omega
   have e4 : ¬ (4 ≤ c ∧ c ≤ 11) := by omega
   rw [if_neg this, if_neg e10, decide_eq_false e4]; simp [go_of (n := n) FT_317 rfl, F317, h0', h11]
 have h11' : (11 < c) = False := eq_false h11
 by_cases h3 : c ≤ 3
 · rw [if_pos ⟨by omega, h3⟩]
   simp [go_of (n := n) FT_317 rfl, F317, h0', h11', h3, w2]
 have h3' : (c ≤ 3) = False := eq_false h3; rw [if_neg (by omega)]
 by_cases h10 : c = 10
 · subst h10
   simp [go_of (n := n) FT_317 rfl, F317, w3]
 · rw [if_neg h10, decide_eq_true (by omega : 4 ≤ c ∧ c ≤ 11)]
   by_cases ho : op = 0
   · cases as with
     | nil => simp [go_of (n := n) FT_317 rfl, F317, h0', h11', h3', h10, ho]
     | cons x r =>
      have hq : (((r.length : Int) + 1) = 0) = False := eq_false (by omega); simp [go_of (n := n) FT_317 rfl, F317, h0', h11', h3', h10, ho, hq]
   · simp [go_of (n := n) FT_317 rfl, F317, h0', h11', h3', h10, ho]
def DoOut (t : List Net) (r : Res) : Prop :=
 (r = ⟨.w (.own 1 0 t.length none), [.dead], [.row none 4 (netRows t.reverse) 0]⟩) ∨ ∃ R' c', r = ⟨.w (.own 0 0 t.length c'), [.row none 4 R' 0], []⟩ ∧ R'.take t.length = netRows t.reverse
theorem do_own {n : Nat} (i : Ins) (st : List Net) (c : Option Nat) (R : List (List D)) (hR : R.take st.length = netRows st.reverse) (hl : st.length < 2 ^ 29) (hw : netsWt st < 2 ^ 28) (ha : i.e.as.length < 2 ^ 30) (hc : 1 ≤ i.c ∧ i.c ≤ 6) (hnd : needsI i.c ≤ (st.length : Int)) (hs : ∀ x ∈ st, x.kind ≠ 0) : ∃ r, DoOut (stepR st i) r ∧ ∀ s, go (n + 3) 319 [.w (.own 0 0 st.length c), insX i] [.row none 4 R 0] s = some r := by
 obtain ⟨k, op, as⟩ := i; have wc := run_l14Copy (n := n + 1) ⟨op, as⟩ ha; have hle := take_len hR (by rw [netRows_length, List.length_reverse]); unfold stepR; simp only at hc hnd ⊢
 by_cases h1 : k = 1
 · subst h1
   have rm : room (st.length + 1) 64 = true := room_of (by omega) (by omega); refine ⟨_, .inl rfl, fun s => ?_⟩
   simp [go_of (n := n + 2) FT_319 rfl, F319, wc, rm, hle, hR, netRows_append, netRows_one, Net.row]
 rw [if_neg h1]
 by_cases h23 : k = 2 ∨ k = 3
 · rw [if_pos h23]
   cases st with
   | nil => unfold needsI at hnd; rw [if_neg h1, if_neg (by omega)] at hnd; simp at hnd
   | cons a r =>
    simp only [List.length_cons, List.reverse_cons] at hR hle hl ⊢; have hg := get_top hR; have hsx := set_top (together k a (.mk 1 op as [])) hR; have wt := run_l15Add (n := n) k a (.mk 1 op as []) (hs a (List.mem_cons_self ..)) (by
     have h1 := open_len k a; have h2 : (Net.open k (.mk 1 op as [])).length ≤ 1 := by unfold Net.open; split <;> simp [Net.kids]
     simp only [netsWt] at hw; omega)
    generalize together k a (.mk 1 op as []) = T at wt hsx; obtain ⟨ak, ao, aa, aks⟩ := a; obtain ⟨tk, to, ta, tks⟩ := T; simp only [Net.row] at hg hsx; have e1 : IntKind.i64.wrap (r.length : Int) = (r.length : Int) := wrap_id (by omega) (by omega); have q2 : ((r.length : Int) < (r.length : Int) + 1) = True := eq_true (by omega); have wt : ∀ s, go (n + 2) 342 [iV k, .agg [iW ak, iW ao, asW aa, nsW aks], .agg [iW 1, iW op, asW as, .d (.l 0 [])]] [] s = some ⟨netX (.mk tk to ta tks), [], []⟩ := fun s => by
     have := wt s; simp only [netX, nsW, netRows_nil] at this; exact this
    refine ⟨_, .inr ⟨R.set r.length [iD tk, iD to, .l 0 (argRows ta), .l 0 (netRows tks)], c, rfl, by simpa using hsx⟩, fun s => ?_⟩
    rcases h23 with rfl | rfl <;> simp [-getElem?_pos, go_of (n := n + 2) FT_319 rfl, F319, wc, wt, hg, e1, q2, hle]
 rw [if_neg h23]
 by_cases h45 : k = 4 ∨ k = 5
 · rw [if_pos h45]
   have hnd2 : needsI k = 2 := by unfold needsI; rw [if_neg h1, if_pos h45]
   rw [hnd2] at hnd
   match st, hR, hl, hw, hs, hle, hnd with
   | [], hR, hl, hw, hs, hle, hnd => simp at hnd
   | [x], hR, hl, hw, hs, hle, hnd => simp at hnd
   | b :: a :: r, hR, hl, hw, hs, hle, hnd =>
    simp only [List.length_cons, List.reverse_cons] at hR hle hl ⊢; have hlow := low_top hR; have hg := get_top hlow; have hg2 := hi_top hR; have hsx := set_top (together (k - 2) a b) hlow; have wt := run_l15Add (n := n) (k - 2) a b (hs a (List.mem_cons_of_mem _ (List.mem_cons_self ..))) (by
     have h1 := open_len (k - 2) a; have h2 := open_len (k - 2) b; simp only [netsWt] at hw; omega)
    generalize together (k - 2) a b = T at wt hsx; obtain ⟨ak, ao, aa, aks⟩ := a; obtain ⟨bk, bo, ba, bks⟩ := b; obtain ⟨tk, to, ta, tks⟩ := T; simp only [Net.row] at hg hg2 hsx; have e0 : IntKind.i64.wrap ((r.length : Int) + 1) = ((r.length : Int) + 1) := wrap_id (by omega) (by omega); have e1 : IntKind.i64.wrap (r.length : Int) = (r.length : Int) := wrap_id (by omega) (by omega); have q2 : ((r.length : Int) < (r.length : Int) + 1 + 1) = True := eq_true (by omega); have q3 : ((r.length : Int) + 1 < (r.length : Int) + 1 + 1) = True := eq_true (by omega); have q4 : ((r.length : Int) + 1 ≤ (r.length : Int) + 1 + 1) = True := eq_true (by omega)
    have q5 : (0 ≤ (r.length : Int) + 1) = True := eq_true (by omega); refine ⟨_, .inr ⟨R.set r.length [iD tk, iD to, .l 0 (argRows ta), .l 0 (netRows tks)], c, rfl, by simpa using hsx⟩, fun s => ?_⟩
    rcases h45 with rfl | rfl
    · simp only [Int.reduceSub] at wt
      simp [-getElem?_pos, go_of (n := n + 2) FT_319 rfl, F319, wc, wt, hg, hg2, e0, e1, q2, q3, q4, q5, hle]
    · simp only [Int.reduceSub] at wt
      simp [-getElem?_pos, go_of (n := n + 2) FT_319 rfl, F319, wc, wt, hg, hg2, e0, e1, q2, q3, q4, q5, hle]
 rw [if_neg h45]; have h6 : k = 6 := by omega
 subst h6; rw [if_pos rfl]; cases st with
 | nil => simp [needsI] at hnd
 | cons a r =>
  simp only [List.length_cons, List.reverse_cons] at hR hle hl ⊢; have hg := get_top hR; have hsx := set_top (.mk 4 0 [] [a]) hR; obtain ⟨ak, ao, aa, aks⟩ := a; simp only [Net.row] at hg hsx; have e1 : IntKind.i64.wrap (r.length : Int) = (r.length : Int) := wrap_id (by omega) (by omega); have q2 : ((r.length : Int) < (r.length : Int) + 1) = True := eq_true (by omega); refine ⟨_, .inr ⟨R.set r.length [iD 4, iD 0, .l 0 [], .l 0 [[iD ak, iD ao, .l 0 (argRows aa), .l 0 (netRows aks)]]], c, rfl, by simpa [netRows_one, Net.row] using hsx⟩, fun s => ?_⟩
  simp [-getElem?_pos, go_of (n := n + 2) FT_319 rfl, F319, wc, hg, e1, q2, hle]
end Go.VM
