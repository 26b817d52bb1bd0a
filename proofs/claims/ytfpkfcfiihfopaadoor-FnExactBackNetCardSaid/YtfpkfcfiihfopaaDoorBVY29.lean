/- Reading lists back: a step on the stack of nets. Conditions: none. -/
import Derived.Test.YtfpkfcfiihfopaaDoorBVY28

namespace Go.VM
set_option linter.unusedSimpArgs false
set_option linter.unusedVariables false
set_option maxHeartbeats 16000000
theorem netRows_one (x : Net) : netRows [x] = [x.row] := by simp [netRows]
theorem take_len {α : Type} {R A : List α} {k : Nat} (h : R.take k = A) (hk : A.length = k) : k ≤ R.length := by
 have := congrArg List.length h; rw [List.length_take] at this; omega
theorem get_top {R : List (List D)} {r : List Net} {a : Net} (h : R.take (r.length + 1) = netRows (r.reverse ++ [a])) : R[r.length]? = some a.row := by
 have h1 : (R.take (r.length + 1))[r.length]? = some a.row := by
  rw [h, netRows_append, netRows_one, List.getElem?_append_right (by simp [netRows_length]), netRows_length, List.length_reverse, Nat.sub_self]; rfl
 rwa [List.getElem?_take_of_lt (by omega)] at h1
theorem set_top {R : List (List D)} {r : List Net} {a : Net} (x : Net) (h : R.take (r.length + 1) = netRows (r.reverse ++ [a])) : (R.set r.length x.row).take (r.length + 1) = netRows (r.reverse ++ [x]) := by
 rw [List.take_set, h, netRows_append, netRows_one, List.set_append_right _ _ (by simp [netRows_length]), netRows_length, List.length_reverse, Nat.sub_self, netRows_append, netRows_one]
 rfl
theorem low_top {R : List (List D)} {r : List Net} {a b : Net} (h : R.take (r.length + 2) = netRows (r.reverse ++ [a] ++ [b])) : R.take (r.length + 1) = netRows (r.reverse ++ [a]) := by
 have h1 : (R.take (r.length + 2)).take (r.length + 1) = netRows (r.reverse ++ [a]) := by
  rw [h, netRows_append, List.take_append_of_le_length (by simp [netRows_length]), List.take_of_length_le (by simp [netRows_length])]
 rwa [List.take_take, Nat.min_eq_left (by omega)] at h1
theorem hi_top {R : List (List D)} {r : List Net} {a b : Net} (h : R.take (r.length + 2) = netRows (r.reverse ++ [a] ++ [b])) : R[r.length + 1]? = some b.row := by
 have := get_top (R := R) (r := a :: r) (a := b) (by simpa using h)
 simpa using this
theorem step_nil {n : Nat} (i : Ins) (s : Sup) : go (n + 2) 316 [.w .nil, insX i] [] s =
 some (if i.c = 1 then ⟨.tup [(false, [.own 0 0 1 none]), (false, [.d (.s (.bool true))])], [], [.row none 4 [Net.row (.mk 1 i.e.op i.e.as [])] 0]⟩ else ⟨.tup [(false, [.nil]), (false, [.d (.s (.bool false))])], [], []⟩) := by
 obtain ⟨c, op, as⟩ := i; have w := run_needs (n := n) c; have rm1 : room 1 64 = true := by decide
 by_cases h : c = 1
 · subst h
   simp [needsI] at w; simp [go_of (n := n + 1) FT_316 rfl, F316, w, rm1, Net.row]
 · have hn : ((0 : Int) < needsI c) = True := eq_true (by unfold needsI; rw [if_neg h]; split <;> omega)
   simp [go_of (n := n + 1) FT_316 rfl, F316, w, hn, h]
theorem open_len (k : Int) (a : Net) : (Net.open k a).length ≤ a.wt := by
 unfold Net.open; obtain ⟨ak, ao, aa, aks⟩ := a; have h1 := netsWt_len aks; split
 · simp only [Net.kids, Net.wt]; omega
 · simp only [Net.wt, List.length_singleton]; omega
def StepOut (ok : Bool) (t : List Net) (r : Res) : Prop :=
 (ok = true ∧ r = ⟨.tup [(false, [.own 1 0 t.length none]), (false, [.d (.s (.bool true))])], [.dead], [.row none 4 (netRows t.reverse) 0]⟩) ∨
 ∃ R' c', r = ⟨.tup [(false, [.own 0 0 t.length c']), (false, [.d (.s (.bool ok))])], [.row none 4 R' 0], []⟩ ∧ R'.take t.length = netRows t.reverse
theorem step_own {n : Nat} (i : Ins) (st : List Net) (c : Option Nat) (R : List (List D)) (hR : R.take st.length = netRows st.reverse) (hl : st.length < 2 ^ 29) (hw : netsWt st < 2 ^ 28) (hn : 8 ≤ n) : ∃ r, StepOut (decide (needsI i.c ≤ (st.length : Int))) (stepR st i) r ∧ ∀ s, go (n + 2) 316 [.w (.own 0 0 st.length c), insX i] [.row none 4 R 0] s = some r := by
 obtain ⟨k, op, as⟩ := i; have w := run_needs (n := n) k; have hle := take_len hR (by rw [netRows_length, List.length_reverse]); unfold stepR; simp only
 by_cases h1 : k = 1
 · subst h1
   have rm : room (st.length + 1) 64 = true := room_of (by omega) (by omega); simp [needsI] at w; have q0 : ((st.length : Int) < 0) = False := eq_false (by omega); have hd : decide (needsI 1 ≤ (st.length : Int)) = true := by simp [needsI]
   refine ⟨_, .inl ⟨hd, rfl⟩, fun s => ?_⟩
   simp [go_of (n := n + 1) FT_316 rfl, F316, w, rm, q0, hle, hR, netRows_append, netRows_one, Net.row]
 rw [if_neg h1]
 by_cases h23 : k = 2 ∨ k = 3
 · have hnd : needsI k = 1 := by unfold needsI; rw [if_neg h1, if_neg (by omega)]
   rw [hnd] at w ⊢; rw [if_pos h23]; cases st with
   | nil =>
    refine ⟨_, .inr ⟨R, c, rfl, by simp⟩, fun s => ?_⟩
    simp [go_of (n := n + 1) FT_316 rfl, F316, w]
   | cons a r =>
    simp only [List.length_cons, List.reverse_cons] at hR hle hl ⊢; have hg := get_top hR; have hs := set_top (together k a (.mk 1 op as [])) hR; have wt := run_together (n := n) k a (.mk 1 op as []) (by
     have h1 := open_len k a; have h2 : (Net.open k (.mk 1 op as [])).length ≤ 1 := by unfold Net.open; split <;> simp [Net.kids]
     simp only [netsWt] at hw; omega) (by omega)
    generalize together k a (.mk 1 op as []) = T at wt hs; obtain ⟨ak, ao, aa, aks⟩ := a; obtain ⟨tk, to, ta, tks⟩ := T; simp only [Net.row] at hg hs; have e1 : IntKind.i64.wrap (r.length : Int) = (r.length : Int) := wrap_id (by omega) (by omega); have q1 : ((r.length : Int) + 1 < 1) = False := eq_false (by omega); have q9 : ((1 : Int) ≤ (r.length : Int) + 1) = True := eq_true (by omega); have q2 : ((r.length : Int) < (r.length : Int) + 1) = True := eq_true (by omega); have wt : ∀ s, go (n + 1) 341 [iV k, .agg [iW ak, iW ao, asW aa, nsW aks], .agg [iW 1, iW op, asW as, .d (.l 0 [])]] [] s = some ⟨netX (.mk tk to ta tks), [], []⟩ := fun s => by
     have := wt s; simp only [netX, nsW, netRows_nil] at this; exact this
    refine ⟨_, .inr ⟨R.set r.length [iD tk, iD to, .l 0 (argRows ta), .l 0 (netRows tks)], c, rfl, by simpa using hs⟩, fun s => ?_⟩
    rcases h23 with rfl | rfl
    · simp [-getElem?_pos, go_of (n := n + 1) FT_316 rfl, F316, w, wt, hg, e1, q1, q2, q9, hle]
    · simp [-getElem?_pos, go_of (n := n + 1) FT_316 rfl, F316, w, wt, hg, e1, q1, q2, q9, hle]
 rw [if_neg h23]
 by_cases h45 : k = 4 ∨ k = 5
 · have hnd : needsI k = 2 := by unfold needsI; rw [if_neg h1, if_pos h45]
   rw [hnd] at w ⊢; rw [if_pos h45]; have h2 : st = [] ∨ (∃ x, st = [x]) ∨ ∃ b a r, st = b :: a :: r := by
    match st with
    | [] => exact .inl rfl
    | [x] => exact .inr (.inl ⟨x, rfl⟩)
    | b :: a :: r => exact .inr (.inr ⟨b, a, r, rfl⟩)
   rcases h2 with rfl | ⟨x, rfl⟩ | ⟨b, a, r, rfl⟩
   · refine ⟨_, .inr ⟨R, c, rfl, by simp⟩, fun s => ?_⟩
     simp [go_of (n := n + 1) FT_316 rfl, F316, w]
   · refine ⟨_, .inr ⟨R, c, rfl, by simpa using hR⟩, fun s => ?_⟩
     simp [go_of (n := n + 1) FT_316 rfl, F316, w]
   · simp only [List.length_cons, List.reverse_cons] at hR hle hl ⊢
     have hlow := low_top hR; have hg := get_top hlow; have hg2 := hi_top hR; have hs := set_top (together (k - 2) a b) hlow; have wt := run_together (n := n) (k - 2) a b (by
      have h1 := open_len (k - 2) a; have h2 := open_len (k - 2) b; simp only [netsWt] at hw; omega) (by omega)
     generalize together (k - 2) a b = T at wt hs; obtain ⟨ak, ao, aa, aks⟩ := a; obtain ⟨bk, bo, ba, bks⟩ := b; obtain ⟨tk, to, ta, tks⟩ := T; simp only [Net.row] at hg hg2 hs; have e1 : IntKind.i64.wrap ((r.length : Int) + 1 + 1 - 2) = (r.length : Int) := by rw [show (r.length : Int) + 1 + 1 - 2 = r.length by omega]; exact wrap_id (by omega) (by omega)
     have e2 : IntKind.i64.wrap ((r.length : Int) + 1) = ((r.length + 1 : Nat) : Int) := wrap_succ (by omega); have q1 : ((r.length : Int) + 1 + 1 < 2) = False := eq_false (by omega); have q9 : ((2 : Int) ≤ (r.length : Int) + 1 + 1) = True := eq_true (by omega); have q2 : ((r.length : Int) < (r.length : Int) + 1 + 1) = True := eq_true (by omega); have q3 : ((r.length : Int) + 1 < (r.length : Int) + 1 + 1) = True := eq_true (by omega); have q5 : (0 ≤ (r.length : Int) + 1) = True := eq_true (by omega); have q4 : ((r.length : Int) + 1 ≤ (r.length : Int) + 1 + 1) = True := eq_true (by omega)
     refine ⟨_, .inr ⟨R.set r.length [iD tk, iD to, .l 0 (argRows ta), .l 0 (netRows tks)], c, rfl, by simpa using hs⟩, fun s => ?_⟩
     rcases h45 with rfl | rfl
     · simp only [Int.reduceSub] at wt
       simp [-getElem?_pos, go_of (n := n + 1) FT_316 rfl, F316, w, wt, hg, hg2, e1, e2, q1, q2, q3, q4, q5, q9, hle]
     · simp only [Int.reduceSub] at wt
       simp [-getElem?_pos, go_of (n := n + 1) FT_316 rfl, F316, w, wt, hg, hg2, e1, e2, q1, q2, q3, q4, q5, q9, hle]
 rw [if_neg h45]; have hnd : needsI k = 1 := by unfold needsI; rw [if_neg h1, if_neg h45]
 rw [hnd] at w ⊢
 by_cases h6 : k = 6
 · rw [if_pos h6]
   subst h6; cases st with
   | nil =>
    refine ⟨_, .inr ⟨R, c, rfl, by simp⟩, fun s => ?_⟩
    simp [go_of (n := n + 1) FT_316 rfl, F316, w]
   | cons a r =>
    simp only [List.length_cons, List.reverse_cons] at hR hle hl ⊢; have hg := get_top hR; have hs := set_top (.mk 4 0 [] [a]) hR; obtain ⟨ak, ao, aa, aks⟩ := a; simp only [Net.row] at hg hs; have e1 : IntKind.i64.wrap (r.length : Int) = (r.length : Int) := wrap_id (by omega) (by omega); have q1 : ((r.length : Int) + 1 < 1) = False := eq_false (by omega); have q9 : ((1 : Int) ≤ (r.length : Int) + 1) = True := eq_true (by omega); have q2 : ((r.length : Int) < (r.length : Int) + 1) = True := eq_true (by omega); refine ⟨_, .inr ⟨R.set r.length [iD 4, iD 0, .l 0 [], .l 0 [[iD ak, iD ao, .l 0 (argRows aa), .l 0 (netRows aks)]]], c, rfl, by simpa [netRows_one, Net.row] using hs⟩, fun s => ?_⟩
    simp [-getElem?_pos, go_of (n := n + 1) FT_316 rfl, F316, w, hg, e1, q1, q2, q9, hle]
 · rw [if_neg h6]
   cases st with
   | nil =>
    refine ⟨_, .inr ⟨R, c, rfl, by simp⟩, fun s => ?_⟩
    simp [go_of (n := n + 1) FT_316 rfl, F316, w]
   | cons a r =>
    have q1 : ((r.length : Int) + 1 < 1) = False := eq_false (by omega); have q9 : ((1 : Int) ≤ (r.length : Int) + 1) = True := eq_true (by omega); refine ⟨_, .inr ⟨R, c, rfl, hR⟩, fun s => ?_⟩
    have k2 : ¬ k = 2 := fun e => h23 (.inl e)
    have k3 : ¬ k = 3 := fun e => h23 (.inr e)
    have k4 : ¬ k = 4 := fun e => h45 (.inl e)
    have k5 : ¬ k = 5 := fun e => h45 (.inr e)
    simp [go_of (n := n + 1) FT_316 rfl, F316, w, q1, q9, h1, k2, k3, k4, k5, h6]
end Go.VM
