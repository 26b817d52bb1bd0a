/- Reading lists back: a step on the stack of nets. Conditions: none. -/
import Derived.Test.YtcjdokngpmnkjaaGreatDoorVY28

namespace Go.VM
set_option linter.unusedSimpArgs false
set_option linter.unusedVariables false
set_option maxHeartbeats 16000000
theorem k74 (x : Net) : netRows [x] = [x.row] := by simp [netRows]
theorem kz3 {α : Type} {R A : List α} {k : Nat} (h : R.take k = A) (hk : A.length = k) : k ≤ R.length := by
  have := congrArg List.length h; rw [List.length_take] at this; omega
theorem ku7 {R : List (List D)} {r : List Net} {a : Net} (h : R.take (r.length + 1) = netRows (r.reverse ++ [a])) : R[r.length]? = some a.row := by
  have h1 : (R.take (r.length + 1))[r.length]? = some a.row := by
    rw [h, k16, k74, List.getElem?_append_right (by simp [k09]), k09, List.length_reverse, Nat.sub_self]; rfl
  rwa [List.getElem?_take_of_lt (by omega)] at h1
theorem kG0 {R : List (List D)} {r : List Net} {a : Net} (x : Net) (h : R.take (r.length + 1) = netRows (r.reverse ++ [a])) : (R.set r.length x.row).take (r.length + 1) = netRows (r.reverse ++ [x]) := by
  rw [List.take_set, h, k16, k74, List.set_append_right _ _ (by simp [k09]), k09, List.length_reverse, Nat.sub_self, k16, k74]
  rfl
theorem low_top {R : List (List D)} {r : List Net} {a b : Net} (h : R.take (r.length + 2) = netRows (r.reverse ++ [a] ++ [b])) : R.take (r.length + 1) = netRows (r.reverse ++ [a]) := by
  have h1 : (R.take (r.length + 2)).take (r.length + 1) = netRows (r.reverse ++ [a]) := by
    rw [h, k16, List.take_append_of_le_length (by simp [k09]), List.take_of_length_le (by simp [k09])]
  rwa [List.take_take, Nat.min_eq_left (by omega)] at h1
theorem hi_top {R : List (List D)} {r : List Net} {a b : Net} (h : R.take (r.length + 2) = netRows (r.reverse ++ [a] ++ [b])) : R[r.length + 1]? = some b.row := by
  have := ku7 (R := R) (r := a :: r) (a := b) (by simpa using h)
  simpa using this
theorem step_nil {n : Nat} (i : Ins) (s : Sup) : go (n + 2) 316 [.w .nil, insX i] [] s =
    some (if i.c = 1 then ⟨.tup [(false, [.own 0 0 1 none]), (false, [.d (.s (.bool true))])], [], [.row none 4 [Net.row (.mk 1 i.e.op i.e.as [])] 0]⟩ else ⟨.tup [(false, [.nil]), (false, [.d (.s (.bool false))])], [], []⟩) := by
  obtain ⟨c, op, as⟩ := i; have w := kt0 (n := n) c; have rm1 : room 1 64 = true := by decide
  by_cases h : c = 1
  · subst h
    simp [needsI] at w; simp [go_of (n := n + 1) FT_316 rfl, F316, w, rm1, Net.row]
  · have hn : ((0 : Int) < needsI c) = True := eq_true (by unfold needsI; rw [if_neg h]; split <;> omega)
    simp [go_of (n := n + 1) FT_316 rfl, F316, w, hn, h]
theorem kA2 (k : Int) (a : Net) : (Net.open k a).length ≤ a.wt := by
  unfold Net.open; obtain ⟨ak, ao, aa, aks⟩ := a; have h1 := k27 aks; split
  · simp only [Net.kids, Net.wt]; omega
  · simp only [Net.wt, List.length_singleton]; omega
def StepOut (c : Option Nat) (R : List (List D)) (t : List Net) (r : Res) : Prop :=
  (r = ⟨.tup [(false, [.own 1 0 t.length none]), (false, [.d (.s (.bool true))])], [.dead], [.row none 4 (netRows t.reverse) 0]⟩) ∨
  ∃ ok R' c', r = ⟨.tup [(false, [.own 0 0 t.length c']), (false, [.d (.s (.bool ok))])], [.row none 4 R' 0], []⟩ ∧ R'.take t.length = netRows t.reverse
theorem step_own {n : Nat} (i : Ins) (st : List Net) (c : Option Nat) (R : List (List D)) (hR : R.take st.length = netRows st.reverse) (hl : st.length < 2 ^ 29) (hw : netsWt st < 2 ^ 28) (hn : 8 ≤ n) : ∃ r, StepOut c R (stepR st i) r ∧ ∀ s, go (n + 2) 316 [.w (.own 0 0 st.length c), insX i] [.row none 4 R 0] s = some r := by
  obtain ⟨k, op, as⟩ := i; have w := kt0 (n := n) k; have hle := kz3 hR (by rw [k09, List.length_reverse]); unfold stepR; simp only
  by_cases h1 : k = 1
  · subst h1
    have rm : room (st.length + 1) 64 = true := k08 (by omega) (by omega); simp [needsI] at w; have q0 : ((st.length : Int) < 0) = False := eq_false (by omega); refine ⟨_, .inl rfl, fun s => ?_⟩
    simp [go_of (n := n + 1) FT_316 rfl, F316, w, rm, q0, hle, hR, k16, k74, Net.row]
  rw [if_neg h1]
  by_cases h23 : k = 2 ∨ k = 3
  · have hnd : needsI k = 1 := by unfold needsI; rw [if_neg h1, if_neg (by omega)]
    rw [hnd] at w; rw [if_pos h23]; cases st with
    | nil =>
      refine ⟨_, .inr ⟨false, R, c, rfl, by simp⟩, fun s => ?_⟩
      simp [go_of (n := n + 1) FT_316 rfl, F316, w]
    | cons a r =>
      simp only [List.length_cons, List.reverse_cons] at hR hle hl ⊢; have hg := ku7 hR; have hs := kG0 (together k a (.mk 1 op as [])) hR; have wt := kp1 (n := n) k a (.mk 1 op as []) (by
        have h1 := kA2 k a; have h2 : (Net.open k (.mk 1 op as [])).length ≤ 1 := by unfold Net.open; split <;> simp [Net.kids]
        simp only [netsWt] at hw; omega) (by omega)
      generalize together k a (.mk 1 op as []) = T at wt hs; obtain ⟨ak, ao, aa, aks⟩ := a; obtain ⟨tk, to, ta, tks⟩ := T; simp only [Net.row] at hg hs; have e1 : IntKind.i64.wrap (r.length : Int) = (r.length : Int) := k29 (by omega) (by omega); have q1 : ((r.length : Int) + 1 < 1) = False := eq_false (by omega); have q2 : ((r.length : Int) < (r.length : Int) + 1) = True := eq_true (by omega); have wt : ∀ s, go (n + 1) 341 [iV k, .agg [iW ak, iW ao, asW aa, nsW aks], .agg [iW 1, iW op, asW as, .d (.l 0 [])]] [] s = some ⟨netX (.mk tk to ta tks), [], []⟩ := fun s => by
        have := wt s; simp only [netX, nsW, netRows_nil] at this; exact this
      refine ⟨_, .inr ⟨true, R.set r.length [iD tk, iD to, .l 0 (argRows ta), .l 0 (netRows tks)], c, rfl, by simpa using hs⟩, fun s => ?_⟩
      rcases h23 with rfl | rfl
      · simp [-getElem?_pos, go_of (n := n + 1) FT_316 rfl, F316, w, wt, hg, e1, q1, q2, hle]
      · simp [-getElem?_pos, go_of (n := n + 1) FT_316 rfl, F316, w, wt, hg, e1, q1, q2, hle]
  rw [if_neg h23]
  by_cases h45 : k = 4 ∨ k = 5
  · have hnd : needsI k = 2 := by unfold needsI; rw [if_neg h1, if_pos h45]
    rw [hnd] at w; rw [if_pos h45]; have h2 : st = [] ∨ (∃ x, st = [x]) ∨ ∃ b a r, st = b :: a :: r := by
      match st with
      | [] => exact .inl rfl
      | [x] => exact .inr (.inl ⟨x, rfl⟩)
      | b :: a :: r => exact .inr (.inr ⟨b, a, r, rfl⟩)
    rcases h2 with rfl | ⟨x, rfl⟩ | ⟨b, a, r, rfl⟩
    · refine ⟨_, .inr ⟨false, R, c, rfl, by simp⟩, fun s => ?_⟩
      simp [go_of (n := n + 1) FT_316 rfl, F316, w]
    · refine ⟨_, .inr ⟨false, R, c, rfl, by simpa using hR⟩, fun s => ?_⟩
      simp [go_of (n := n + 1) FT_316 rfl, F316, w]
    · simp only [List.length_cons, List.reverse_cons] at hR hle hl ⊢
      have hlow := low_top hR; have hg := ku7 hlow; have hg2 := hi_top hR; have hs := kG0 (together (k - 2) a b) hlow; have wt := kp1 (n := n) (k - 2) a b (by
        have h1 := kA2 (k - 2) a; have h2 := kA2 (k - 2) b; simp only [netsWt] at hw; omega) (by omega)
      generalize together (k - 2) a b = T at wt hs; obtain ⟨ak, ao, aa, aks⟩ := a; obtain ⟨bk, bo, ba, bks⟩ := b; obtain ⟨tk, to, ta, tks⟩ := T; simp only [Net.row] at hg hg2 hs; have e1 : IntKind.i64.wrap ((r.length : Int) + 1 + 1 - 2) = (r.length : Int) := by rw [show (r.length : Int) + 1 + 1 - 2 = r.length by omega]; exact k29 (by omega) (by omega)
      have e2 : IntKind.i64.wrap ((r.length : Int) + 1) = ((r.length + 1 : Nat) : Int) := k04 (by omega); have q1 : ((r.length : Int) + 1 + 1 < 2) = False := eq_false (by omega); have q2 : ((r.length : Int) < (r.length : Int) + 1 + 1) = True := eq_true (by omega); have q3 : ((r.length : Int) + 1 < (r.length : Int) + 1 + 1) = True := eq_true (by omega); have q5 : (0 ≤ (r.length : Int) + 1) = True := eq_true (by omega); have q4 : ((r.length : Int) + 1 ≤ (r.length : Int) + 1 + 1) = True := eq_true (by omega); refine ⟨_, .inr ⟨true, R.set r.length [iD tk, iD to, .l 0 (argRows ta), .l 0 (netRows tks)], c, rfl, by simpa using hs⟩, fun s => ?_⟩
      rcases h45 with rfl | rfl
      · simp only [Int.reduceSub] at wt
        simp [-getElem?_pos, go_of (n := n + 1) FT_316 rfl, F316, w, wt, hg, hg2, e1, e2, q1, q2, q3, q4, q5, hle]
      · simp only [Int.reduceSub] at wt
        simp [-getElem?_pos, go_of (n := n + 1) FT_316 rfl, F316, w, wt, hg, hg2, e1, e2, q1, q2, q3, q4, q5, hle]
  rw [if_neg h45]; have hnd : needsI k = 1 := by unfold needsI; rw [if_neg h1, if_neg h45]
  rw [hnd] at w
  by_cases h6 : k = 6
  · rw [if_pos h6]
    subst h6; cases st with
    | nil =>
      refine ⟨_, .inr ⟨false, R, c, rfl, by simp⟩, fun s => ?_⟩
      simp [go_of (n := n + 1) FT_316 rfl, F316, w]
    | cons a r =>
      simp only [List.length_cons, List.reverse_cons] at hR hle hl ⊢; have hg := ku7 hR; have hs := kG0 (.mk 4 0 [] [a]) hR; obtain ⟨ak, ao, aa, aks⟩ := a; simp only [Net.row] at hg hs; have e1 : IntKind.i64.wrap (r.length : Int) = (r.length : Int) := k29 (by omega) (by omega); have q1 : ((r.length : Int) + 1 < 1) = False := eq_false (by omega); have q2 : ((r.length : Int) < (r.length : Int) + 1) = True := eq_true (by omega); refine ⟨_, .inr ⟨true, R.set r.length [iD 4, iD 0, .l 0 [], .l 0 [[iD ak, iD ao, .l 0 (argRows aa), .l 0 (netRows aks)]]], c, rfl, by simpa [k74, Net.row] using hs⟩, fun s => ?_⟩
      simp [-getElem?_pos, go_of (n := n + 1) FT_316 rfl, F316, w, hg, e1, q1, q2, hle]
  · rw [if_neg h6]
    cases st with
    | nil =>
      refine ⟨_, .inr ⟨false, R, c, rfl, by simp⟩, fun s => ?_⟩
      simp [go_of (n := n + 1) FT_316 rfl, F316, w]
    | cons a r =>
      have q1 : ((r.length : Int) + 1 < 1) = False := eq_false (by omega); refine ⟨_, .inr ⟨true, R, c, rfl, hR⟩, fun s => ?_⟩
      have k2 : ¬ k = 2 := fun e => h23 (.inl e)
      have k3 : ¬ k = 3 := fun e => h23 (.inr e)
      have k4 : ¬ k = 4 := fun e => h45 (.inl e)
      have k5 : ¬ k = 5 := fun e => h45 (.inr e)
      simp [go_of (n := n + 1) FT_316 rfl, F316, w, q1, h1, k2, k3, k4, k5, h6]
theorem ne2 {a b : Nat} (h : a ≠ b) : (a = b) = False ∧ (b = a) = False := ⟨eq_false h, eq_false fun e => h e.symm⟩
theorem ne3 {p q : Nat} (hp : p ≠ 0) (hq : q ≠ 0) (h : p ≠ q) : ((p = 0) = False ∧ (0 = p) = False) ∧ ((q = 0) = False ∧ (0 = q) = False) ∧ (p = q) = False ∧ (q = p) = False := ⟨ne2 hp, ne2 hq, ne2 h⟩
theorem ne3b {b p q : Nat} (h0 : b ≠ 0) (hp : b ≠ p) (hq : b ≠ q) : ((b = 0) = False ∧ (0 = b) = False) ∧ ((b = p) = False ∧ (p = b) = False) ∧ (b = q) = False ∧ (q = b) = False := ⟨ne2 h0, ne2 hp, ne2 hq⟩
theorem ne6 {p q a : Nat} (hp : p ≠ 0) (hq : q ≠ 0) (ha : a ≠ 0) (h : p ≠ q) (hpa : p ≠ a) (hqa : q ≠ a) : (((p = 0) = False ∧ (0 = p) = False) ∧ ((q = 0) = False ∧ (0 = q) = False) ∧ (p = q) = False ∧ (q = p) = False) ∧ ((a = 0) = False ∧ (0 = a) = False) ∧ ((p = a) = False ∧ (a = p) = False) ∧ (q = a) = False ∧ (a = q) = False := ⟨ne3 hp hq h, ne2 ha, ne2 hpa, ne2 hqa⟩
theorem ne4b {b p q a : Nat} (h0 : b ≠ 0) (hp : b ≠ p) (hq : b ≠ q) (ha : b ≠ a) : (((b = 0) = False ∧ (0 = b) = False) ∧ ((b = p) = False ∧ (p = b) = False) ∧ (b = q) = False ∧ (q = b) = False) ∧ (b = a) = False ∧ (a = b) = False := ⟨ne3b h0 hp hq, ne2 ha⟩
def insWt (i : Ins) : Nat := 2 + i.e.as.length
def lWt : List Ins → Nat
  | [] => 0
  | i :: r => insWt i + lWt r
theorem ks4 (k : Int) (a b : Net) : (together k a b).wt ≤ a.wt + b.wt + 1 := by
  unfold together; split
  · omega
  · have h : ∀ x : Net, netsWt (x.open k) ≤ x.wt := fun x => by
      unfold Net.open; obtain ⟨xk, xo, xa, xs⟩ := x; split
      · simp only [Net.kids, Net.wt]; omega
      · simp only [netsWt, Net.wt]; omega
    have h1 := h a; have h2 := h b; simp only [Net.wt, k46, List.length_nil]; omega
theorem step_wt (s : List Net) (i : Ins) : netsWt (stepR s i) ≤ netsWt s + insWt i := by
  unfold stepR insWt; split
  · simp only [netsWt, Net.wt]; omega
  · split
    · cases s with
      | nil => simp [netsWt]
      | cons a r =>
        have := ks4 i.c a (.mk 1 i.e.op i.e.as []); simp only [netsWt, Net.wt] at this ⊢; omega
    · split
      · match s with
        | [] => simp [netsWt]
        | [x] => simp [netsWt]
        | b :: a :: r =>
          have := ks4 (i.c - 2) a b; simp only [netsWt] at this ⊢; omega
      · split
        · cases s with
          | nil => simp [netsWt]
          | cons a r => simp only [netsWt, Net.wt]; simp; omega
        · omega
theorem kx4 (s : List Net) : s.length ≤ netsWt s := by have := k27 s; omega
def StkAt (st : St) (t p q : Nat) (s : List Net) : Prop := (s = [] ∧ st.τ t = .w .nil) ∨ ∃ b c R, b ≠ 0 ∧ b ≠ p ∧ b ≠ q ∧ b < st.g ∧ st.τ t = .w (.own b 0 s.length c) ∧ st.H b = .row none 4 R 0 ∧ R.take s.length = netRows s.reverse
theorem StkAt.keep {st st' : St} {t p q : Nat} {s : List Net} (h : StkAt st t p q s) (e : st'.τ t = st.τ t) (eH : ∀ b, b < st.g → b ≠ 0 → b ≠ p → b ≠ q → st'.H b = st.H b) (hg : st.g ≤ st'.g) : StkAt st' t p q s := by
  rcases h with ⟨h1, h2⟩ | ⟨b, c, R, h1, h2, h3, h4, h5, h6, h7⟩
  · exact .inl ⟨h1, e.trans h2⟩
  · exact .inr ⟨b, c, R, h1, h2, h3, by omega, e.trans h5, (eH b h4 h1 h2 h3).trans h6, h7⟩
def ArmAt (st : St) (p q : Nat) (l : List Ins) : Prop := st.τ 2 = .w (.ptr p 0) ∧ st.H p = .cells [.ptr 0 0] ∧ st.τ 4 = .w (.ptr q 0) ∧ st.H q = .cells [iW 0, iW 0, .nil, .nil, .nil, .nil] ∧ st.H 0 = .cells [isW l] ∧ 0 < st.g ∧ p < st.g ∧ q < st.g ∧ (p = 1 ∨ (st.H 1).names = [])
theorem loop312_0 {n : Nat} (p q : Nat) (hp : p ≠ 0) (hq : q ≠ 0) (hpq : p ≠ q) (s0 : List Net) (l0 : List Ins) (hW : netsWt s0 + lWt l0 < 2 ^ 27) (hn : l0.length + 20 < n) (st : St) (hA : ArmAt st p q l0) (hS : StkAt st 1 p q s0) :
    ∃ e st', execC (go n) mode GT false 68 n F312_L0 st = some (e, st') ∧ e ≠ .normal ∧ (e = .exit 0 ∧ ArmAt st' p q (netSpan l0).2 ∧ StkAt st' 1 p q (runR s0 (netSpan l0).1)) := by
  rw [F312_L0, k00]; refine k03 (fun m st => ∃ s l, l.length = m ∧ netsWt s + lWt l < 2 ^ 27 ∧ (netSpan l0).2 = (netSpan l).2 ∧ runR s0 (netSpan l0).1 = runR s (netSpan l).1 ∧ ArmAt st p q l ∧ StkAt st 1 p q s) ?_ n l0.length st (by omega)
    ⟨s0, l0, rfl, hW, rfl, rfl, hA, hS⟩
  clear hA hS hW; rintro m ⟨τ, H, g, sp⟩ ⟨s, l, hm, hW, e2, e1, ⟨h2, hP, h4, hQ, h0, hg, hpg, hqg, hone⟩, hS⟩; simp only at h2 hP h4 hQ h0 hg hpg hqg hone; have oneX := far (show 1 < g by omega); rw [e1, e2]; clear e1 e2; have wc : ∀ s, go n 337 [.w (.ptr 0 0)] [.cells [isW l]] s = some ⟨iV (codeI l), [.cells [isW l]], []⟩ := fun s => by
    have := kf3 (n := n - 1) l s
    rwa [show n - 1 + 1 = n by omega] at this
  have zX := far hg; have pX := far hpg; have qX := far hqg; have nX := ne3 hp hq hpq
  by_cases hc : codeI l < 7
  · cases l with
    | nil => exact absurd hc (by simp [codeI])
    | cons i r =>
      have hc' : (codeI (i :: r) < 7) = True := eq_true hc; have hic : i.c < 7 := hc; have wn : ∀ s, go n 338 [.w (.ptr 0 0)] [.cells [isW (i :: r)]] s = some ⟨insX i, [.cells [isW r]], []⟩ := fun s => by
        have := ks8 (n := n - 1) i r s
        rwa [show n - 1 + 1 = n by omega] at this
      have hspan : netSpan (i :: r) = (i :: (netSpan r).1, (netSpan r).2) := by rw [netSpan]; rw [if_pos hic]
      rw [hspan]; have hrun : runR s (i :: (netSpan r).1) = runR (stepR s i) (netSpan r).1 := rfl; simp only [hrun]; have hsw := step_wt s i; have hW2 : netsWt (stepR s i) + lWt r < 2 ^ 27 := by simp only [lWt] at hW; omega
      have hsl := kx4 s; cases m with
      | zero => simp at hm
      | succ m =>
        have hrm : r.length = m := by simpa using hm
        suffices hsuf : ∃ st', execC (go n) mode GT false 68 n F312_B0 ⟨τ, H, g, sp⟩ = some (.normal, st') ∧ ArmAt st' p q r ∧ StkAt st' 1 p q (stepR s i) by
          obtain ⟨st', b0, b1, b2⟩ := hsuf; rw [b0]; exact ⟨.normal, st', rfl, fun _ => ⟨m, by omega, stepR s i, r, hrm, hW2, rfl, rfl, b1, b2⟩, fun h => absurd rfl h⟩
        rcases hS with ⟨rfl, h1⟩ | ⟨b, c, R, hb0, hbp, hbq, hbg, h1, hB, hR⟩
        · simp only at h1
          have ws : ∀ s, go n 316 [.w .nil, insX i] [] s = some (if i.c = 1 then ⟨.tup [(false, [.own 0 0 1 none]), (false, [.d (.s (.bool true))])], [], [.row none 4 [Net.row (.mk 1 i.e.op i.e.as [])] 0]⟩ else ⟨.tup [(false, [.nil]), (false, [.d (.s (.bool false))])], [], []⟩) := fun s => by
            have := step_nil (n := n - 2) i s
            rwa [show n - 2 + 2 = n by omega] at this
          by_cases k1 : i.c = 1
          · rw [if_pos k1] at ws
            have est : stepR [] i = [.mk 1 i.e.op i.e.as []] := by unfold stepR; rw [if_pos k1]
            rw [est]; obtain ⟨ic, io, ia⟩ := i; simp [F312_B0, h1, h2, h4, hP, hQ, h0, wc, wn, ws, hc', zX, pX, qX, nX]; exact ⟨⟨by simp [h2], by simp [hP, pX, nX], by simp [h4], by simp [hQ, qX, nX], by simp [zX, nX], by simp only; omega, by simp only; omega, by simp only; omega, (by rcases hone with h | h; exact .inl h; exact .inr (by simp [oneX, h]; try ((repeat' split) <;> simp [h])))⟩, .inr ⟨g + 384, none, [Net.row (.mk 1 io ia [])], by omega, by omega, by omega, by simp only; omega, by simp, by simp, by simp [k74]⟩⟩
          · rw [if_neg k1] at ws
            have est : stepR [] i = [] := by
              unfold stepR; rw [if_neg k1]; simp
            rw [est]; obtain ⟨ic, io, ia⟩ := i; simp [F312_B0, h1, h2, h4, hP, hQ, h0, wc, wn, ws, hc', zX, pX, qX, nX]; exact ⟨⟨by simp [h2], by simp [hP, pX, nX], by simp [h4], by simp [hQ, qX, nX], by simp [zX, nX], by simp only; omega, by simp only; omega, by simp only; omega, (by rcases hone with h | h; exact .inl h; exact .inr (by simp [oneX, h]; try ((repeat' split) <;> simp [h])))⟩, .inl ⟨rfl, by simp⟩⟩
        · simp only at hbg h1 hB
          have hle := kz3 hR (by rw [k09, List.length_reverse]); obtain ⟨rs, hout, ws⟩ := step_own (n := n - 2) i s c R hR (by omega) (by omega) (by omega); rw [show n - 2 + 2 = n by omega] at ws; have bX := far hbg; have cN := ne3b hb0 hbp hbq; rcases hout with rfl | ⟨ok, R', c', rfl, hR'⟩
          · generalize stepR s i = s' at ws ⊢
            obtain ⟨ic, io, ia⟩ := i; simp [F312_B0, h1, h2, h4, hP, hQ, h0, wc, wn, ws, hc', zX, pX, qX, nX, hB, bX, cN]; exact ⟨⟨by simp [h2], by simp [hP, pX, nX, cN], by simp [h4], by simp [hQ, qX, nX, cN], by simp [zX, nX, cN], by simp only; omega, by simp only; omega, by simp only; omega, (by rcases hone with h | h; exact .inl h; exact .inr (by simp [oneX, h]; try ((repeat' split) <;> simp [h])))⟩, .inr ⟨g + 384, none, netRows s'.reverse, by omega, by omega, by omega, by simp only; omega, by simp, by simp [bX, cN], List.take_of_length_le (by simp [k09])⟩⟩
          · generalize stepR s i = s' at ws hR' ⊢
            obtain ⟨ic, io, ia⟩ := i; simp [F312_B0, h1, h2, h4, hP, hQ, h0, wc, wn, ws, hc', zX, pX, qX, nX, hB, bX, cN]; exact ⟨⟨by simp [h2], by simp [hP, pX, nX, cN], by simp [h4], by simp [hQ, qX, nX, cN], by simp [zX, nX, cN], by simp only; omega, by simp only; omega, by simp only; omega, (by rcases hone with h | h; exact .inl h; exact .inr (by simp [oneX, h]; try ((repeat' split) <;> simp [h])))⟩, .inr ⟨b, c', R', hb0, hbp, hbq, by simp only; omega, by simp, by simp [bX, cN], hR'⟩⟩
  · have hc' : (codeI l < 7) = False := eq_false hc
    have hspan : netSpan l = ([], l) := by
      cases l with
      | nil => rfl
      | cons i r => rw [netSpan]; exact if_neg hc
    rw [hspan]; refine ⟨.exit 0, ?_⟩
    simp [F312_B0, h2, h4, hP, hQ, h0, wc, hc', zX, pX, qX, nX]; exact ⟨⟨by simp [h2], by simp [hP, pX, nX], by simp [h4], by simp [hQ, qX, nX], by simp [zX, nX], by simp only; omega, by simp only; omega, by simp only; omega, (by rcases hone with h | h; exact .inl h; exact .inr (by simp [oneX, h]; try ((repeat' split) <;> simp [h])))⟩, hS.keep (by simp) (fun b hb h1 h2 h3 => by simp [h1]) (by simp only; omega)⟩
end Go.VM
