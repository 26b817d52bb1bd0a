/- WayDown, run. Conditions: none. -/
import Derived.Test.YtcjdokngpmnkjaaGreatDoorVY11
import Derived.Test.YtcjdokngpmnkjaaGreatDoorVY4

namespace Go.VM
set_option linter.unusedSimpArgs false
set_option linter.unusedVariables false
set_option maxHeartbeats 16000000
def downCode (l : List Arm) : Int := if treeCode l = 0 then if 16 < bitsOf (normOf l) ∨ 8 < forksOf (normOf l) then 2 else 0 else 1
def downList (l : List Arm) : List Ins := if downCode l = 0 then plainOf (normOf l) else []
theorem kt5 (l : List Arm) (hm : armsWt l < 2 ^ 25) (n : Nat) (hn : 6 * armsWt l + 500 ≤ n) (s : Sup) : go n 271 [.w (ksW l)] [] s = some ⟨.tup [(false, [isW (downList l)]), (false, [iW (downCode l)])], [], []⟩ := by
 obtain ⟨n, rfl⟩ : ∃ k, n = k + 2 := ⟨n - 2, by omega⟩; have w1 := kf8 l (by omega) (n + 1) (by omega)
 by_cases h : treeCode l = 0
 · have w2 := run_plain l hm (k44 h) h (n + 1) (by omega)
   have e : normOf l = armsNorm l := by unfold normOf; rw [if_pos h]
   have w3 := run_WayBits l hm (n + 1) (by omega); have w4 := run_WayForks l hm (n + 1) (by omega); have hlp := ka3 (normOf l) (k50 l); have hsz := k47 (normOf l); have hwt := k61 l; have w5 := run_clip (n := n) (plainOf (normOf l)) (by omega); rw [← e] at w2; unfold downList downCode; rw [if_pos h]; generalize normOf l = y at w2 w3 w4 w5
   by_cases hb : 16 < bitsOf y
   · have hb' : ((16 : Int) < (bitsOf y : Int)) = True := eq_true (by omega)
     simp [go_of (n := n + 1) FT_271 rfl, F271, w1, h, w2, w3, w4, w5, hb, hb', insRows]
   · have hb' : ((16 : Int) < (bitsOf y : Int)) = False := eq_false (by omega)
     by_cases hf : 8 < forksOf y
     · have hf' : ((8 : Int) < (forksOf y : Int)) = True := eq_true (by omega)
       simp [go_of (n := n + 1) FT_271 rfl, F271, w1, h, w2, w3, w4, w5, hb, hb', hf, hf', insRows]
     · have hf' : ((8 : Int) < (forksOf y : Int)) = False := eq_false (by omega)
       simp [go_of (n := n + 1) FT_271 rfl, F271, w1, h, w2, w3, w4, w5, hb, hb', hf, hf']
 · unfold downList downCode
   rw [if_neg h]; simp [go_of (n := n + 1) FT_271 rfl, F271, w1, h, insRows]
abbrev hX (s : Int × Int) : V := .agg [iW s.1, iW s.2]
theorem behind_bnd {s : Int × Int} {c k : Int} (h : -k ≤ s.1 ∧ s.1 ≤ k ∧ -k ≤ s.2 ∧ s.2 ≤ k) : -(k + 1) ≤ (behind s c).1 ∧ (behind s c).1 ≤ k + 1 ∧ -(k + 1) ≤ (behind s c).2 ∧ (behind s c).2 ≤ k + 1 := by
 unfold behind; split
 · simp only; omega
 · split
   · simp only; omega
   · split
     · simp only; omega
     · split <;> (try simp only) <;> omega
theorem run_behind {n : Nat} (s0 : Int × Int) (c : Int) (h : -(2 ^ 40) ≤ s0.1 ∧ s0.1 ≤ 2 ^ 40 ∧ -(2 ^ 40) ≤ s0.2 ∧ s0.2 ≤ 2 ^ 40) (s : Sup) : go (n + 1) 311 [hX s0, iV c] [] s = some ⟨hX (behind s0 c), [], []⟩ := by
 obtain ⟨b, f⟩ := s0; simp only at h; have w1 : IntKind.i64.wrap (b + 1) = b + 1 := k29 (by omega) (by omega); have w2 : IntKind.i64.wrap (b - 1) = b - 1 := k29 (by omega) (by omega); have w3 : IntKind.i64.wrap (f + 1) = f + 1 := k29 (by omega) (by omega); have w4 : IntKind.i64.wrap (f - 1) = f - 1 := k29 (by omega) (by omega); unfold behind
 by_cases c1 : c = 1
 · simp [go_of (n := n) FT_311 rfl, F311, c1, w1]
 by_cases c4 : c = 4
 · simp [go_of (n := n) FT_311 rfl, F311, c4, w2]
 by_cases c5 : c = 5
 · simp [go_of (n := n) FT_311 rfl, F311, c5, w2]
 by_cases c11 : c = 11
 · simp [go_of (n := n) FT_311 rfl, F311, c11, w2]
 by_cases c7 : c = 7
 · simp [go_of (n := n) FT_311 rfl, F311, c7, w3]
 by_cases c9 : c = 9
 · simp [go_of (n := n) FT_311 rfl, F311, c9, w4]
 simp [go_of (n := n) FT_311 rfl, F311, c1, c4, c5, c11, c7, c9]
theorem run_ListOk {n : Nat} (hn : 60 ≤ n) (i : Ins) (hl : i.e.as.length < 2 ^ 62) (s : Sup) : go (n + 1) 315 [insX i] [] s = some ⟨bV i.ok, [], []⟩ := by
 obtain ⟨c, e⟩ := i; have w1 := k65 (n := n) (by omega) c 1 3; have w2 := kc2 (n := n) (by omega) e hl; have w3 := ki4 (n := n) (by omega) e; have w4 : ∀ s, go n 60 [iV c, iV 4, iV 11] [] s = some ⟨sV (.bool (decide (4 ≤ c) && decide (c ≤ 11))), [], []⟩ := fun s => k65 (by omega) c 4 11 s
 obtain ⟨op, as⟩ := e; have w5 : ∀ s, go n 138 [elX ⟨op, as⟩] [] s = some ⟨sV (.bool (decide (op = 0 ∧ as = []))), [], []⟩ := fun s => kz6 (by omega) op as s
 unfold Ins.ok El.bareB; simp only; generalize El.contact ⟨op, as⟩ = r1 at w2 ⊢; generalize El.coil ⟨op, as⟩ = r2 at w3 ⊢
 by_cases h1 : 1 ≤ c ∧ c ≤ 3
 · have e1 : (decide (1 ≤ c) && decide (c ≤ 3)) = true := by simp [h1]
   rw [e1] at w1; rw [if_pos h1]; simp [go_of (n := n) FT_315 rfl, F315, w1, w2]
 · have e1 : (decide (1 ≤ c) && decide (c ≤ 3)) = false := by simpa using h1
   rw [e1] at w1; rw [if_neg h1]
   by_cases h2 : c = 10
   · subst h2
     simp [go_of (n := n) FT_315 rfl, F315, w1, w3]
   · rw [if_neg h2]
     by_cases h3 : 4 ≤ c ∧ c ≤ 11
     · have e2 : (decide (4 ≤ c) && decide (c ≤ 11)) = true := by simp [h3]
       rw [e2] at w4; rw [decide_eq_true h3]; simp [go_of (n := n) FT_315 rfl, F315, w1, w4, w5, h2]
     · have e2 : (decide (4 ≤ c) && decide (c ≤ 11)) = false := by simpa using h3
       rw [e2] at w4; rw [decide_eq_false h3]; simp [go_of (n := n) FT_315 rfl, F315, w1, w4, w5, h2]
theorem kt0 {n : Nat} (c : Int) (s : Sup) : go (n + 1) 336 [iV c] [] s = some ⟨iV (needsI c), [], []⟩ := by
 unfold needsI
 by_cases c1 : c = 1
 · simp [go_of (n := n) FT_336 rfl, F336, c1]
 by_cases c4 : c = 4
 · simp [go_of (n := n) FT_336 rfl, F336, c4]
 by_cases c5 : c = 5
 · simp [go_of (n := n) FT_336 rfl, F336, c5]
 simp [go_of (n := n) FT_336 rfl, F336, c1, c4, c5]
theorem ptf (p : Prop) : p = True ∨ p = False := by by_cases h : p; exact .inl (eq_true h); exact .inr (eq_false h)
theorem run_sureWrong {n : Nat} (hn : 61 ≤ n) (u : CS) (i : Ins) (hl : i.e.as.length < 2 ^ 62) (s : Sup) : go (n + 1) 310 [hX (u.b, u.f), insX i, bV u.based, bV u.coil] [] s = some ⟨iV (u.wrong i), [], []⟩ := by
 obtain ⟨n, rfl⟩ : ∃ k, n = k + 1 := ⟨n - 1, by omega⟩; have w1 := run_ListOk (n := n) (by omega) i hl; obtain ⟨c, op, as⟩ := i; have w2 := kt0 (n := n) c; obtain ⟨b, f, B, co⟩ := u; unfold CS.wrong; simp only; generalize Ins.ok ⟨c, ⟨op, as⟩⟩ = ok at w1 ⊢; generalize needsI c = nd at w2 ⊢; cases ok with
 | false => simp [go_of (n := n + 1) FT_310 rfl, F310, w1]
 | true =>
  by_cases h2 : b < nd
  · simp [go_of (n := n + 1) FT_310 rfl, F310, w1, w2, h2]
  have e2 : (b < nd) = False := eq_false h2
  by_cases h1 : c = 1
  · subst h1
    cases B <;> cases co <;> rcases ptf (16 ≤ b) with k0 | k0 <;> simp [go_of (n := n + 1) FT_310 rfl, F310, w1, w2, e2, k0]
  by_cases h3 : c = 3
  · subst h3
    cases B <;> cases co <;> rcases ptf (b = 1) with k0 | k0 <;> simp [go_of (n := n + 1) FT_310 rfl, F310, w1, w2, e2, k0]
  by_cases h5 : c = 5
  · subst h5
    cases B <;> cases co <;> rcases ptf (b = 2) with k0 | k0 <;> simp [go_of (n := n + 1) FT_310 rfl, F310, w1, w2, e2, k0]
  by_cases h6 : c = 6
  · subst h6
    cases B <;> cases co <;> rcases ptf (b = 1) with k0 | k0 <;> simp [go_of (n := n + 1) FT_310 rfl, F310, w1, w2, e2, k0]
  by_cases h7 : c = 7
  · subst h7
    cases B <;> cases co <;> rcases ptf (1 < b) with k0 | k0 <;> rcases ptf (8 ≤ f) with k1 | k1 <;> simp [go_of (n := n + 1) FT_310 rfl, F310, w1, w2, e2, k0, k1]
  by_cases h8 : c = 8
  · subst h8
    cases B <;> cases co <;> rcases ptf (1 < b) with k0 | k0 <;> rcases ptf (f = 0) with k1 | k1 <;> simp [go_of (n := n + 1) FT_310 rfl, F310, w1, w2, e2, k0, k1]
  by_cases h9 : c = 9
  · subst h9
    cases B <;> cases co <;> rcases ptf (1 < b) with k0 | k0 <;> rcases ptf (f = 0) with k1 | k1 <;> simp [go_of (n := n + 1) FT_310 rfl, F310, w1, w2, e2, k0, k1]
  by_cases h11 : c = 11
  · subst h11
    cases B <;> cases co <;> rcases ptf (1 < b) with k0 | k0 <;> rcases ptf (f = 0) with k1 | k1 <;> simp [go_of (n := n + 1) FT_310 rfl, F310, w1, w2, e2, k0, k1]
  by_cases k0 : 7 ≤ c
  · cases B <;> cases co <;> rcases ptf (1 < b) with k1 | k1 <;> simp [go_of (n := n + 1) FT_310 rfl, F310, w1, w2, e2, h1, h3, h5, h6, h7, h8, h9, h11, k0, k1]
  · cases B <;> cases co <;> simp [go_of (n := n + 1) FT_310 rfl, F310, w1, w2, e2, h1, h3, h5, h6, h7, h8, h9, h11, k0]
theorem kL4 {α : Type} {l : List α} {i : Nat} {x : α} (h : l[i]? = some x) : l.drop i = x :: l.drop (i + 1) := by
 obtain ⟨h1, h2⟩ := List.getElem?_eq_some_iff.1 h; rw [List.drop_eq_getElem_cons h1, h2]
theorem next_bnd {u : CS} {i : Ins} {k : Int} (h : -k ≤ u.b ∧ u.b ≤ k ∧ -k ≤ u.f ∧ u.f ≤ k) : -(k + 1) ≤ (u.next i).b ∧ (u.next i).b ≤ k + 1 ∧ -(k + 1) ≤ (u.next i).f ∧ (u.next i).f ≤ k + 1 := behind_bnd (s := (u.b, u.f)) h
def CkAt (st : St) (q : Nat) (l : List Ins) (i : Nat) : Prop := ∃ u : CS, checkFrom ⟨0, 0, false, false⟩ 0 l = checkFrom u i (l.drop i) ∧ (-(i : Int) ≤ u.b ∧ u.b ≤ i ∧ -(i : Int) ≤ u.f ∧ u.f ≤ i) ∧
 st.τ 0 = .w (isW l) ∧ st.τ 2 = .w (.ptr 0 0) ∧ st.H 0 = .cells [iW 0, iW 0] ∧ st.τ 3 = .w (.ptr q 0) ∧ st.H q = .cells [iW u.b, iW u.f] ∧ st.τ 4 = bV u.based ∧ st.τ 5 = bV u.coil ∧ q < st.g
theorem loop284_0 {n : Nat} (q : Nat) (l : List Ins) (hq : 0 < q) (ha : ∀ x ∈ l, x.e.as.length < 2 ^ 62) (h62 : 63 ≤ n) (hn : l.length < n) (hl : l.length < 2 ^ 38) (st : St) (h14 : st.τ 14 = .w (isW l)) (h15 : st.τ 15 = iV l.length) (h16 : st.τ 16 = iV 0) (hck : CkAt st q l 0) :
 ∃ e st', execC (go n) mode GT false 60 n F284_L0 st = some (e, st') ∧ e ≠ .normal ∧ ((e = .exit 0 ∧ CkAt st' q l l.length) ∨ (e = .ret ∧ st'.τ 2 = .w (.ptr 0 0) ∧ st'.H 0 = .cells [iW (checkFrom ⟨0, 0, false, false⟩ 0 l).1, iW ((checkFrom ⟨0, 0, false, false⟩ 0 l).2 : Nat)])) := by
 rw [F284_L0, k00]; refine k03 (fun k st => ∃ i, i + k = l.length ∧ st.τ 14 = .w (isW l) ∧ st.τ 15 = iV l.length ∧ st.τ 16 = iV i ∧ CkAt st q l i) ?_ n l.length st hn ⟨0, by omega, h14, h15, by simpa using h16, hck⟩
 clear h14 h15 h16 hck; rintro k ⟨τ, H, g, s⟩ ⟨i, hk, h14, h15, h16, u, hu, hb, h0, h2, hA, h3, hQ, h4, h5, hg⟩; simp only at h14 h15 h16 h0 h2 hA h3 hQ h4 h5 hg; cases k with
 | zero =>
  have : i = l.length := by omega
  subst this; refine ⟨.exit 0, ?_⟩
  simp [F284_B0, h15, h16]; exact ⟨u, hu, hb, by simp [h0], by simp [h2], hA, by simp [h3], hQ, by simp [h4], by simp [h5], by simp only; omega⟩
 | succ k =>
  have hlt : i < l.length := by omega
  have hlt' := ltT hlt; have hgt := List.getElem?_eq_getElem hlt; have hmem := List.getElem_mem hlt; have hw := k04 (i := i) (by omega); have w1 : ∀ s, go n 310 [hX (u.b, u.f), insX l[i], bV u.based, bV u.coil] [] s = some ⟨iV (u.wrong l[i]), [], []⟩ := fun s => by
   have := run_sureWrong (n := n - 1) (by omega) u l[i] (ha _ hmem) s
   rwa [show n - 1 + 1 = n by omega] at this
  have hstep := kL4 hgt; have hnb := next_bnd (i := l[i]) hb; have hnx : u.next l[i] = ⟨(behind (u.b, u.f) l[i].c).1, (behind (u.b, u.f) l[i].c).2, decide (l[i].c ≠ 11) && (u.based || decide (l[i].c = 10) || decide (l[i].c = 7)), decide (l[i].c = 10)⟩ := rfl; have w2 : ∀ s, go n 311 [hX (u.b, u.f), iV l[i].c] [] s = some ⟨hX (behind (u.b, u.f) l[i].c), [], []⟩ := fun s => by
   have := run_behind (n := n - 1) (u.b, u.f) l[i].c (by simp only; omega) s
   rwa [show n - 1 + 1 = n by omega] at this
  obtain ⟨c, op, as, hx⟩ : ∃ c op as, l[i] = ⟨c, ⟨op, as⟩⟩ := ⟨_, _, _, rfl⟩; rw [hx] at hgt w1 w2 hstep hnb hnx; have hrow := ka4 hgt; have fgX := far hg; have f0X := far (show 0 < g by omega); have e1 : (q = 0) = False := eq_false (by omega); have e2 : (0 = q) = False := eq_false (by omega); simp only at w2 hnx; have hcf : checkFrom u i (l.drop i) = if u.wrong ⟨c, ⟨op, as⟩⟩ ≠ 0 then (u.wrong ⟨c, ⟨op, as⟩⟩, i) else checkFrom (u.next ⟨c, ⟨op, as⟩⟩) (i + 1) (l.drop (i + 1)) := by rw [hstep]; rfl
  rw [hcf] at hu
  by_cases hz : u.wrong ⟨c, ⟨op, as⟩⟩ = 0
  · rw [if_neg (by simp [hz])] at hu
    rw [hz] at w1; rw [hnx] at hu hnb; generalize behind (u.b, u.f) c = v at w2 hu hnb; obtain ⟨b, f, B, co⟩ := u; obtain ⟨v1, v2⟩ := v; simp only at *
    suffices hsuf : ∃ st', execC (go n) mode GT false 60 n F284_B0 ⟨τ, H, g, s⟩ = some (.normal, st') ∧ st'.τ 14 = .w (isW l) ∧ st'.τ 15 = iV l.length ∧ st'.τ 16 = iV ((i + 1 : Nat) : Int) ∧ CkAt st' q l (i + 1) by
     obtain ⟨st', a0, a1, a2, a3, a4⟩ := hsuf; rw [a0]; exact ⟨.normal, st', rfl, fun _ => ⟨k, by omega, i + 1, by omega, a1, a2, a3, a4⟩, fun h => absurd rfl h⟩
    have fin : ∀ st' : St, st'.τ 0 = .w (isW l) → st'.τ 2 = .w (.ptr 0 0) → st'.H 0 = .cells [iW 0, iW 0] → st'.τ 3 = .w (.ptr q 0) → st'.H q = .cells [iW v1, iW v2] → st'.τ 4 = bV (decide (c ≠ 11) && (B || decide (c = 10) || decide (c = 7))) → st'.τ 5 = bV (decide (c = 10)) → q < st'.g → CkAt st' q l (i + 1) := fun st' a1 a2 a3 a4 a5 a6 a7 a8 =>
     ⟨_, hu, by simp only; omega, a1, a2, a3, a4, a5, a6, a7, a8⟩
    by_cases k11 : c = 11
    · subst k11
      simp [-getElem?_pos, F284_B0, h0, h2, h3, h4, h5, h14, h15, h16, hA, hQ, hlt, hlt', hrow, w1, w2, hw, fgX, f0X, e1, e2]; exact fin _ (by simp [h0]) (by simp [h2]) (by simp [f0X, hA, e1, e2]) (by simp [h3]) (by simp [fgX, e1, e2]) (by simp) (by simp) (by simp only; omega)
    by_cases k10 : c = 10
    · subst k10
      cases B
      · simp [-getElem?_pos, F284_B0, h0, h2, h3, h4, h5, h14, h15, h16, hA, hQ, hlt, hlt', hrow, w1, w2, hw, fgX, f0X, e1, e2]
        exact fin _ (by simp [h0]) (by simp [h2]) (by simp [f0X, hA, e1, e2]) (by simp [h3]) (by simp [fgX, e1, e2]) (by simp) (by simp) (by simp only; omega)
      · simp [-getElem?_pos, F284_B0, h0, h2, h3, h4, h5, h14, h15, h16, hA, hQ, hlt, hlt', hrow, w1, w2, hw, fgX, f0X, e1, e2]
        exact fin _ (by simp [h0]) (by simp [h2]) (by simp [f0X, hA, e1, e2]) (by simp [h3]) (by simp [fgX, e1, e2]) (by simp) (by simp) (by simp only; omega)
    by_cases k7 : c = 7
    · subst k7
      cases B
      · simp [-getElem?_pos, F284_B0, h0, h2, h3, h4, h5, h14, h15, h16, hA, hQ, hlt, hlt', hrow, w1, w2, hw, fgX, f0X, e1, e2]
        exact fin _ (by simp [h0]) (by simp [h2]) (by simp [f0X, hA, e1, e2]) (by simp [h3]) (by simp [fgX, e1, e2]) (by simp) (by simp) (by simp only; omega)
      · simp [-getElem?_pos, F284_B0, h0, h2, h3, h4, h5, h14, h15, h16, hA, hQ, hlt, hlt', hrow, w1, w2, hw, fgX, f0X, e1, e2]
        exact fin _ (by simp [h0]) (by simp [h2]) (by simp [f0X, hA, e1, e2]) (by simp [h3]) (by simp [fgX, e1, e2]) (by simp) (by simp) (by simp only; omega)
    cases B
    · simp [-getElem?_pos, F284_B0, h0, h2, h3, h4, h5, h14, h15, h16, hA, hQ, hlt, hlt', hrow, w1, w2, hw, fgX, f0X, e1, e2, k11, k10, k7]
      exact fin _ (by simp [h0]) (by simp [h2]) (by simp [f0X, hA, e1, e2]) (by simp [h3]) (by simp [fgX, e1, e2]) (by simp [k11, k10, k7]) (by simp [k11, k10, k7]) (by simp only; omega)
    · simp [-getElem?_pos, F284_B0, h0, h2, h3, h4, h5, h14, h15, h16, hA, hQ, hlt, hlt', hrow, w1, w2, hw, fgX, f0X, e1, e2, k11, k10, k7]
      exact fin _ (by simp [h0]) (by simp [h2]) (by simp [f0X, hA, e1, e2]) (by simp [h3]) (by simp [fgX, e1, e2]) (by simp [k11, k10, k7]) (by simp [k11, k10, k7]) (by simp only; omega)
  · rw [if_pos hz] at hu
    have hz' : (u.wrong ⟨c, ⟨op, as⟩⟩ = 0) = False := eq_false hz; rw [hu]; generalize u.wrong ⟨c, ⟨op, as⟩⟩ = wr at w1 hz'; refine ⟨.ret, ?_⟩
    simp [-getElem?_pos, F284_B0, h0, h2, h3, h4, h5, h14, h15, h16, hA, hQ, hlt, hlt', hrow, w1, w2, hw, fgX, f0X, e1, e2, hz']
theorem run_SureCheck {n : Nat} (l : List Ins) (ha : ∀ x ∈ l, x.e.as.length < 2 ^ 62) (h62 : 63 ≤ n) (hn : l.length < n) (hl : l.length < 2 ^ 38) (s : Sup) : go (n + 1) 284 [.w (isW l)] [] s = some ⟨faultX (checkL l).1 ((checkL l).2 : Nat), [], []⟩ := by
 unfold checkL
 by_cases h : 1000 < l.length
 · have hi : ((1000 : Int) < (l.length : Int)) = True := eq_true (by omega)
   simp [go_of (n := n) FT_284 rfl, F284, k02, h, hi]
 · have hi : ((1000 : Int) < (l.length : Int)) = False := eq_false (by omega)
   rw [if_neg h]; simp [go_of (n := n) FT_284 rfl, F284, k02, hi]; generalize hst : St.mk _ _ _ _ = st; obtain ⟨e, ⟨τ', H', g', s'⟩, hx, -, ⟨rfl, u, hu, hb, h0, h2, hA, h3, hQ, h4, h5, hg⟩ | ⟨rfl, h2, hA⟩⟩ := loop284_0 (n := n) 320 l (by omega) ha h62 hn hl st (by simp [← hst]) (by simp [← hst]) (by simp [← hst]) (by
    subst hst; exact ⟨⟨0, 0, false, false⟩, rfl, by simp, by simp, by simp, by simp, by simp, by simp, by simp, by simp, by simp⟩)
   · simp only at h0 h2 hA h3 hQ h4 h5 hg
     clear hst; rw [List.drop_length] at hu; rw [hu]; have f0X := far (show 0 < g' by omega)
     by_cases hz : u.b = 0
     · have e : checkFrom u l.length [] = (0, 0) := by unfold checkFrom; simp [hz]
       rw [e]; simp [hx, h0, h2, hA, h3, hQ, hz, f0X]
     · have e : checkFrom u l.length [] = (9, l.length) := by unfold checkFrom; simp [hz]
       rw [e]; simp [hx, h0, h2, hA, h3, hQ, hz, f0X, k02]
   · simp only at h2 hA
     clear hst; simp [hx, h2, hA]
theorem kr0 : ∀ (l : List Ins) (u : CS) (k : Nat), 0 ≤ (checkFrom u k l).1 ∧ ((checkFrom u k l).1 = 0 → (checkFrom u k l).2 = 0)
 | [], u, k => by unfold checkFrom; split <;> simp
 | i :: r, u, k => by
  have h : 0 ≤ u.wrong i := by unfold CS.wrong; repeat (first | decide | split)
  unfold checkFrom; split
  · rename_i h2; exact ⟨h, fun h3 => absurd h3 h2⟩
  · exact kr0 r _ _
theorem checkL_nn (l : List Ins) : 0 ≤ (checkL l).1 ∧ ((checkL l).1 = 0 → (checkL l).2 = 0) := by
 unfold checkL; split
 · simp
 · exact kr0 _ _ _
theorem run_verified {n : Nat} (l : List Ins) (ha : ∀ x ∈ l, x.e.as.length < 2 ^ 62) (h62 : 64 ≤ n) (hn : l.length + 1 < n) (hl : l.length < 2 ^ 38) (s : Sup) : go (n + 1) 305 [.w (isW l)] [] s = some ⟨bV (decide ((checkL l).1 = 0)), [], []⟩ := by
 obtain ⟨n, rfl⟩ : ∃ k, n = k + 1 := ⟨n - 1, by omega⟩; have w := run_SureCheck (n := n) l ha (by omega) (by omega) hl; have h := (checkL_nn l).2; generalize checkL l = r at w h; obtain ⟨a, b⟩ := r; simp only at w h
 by_cases ha : a = 0
 · have hb := h ha
   subst ha hb; simp [go_of (n := n + 1) FT_305 rfl, F305, w]
 · simp [go_of (n := n + 1) FT_305 rfl, F305, w, ha]
end Go.VM
