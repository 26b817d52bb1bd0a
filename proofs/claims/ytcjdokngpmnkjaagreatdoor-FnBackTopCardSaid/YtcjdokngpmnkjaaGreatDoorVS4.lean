/- Draws: nets; they come to an end and are of their shape. Conditions: none. -/
import Derived.Test.YtcjdokngpmnkjaaGreatDoorVZ2
import Derived.Test.YtcjdokngpmnkjaaGreatDoorVS3
import Derived.Test.YtcjdokngpmnkjaaGreatDoorVQ13

namespace Go.VM
set_option linter.unusedSimpArgs false
set_option linter.unusedVariables false
set_option maxHeartbeats 16000000
inductive Seq {α : Type} (R : Nat → α → Nat → Prop) : Nat → List α → Nat → Prop
 | nil (p : Nat) : Seq R p [] p
 | cons {p q r : Nat} {t : α} {ts : List α} (h : R p t q) (k : Seq R q ts r) : Seq R p (t :: ts) r
theorem Seq.have {α : Type} {R : Nat → α → Nat → Prop} {wt : α → Nat} {W P B : Nat} (h : ∀ p, p < B → ∃ t q, wt t ≤ W ∧ q ≤ p + P ∧ R p t q) : ∀ (M p : Nat), p + M * P < B → ∃ ts r, ts.length = M ∧ (∀ t ∈ ts, wt t ≤ W) ∧ r ≤ p + M * P ∧ Seq R p ts r
 | 0, p, hp => ⟨[], p, rfl, by simp, by omega, .nil p⟩
 | M + 1, p, hp => by
  rw [Nat.add_mul] at hp; obtain ⟨t, q, h1, h2, h3⟩ := h p (by omega); obtain ⟨ts, r, k1, k2, k3, k4⟩ := Seq.have h M q (by omega); refine ⟨t :: ts, r, by simp [k1], fun x hx => ?_, by rw [Nat.add_mul]; omega, .cons h3 k4⟩
  rcases List.mem_cons.1 hx with rfl | hx
  · exact h1
  · exact k2 x hx
theorem kD9 {W : Nat} : ∀ {l : List Net}, (∀ t ∈ l, t.wt ≤ W) → netsWt l ≤ l.length * W
 | [], h => by simp [netsWt]
 | a :: r, h => by
  have h1 := h a (List.mem_cons_self ..); have h2 := kD9 fun t ht => h t (List.mem_cons_of_mem _ ht)
  simp only [netsWt, List.length_cons, Nat.add_mul]; omega
def NetR (b : List Int) (n : Nat) (d : Int) (p : Nat) (t : Net) (q : Nat) : Prop := ∀ s, go n 115 [pV, iV d] [rB b p] s = some ⟨netX t, [rB b q], []⟩
theorem kK7 {b : List Int} {n : Nat} (d k0 : Int) (ts : List Net) (r : Nat) (h3 : ts.length ≤ 3) (hn : 4 ≤ n) (st : St) (p : Nat) (hS : Seq (NetR b n (IntKind.wrap .i64 (d - 1))) p ts r)
 (h0 : st.τ 0 = pV) (h1 : st.τ 1 = iV d) (h4 : st.τ 4 = .w (.ptr 1 0)) (h6 : st.τ 6 = .w (.ptr 1025 0)) (h7 : st.τ 7 = iV ts.length) (h8 : st.τ 8 = iV 0) (hA : st.H 0 = rB b p) (hC : st.H 1 = .cells [iW 0, iW 0, .nil, .nil]) (hB : st.H 1025 = .cells [iW k0, iW 0, .nil, .nil]) (hg : 1025 < st.g) :
 ∃ e st', execC (go n) mode GT false 53 n F115_L0 st = some (e, st') ∧ e ≠ .normal ∧ (e = .exit 0 ∧ st'.τ 4 = .w (.ptr 1 0) ∧ st'.τ 6 = .w (.ptr 1025 0) ∧ st'.H 0 = rB b r ∧ st'.H 1 = .cells [iW 0, iW 0, .nil, .nil] ∧ ∃ cw, st'.H 1025 = .cells [iW k0, iW 0, .nil, cw] ∧
  ((ts = [] ∧ cw = .nil) ∨ ∃ bx, 1025 < bx ∧ bx < st'.g ∧ cw = .own bx 0 ts.length none ∧ st'.H bx = .row none 4 (netRows ts) 0)) := by
 rw [F115_L0, k00]; refine k03 (fun k st => ∃ ks rest q cw, ts = ks ++ rest ∧ rest.length = k ∧ Seq (NetR b n (IntKind.wrap .i64 (d - 1))) q rest r ∧ st.τ 0 = pV ∧ st.τ 1 = iV d ∧ st.τ 4 = .w (.ptr 1 0) ∧ st.τ 6 = .w (.ptr 1025 0) ∧ st.τ 7 = iV ts.length ∧ st.τ 8 = iV ks.length ∧ st.H 0 = rB b q ∧
  st.H 1 = .cells [iW 0, iW 0, .nil, .nil] ∧ st.H 1025 = .cells [iW k0, iW 0, .nil, cw] ∧ 1025 < st.g ∧ ((ks = [] ∧ cw = .nil) ∨ ∃ bx, 1025 < bx ∧ bx < st.g ∧ cw = .own bx 0 ks.length none ∧ st.H bx = .row none 4 (netRows ks) 0)) ?_ n ts.length st (by omega)
  ⟨[], ts, p, .nil, rfl, rfl, hS, h0, h1, h4, h6, h7, by simpa using h8, hA, hC, hB, hg, .inl ⟨rfl, rfl⟩⟩
 clear h0 h1 h4 h6 h7 h8 hA hC hB hg hS; rintro k ⟨τ, H, g, s⟩ ⟨ks, rest, q, cw, hts, hr, hS, h0, h1, h4, h6, h7, h8, hA, hC, hB, hg, hcw⟩; simp only at h0 h1 h4 h6 h7 h8 hA hC hB hg hcw; cases hS with
 | nil =>
  rw [List.append_nil] at hts; subst hts; refine ⟨.exit 0, ⟨upd (upd (upd τ 38 (iV ts.length)) 39 (iV ts.length)) 40 (.w (.d (.s (.bool false)))), H, g + 192, restS s⟩, ?_, by simp, fun _ => ⟨rfl, by simpa using h4, by simpa using h6, hA, hC, cw, hB, ?_⟩⟩
  · simp [F115_B0, h0, h1, h4, h6, h7, h8]
  · rcases hcw with hcw | ⟨bx, hb1, hb2, hb3, hb4⟩
    · exact .inl hcw
    · exact .inr ⟨bx, hb1, by simp only; omega, hb3, hb4⟩
 | @cons _ q2 _ t rest2 w hS2 =>
  have w : ∀ s, _ := w; have hlen : ts.length = ks.length + (rest2.length + 1) := by rw [hts]; simp
  have hlt : ((ks.length : Int) < (ts.length : Int)) = True := eq_true (by omega); have hltn : (ks.length < ts.length) = True := eq_true (by omega); have hwr := k04 (i := ks.length) (by omega); obtain ⟨tk, to, ta, tks⟩ := t; have fgX := far hg; have feX := far (show 1 < g by omega); have fzX := far (show 0 < g by omega); have rm : room (ks.length + 1) 64 = true := k08 (by omega) (by omega); have rm1 : room 1 64 = true := by decide
  have hk : rest2.length < k := by simp at hr; omega
  refine ⟨.normal, ?_⟩
  rcases hcw with ⟨rfl, rfl⟩ | ⟨bx, hb1, hb2, rfl, hBX⟩
  · simp only [List.length_nil] at h8 hlt hltn hwr hlen
    simp [-getElem?_pos, F115_B0, h0, h1, h4, h6, h7, h8, hA, hC, hB, hlt, hltn, w, hwr, rm1, fgX, feX, fzX]; refine ⟨rest2.length, hk, [.mk tk to ta tks], rest2, by rw [hts]; simp, rfl, q2, hS2, by show IntKind.wrap .i64 1 = 1; decide, rfl, by omega, _, ?_, ?_, ⟨rfl, rfl⟩, ?_⟩
    · omega
    · omega
    · rw [if_neg (by omega), if_pos rfl]; simp [netRows, Net.row]
  · have fbX := far hb2
    have b1 : (1025 = bx) = False := eq_false (by omega); have b2 : (1 = bx) = False := eq_false (by omega); have b3 : (0 = bx) = False := eq_false (by omega); have b4 : (bx = 1025) = False := eq_false (by omega); have b5 : (bx = 0) = False := eq_false (by omega); have b6 : (bx = 1) = False := eq_false (by omega); simp [-getElem?_pos, F115_B0, h0, h1, h4, h6, h7, h8, hA, hC, hB, hBX, hlt, hltn, w, hwr, rm, b1, b2, b3, b4, b5, b6, fgX, feX, fzX, fbX]; refine ⟨rest2.length, hk, ks ++ [.mk tk to ta tks], rest2, by rw [hts]; simp, rfl, q2, hS2, by simp, rfl, by omega, _, ?_, ?_, ⟨rfl, by simp⟩, ?_⟩
    · omega
    · omega
    · rw [if_neg (by omega), if_pos rfl]; simp [k16, netRows, Net.row]
theorem kJ3 {b : List Int} (hb : RD b) : ∀ (d : Nat), d ≤ 4 → ∀ (n : Nat), d + 20 ≤ n → ∀ p, p + 200 * 4 ^ d < 2 ^ 34 → ∃ (t : Net) (q : Nat), t.wt ≤ 4 * 4 ^ d ∧ q ≤ p + 40 * 4 ^ d ∧ NetR b n d p t q := by
 intro d
 induction d with
 | zero =>
  intro _ n hn p hp; obtain ⟨n, rfl⟩ : ∃ k, n = k + 1 := ⟨n - 1, by omega⟩; obtain ⟨v, q, h1, h2, h3, w⟩ := k06 hb 7 p (by omega) n (by omega); obtain ⟨⟨op, as⟩, q2, g1, g2, w2⟩ := k41 hb q (by omega) n (by omega); simp only at g1; refine ⟨.mk 1 op as [], q2, by simp [Net.wt, netsWt]; omega, by omega, fun s => ?_⟩
  simp [go_of FT_115 rfl, F115, w, w2]
 | succ d ih =>
  intro hd n hn p hp; obtain ⟨n, rfl⟩ : ∃ k, n = k + 1 := ⟨n - 1, by omega⟩; have ih := ih (by omega) n (by omega); have hpow : 4 ^ (d + 1) = 4 * 4 ^ d := by rw [Nat.pow_succ, Nat.mul_comm]
  have hp1 : 1 ≤ 4 ^ d := Nat.pos_of_ne_zero (by simp); have hp2 : 4 ^ d ≤ 4 ^ 3 := Nat.pow_le_pow_right (by decide) (by omega); have hdw : IntKind.wrap .i64 ((d : Int) + 1 - 1) = d := by rw [Int.add_sub_cancel]; exact k29 (by omega) (by omega)
  have hd0 : (((d : Int) + 1) ≤ 0) = False := eq_false (by omega); obtain ⟨v, q, h1, h2, h3, w⟩ := k06 hb 7 p (by omega) n (by omega); have h2 := h2 (by omega)
  by_cases c1 : v < 3
  · obtain ⟨⟨op, as⟩, q2, g1, g2, w2⟩ := k41 hb q (by omega) n (by omega)
    simp only at g1; refine ⟨.mk 1 op as [], q2, by simp [Net.wt, netsWt]; omega, by omega, fun s => ?_⟩
    simp [go_of FT_115 rfl, F115, w, w2, hd0, c1]
  by_cases c2 : v = 6
  · obtain ⟨t, q2, g1, g2, w2⟩ := ih q (by omega)
    have w2 : ∀ s, _ := w2; have hdw2 : IntKind.wrap .i64 (d : Int) = d := k29 (by omega) (by omega); refine ⟨.mk 4 0 [] [t], q2, by rw [hpow]; simp only [Net.wt, netsWt, List.length_nil]; omega, by omega, fun s => ?_⟩
    obtain ⟨tk, to, ta, tks⟩ := t; subst c2; simp [go_of FT_115 rfl, F115, w, w2, hd0, hdw, hdw2, netRows, Net.row, List.replicate]
  · obtain ⟨u, q2, g1, g2, g3, w2⟩ := k06 hb 2 q (by omega) n (by omega)
    have g2 := g2 (by omega); obtain ⟨u2, q3, g4, g5, g6, w3⟩ := k06 hb 8 q2 (by omega) n (by omega); have body : ∀ M : Nat, 1 ≤ M → M ≤ 3 → (∃ (ts : List Net) (r : Nat), ts.length = M ∧ (∀ t ∈ ts, t.wt ≤ 4 * 4 ^ d) ∧ r ≤ q3 + M * (40 * 4 ^ d) ∧ Seq (NetR b n d) q3 ts r) := fun M h1 h3 =>
     Seq.have (B := 2 ^ 34 - 200 * 4 ^ d) (fun p hp => ih p (by omega)) M q3 (by have : M * (40 * 4 ^ d) ≤ 3 * (40 * 4 ^ d) := Nat.mul_le_mul h3 (Nat.le_refl _); omega)
    have close : ∀ (M : Nat) (ts : List Net) (r : Nat), M ≤ 3 → ts.length = M → (∀ t ∈ ts, t.wt ≤ 4 * 4 ^ d) → r ≤ q3 + M * (40 * 4 ^ d) → (Net.mk (IntKind.wrap .i64 (2 + v.tmod 2)) 0 [] ts).wt ≤ 4 * 4 ^ (d + 1) ∧ r ≤ p + 40 * 4 ^ (d + 1) := by
     intro M ts r hM hl hw hr; have := kD9 hw; have e1 : ts.length * (4 * 4 ^ d) ≤ 3 * (4 * 4 ^ d) := Nat.mul_le_mul (by omega) (Nat.le_refl _); have e2 : M * (40 * 4 ^ d) ≤ 3 * (40 * 4 ^ d) := Nat.mul_le_mul hM (Nat.le_refl _); refine ⟨by simp only [Net.wt, List.length_nil]; omega, by omega⟩
    by_cases c3 : u2 = 0
    · obtain ⟨ts, r, k1, k2, k3, k4⟩ := body 1 (by omega) (by omega)
      have hcl := close 1 ts r (by omega) k1 k2 k3; refine ⟨.mk (IntKind.wrap .i64 (2 + v.tmod 2)) 0 [] ts, r, hcl.1, hcl.2, fun s => ?_⟩
      rw [← hdw] at k4; simp [go_of FT_115 rfl, F115, w, w2, w3, hd0, c1, c2, c3]; generalize hst : St.mk _ _ _ _ = st; obtain ⟨e, ⟨τ', H', g', s'⟩, hx, -, rfl, e4, e6, eA, eC, cw, eB, ecw⟩ := kK7 ((d : Int) + 1) (IntKind.wrap .i64 (2 + v.tmod 2)) ts r (by omega) (by omega) st q3 k4 (by simp [← hst]) (by simp [← hst]) (by simp [← hst]) (by simp [← hst]) (by simp [← hst, k1]) (by simp [← hst]) (by simp [← hst]) (by simp [← hst]) (by simp [← hst]) (by simp [← hst]); simp only at e4 e6 eA eC eB ecw; rcases ecw with ⟨rfl, _⟩ | ⟨bx, hb1, hb2, rfl, hBX⟩
      · simp at k1
      · have b1 : (1025 = bx) = False := eq_false (by omega)
        have b2 : (1 = bx) = False := eq_false (by omega); have b3 : (0 = bx) = False := eq_false (by omega); have b4 : (bx = 1025) = False := eq_false (by omega); have b5 : (bx = 0) = False := eq_false (by omega); have b6 : (bx = 1) = False := eq_false (by omega); simp [hx, e4, e6, eA, eC, eB, hBX, b1, b2, b3, b4, b5, b6]
    · obtain ⟨M, hM⟩ : ∃ M : Nat, u = (M : Int) - 2 ∧ 2 ≤ M ∧ M ≤ 3 := ⟨(u + 2).toNat, by omega, by omega, by omega⟩
      obtain ⟨hM1, hM2, hM3⟩ := hM; have hMw : IntKind.wrap .i64 (2 + u) = (M : Int) := by rw [hM1]; rw [k29 (by omega) (by omega)]; omega
      obtain ⟨ts, r, k1, k2, k3, k4⟩ := body M (by omega) hM3; have hcl := close M ts r hM3 k1 k2 k3; refine ⟨.mk (IntKind.wrap .i64 (2 + v.tmod 2)) 0 [] ts, r, hcl.1, hcl.2, fun s => ?_⟩
      rw [← hdw] at k4; simp [go_of FT_115 rfl, F115, w, w2, w3, hd0, c1, c2, c3, hMw]; generalize hst : St.mk _ _ _ _ = st; obtain ⟨e, ⟨τ', H', g', s'⟩, hx, -, rfl, e4, e6, eA, eC, cw, eB, ecw⟩ := kK7 ((d : Int) + 1) (IntKind.wrap .i64 (2 + v.tmod 2)) ts r (by omega) (by omega) st q3 k4 (by simp [← hst]) (by simp [← hst]) (by simp [← hst]) (by simp [← hst]) (by simp [← hst, k1]) (by simp [← hst]) (by simp [← hst]) (by simp [← hst]) (by simp [← hst]) (by simp [← hst]); simp only at e4 e6 eA eC eB ecw; rcases ecw with ⟨rfl, _⟩ | ⟨bx, hb1, hb2, rfl, hBX⟩
      · simp at k1; omega
      · have b1 : (1025 = bx) = False := eq_false (by omega)
        have b2 : (1 = bx) = False := eq_false (by omega); have b3 : (0 = bx) = False := eq_false (by omega); have b4 : (bx = 1025) = False := eq_false (by omega); have b5 : (bx = 0) = False := eq_false (by omega); have b6 : (bx = 1) = False := eq_false (by omega); simp [hx, e4, e6, eA, eC, eB, hBX, b1, b2, b3, b4, b5, b6]
def ContR (b : List Int) (n : Nat) (p : Nat) (e : El) (q : Nat) : Prop := ∀ s, go n 134 [pV] [rB b p] s = some ⟨elX e, [rB b q], []⟩
def stairF (i : Nat) (o : Net) : List El → Net
 | [] => o
 | e :: r => stairF (i + 1) (.mk (IntKind.wrap .i64 (2 + (i : Int).tmod 2)) 0 [] [.mk 1 e.op e.as [], o]) r
theorem kB5 : ∀ (es : List El) (i : Nat) (o : Net), (∀ e ∈ es, e.as.length ≤ 2) → (stairF i o es).wt ≤ o.wt + 4 * es.length
 | [], i, o, h => by simp [stairF]
 | e :: r, i, o, h => by
  have h1 := h e (List.mem_cons_self ..); have h2 := kB5 r (i + 1) (.mk (IntKind.wrap .i64 (2 + (i : Int).tmod 2)) 0 [] [.mk 1 e.op e.as [], o]) fun x hx => h x (List.mem_cons_of_mem _ hx)
  simp only [stairF, List.length_cons]; simp only [Net.wt, netsWt, List.length_nil] at h2; omega
def StairAt (H : Nat → Box) (g : Nat) : Net → Prop
 | .mk ok oo oa oks => (H 257 = .cells [iW ok, iW oo, asW oa, .nil] ∧ oks = []) ∨ ∃ bx, 257 < bx ∧ bx < g ∧ H 257 = .cells [iW ok, iW oo, .nil, .own bx 0 2 (some 2)] ∧ oa = [] ∧ oks.length = 2 ∧ H bx = .row none 4 (netRows oks) 0
theorem StairAt.mono {H : Nat → Box} {g g' : Nat} (h : g ≤ g') : ∀ {o : Net}, StairAt H g o → StairAt H g' o
 | .mk _ _ _ _, .inl x => .inl x
 | .mk _ _ _ _, .inr ⟨bx, h1, h2, h3⟩ => .inr ⟨bx, h1, by omega, h3⟩
theorem loop117 {b : List Int} {n : Nat} (N : Nat) (es : List El) (hN : N = es.length + 1) (hNb : N ≤ 1000) (r : Nat) (hn : 1100 ≤ n) (o0 : Net) (st : St) (p : Nat) (hS : Seq (ContR b n) p es r)
 (h0 : st.τ 0 = pV) (h1 : st.τ 1 = iV N) (h4 : st.τ 4 = .w (.ptr 1 0)) (h5 : st.τ 5 = .w (.ptr 257 0)) (h6 : st.τ 6 = iV 1) (hA : st.H 0 = rB b p) (hC : st.H 1 = .cells [iW 0, iW 0, .nil, .nil]) (hB : StairAt st.H st.g o0) (hg : 257 < st.g) :
 ∃ e st', execC (go n) mode GT false 25 n F117_L0 st = some (e, st') ∧ e ≠ .normal ∧ (e = .exit 0 ∧ st'.τ 4 = .w (.ptr 1 0) ∧ st'.τ 5 = .w (.ptr 257 0) ∧ st'.H 0 = rB b r ∧ st'.H 1 = .cells [iW 0, iW 0, .nil, .nil] ∧
  StairAt st'.H st'.g (stairF 1 o0 es)) := by
 rw [F117_L0, k00]; refine k03 (fun k st => ∃ i o rest q, rest.length = k ∧ i + rest.length = N ∧ 1 ≤ i ∧ stairF i o rest = stairF 1 o0 es ∧ Seq (ContR b n) q rest r ∧ st.τ 0 = pV ∧ st.τ 1 = iV N ∧ st.τ 4 = .w (.ptr 1 0) ∧ st.τ 5 = .w (.ptr 257 0) ∧ st.τ 6 = iV i ∧ st.H 0 = rB b q ∧
  st.H 1 = .cells [iW 0, iW 0, .nil, .nil] ∧ StairAt st.H st.g o ∧ 257 < st.g) ?_ n es.length st (by omega)
  ⟨1, o0, es, p, rfl, by omega, by omega, rfl, hS, h0, h1, h4, h5, by simpa using h6, hA, hC, hB, hg⟩
 clear h0 h1 h4 h5 h6 hA hC hB hg hS; rintro k ⟨τ, H, g, s⟩ ⟨i, o, rest, q, hr, hi, hi1, hst, hS, h0, h1, h4, h5, h6, hA, hC, hB, hg⟩; simp only at h0 h1 h4 h5 h6 hA hC hB hg; cases hS with
 | nil =>
  simp only [stairF] at hst; subst hst; have : i = N := by simpa using hi
  subst this; refine ⟨.exit 0, ⟨upd (upd (upd τ 10 (iV i)) 11 (iV i)) 12 (.w (.d (.s (.bool false)))), H, g + 192, restS s⟩, ?_, by simp, fun _ => ⟨rfl, by simpa using h4, by simpa using h5, hA, hC, hB.mono (by simp only; omega)⟩⟩
  simp [F117_B0, h0, h1, h4, h5, h6]
 | @cons _ q2 _ e rest2 w hS2 =>
  have w : ∀ s, _ := w; simp only [List.length_cons] at hi hr; have hlt : ((i : Int) < (N : Int)) = True := eq_true (by omega); have hltn : (i < N) = True := eq_true (by omega); have hwr := k04 (i := i) (by omega); obtain ⟨eo, ea⟩ := e; obtain ⟨ok, oo, oa, oks⟩ := o; have fgX := far hg; have feX := far (show 1 < g by omega); have fzX := far (show 0 < g by omega); refine ⟨.normal, ?_⟩
  have hgo : stairF (i + 1) (.mk (IntKind.wrap .i64 (2 + (i : Int).tmod 2)) 0 [] [.mk 1 eo ea [], .mk ok oo oa oks]) rest2 = stairF 1 o0 es := hst; rcases hB with ⟨hB, rfl⟩ | ⟨bx, hb1, hb2, hB, rfl, hkl, hBX⟩
  · simp [-getElem?_pos, F117_B0, h0, h1, h4, h5, h6, hA, hC, hB, hlt, hltn, w, hwr, fgX, feX, fzX]
    refine ⟨rest2.length, by omega, i + 1, _, rest2, rfl, by omega, by omega, hgo, q2, hS2, by simp, rfl, .inr ⟨g + 192 + 448, by omega, by omega, ?_, rfl, rfl, ?_⟩⟩
    · simp [fgX]; try rfl
    · simp [fgX, netRows, Net.row]; try rfl
  · have fbX := far hb2
    have b1 : (257 = bx) = False := eq_false (by omega); have b2 : (1 = bx) = False := eq_false (by omega); have b3 : (0 = bx) = False := eq_false (by omega); have b4 : (bx = 257) = False := eq_false (by omega); have b5 : (bx = 0) = False := eq_false (by omega); have b6 : (bx = 1) = False := eq_false (by omega); have tk2 : List.take 2 (netRows oks) = netRows oks := by rw [← hkl, k64]
    have hl2 : 2 ≤ oks.length := by omega
    simp [-getElem?_pos, F117_B0, h0, h1, h4, h5, h6, hA, hC, hB, hBX, tk2, hl2, hkl, hlt, hltn, w, hwr, b1, b2, b3, b4, b5, b6, fgX, feX, fzX, fbX]; refine ⟨rest2.length, by omega, i + 1, _, rest2, rfl, by omega, by omega, hgo, q2, hS2, by simp, rfl, .inr ⟨g + 192 + 448, by omega, by omega, ?_, rfl, rfl, ?_⟩⟩
    · simp [fgX]; try rfl
    · simp [fgX, netRows, Net.row]; try rfl
theorem draw_Stair {b : List Int} (hb : RD b) (N : Nat) (hN1 : 1 ≤ N) (hN : N ≤ 1000) (n : Nat) (hn : 1200 ≤ n) (p : Nat) (hp : p < 2 ^ 34) :
 ∃ (t : Net) (q : Nat), t.wt ≤ 4 * N ∧ q ≤ p + 24 * N ∧ ∀ s, go n 117 [pV, iV N] [rB b p] s = some ⟨netX t, [rB b q], []⟩ := by
 obtain ⟨n, rfl⟩ : ∃ k, n = k + 1 := ⟨n - 1, by omega⟩; obtain ⟨⟨eo, ea⟩, q, g1, g2, w⟩ := k41 hb p (by omega) n (by omega); obtain ⟨es, r, k1, k2, k3, k4⟩ := Seq.have (R := ContR b n) (wt := fun e => e.as.length) (W := 2) (P := 24) (B := 2 ^ 36) (fun p hp => k41 hb p hp n (by omega)) (N - 1) q (by omega); have hwt := kB5 es 1 (.mk 1 eo ea []) k2; simp only [Net.wt, netsWt] at hwt; simp only at g1; refine ⟨stairF 1 (.mk 1 eo ea []) es, r, by omega, by omega, fun s => ?_⟩
 simp [go_of FT_117 rfl, F117, w]; generalize hst : St.mk _ _ _ _ = st; obtain ⟨e, ⟨τ', H', g', s'⟩, hx, -, rfl, e4, e5, eA, eC, eB⟩ := loop117 N es (by omega) hN r (by omega) (.mk 1 eo ea []) st q k4 (by simp [← hst]) (by simp [← hst]) (by simp [← hst]) (by simp [← hst]) (by simp [← hst]) (by simp [← hst]) (by simp [← hst]) (.inl ⟨by simp [← hst], rfl⟩) (by simp [← hst]); simp only at e4 e5 eA eC eB; generalize stairF 1 (.mk 1 eo ea []) es = T at eB ⊢; obtain ⟨ok, oo, oa, oks⟩ := T; rcases eB with ⟨hB, rfl⟩ | ⟨bx, hb1, hb2, hB, rfl, hkl, hBX⟩
 · simp [hx, e4, e5, eA, eC, hB]
 · have b1 : (257 = bx) = False := eq_false (by omega)
   have b2 : (1 = bx) = False := eq_false (by omega); have b3 : (0 = bx) = False := eq_false (by omega); have b4 : (bx = 257) = False := eq_false (by omega); have b5 : (bx = 0) = False := eq_false (by omega); have b6 : (bx = 1) = False := eq_false (by omega); have tk2 : List.take 2 (netRows oks) = netRows oks := by rw [← hkl, k64]
   have hl2 : 2 ≤ oks.length := by omega
   simp [hx, e4, e5, eA, eC, hB, hBX, tk2, hl2, hkl, b1, b2, b3, b4, b5, b6]
theorem netRows_set (l : List Net) (i : Nat) (k op : Int) (as : List Arg) (ks : List Net) : (netRows l).set i [iD k, iD op, .l 0 (argRows as), .l 0 (netRows ks)] = netRows (l.set i (.mk k op as ks)) := by
 rw [k55 l, k55 (l.set i (.mk k op as ks)), List.map_set]; simp only [Net.row]
theorem kx3 : ∀ (l : List Net) (i : Nat) (x y : Net), l[i]? = some x → netsWt (l.set i y) + x.wt = netsWt l + y.wt
 | [], i, x, y, h => by simp at h
 | a :: r, 0, x, y, h => by simp at h; subst h; simp [netsWt]; omega
 | a :: r, i + 1, x, y, h => by
  have := kx3 r i x y (by simpa using h); simp only [List.set_cons_succ, netsWt]; omega
theorem km6 {b : List Int} (hb : RD b) : ∀ (m : Nat) (t : Net), t.wt ≤ m → m ≤ 2 ^ 20 → ∀ (n : Nat), m + 20 ≤ n → ∀ p, p + 60 * m < 2 ^ 34 → ∃ (t' : Net) (q : Nat), t'.wt ≤ t.wt + 4 ∧ q ≤ p + 60 * m ∧ ∀ s, go n 116 [pV, netX t] [rB b p] s = some ⟨netX t', [rB b q], []⟩
 | 0, t, h, hm, n, hn, p, hp => by have := t.wt_pos; omega
 | m + 1, .mk k op as ks, h, hm, n, hn, p, hp => by
  obtain ⟨n, rfl⟩ : ∃ k, n = k + 1 := ⟨n - 1, by omega⟩; have hlk := k27 ks; simp only [Net.wt] at h; have al := eq_true (ku4 ks); have rm : room ks.length 64 = true := k08 (by omega) (by omega); have rm2 : room (ks.length + 1) 64 = true := k08 (by omega) (by omega); have tk1 : ∀ x : List D, List.take (ks.length + 1) (netRows ks ++ [x]) = netRows ks ++ [x] := fun x => by rw [List.take_of_length_le (by simp)]
  have here : ∀ q0, q0 ≤ p + 1 → ∃ (v : Int) (q1 : Nat) (t' : Net) (q : Nat), t'.wt ≤ (Net.mk k op as ks).wt + 4 ∧ q ≤ p + 60 * (m + 1) ∧ (∀ s, go n 67 [pV, iV 6] [rB b q0] s = some ⟨iV v, [rB b q1], []⟩) ∧
   ((v = 0 ∧ ∃ u, t' = .mk u op as ks ∧ ∀ s, go n 96 [pV, .w (.d (.l 0 [[iD (-1)], [iD 0], [iD 1], [iD 2], [iD 3], [iD 4], [iD 5]]))] [rB b q1] s = some ⟨iV u, [rB b q], []⟩) ∨
    (v = 1 ∧ ∃ eo ea, t' = .mk k op as (ks ++ [.mk 1 eo ea []]) ∧ ∀ s, go n 134 [pV] [rB b q1] s = some ⟨.agg [iW eo, asW ea], [rB b q], []⟩) ∨
    (v = 2 ∧ t' = .mk k op as [] ∧ q = q1) ∨
    (v = 3 ∧ ∃ eo ea, t' = .mk k eo ea ks ∧ ∀ s, go n 135 [pV] [rB b q1] s = some ⟨.agg [iW eo, asW ea], [rB b q], []⟩) ∨
    (v = 4 ∧ ∃ eo ea, t' = .mk k eo ea ks ∧ ∀ s, go n 136 [pV, .agg [iW op, asW as]] [rB b q1] s = some ⟨.agg [iW eo, asW ea], [rB b q], []⟩) ∨
    (v ≠ 0 ∧ v ≠ 1 ∧ v ≠ 2 ∧ v ≠ 3 ∧ v ≠ 4 ∧ t' = .mk k op as (ks ++ [.mk 0 0 [] []]) ∧ q = q1)) := by
   intro q0 hq0; obtain ⟨v, q1, h1, h2, h3, w⟩ := k06 hb 6 q0 (by omega) n (by omega)
   by_cases c0 : v = 0
   · obtain ⟨u, q2, _, g2, w2⟩ := k54 hb [-1, 0, 1, 2, 3, 4, 5] (by simp) q1 (by omega) n (by omega)
     simp only [lV, List.map_cons, List.map_nil] at w2; exact ⟨v, q1, .mk u op as ks, q2, by simp only [Net.wt]; omega, by omega, w, .inl ⟨c0, u, rfl, w2⟩⟩
   by_cases c1 : v = 1
   · obtain ⟨⟨eo, ea⟩, q2, g1, g2, w2⟩ := k41 hb q1 (by omega) n (by omega)
     simp only at g1; exact ⟨v, q1, _, q2, by simp only [Net.wt, k46, netsWt]; omega, by omega, w, .inr (.inl ⟨c1, eo, ea, rfl, w2⟩)⟩
   by_cases c2 : v = 2
   · exact ⟨v, q1, _, q1, by simp only [Net.wt, netsWt]; omega, by omega, w, .inr (.inr (.inl ⟨c2, rfl, rfl⟩))⟩
   by_cases c3 : v = 3
   · obtain ⟨⟨eo, ea⟩, q2, g1, g2, w2⟩ := k57 hb q1 (by omega) n (by omega)
     simp only at g1; exact ⟨v, q1, _, q2, by simp only [Net.wt]; omega, by omega, w, .inr (.inr (.inr (.inl ⟨c3, eo, ea, rfl, w2⟩)))⟩
   by_cases c4 : v = 4
   · obtain ⟨⟨eo, ea⟩, q2, g1, g2, w2⟩ := kx9 hb ⟨op, as⟩ (by simp only; omega) q1 (by omega) n (by omega)
     simp only at g1; exact ⟨v, q1, _, q2, by simp only [Net.wt]; omega, by omega, w, .inr (.inr (.inr (.inr (.inl ⟨c4, eo, ea, rfl, w2⟩))))⟩
   · exact ⟨v, q1, _, q1, by simp only [Net.wt, k46, netsWt, List.length_nil]; omega, by omega, w, .inr (.inr (.inr (.inr (.inr ⟨c0, c1, c2, c3, c4, rfl, rfl⟩))))⟩
  by_cases hk : 0 < ks.length
  · have hki : ((0 : Int) < (ks.length : Int)) = True := eq_true (by omega)
    obtain ⟨u, q0, g1, g2, g3, w0⟩ := k06 hb 3 p (by omega) n (by omega)
    by_cases hu : 0 < u
    · have hu' := eq_true hu
      obtain ⟨v, q1, h1, h2, h3, w1⟩ := k06 hb ks.length q0 (by omega) n (by omega); have h2 := h2 (by omega); obtain ⟨j, rfl⟩ : ∃ j : Nat, v = j := ⟨v.toNat, by omega⟩; have hj : j < ks.length := by omega
      have hg := List.getElem?_eq_getElem hj; have hmem := k38 (List.getElem_mem hj); obtain ⟨t', q2, k1, k2, w2⟩ := km6 hb m ks[j] (by omega) (by omega) n (by omega) q1 (by omega); have hset := kx3 ks j ks[j] t' hg; obtain ⟨xk, xo, xa, xks, hx⟩ : ∃ k' op as ks', ks[j] = .mk k' op as ks' := by cases ks[j]; exact ⟨_, _, _, _, rfl⟩
      rw [hx] at hg w2; have hb1 := k31 hg; obtain ⟨yk, yo, ya, yks⟩ := t'; have hs := netRows_set ks j yk yo ya yks; refine ⟨.mk k op as (ks.set j (.mk yk yo ya yks)), q2, by simp only [Net.wt]; omega, by omega, fun s => ?_⟩
      have tk := k64 (ks.set j (.mk yk yo ya yks)); simp only [List.length_set] at tk; simp [-getElem?_pos, go_of FT_116 rfl, F116, w0, w1, w2, hki, hk, hu', al, rm, hj, hb1, hs, tk, List.replicate]
    · have hu' := eq_false hu
      obtain ⟨v, q1, t', q, e1, e2, w, hcase⟩ := here q0 g3; refine ⟨t', q, e1, e2, fun s => ?_⟩
      rcases hcase with ⟨rfl, u2, rfl, w2⟩ | ⟨rfl, eo, ea, rfl, w2⟩ | ⟨rfl, rfl, rfl⟩ | ⟨rfl, eo, ea, rfl, w2⟩ | ⟨rfl, eo, ea, rfl, w2⟩ | ⟨c0, c1, c2, c3, c4, rfl, rfl⟩
      · simp [go_of FT_116 rfl, F116, w0, w, w2, hki, hk, hu', List.replicate]
      · simp [go_of FT_116 rfl, F116, w0, w, w2, hki, hk, hu', al, rm, rm2, tk1, List.replicate, k16, netRows, Net.row]
      · simp [go_of FT_116 rfl, F116, w0, w, hki, hk, hu', List.replicate]
      · simp [go_of FT_116 rfl, F116, w0, w, w2, hki, hk, hu', List.replicate]
      · simp [go_of FT_116 rfl, F116, w0, w, w2, hki, hk, hu', List.replicate]
      · simp [go_of FT_116 rfl, F116, w0, w, c0, c1, c2, c3, c4, hki, hk, hu', al, rm, rm2, tk1, List.replicate, k16, netRows, Net.row]
  · have hki : ((0 : Int) < (ks.length : Int)) = False := eq_false (by omega)
    have hke : ks = [] := List.eq_nil_of_length_eq_zero (by omega); obtain ⟨v, q1, t', q, e1, e2, w, hcase⟩ := here p (by omega); subst hke; have rm0 : room 0 64 = true := by decide
    have rm1 : room 1 64 = true := by decide
    refine ⟨t', q, e1, e2, fun s => ?_⟩
    rcases hcase with ⟨rfl, u2, rfl, w2⟩ | ⟨rfl, eo, ea, rfl, w2⟩ | ⟨rfl, rfl, rfl⟩ | ⟨rfl, eo, ea, rfl, w2⟩ | ⟨rfl, eo, ea, rfl, w2⟩ | ⟨c0, c1, c2, c3, c4, rfl, rfl⟩
    · simp [go_of FT_116 rfl, F116, w, w2, List.replicate]
    · simp [go_of FT_116 rfl, F116, w, w2, rm0, rm1, List.replicate, k16, netRows, Net.row]
    · simp [go_of FT_116 rfl, F116, w, List.replicate]
    · simp [go_of FT_116 rfl, F116, w, w2, List.replicate]
    · simp [go_of FT_116 rfl, F116, w, w2, List.replicate]
    · simp [go_of FT_116 rfl, F116, w, c0, c1, c2, c3, c4, rm0, rm1, List.replicate, k16, netRows, Net.row]
theorem draw_open {b : List Int} (hl : b.length < 2 ^ 40) (hb : ∀ x ∈ b, 0 ≤ x ∧ x < 256) (n : Nat) (hn : 1 ≤ n) : ∃ b2, RD b2 ∧ ∀ s, go n 65 [.w (bW 0 b)] [] s = some ⟨.w (.ptr 0 0), [], [rB b2 0]⟩ := by
 obtain ⟨n, rfl⟩ : ∃ k, n = k + 1 := ⟨n - 1, by omega⟩
 by_cases h : 2000 < b.length
 · have hi : ((2000 : Int) < (b.length : Int)) = True := eq_true (by omega)
   refine ⟨b.take 2000, ⟨fun x hx => hb x (List.mem_of_mem_take hx), by simp; omega⟩, fun s => ?_⟩
   have e : List.take 2000 (byt b) = byt (b.take 2000) := by simp [byt]
   have h2 : 2000 ≤ b.length := by omega
   have h2i : ((2000 : Int) ≤ (b.length : Int)) = True := eq_true (by omega); have al := eq_true (show ∀ x ∈ byt b, x.length = 1 from fun x hx => by simp only [byt, List.mem_map] at hx; obtain ⟨a, _, rfl⟩ := hx; rfl); simp [go_of FT_65 rfl, F65, h, hi, h2, h2i, e, al]
 · have hi : ((2000 : Int) < (b.length : Int)) = False := eq_false (by omega)
   refine ⟨b, ⟨hb, by omega⟩, fun s => ?_⟩
   simp [go_of FT_65 rfl, F65, h, hi]
end Go.VM
