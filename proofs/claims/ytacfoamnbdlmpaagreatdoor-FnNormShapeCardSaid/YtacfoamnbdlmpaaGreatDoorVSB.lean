/- Draws: nets; they come to an end and are of their shape. Conditions: none. -/
import Derived.Test.YtacfoamnbdlmpaaGreatDoorVSA
import Derived.Test.YtacfoamnbdlmpaaGreatDoorVS3
import Derived.Test.YtacfoamnbdlmpaaGreatDoorVQC
import Derived.Test.YtacfoamnbdlmpaaGreatDoorVME

namespace Go.VM
set_option linter.unusedSimpArgs false
set_option linter.unusedVariables false
set_option maxHeartbeats 16000000

/-- Draws, one behind the other. -/
inductive Seq {α : Type} (R : Nat → α → Nat → Prop) : Nat → List α → Nat → Prop
  | nil (p : Nat) : Seq R p [] p
  | cons {p q r : Nat} {t : α} {ts : List α} (h : R p t q) (k : Seq R q ts r) : Seq R p (t :: ts) r
theorem Seq.have {α : Type} {R : Nat → α → Nat → Prop} {wt : α → Nat} {W P B : Nat} (h : ∀ p, p < B → ∃ t q, wt t ≤ W ∧ q ≤ p + P ∧ R p t q) : ∀ (M p : Nat), p + M * P < B → ∃ ts r, ts.length = M ∧ (∀ t ∈ ts, wt t ≤ W) ∧ r ≤ p + M * P ∧ Seq R p ts r
  | 0, p, hp => ⟨[], p, rfl, by simp, by omega, .nil p⟩
  | M + 1, p, hp => by
    rw [Nat.add_mul] at hp
    obtain ⟨t, q, h1, h2, h3⟩ := h p (by omega)
    obtain ⟨ts, r, k1, k2, k3, k4⟩ := Seq.have h M q (by omega)
    refine ⟨t :: ts, r, by simp [k1], fun x hx => ?_, by rw [Nat.add_mul]; omega, .cons h3 k4⟩
    rcases List.mem_cons.1 hx with rfl | hx
    · exact h1
    · exact k2 x hx
theorem netsWt_le {W : Nat} : ∀ {l : List Net}, (∀ t ∈ l, t.wt ≤ W) → netsWt l ≤ l.length * W
  | [], h => by simp [netsWt]
  | a :: r, h => by
    have h1 := h a (List.mem_cons_self ..)
    have h2 := netsWt_le fun t ht => h t (List.mem_cons_of_mem _ ht)
    simp only [netsWt, List.length_cons, Nat.add_mul]; omega

def NetR (b : List Int) (n : Nat) (d : Int) (p : Nat) (t : Net) (q : Nat) : Prop := ∀ s, go n 115 [pV, iV d] [rB b p] s = some ⟨netX t, [rB b q], []⟩

theorem loop115 {b : List Int} {n : Nat} (d k0 : Int) (ts : List Net) (r : Nat) (h3 : ts.length ≤ 3) (hn : 4 ≤ n) (st : St) (p : Nat) (hS : Seq (NetR b n (IntKind.wrap .i64 (d - 1))) p ts r)
    (h0 : st.τ 0 = pV) (h1 : st.τ 1 = iV d) (h4 : st.τ 4 = .w (.ptr 1 0)) (h6 : st.τ 6 = .w (.ptr 1025 0)) (h7 : st.τ 7 = iV ts.length) (h8 : st.τ 8 = iV 0) (hA : st.H 0 = rB b p) (hC : st.H 1 = .cells [iW 0, iW 0, .nil, .nil]) (hB : st.H 1025 = .cells [iW k0, iW 0, .nil, .nil]) (hg : 1025 < st.g) :
    ∃ e st', execC (go n) mode GT false 53 n F115_L0 st = some (e, st') ∧ e ≠ .normal ∧ (e = .exit 0 ∧ st'.τ 4 = .w (.ptr 1 0) ∧ st'.τ 6 = .w (.ptr 1025 0) ∧ st'.H 0 = rB b r ∧ st'.H 1 = .cells [iW 0, iW 0, .nil, .nil] ∧ ∃ cw, st'.H 1025 = .cells [iW k0, iW 0, .nil, cw] ∧
      ((ts = [] ∧ cw = .nil) ∨ ∃ bx, 1025 < bx ∧ bx < st'.g ∧ cw = .own bx 0 ts.length none ∧ st'.H bx = .row none 4 (netRows ts) 0)) := by
  rw [F115_L0, execC_loop]
  refine iter_rule (fun k st => ∃ ks rest q cw, ts = ks ++ rest ∧ rest.length = k ∧ Seq (NetR b n (IntKind.wrap .i64 (d - 1))) q rest r ∧ st.τ 0 = pV ∧ st.τ 1 = iV d ∧ st.τ 4 = .w (.ptr 1 0) ∧ st.τ 6 = .w (.ptr 1025 0) ∧ st.τ 7 = iV ts.length ∧ st.τ 8 = iV ks.length ∧ st.H 0 = rB b q ∧
      st.H 1 = .cells [iW 0, iW 0, .nil, .nil] ∧ st.H 1025 = .cells [iW k0, iW 0, .nil, cw] ∧ 1025 < st.g ∧ ((ks = [] ∧ cw = .nil) ∨ ∃ bx, 1025 < bx ∧ bx < st.g ∧ cw = .own bx 0 ks.length none ∧ st.H bx = .row none 4 (netRows ks) 0)) ?_ n ts.length st (by omega)
    ⟨[], ts, p, .nil, rfl, rfl, hS, h0, h1, h4, h6, h7, by simpa using h8, hA, hC, hB, hg, .inl ⟨rfl, rfl⟩⟩
  clear h0 h1 h4 h6 h7 h8 hA hC hB hg hS
  rintro k ⟨τ, H, g, s⟩ ⟨ks, rest, q, cw, hts, hr, hS, h0, h1, h4, h6, h7, h8, hA, hC, hB, hg, hcw⟩
  simp only at h0 h1 h4 h6 h7 h8 hA hC hB hg hcw
  cases hS with
  | nil =>
    rw [List.append_nil] at hts
    subst hts
    refine ⟨.exit 0, ⟨upd (upd (upd τ 38 (iV ts.length)) 39 (iV ts.length)) 40 (.w (.d (.s (.bool false)))), H, g + 192, restS s⟩, ?_, by simp, fun _ => ⟨rfl, by simpa using h4, by simpa using h6, hA, hC, cw, hB, ?_⟩⟩
    · simp [F115_B0, h0, h1, h4, h6, h7, h8]
    · rcases hcw with hcw | ⟨bx, hb1, hb2, hb3, hb4⟩
      · exact .inl hcw
      · exact .inr ⟨bx, hb1, by simp only; omega, hb3, hb4⟩
  | @cons _ q2 _ t rest2 w hS2 =>
    have w : ∀ s, _ := w
    have hlen : ts.length = ks.length + (rest2.length + 1) := by rw [hts]; simp
    have hlt : ((ks.length : Int) < (ts.length : Int)) = True := eq_true (by omega)
    have hltn : (ks.length < ts.length) = True := eq_true (by omega)
    have hwr := wrap_succ (i := ks.length) (by omega)
    obtain ⟨tk, to, ta, tks⟩ := t
    have fgX := far hg
    have feX := far (show 1 < g by omega)
    have fzX := far (show 0 < g by omega)
    have rm : room (ks.length + 1) 64 = true := room_of (by omega) (by omega)
    have rm1 : room 1 64 = true := by decide
    have hk : rest2.length < k := by simp at hr; omega
    refine ⟨.normal, ?_⟩
    rcases hcw with ⟨rfl, rfl⟩ | ⟨bx, hb1, hb2, rfl, hBX⟩
    · simp only [List.length_nil] at h8 hlt hltn hwr hlen
      simp [-getElem?_pos, F115_B0, h0, h1, h4, h6, h7, h8, hA, hC, hB, hlt, hltn, w, hwr, rm1, fgX, feX, fzX]
      refine ⟨rest2.length, hk, [.mk tk to ta tks], rest2, by rw [hts]; simp, rfl, q2, hS2, by show IntKind.wrap .i64 1 = 1; decide, rfl, by omega, _, ?_, ?_, ⟨rfl, rfl⟩, ?_⟩
      · omega
      · omega
      · rw [if_neg (by omega), if_pos rfl]; simp [netRows, Net.row]
    · have fbX := far hb2
      have b1 : (1025 = bx) = False := eq_false (by omega)
      have b2 : (1 = bx) = False := eq_false (by omega)
      have b3 : (0 = bx) = False := eq_false (by omega)
      have b4 : (bx = 1025) = False := eq_false (by omega)
      have b5 : (bx = 0) = False := eq_false (by omega)
      have b6 : (bx = 1) = False := eq_false (by omega)
      simp [-getElem?_pos, F115_B0, h0, h1, h4, h6, h7, h8, hA, hC, hB, hBX, hlt, hltn, w, hwr, rm, b1, b2, b3, b4, b5, b6, fgX, feX, fzX, fbX]
      refine ⟨rest2.length, hk, ks ++ [.mk tk to ta tks], rest2, by rw [hts]; simp, rfl, q2, hS2, by simp, rfl, by omega, _, ?_, ?_, ⟨rfl, by simp⟩, ?_⟩
      · omega
      · omega
      · rw [if_neg (by omega), if_pos rfl]; simp [netRows_append, netRows, Net.row]


theorem draw_Net {b : List Int} (hb : RD b) : ∀ (d : Nat), d ≤ 4 → ∀ (n : Nat), d + 20 ≤ n → ∀ p, p + 200 * 4 ^ d < 2 ^ 34 → ∃ (t : Net) (q : Nat), t.wt ≤ 4 * 4 ^ d ∧ q ≤ p + 40 * 4 ^ d ∧ NetR b n d p t q := by
  intro d
  induction d with
  | zero =>
    intro _ n hn p hp
    obtain ⟨n, rfl⟩ : ∃ k, n = k + 1 := ⟨n - 1, by omega⟩
    obtain ⟨v, q, h1, h2, h3, w⟩ := draw_pick hb 7 p (by omega) n (by omega)
    obtain ⟨⟨op, as⟩, q2, g1, g2, w2⟩ := draw_Contact hb q (by omega) n (by omega)
    simp only at g1
    refine ⟨.mk 1 op as [], q2, by simp [Net.wt, netsWt]; omega, by omega, fun s => ?_⟩
    simp [go_of FT_115 rfl, F115, w, w2]
  | succ d ih =>
    intro hd n hn p hp
    obtain ⟨n, rfl⟩ : ∃ k, n = k + 1 := ⟨n - 1, by omega⟩
    have ih := ih (by omega) n (by omega)
    have hpow : 4 ^ (d + 1) = 4 * 4 ^ d := by rw [Nat.pow_succ, Nat.mul_comm]
    have hp1 : 1 ≤ 4 ^ d := Nat.pos_of_ne_zero (by simp)
    have hp2 : 4 ^ d ≤ 4 ^ 3 := Nat.pow_le_pow_right (by decide) (by omega)
    have hdw : IntKind.wrap .i64 ((d : Int) + 1 - 1) = d := by rw [Int.add_sub_cancel]; exact wrap_id (by omega) (by omega)
    have hd0 : (((d : Int) + 1) ≤ 0) = False := eq_false (by omega)
    obtain ⟨v, q, h1, h2, h3, w⟩ := draw_pick hb 7 p (by omega) n (by omega)
    have h2 := h2 (by omega)
    by_cases c1 : v < 3
    · obtain ⟨⟨op, as⟩, q2, g1, g2, w2⟩ := draw_Contact hb q (by omega) n (by omega)
      simp only at g1
      refine ⟨.mk 1 op as [], q2, by simp [Net.wt, netsWt]; omega, by omega, fun s => ?_⟩
      simp [go_of FT_115 rfl, F115, w, w2, hd0, c1]
    by_cases c2 : v = 6
    · obtain ⟨t, q2, g1, g2, w2⟩ := ih q (by omega)
      have w2 : ∀ s, _ := w2
      have hdw2 : IntKind.wrap .i64 (d : Int) = d := wrap_id (by omega) (by omega)
      refine ⟨.mk 4 0 [] [t], q2, by rw [hpow]; simp only [Net.wt, netsWt, List.length_nil]; omega, by omega, fun s => ?_⟩
      obtain ⟨tk, to, ta, tks⟩ := t
      subst c2
      simp [go_of FT_115 rfl, F115, w, w2, hd0, hdw, hdw2, netRows, Net.row, List.replicate]
    · obtain ⟨u, q2, g1, g2, g3, w2⟩ := draw_pick hb 2 q (by omega) n (by omega)
      have g2 := g2 (by omega)
      obtain ⟨u2, q3, g4, g5, g6, w3⟩ := draw_pick hb 8 q2 (by omega) n (by omega)
      have body : ∀ M : Nat, 1 ≤ M → M ≤ 3 → (∃ (ts : List Net) (r : Nat), ts.length = M ∧ (∀ t ∈ ts, t.wt ≤ 4 * 4 ^ d) ∧ r ≤ q3 + M * (40 * 4 ^ d) ∧ Seq (NetR b n d) q3 ts r) := fun M h1 h3 =>
        Seq.have (B := 2 ^ 34 - 200 * 4 ^ d) (fun p hp => ih p (by omega)) M q3 (by have : M * (40 * 4 ^ d) ≤ 3 * (40 * 4 ^ d) := Nat.mul_le_mul h3 (Nat.le_refl _); omega)
      have close : ∀ (M : Nat) (ts : List Net) (r : Nat), M ≤ 3 → ts.length = M → (∀ t ∈ ts, t.wt ≤ 4 * 4 ^ d) → r ≤ q3 + M * (40 * 4 ^ d) → (Net.mk (IntKind.wrap .i64 (2 + v.tmod 2)) 0 [] ts).wt ≤ 4 * 4 ^ (d + 1) ∧ r ≤ p + 40 * 4 ^ (d + 1) := by
        intro M ts r hM hl hw hr
        have := netsWt_le hw
        have e1 : ts.length * (4 * 4 ^ d) ≤ 3 * (4 * 4 ^ d) := Nat.mul_le_mul (by omega) (Nat.le_refl _)
        have e2 : M * (40 * 4 ^ d) ≤ 3 * (40 * 4 ^ d) := Nat.mul_le_mul hM (Nat.le_refl _)
        refine ⟨by simp only [Net.wt, List.length_nil]; omega, by omega⟩
      by_cases c3 : u2 = 0
      · obtain ⟨ts, r, k1, k2, k3, k4⟩ := body 1 (by omega) (by omega)
        have hcl := close 1 ts r (by omega) k1 k2 k3
        refine ⟨.mk (IntKind.wrap .i64 (2 + v.tmod 2)) 0 [] ts, r, hcl.1, hcl.2, fun s => ?_⟩
        rw [← hdw] at k4
        simp [go_of FT_115 rfl, F115, w, w2, w3, hd0, c1, c2, c3]
        generalize hst : St.mk _ _ _ _ = st
        obtain ⟨e, ⟨τ', H', g', s'⟩, hx, -, rfl, e4, e6, eA, eC, cw, eB, ecw⟩ := loop115 ((d : Int) + 1) (IntKind.wrap .i64 (2 + v.tmod 2)) ts r (by omega) (by omega) st q3 k4 (by simp [← hst]) (by simp [← hst]) (by simp [← hst]) (by simp [← hst]) (by simp [← hst, k1]) (by simp [← hst]) (by simp [← hst]) (by simp [← hst]) (by simp [← hst]) (by simp [← hst])
        simp only at e4 e6 eA eC eB ecw
        rcases ecw with ⟨rfl, _⟩ | ⟨bx, hb1, hb2, rfl, hBX⟩
        · simp at k1
        · have b1 : (1025 = bx) = False := eq_false (by omega)
          have b2 : (1 = bx) = False := eq_false (by omega)
          have b3 : (0 = bx) = False := eq_false (by omega)
          have b4 : (bx = 1025) = False := eq_false (by omega)
          have b5 : (bx = 0) = False := eq_false (by omega)
          have b6 : (bx = 1) = False := eq_false (by omega)
          simp [hx, e4, e6, eA, eC, eB, hBX, b1, b2, b3, b4, b5, b6]
      · obtain ⟨M, hM⟩ : ∃ M : Nat, u = (M : Int) - 2 ∧ 2 ≤ M ∧ M ≤ 3 := ⟨(u + 2).toNat, by omega, by omega, by omega⟩
        obtain ⟨hM1, hM2, hM3⟩ := hM
        have hMw : IntKind.wrap .i64 (2 + u) = (M : Int) := by rw [hM1]; rw [wrap_id (by omega) (by omega)]; omega
        obtain ⟨ts, r, k1, k2, k3, k4⟩ := body M (by omega) hM3
        have hcl := close M ts r hM3 k1 k2 k3
        refine ⟨.mk (IntKind.wrap .i64 (2 + v.tmod 2)) 0 [] ts, r, hcl.1, hcl.2, fun s => ?_⟩
        rw [← hdw] at k4
        simp [go_of FT_115 rfl, F115, w, w2, w3, hd0, c1, c2, c3, hMw]
        generalize hst : St.mk _ _ _ _ = st
        obtain ⟨e, ⟨τ', H', g', s'⟩, hx, -, rfl, e4, e6, eA, eC, cw, eB, ecw⟩ := loop115 ((d : Int) + 1) (IntKind.wrap .i64 (2 + v.tmod 2)) ts r (by omega) (by omega) st q3 k4 (by simp [← hst]) (by simp [← hst]) (by simp [← hst]) (by simp [← hst]) (by simp [← hst, k1]) (by simp [← hst]) (by simp [← hst]) (by simp [← hst]) (by simp [← hst]) (by simp [← hst])
        simp only at e4 e6 eA eC eB ecw
        rcases ecw with ⟨rfl, _⟩ | ⟨bx, hb1, hb2, rfl, hBX⟩
        · simp at k1; omega
        · have b1 : (1025 = bx) = False := eq_false (by omega)
          have b2 : (1 = bx) = False := eq_false (by omega)
          have b3 : (0 = bx) = False := eq_false (by omega)
          have b4 : (bx = 1025) = False := eq_false (by omega)
          have b5 : (bx = 0) = False := eq_false (by omega)
          have b6 : (bx = 1) = False := eq_false (by omega)
          simp [hx, e4, e6, eA, eC, eB, hBX, b1, b2, b3, b4, b5, b6]


def ContR (b : List Int) (n : Nat) (p : Nat) (e : El) (q : Nat) : Prop := ∀ s, go n 134 [pV] [rB b p] s = some ⟨elX e, [rB b q], []⟩
def stairF (i : Nat) (o : Net) : List El → Net
  | [] => o
  | e :: r => stairF (i + 1) (.mk (IntKind.wrap .i64 (2 + (i : Int).tmod 2)) 0 [] [.mk 1 e.op e.as [], o]) r
theorem stairF_wt : ∀ (es : List El) (i : Nat) (o : Net), (∀ e ∈ es, e.as.length ≤ 2) → (stairF i o es).wt ≤ o.wt + 4 * es.length
  | [], i, o, h => by simp [stairF]
  | e :: r, i, o, h => by
    have h1 := h e (List.mem_cons_self ..)
    have h2 := stairF_wt r (i + 1) (.mk (IntKind.wrap .i64 (2 + (i : Int).tmod 2)) 0 [] [.mk 1 e.op e.as [], o]) fun x hx => h x (List.mem_cons_of_mem _ hx)
    simp only [stairF, List.length_cons]
    simp only [Net.wt, netsWt, List.length_nil] at h2
    omega
/-- How the net lies that a stair is built of. -/
def StairAt (H : Nat → Box) (g : Nat) : Net → Prop
  | .mk ok oo oa oks => (H 257 = .cells [iW ok, iW oo, asW oa, .nil] ∧ oks = []) ∨ ∃ bx, 257 < bx ∧ bx < g ∧ H 257 = .cells [iW ok, iW oo, .nil, .own bx 0 2 (some 2)] ∧ oa = [] ∧ oks.length = 2 ∧ H bx = .row none 4 (netRows oks) 0
theorem StairAt.mono {H : Nat → Box} {g g' : Nat} (h : g ≤ g') : ∀ {o : Net}, StairAt H g o → StairAt H g' o
  | .mk _ _ _ _, .inl x => .inl x
  | .mk _ _ _ _, .inr ⟨bx, h1, h2, h3⟩ => .inr ⟨bx, h1, by omega, h3⟩
theorem loop117 {b : List Int} {n : Nat} (N : Nat) (es : List El) (hN : N = es.length + 1) (hNb : N ≤ 1000) (r : Nat) (hn : 1100 ≤ n) (o0 : Net) (st : St) (p : Nat) (hS : Seq (ContR b n) p es r)
    (h0 : st.τ 0 = pV) (h1 : st.τ 1 = iV N) (h4 : st.τ 4 = .w (.ptr 1 0)) (h5 : st.τ 5 = .w (.ptr 257 0)) (h6 : st.τ 6 = iV 1) (hA : st.H 0 = rB b p) (hC : st.H 1 = .cells [iW 0, iW 0, .nil, .nil]) (hB : StairAt st.H st.g o0) (hg : 257 < st.g) :
    ∃ e st', execC (go n) mode GT false 25 n F117_L0 st = some (e, st') ∧ e ≠ .normal ∧ (e = .exit 0 ∧ st'.τ 4 = .w (.ptr 1 0) ∧ st'.τ 5 = .w (.ptr 257 0) ∧ st'.H 0 = rB b r ∧ st'.H 1 = .cells [iW 0, iW 0, .nil, .nil] ∧
      StairAt st'.H st'.g (stairF 1 o0 es)) := by
  rw [F117_L0, execC_loop]
  refine iter_rule (fun k st => ∃ i o rest q, rest.length = k ∧ i + rest.length = N ∧ 1 ≤ i ∧ stairF i o rest = stairF 1 o0 es ∧ Seq (ContR b n) q rest r ∧ st.τ 0 = pV ∧ st.τ 1 = iV N ∧ st.τ 4 = .w (.ptr 1 0) ∧ st.τ 5 = .w (.ptr 257 0) ∧ st.τ 6 = iV i ∧ st.H 0 = rB b q ∧
      st.H 1 = .cells [iW 0, iW 0, .nil, .nil] ∧ StairAt st.H st.g o ∧ 257 < st.g) ?_ n es.length st (by omega)
    ⟨1, o0, es, p, rfl, by omega, by omega, rfl, hS, h0, h1, h4, h5, by simpa using h6, hA, hC, hB, hg⟩
  clear h0 h1 h4 h5 h6 hA hC hB hg hS
  rintro k ⟨τ, H, g, s⟩ ⟨i, o, rest, q, hr, hi, hi1, hst, hS, h0, h1, h4, h5, h6, hA, hC, hB, hg⟩
  simp only at h0 h1 h4 h5 h6 hA hC hB hg
  cases hS with
  | nil =>
    simp only [stairF] at hst
    subst hst
    have : i = N := by simpa using hi
    subst this
    refine ⟨.exit 0, ⟨upd (upd (upd τ 10 (iV i)) 11 (iV i)) 12 (.w (.d (.s (.bool false)))), H, g + 192, restS s⟩, ?_, by simp, fun _ => ⟨rfl, by simpa using h4, by simpa using h5, hA, hC, hB.mono (by simp only; omega)⟩⟩
    simp [F117_B0, h0, h1, h4, h5, h6]
  | @cons _ q2 _ e rest2 w hS2 =>
    have w : ∀ s, _ := w
    simp only [List.length_cons] at hi hr
    have hlt : ((i : Int) < (N : Int)) = True := eq_true (by omega)
    have hltn : (i < N) = True := eq_true (by omega)
    have hwr := wrap_succ (i := i) (by omega)
    obtain ⟨eo, ea⟩ := e
    obtain ⟨ok, oo, oa, oks⟩ := o
    have fgX := far hg
    have feX := far (show 1 < g by omega)
    have fzX := far (show 0 < g by omega)
    refine ⟨.normal, ?_⟩
    have hgo : stairF (i + 1) (.mk (IntKind.wrap .i64 (2 + (i : Int).tmod 2)) 0 [] [.mk 1 eo ea [], .mk ok oo oa oks]) rest2 = stairF 1 o0 es := hst
    rcases hB with ⟨hB, rfl⟩ | ⟨bx, hb1, hb2, hB, rfl, hkl, hBX⟩
    · simp [-getElem?_pos, F117_B0, h0, h1, h4, h5, h6, hA, hC, hB, hlt, hltn, w, hwr, fgX, feX, fzX]
      refine ⟨rest2.length, by omega, i + 1, _, rest2, rfl, by omega, by omega, hgo, q2, hS2, by simp, rfl, .inr ⟨g + 192 + 448, by omega, by omega, ?_, rfl, rfl, ?_⟩⟩
      · simp [fgX]; try rfl
      · simp [fgX, netRows, Net.row]; try rfl
    · have fbX := far hb2
      have b1 : (257 = bx) = False := eq_false (by omega)
      have b2 : (1 = bx) = False := eq_false (by omega)
      have b3 : (0 = bx) = False := eq_false (by omega)
      have b4 : (bx = 257) = False := eq_false (by omega)
      have b5 : (bx = 0) = False := eq_false (by omega)
      have b6 : (bx = 1) = False := eq_false (by omega)
      have tk2 : List.take 2 (netRows oks) = netRows oks := by rw [← hkl, take_netRows]
      have hl2 : 2 ≤ oks.length := by omega
      simp [-getElem?_pos, F117_B0, h0, h1, h4, h5, h6, hA, hC, hB, hBX, tk2, hl2, hkl, hlt, hltn, w, hwr, b1, b2, b3, b4, b5, b6, fgX, feX, fzX, fbX]
      refine ⟨rest2.length, by omega, i + 1, _, rest2, rfl, by omega, by omega, hgo, q2, hS2, by simp, rfl, .inr ⟨g + 192 + 448, by omega, by omega, ?_, rfl, rfl, ?_⟩⟩
      · simp [fgX]; try rfl
      · simp [fgX, netRows, Net.row]; try rfl

theorem draw_Stair {b : List Int} (hb : RD b) (N : Nat) (hN1 : 1 ≤ N) (hN : N ≤ 1000) (n : Nat) (hn : 1200 ≤ n) (p : Nat) (hp : p < 2 ^ 34) :
    ∃ (t : Net) (q : Nat), t.wt ≤ 4 * N ∧ q ≤ p + 24 * N ∧ ∀ s, go n 117 [pV, iV N] [rB b p] s = some ⟨netX t, [rB b q], []⟩ := by
  obtain ⟨n, rfl⟩ : ∃ k, n = k + 1 := ⟨n - 1, by omega⟩
  obtain ⟨⟨eo, ea⟩, q, g1, g2, w⟩ := draw_Contact hb p (by omega) n (by omega)
  obtain ⟨es, r, k1, k2, k3, k4⟩ := Seq.have (R := ContR b n) (wt := fun e => e.as.length) (W := 2) (P := 24) (B := 2 ^ 36) (fun p hp => draw_Contact hb p hp n (by omega)) (N - 1) q (by omega)
  have hwt := stairF_wt es 1 (.mk 1 eo ea []) k2
  simp only [Net.wt, netsWt] at hwt
  simp only at g1
  refine ⟨stairF 1 (.mk 1 eo ea []) es, r, by omega, by omega, fun s => ?_⟩
  simp [go_of FT_117 rfl, F117, w]
  generalize hst : St.mk _ _ _ _ = st
  obtain ⟨e, ⟨τ', H', g', s'⟩, hx, -, rfl, e4, e5, eA, eC, eB⟩ := loop117 N es (by omega) hN r (by omega) (.mk 1 eo ea []) st q k4 (by simp [← hst]) (by simp [← hst]) (by simp [← hst]) (by simp [← hst]) (by simp [← hst]) (by simp [← hst]) (by simp [← hst]) (.inl ⟨by simp [← hst], rfl⟩) (by simp [← hst])
  simp only at e4 e5 eA eC eB
  generalize stairF 1 (.mk 1 eo ea []) es = T at eB ⊢
  obtain ⟨ok, oo, oa, oks⟩ := T
  rcases eB with ⟨hB, rfl⟩ | ⟨bx, hb1, hb2, hB, rfl, hkl, hBX⟩
  · simp [hx, e4, e5, eA, eC, hB]
  · have b1 : (257 = bx) = False := eq_false (by omega)
    have b2 : (1 = bx) = False := eq_false (by omega)
    have b3 : (0 = bx) = False := eq_false (by omega)
    have b4 : (bx = 257) = False := eq_false (by omega)
    have b5 : (bx = 0) = False := eq_false (by omega)
    have b6 : (bx = 1) = False := eq_false (by omega)
    have tk2 : List.take 2 (netRows oks) = netRows oks := by rw [← hkl, take_netRows]
    have hl2 : 2 ≤ oks.length := by omega
    simp [hx, e4, e5, eA, eC, hB, hBX, tk2, hl2, hkl, b1, b2, b3, b4, b5, b6]


theorem netRows_set (l : List Net) (i : Nat) (k op : Int) (as : List Arg) (ks : List Net) : (netRows l).set i [iD k, iD op, .l 0 (argRows as), .l 0 (netRows ks)] = netRows (l.set i (.mk k op as ks)) := by
  rw [netRows_map l, netRows_map (l.set i (.mk k op as ks)), List.map_set]; simp only [Net.row]
theorem netsWt_set : ∀ (l : List Net) (i : Nat) (x y : Net), l[i]? = some x → netsWt (l.set i y) + x.wt = netsWt l + y.wt
  | [], i, x, y, h => by simp at h
  | a :: r, 0, x, y, h => by simp at h; subst h; simp [netsWt]; omega
  | a :: r, i + 1, x, y, h => by
    have := netsWt_set r i x y (by simpa using h)
    simp only [List.set_cons_succ, netsWt]; omega

theorem draw_SpoilNet {b : List Int} (hb : RD b) : ∀ (m : Nat) (t : Net), t.wt ≤ m → m ≤ 2 ^ 20 → ∀ (n : Nat), m + 20 ≤ n → ∀ p, p + 60 * m < 2 ^ 34 → ∃ (t' : Net) (q : Nat), t'.wt ≤ t.wt + 4 ∧ q ≤ p + 60 * m ∧ ∀ s, go n 116 [pV, netX t] [rB b p] s = some ⟨netX t', [rB b q], []⟩
  | 0, t, h, hm, n, hn, p, hp => by have := t.wt_pos; omega
  | m + 1, .mk k op as ks, h, hm, n, hn, p, hp => by
    obtain ⟨n, rfl⟩ : ∃ k, n = k + 1 := ⟨n - 1, by omega⟩
    have hlk := netsWt_len ks
    simp only [Net.wt] at h
    have al := eq_true (len_of4 ks)
    have rm : room ks.length 64 = true := room_of (by omega) (by omega)
    have rm2 : room (ks.length + 1) 64 = true := room_of (by omega) (by omega)
    have tk1 : ∀ x : List D, List.take (ks.length + 1) (netRows ks ++ [x]) = netRows ks ++ [x] := fun x => by rw [List.take_of_length_le (by simp)]
    -- what is spoilt here
    have here : ∀ q0, q0 ≤ p + 1 → ∃ (v : Int) (q1 : Nat) (t' : Net) (q : Nat), t'.wt ≤ (Net.mk k op as ks).wt + 4 ∧ q ≤ p + 60 * (m + 1) ∧ (∀ s, go n 67 [pV, iV 6] [rB b q0] s = some ⟨iV v, [rB b q1], []⟩) ∧
        ((v = 0 ∧ ∃ u, t' = .mk u op as ks ∧ ∀ s, go n 96 [pV, .w (.d (.l 0 [[iD (-1)], [iD 0], [iD 1], [iD 2], [iD 3], [iD 4], [iD 5]]))] [rB b q1] s = some ⟨iV u, [rB b q], []⟩) ∨
         (v = 1 ∧ ∃ eo ea, t' = .mk k op as (ks ++ [.mk 1 eo ea []]) ∧ ∀ s, go n 134 [pV] [rB b q1] s = some ⟨.agg [iW eo, asW ea], [rB b q], []⟩) ∨
         (v = 2 ∧ t' = .mk k op as [] ∧ q = q1) ∨
         (v = 3 ∧ ∃ eo ea, t' = .mk k eo ea ks ∧ ∀ s, go n 135 [pV] [rB b q1] s = some ⟨.agg [iW eo, asW ea], [rB b q], []⟩) ∨
         (v = 4 ∧ ∃ eo ea, t' = .mk k eo ea ks ∧ ∀ s, go n 136 [pV, .agg [iW op, asW as]] [rB b q1] s = some ⟨.agg [iW eo, asW ea], [rB b q], []⟩) ∨
         (v ≠ 0 ∧ v ≠ 1 ∧ v ≠ 2 ∧ v ≠ 3 ∧ v ≠ 4 ∧ t' = .mk k op as (ks ++ [.mk 0 0 [] []]) ∧ q = q1)) := by
      intro q0 hq0
      obtain ⟨v, q1, h1, h2, h3, w⟩ := draw_pick hb 6 q0 (by omega) n (by omega)
      by_cases c0 : v = 0
      · obtain ⟨u, q2, _, g2, w2⟩ := draw_num hb [-1, 0, 1, 2, 3, 4, 5] (by simp) q1 (by omega) n (by omega)
        simp only [lV, List.map_cons, List.map_nil] at w2
        exact ⟨v, q1, .mk u op as ks, q2, by simp only [Net.wt]; omega, by omega, w, .inl ⟨c0, u, rfl, w2⟩⟩
      by_cases c1 : v = 1
      · obtain ⟨⟨eo, ea⟩, q2, g1, g2, w2⟩ := draw_Contact hb q1 (by omega) n (by omega)
        simp only at g1
        exact ⟨v, q1, _, q2, by simp only [Net.wt, netsWt_append, netsWt]; omega, by omega, w, .inr (.inl ⟨c1, eo, ea, rfl, w2⟩)⟩
      by_cases c2 : v = 2
      · exact ⟨v, q1, _, q1, by simp only [Net.wt, netsWt]; omega, by omega, w, .inr (.inr (.inl ⟨c2, rfl, rfl⟩))⟩
      by_cases c3 : v = 3
      · obtain ⟨⟨eo, ea⟩, q2, g1, g2, w2⟩ := draw_Coil hb q1 (by omega) n (by omega)
        simp only at g1
        exact ⟨v, q1, _, q2, by simp only [Net.wt]; omega, by omega, w, .inr (.inr (.inr (.inl ⟨c3, eo, ea, rfl, w2⟩)))⟩
      by_cases c4 : v = 4
      · obtain ⟨⟨eo, ea⟩, q2, g1, g2, w2⟩ := draw_Spoil hb ⟨op, as⟩ (by simp only; omega) q1 (by omega) n (by omega)
        simp only at g1
        exact ⟨v, q1, _, q2, by simp only [Net.wt]; omega, by omega, w, .inr (.inr (.inr (.inr (.inl ⟨c4, eo, ea, rfl, w2⟩))))⟩
      · exact ⟨v, q1, _, q1, by simp only [Net.wt, netsWt_append, netsWt, List.length_nil]; omega, by omega, w, .inr (.inr (.inr (.inr (.inr ⟨c0, c1, c2, c3, c4, rfl, rfl⟩))))⟩
    by_cases hk : 0 < ks.length
    · have hki : ((0 : Int) < (ks.length : Int)) = True := eq_true (by omega)
      obtain ⟨u, q0, g1, g2, g3, w0⟩ := draw_pick hb 3 p (by omega) n (by omega)
      by_cases hu : 0 < u
      · have hu' := eq_true hu
        obtain ⟨v, q1, h1, h2, h3, w1⟩ := draw_pick hb ks.length q0 (by omega) n (by omega)
        have h2 := h2 (by omega)
        obtain ⟨j, rfl⟩ : ∃ j : Nat, v = j := ⟨v.toNat, by omega⟩
        have hj : j < ks.length := by omega
        have hg := List.getElem?_eq_getElem hj
        have hmem := netsWt_mem (List.getElem_mem hj)
        obtain ⟨t', q2, k1, k2, w2⟩ := draw_SpoilNet hb m ks[j] (by omega) (by omega) n (by omega) q1 (by omega)
        have hset := netsWt_set ks j ks[j] t' hg
        obtain ⟨xk, xo, xa, xks, hx⟩ : ∃ k' op as ks', ks[j] = .mk k' op as ks' := by cases ks[j]; exact ⟨_, _, _, _, rfl⟩
        rw [hx] at hg w2
        have hb1 := netRows_get hg
        obtain ⟨yk, yo, ya, yks⟩ := t'
        have hs := netRows_set ks j yk yo ya yks
        refine ⟨.mk k op as (ks.set j (.mk yk yo ya yks)), q2, by simp only [Net.wt]; omega, by omega, fun s => ?_⟩
        have tk := take_netRows (ks.set j (.mk yk yo ya yks))
        simp only [List.length_set] at tk
        simp [-getElem?_pos, go_of FT_116 rfl, F116, w0, w1, w2, hki, hk, hu', al, rm, hj, hb1, hs, tk, List.replicate]
      · have hu' := eq_false hu
        obtain ⟨v, q1, t', q, e1, e2, w, hcase⟩ := here q0 g3
        refine ⟨t', q, e1, e2, fun s => ?_⟩
        rcases hcase with ⟨rfl, u2, rfl, w2⟩ | ⟨rfl, eo, ea, rfl, w2⟩ | ⟨rfl, rfl, rfl⟩ | ⟨rfl, eo, ea, rfl, w2⟩ | ⟨rfl, eo, ea, rfl, w2⟩ | ⟨c0, c1, c2, c3, c4, rfl, rfl⟩
        · simp [go_of FT_116 rfl, F116, w0, w, w2, hki, hk, hu', List.replicate]
        · simp [go_of FT_116 rfl, F116, w0, w, w2, hki, hk, hu', al, rm, rm2, tk1, List.replicate, netRows_append, netRows, Net.row]
        · simp [go_of FT_116 rfl, F116, w0, w, hki, hk, hu', List.replicate]
        · simp [go_of FT_116 rfl, F116, w0, w, w2, hki, hk, hu', List.replicate]
        · simp [go_of FT_116 rfl, F116, w0, w, w2, hki, hk, hu', List.replicate]
        · simp [go_of FT_116 rfl, F116, w0, w, c0, c1, c2, c3, c4, hki, hk, hu', al, rm, rm2, tk1, List.replicate, netRows_append, netRows, Net.row]
    · have hki : ((0 : Int) < (ks.length : Int)) = False := eq_false (by omega)
      have hke : ks = [] := List.eq_nil_of_length_eq_zero (by omega)
      obtain ⟨v, q1, t', q, e1, e2, w, hcase⟩ := here p (by omega)
      subst hke
      have rm0 : room 0 64 = true := by decide
      have rm1 : room 1 64 = true := by decide
      refine ⟨t', q, e1, e2, fun s => ?_⟩
      rcases hcase with ⟨rfl, u2, rfl, w2⟩ | ⟨rfl, eo, ea, rfl, w2⟩ | ⟨rfl, rfl, rfl⟩ | ⟨rfl, eo, ea, rfl, w2⟩ | ⟨rfl, eo, ea, rfl, w2⟩ | ⟨c0, c1, c2, c3, c4, rfl, rfl⟩
      · simp [go_of FT_116 rfl, F116, w, w2, List.replicate]
      · simp [go_of FT_116 rfl, F116, w, w2, rm0, rm1, List.replicate, netRows_append, netRows, Net.row]
      · simp [go_of FT_116 rfl, F116, w, List.replicate]
      · simp [go_of FT_116 rfl, F116, w, w2, List.replicate]
      · simp [go_of FT_116 rfl, F116, w, w2, List.replicate]
      · simp [go_of FT_116 rfl, F116, w, c0, c1, c2, c3, c4, rm0, rm1, List.replicate, netRows_append, netRows, Net.row]


theorem draw_open {b : List Int} (hl : b.length < 2 ^ 40) (hb : ∀ x ∈ b, 0 ≤ x ∧ x < 256) (n : Nat) (hn : 1 ≤ n) : ∃ b2, RD b2 ∧ ∀ s, go n 65 [.w (bW 0 b)] [] s = some ⟨.w (.ptr 0 0), [], [rB b2 0]⟩ := by
  obtain ⟨n, rfl⟩ : ∃ k, n = k + 1 := ⟨n - 1, by omega⟩
  by_cases h : 2000 < b.length
  · have hi : ((2000 : Int) < (b.length : Int)) = True := eq_true (by omega)
    refine ⟨b.take 2000, ⟨fun x hx => hb x (List.mem_of_mem_take hx), by simp; omega⟩, fun s => ?_⟩
    have e : List.take 2000 (byt b) = byt (b.take 2000) := by simp [byt]
    have h2 : 2000 ≤ b.length := by omega
    have h2i : ((2000 : Int) ≤ (b.length : Int)) = True := eq_true (by omega)
    have al := eq_true (show ∀ x ∈ byt b, x.length = 1 from fun x hx => by simp only [byt, List.mem_map] at hx; obtain ⟨a, _, rfl⟩ := hx; rfl)
    simp [go_of FT_65 rfl, F65, h, hi, h2, h2i, e, al]
  · have hi : ((2000 : Int) < (b.length : Int)) = False := eq_false (by omega)
    refine ⟨b, ⟨hb, by omega⟩, fun s => ?_⟩
    simp [go_of FT_65 rfl, F65, h, hi]

end Go.VM

/- Draws: arms. Conditions: none. -/
namespace Go.VM
set_option linter.unusedSimpArgs false
set_option linter.unusedVariables false
set_option maxHeartbeats 16000000

def CoilR (b : List Int) (n : Nat) (p : Nat) (e : El) (q : Nat) : Prop := ∀ s, go n 135 [pV] [rB b p] s = some ⟨elX e, [rB b q], []⟩
def ArmR (b : List Int) (n : Nat) (d : Int) (p : Nat) (t : Arm) (q : Nat) : Prop := ∀ s, go n 178 [pV, iV d, bV false] [rB b p] s = some ⟨armX t, [rB b q], []⟩
/-- A slice that was built up of new boxes. -/
def Slot (H : Nat → Box) (g lo av sz : Nat) (cw : W) (len : Nat) (rows : List (List D)) : Prop :=
  (rows = [] ∧ cw = .nil) ∨ ∃ bx, rows ≠ [] ∧ bx ≠ av ∧ lo < bx ∧ bx < g ∧ cw = .own bx 0 len none ∧ H bx = .row none sz rows 0


theorem loop178_0 {b : List Int} {n : Nat} (d0 : V) (k0 op0 as0 nk0 kk0 : W) (u2 : V) (C1 Xc : Box) (bc bq : Nat) (ts : List El) (r : Nat) (h3 : ts.length ≤ 4) (hn : 8 ≤ n) (hbq : 1 < bq) (hcq : bc ≠ bq) (hc0 : bc ≠ 0) (st : St) (p : Nat) (hS : Seq (CoilR b n) p ts r)
    (h0 : st.τ 0 = pV) (h1 : st.τ 1 = d0) (h2 : st.τ 2 = u2) (h6 : st.τ 6 = .w (.ptr 1 0)) (h7 : st.τ 7 = .w (.ptr bq 0)) (h8 : st.τ 8 = iV ts.length) (hA : st.H 0 = rB b p) (hC : st.H 1 = C1) (hX : st.H bc = Xc) (hbc : bc < st.g) (hB : st.H bq = .cells [k0, op0, as0, nk0, .nil, kk0]) (hg : bq < st.g) :
    ∃ e st', execC (go n) mode GT false 74 n F178_L0 st = some (e, st') ∧ e ≠ .normal ∧ (e = .exit 0 ∧ st'.τ 0 = pV ∧ st'.τ 1 = d0 ∧ st'.τ 2 = u2 ∧ st'.τ 6 = .w (.ptr 1 0) ∧ st'.τ 7 = .w (.ptr bq 0) ∧ st'.H 0 = rB b r ∧ st'.H 1 = C1 ∧ st'.H bc = Xc ∧ bc < st'.g ∧ bq < st'.g ∧
      ∃ cw, st'.H bq = .cells [k0, op0, as0, nk0, cw, kk0] ∧ Slot st'.H st'.g bq bc 2 cw ts.length (elRows ts)) := by
  rw [F178_L0, execC_loop]
  refine iter_rule (fun k st => ∃ ks rest q cw, ts = ks ++ rest ∧ rest.length = k ∧ Seq (CoilR b n) q rest r ∧ st.τ 0 = pV ∧ st.τ 1 = d0 ∧ st.τ 2 = u2 ∧ st.τ 6 = .w (.ptr 1 0) ∧ st.τ 7 = .w (.ptr bq 0) ∧ st.τ 8 = iV rest.length ∧ st.H 0 = rB b q ∧ st.H 1 = C1 ∧ st.H bc = Xc ∧ bc < st.g ∧ bq < st.g ∧
      st.H bq = .cells [k0, op0, as0, nk0, cw, kk0] ∧ Slot st.H st.g bq bc 2 cw ks.length (elRows ks)) ?_ n ts.length st (by omega)
    ⟨[], ts, p, .nil, rfl, rfl, hS, h0, h1, h2, h6, h7, h8, hA, hC, hX, hbc, hg, hB, .inl ⟨by simp [elRows], rfl⟩⟩
  clear h0 h1 h2 h6 h7 h8 hA hC hX hbc hB hg hS
  rintro k ⟨τ, H, g, s⟩ ⟨ks, rest, q, cw, hts, hr, hS, h0, h1, h2, h6, h7, h8, hA, hC, hX, hbc, hg, hB, hcw⟩
  simp only at h0 h1 h2 h6 h7 h8 hA hC hX hbc hg hB hcw
  cases hS with
  | nil =>
    rw [List.append_nil] at hts
    subst hts
    refine ⟨.exit 0, ⟨upd (upd τ 22 (iV 0)) 23 (.w (.d (.s (.bool false)))), H, g + 128, restS s⟩, ?_, by simp, fun _ => ⟨rfl, by simpa using h0, by simpa using h1, by simpa using h2, by simpa using h6, by simpa using h7, hA, hC, hX, by simp only; omega, by simp only; omega, cw, hB, ?_⟩⟩
    · simp [F178_B0, h0, h1, h6, h7, h8]
    · rcases hcw with hcw | ⟨bx, hn0, hb0, hb1, hb2, hb3, hb4⟩
      · exact .inl hcw
      · exact .inr ⟨bx, hn0, hb0, hb1, by simp only; omega, hb3, hb4⟩
  | @cons _ q2 _ t rest2 w hS2 =>
    have w : ∀ s, _ := w
    have hlen : ts.length = ks.length + (rest2.length + 1) := by rw [hts]; simp
    have hlt : ((0 : Int) < (rest2.length : Int) + 1) = True := eq_true (by omega)
    have hwr : IntKind.wrap .i64 ((rest2.length : Int) + 1 - 1) = (rest2.length : Int) := by rw [Int.add_sub_cancel]; exact wrap_id (by omega) (by omega)
    have hwr2 : IntKind.wrap .i64 (rest2.length : Int) = (rest2.length : Int) := wrap_id (by omega) (by omega)
    obtain ⟨eo, ea⟩ := t
    have fgX := far (show bq < g by omega)
    have feX := far (show 1 < g by omega)
    have fzX := far (show 0 < g by omega)
    have fxX := far (show bc < g by omega)
    have lq1 : ∀ x : Nat, (bq < g + x) = True := fun x => eq_true (by omega)
    have lq2 : ∀ x y : Nat, (bq < g + x + y) = True := fun x y => eq_true (by omega)
    have rm : room (ks.length + 1) 32 = true := room_of (by omega) (by omega)
    have rm1 : room 1 32 = true := by decide
    have hk : rest2.length < k := by simp at hr; omega
    have a1 : (1 = bq) = False := eq_false (by omega)
    have a2 : (0 = bq) = False := eq_false (by omega)
    have a3 : (bc = bq) = False := eq_false hcq
    have a4 : (bq = 1) = False := eq_false (by omega)
    have a5 : (bq = 0) = False := eq_false (by omega)
    have a6 : (bc = 0) = False := eq_false hc0
    have a7 : (bq = bc) = False := eq_false (fun e => hcq e.symm)
    refine ⟨.normal, ?_⟩
    rcases hcw with ⟨hks, rfl⟩ | ⟨bx, hn0, hb0, hb1, hb2, rfl, hBX⟩
    · have hks : ks = [] := by cases ks with | nil => rfl | cons a l => simp [elRows] at hks
      subst hks
      simp only [List.length_nil] at hlen
      simp [-getElem?_pos, F178_B0, h0, h1, h2, h6, h7, h8, hA, hC, hX, hB, hlt, w, hwr, hwr2, rm1, a1, a2, a3, a4, a5, a6, a7, lq1, lq2, fgX, feX, fzX, fxX]
      refine ⟨rest2.length, hk, [⟨eo, ea⟩], rest2, by rw [hts]; simp, rfl, q2, hS2, rfl, rfl, by omega, by omega, .inr ⟨_, ?_, ?_, ?_, ?_, rfl, ?_⟩⟩
      · simp [elRows_append, elRows, El.row]
      · omega
      · omega
      · omega
      · simp [elRows_append, elRows, El.row, fgX]; try rfl
    · have fbX := far hb2
      have b1 : (bq = bx) = False := eq_false (by omega)
      have b2 : (1 = bx) = False := eq_false (by omega)
      have b3 : (0 = bx) = False := eq_false (by omega)
      have b4 : (bx = bq) = False := eq_false (by omega)
      have b5 : (bx = 0) = False := eq_false (by omega)
      have b6 : (bx = 1) = False := eq_false (by omega)
      have b7 : (bx = bc) = False := eq_false hb0
      have b8 : (bc = bx) = False := eq_false (fun e => hb0 e.symm)
      simp [-getElem?_pos, F178_B0, h0, h1, h2, h6, h7, h8, hA, hC, hX, hB, hBX, hlt, w, hwr, hwr2, rm, a1, a2, a3, a4, a5, a6, a7, lq1, lq2, b1, b2, b3, b4, b5, b6, b7, b8, fgX, feX, fzX, fxX, fbX]
      refine ⟨rest2.length, hk, ks ++ [⟨eo, ea⟩], rest2, by rw [hts]; simp, rfl, q2, hS2, rfl, rfl, by omega, by omega, .inr ⟨_, ?_, ?_, ?_, ?_, (by rw [List.length_append]; rfl), ?_⟩⟩
      · simp [elRows_append, elRows, El.row]
      · omega
      · omega
      · omega
      · simp [elRows_append, elRows, El.row, fgX]; try rfl


theorem loop178_1 {b : List Int} {n : Nat} (d0 : Int) (k0 op0 as0 nk0 cc0 : W) (u2 : V) (C1 Xc : Box) (bc bq : Nat) (ts : List Arm) (r : Nat) (h3 : ts.length ≤ 4) (hn : 8 ≤ n) (hbq : 1 < bq) (hcq : bc ≠ bq) (hc0 : bc ≠ 0) (st : St) (p : Nat) (hS : Seq (ArmR b n (IntKind.wrap .i64 (d0 - 1))) p ts r)
    (h0 : st.τ 0 = pV) (h1 : st.τ 1 = iV d0) (h2 : st.τ 2 = u2) (h6 : st.τ 6 = .w (.ptr 1 0)) (h7 : st.τ 7 = .w (.ptr bq 0)) (h8 : st.τ 9 = iV ts.length) (hA : st.H 0 = rB b p) (hC : st.H 1 = C1) (hX : st.H bc = Xc) (hbc : bc < st.g) (hB : st.H bq = .cells [k0, op0, as0, nk0, cc0, .nil]) (hg : bq < st.g) :
    ∃ e st', execC (go n) mode GT false 74 n F178_L1 st = some (e, st') ∧ e ≠ .normal ∧ (e = .exit 2 ∧ st'.τ 0 = pV ∧ st'.τ 1 = iV d0 ∧ st'.τ 2 = u2 ∧ st'.τ 6 = .w (.ptr 1 0) ∧ st'.τ 7 = .w (.ptr bq 0) ∧ st'.H 0 = rB b r ∧ st'.H 1 = C1 ∧ st'.H bc = Xc ∧ bc < st'.g ∧ bq < st'.g ∧
      ∃ cw, st'.H bq = .cells [k0, op0, as0, nk0, cc0, cw] ∧ Slot st'.H st'.g bq bc 6 cw ts.length (armRows ts)) := by
  rw [F178_L1, execC_loop]
  refine iter_rule (fun k st => ∃ ks rest q cw, ts = ks ++ rest ∧ rest.length = k ∧ Seq (ArmR b n (IntKind.wrap .i64 (d0 - 1))) q rest r ∧ st.τ 0 = pV ∧ st.τ 1 = iV d0 ∧ st.τ 2 = u2 ∧ st.τ 6 = .w (.ptr 1 0) ∧ st.τ 7 = .w (.ptr bq 0) ∧ st.τ 9 = iV rest.length ∧ st.H 0 = rB b q ∧ st.H 1 = C1 ∧ st.H bc = Xc ∧ bc < st.g ∧ bq < st.g ∧
      st.H bq = .cells [k0, op0, as0, nk0, cc0, cw] ∧ Slot st.H st.g bq bc 6 cw ks.length (armRows ks)) ?_ n ts.length st (by omega)
    ⟨[], ts, p, .nil, rfl, rfl, hS, h0, h1, h2, h6, h7, h8, hA, hC, hX, hbc, hg, hB, .inl ⟨by simp [armRows], rfl⟩⟩
  clear h0 h1 h2 h6 h7 h8 hA hC hX hbc hB hg hS
  rintro k ⟨τ, H, g, s⟩ ⟨ks, rest, q, cw, hts, hr, hS, h0, h1, h2, h6, h7, h8, hA, hC, hX, hbc, hg, hB, hcw⟩
  simp only at h0 h1 h2 h6 h7 h8 hA hC hX hbc hg hB hcw
  cases hS with
  | nil =>
    rw [List.append_nil] at hts
    subst hts
    refine ⟨.exit 2, ⟨upd (upd τ 43 (iV 0)) 44 (.w (.d (.s (.bool false)))), H, g + 128, restS s⟩, ?_, by simp, fun _ => ⟨rfl, by simpa using h0, by simpa using h1, by simpa using h2, by simpa using h6, by simpa using h7, hA, hC, hX, by simp only; omega, by simp only; omega, cw, hB, ?_⟩⟩
    · simp [F178_B1, h0, h1, h6, h7, h8]
    · rcases hcw with hcw | ⟨bx, hn0, hb0, hb1, hb2, hb3, hb4⟩
      · exact .inl hcw
      · exact .inr ⟨bx, hn0, hb0, hb1, by simp only; omega, hb3, hb4⟩
  | @cons _ q2 _ t rest2 w hS2 =>
    have w : ∀ s, _ := w
    have hlen : ts.length = ks.length + (rest2.length + 1) := by rw [hts]; simp
    have hlt : ((0 : Int) < (rest2.length : Int) + 1) = True := eq_true (by omega)
    have hwr : IntKind.wrap .i64 ((rest2.length : Int) + 1 - 1) = (rest2.length : Int) := by rw [Int.add_sub_cancel]; exact wrap_id (by omega) (by omega)
    have hwr2 : IntKind.wrap .i64 (rest2.length : Int) = (rest2.length : Int) := wrap_id (by omega) (by omega)
    obtain ⟨⟨tk, to, ta, tks⟩, tcs, tkk⟩ := t
    have fgX := far (show bq < g by omega)
    have feX := far (show 1 < g by omega)
    have fzX := far (show 0 < g by omega)
    have fxX := far (show bc < g by omega)
    have lq1 : ∀ x : Nat, (bq < g + x) = True := fun x => eq_true (by omega)
    have lq2 : ∀ x y : Nat, (bq < g + x + y) = True := fun x y => eq_true (by omega)
    have rm : room (ks.length + 1) 112 = true := room_of (by omega) (by omega)
    have rm1 : room 1 112 = true := by decide
    have hk : rest2.length < k := by simp at hr; omega
    have a1 : (1 = bq) = False := eq_false (by omega)
    have a2 : (0 = bq) = False := eq_false (by omega)
    have a3 : (bc = bq) = False := eq_false hcq
    have a4 : (bq = 1) = False := eq_false (by omega)
    have a5 : (bq = 0) = False := eq_false (by omega)
    have a6 : (bc = 0) = False := eq_false hc0
    have a7 : (bq = bc) = False := eq_false (fun e => hcq e.symm)
    refine ⟨.normal, ?_⟩
    rcases hcw with ⟨hks, rfl⟩ | ⟨bx, hn0, hb0, hb1, hb2, rfl, hBX⟩
    · have hks : ks = [] := by cases ks with | nil => rfl | cons a l => simp [armRows] at hks
      subst hks
      simp only [List.length_nil] at hlen
      simp [-getElem?_pos, F178_B1, h0, h1, h2, h6, h7, h8, hA, hC, hX, hB, hlt, w, hwr, hwr2, rm1, a1, a2, a3, a4, a5, a6, a7, lq1, lq2, fgX, feX, fzX, fxX]
      refine ⟨rest2.length, hk, [.mk (.mk tk to ta tks) tcs tkk], rest2, by rw [hts]; simp, rfl, q2, hS2, rfl, rfl, by omega, by omega, .inr ⟨_, ?_, ?_, ?_, ?_, rfl, ?_⟩⟩
      · simp [armRows_append, armRows, Arm.row]
      · omega
      · omega
      · omega
      · simp [armRows_append, armRows, Arm.row, fgX]; try rfl
    · have fbX := far hb2
      have b1 : (bq = bx) = False := eq_false (by omega)
      have b2 : (1 = bx) = False := eq_false (by omega)
      have b3 : (0 = bx) = False := eq_false (by omega)
      have b4 : (bx = bq) = False := eq_false (by omega)
      have b5 : (bx = 0) = False := eq_false (by omega)
      have b6 : (bx = 1) = False := eq_false (by omega)
      have b7 : (bx = bc) = False := eq_false hb0
      have b8 : (bc = bx) = False := eq_false (fun e => hb0 e.symm)
      simp [-getElem?_pos, F178_B1, h0, h1, h2, h6, h7, h8, hA, hC, hX, hB, hBX, hlt, w, hwr, hwr2, rm, a1, a2, a3, a4, a5, a6, a7, lq1, lq2, b1, b2, b3, b4, b5, b6, b7, b8, fgX, feX, fzX, fxX, fbX]
      refine ⟨rest2.length, hk, ks ++ [.mk (.mk tk to ta tks) tcs tkk], rest2, by rw [hts]; simp, rfl, q2, hS2, rfl, rfl, by omega, by omega, .inr ⟨_, ?_, ?_, ?_, ?_, (by rw [List.length_append]; rfl), ?_⟩⟩
      · simp [armRows_append, armRows, Arm.row]
      · omega
      · omega
      · omega
      · simp [armRows_append, armRows, Arm.row, fgX]; try rfl


theorem elsWt_le {W : Nat} : ∀ {l : List El}, (∀ t ∈ l, t.wt ≤ W) → elsWt l ≤ l.length * W
  | [], h => by simp [elsWt]
  | a :: r, h => by
    have h1 := h a (List.mem_cons_self ..)
    have h2 := elsWt_le fun t ht => h t (List.mem_cons_of_mem _ ht)
    simp only [elsWt, List.length_cons, Nat.add_mul]; omega
theorem armsWt_le {W : Nat} : ∀ {l : List Arm}, (∀ t ∈ l, t.wt ≤ W) → armsWt l ≤ l.length * W
  | [], h => by simp [armsWt]
  | a :: r, h => by
    have h1 := h a (List.mem_cons_self ..)
    have h2 := armsWt_le fun t ht => h t (List.mem_cons_of_mem _ ht)
    simp only [armsWt, List.length_cons, Nat.add_mul]; omega
/-- The net of a drawn arm. -/
theorem netStage {b : List Int} (hb : RD b) (root : Bool) (n : Nat) (hn : 25 ≤ n) (p : Nat) (hp : p + 4000 < 2 ^ 34) : ∃ (t : Net) (q : Nat), t.wt ≤ 64 ∧ q ≤ p + 641 ∧
    ((root = true ∧ ∀ s, go n 115 [pV, iV 2] [rB b p] s = some ⟨netX t, [rB b q], []⟩) ∨
     (root = false ∧ ∃ v q0, (∀ s, go n 67 [pV, iV 3] [rB b p] s = some ⟨iV v, [rB b q0], []⟩) ∧ 0 < v ∧ ∀ s, go n 115 [pV, iV 2] [rB b q0] s = some ⟨netX t, [rB b q], []⟩) ∨
     (root = false ∧ ∃ v, (∀ s, go n 67 [pV, iV 3] [rB b p] s = some ⟨iV v, [rB b q], []⟩) ∧ ¬ 0 < v ∧ t.kind = 0 ∧ t.op = 0 ∧ t.as = [] ∧ t.kids = [])) := by
  cases root
  · obtain ⟨v, q0, h1, h2, h3, w⟩ := draw_pick hb 3 p (by omega) n (by omega)
    by_cases hv : 0 < v
    · obtain ⟨t, q, g1, g2, w2⟩ := draw_Net hb 2 (by omega) n (by omega) q0 (by omega)
      exact ⟨t, q, by omega, by omega, .inr (.inl ⟨rfl, v, q0, w, hv, w2⟩)⟩
    · exact ⟨.mk 0 0 [] [], q0, by simp [Net.wt, netsWt], by omega, .inr (.inr ⟨rfl, v, w, hv, rfl, rfl, rfl, rfl⟩)⟩
  · obtain ⟨t, q, g1, g2, w2⟩ := draw_Net hb 2 (by omega) n (by omega) p (by omega)
    exact ⟨t, q, by omega, by omega, .inl ⟨rfl, w2⟩⟩

theorem draw_ArmS {b : List Int} (hb : RD b) : ∀ (d : Nat), d ≤ 2 → ∀ (n : Nat), d + 40 ≤ n → ∀ p, p + 4000 * 4 ^ d < 2 ^ 34 → ∀ root : Bool, ∃ (t : Arm) (q : Nat), t.wt ≤ 200 * 4 ^ d ∧ q ≤ p + 2000 * 4 ^ d ∧ ∀ s, go n 178 [pV, iV d, bV root] [rB b p] s = some ⟨armX t, [rB b q], []⟩ := by
  intro d
  induction d with
  | zero =>
    intro _ n hn p hp root
    obtain ⟨n, rfl⟩ : ∃ k, n = k + 1 := ⟨n - 1, by omega⟩
    have rm1 : room 1 32 = true := by decide
    obtain ⟨t1, q1, ht1, hq1, hs1⟩ := netStage hb root n (by omega) p (by omega)
    obtain ⟨tk, to, ta, tks⟩ := t1
    obtain ⟨m, q2, m1, m2, m3, wm⟩ := draw_pick hb 3 q1 (by omega) n (by omega)
    have m2 := m2 (by omega)
    obtain ⟨M, rfl⟩ : ∃ M : Nat, m = M := ⟨m.toNat, by omega⟩
    obtain ⟨es, r, k1, k2, k3, hS⟩ := Seq.have (R := CoilR b n) (wt := El.wt) (W := 4) (P := 40) (B := 2 ^ 35) (fun p hp => by
      obtain ⟨e, q, h1, h2, h3⟩ := draw_Coil hb p (by omega) n (by omega)
      exact ⟨e, q, by simp only [El.wt]; omega, h2, h3⟩) M q2 (by omega)
    have hew := elsWt_le k2
    have hesL : es.length ≤ 2 := by omega
    have hlt0 : (0 : Int) < 0 ↔ False := by simp
    by_cases hes : es = []
    · have hesl : es.length = 0 := by rw [hes]; rfl
      obtain ⟨⟨eo, ea⟩, q5, g1, g2, w5⟩ := draw_Coil hb r (by omega) n (by omega)
      simp only at g1
      refine ⟨.mk (.mk tk to ta tks) [⟨eo, ea⟩] [], q5, by simp only [Arm.wt, elsWt, armsWt, El.wt]; omega, by omega, fun s => ?_⟩
      rcases hs1 with ⟨rfl, w1⟩ | ⟨rfl, v, q0, w0, hv, w1⟩ | ⟨rfl, v, w0, hv, rfl, rfl, rfl, rfl⟩
      · simp [go_of FT_178 rfl, F178, w1, wm]
        generalize hst : St.mk _ _ _ _ = st
        obtain ⟨e1, ⟨τ1, H1, g1, s1⟩, hx1, -, rfl, f0, f1, f2, f6, f7, fA, fC, fX, fbc, fg, cw, fB, fS⟩ := loop178_0 (n := n) (iV (0 : Nat)) (iW tk) (iW to) (asW ta) (nsW tks) .nil (bV true) (.cells [iW 0, iW 0, .nil, .nil, .nil, .nil]) (.cells [iW 0, iW 0, .nil, .nil, .nil, .nil]) 1 129 es r (by omega) (by omega) (by omega) (by omega) (by omega) st q2 hS (by simp [← hst]) (by simp [← hst]) (by simp [← hst]) (by simp [← hst]) (by simp [← hst]) (by simp [← hst, k1]) (by simp [← hst]) (by simp [← hst]) (by simp [← hst]) (by simp [← hst]) (by simp [← hst]) (by simp [← hst])
        simp only at f0 f1 f2 f6 f7 fA fC fX fbc fg fB fS
        clear hst
        obtain rfl : cw = .nil := by
          rcases fS with ⟨_, h⟩ | ⟨_, h, _⟩
          · exact h
          · exact absurd (by subst hes; rfl) h
        have fgX := far (show 129 < g1 by omega)
        have feX := far (show 1 < g1 by omega)
        have fzX := far (show 0 < g1 by omega)
        simp [hx1, f0, f1, f2, f6, f7, fA, fC, fB, w5, hesl, hlt0, rm1, fgX, feX, fzX]
        try simp [elRows, El.row]
      · simp [go_of FT_178 rfl, F178, w0, hv, w1, wm]
        generalize hst : St.mk _ _ _ _ = st
        obtain ⟨e1, ⟨τ1, H1, g1, s1⟩, hx1, -, rfl, f0, f1, f2, f6, f7, fA, fC, fX, fbc, fg, cw, fB, fS⟩ := loop178_0 (n := n) (iV (0 : Nat)) (iW tk) (iW to) (asW ta) (nsW tks) .nil (bV false) (.cells [iW 0, iW 0, .nil, .nil, .nil, .nil]) (.cells [iW 0, iW 0, .nil, .nil, .nil, .nil]) 1 129 es r (by omega) (by omega) (by omega) (by omega) (by omega) st q2 hS (by simp [← hst]) (by simp [← hst]) (by simp [← hst]) (by simp [← hst]) (by simp [← hst]) (by simp [← hst, k1]) (by simp [← hst]) (by simp [← hst]) (by simp [← hst]) (by simp [← hst]) (by simp [← hst]) (by simp [← hst])
        simp only at f0 f1 f2 f6 f7 fA fC fX fbc fg fB fS
        clear hst
        obtain rfl : cw = .nil := by
          rcases fS with ⟨_, h⟩ | ⟨_, h, _⟩
          · exact h
          · exact absurd (by subst hes; rfl) h
        have fgX := far (show 129 < g1 by omega)
        have feX := far (show 1 < g1 by omega)
        have fzX := far (show 0 < g1 by omega)
        simp [hx1, f0, f1, f2, f6, f7, fA, fC, fB, w5, hesl, hlt0, rm1, fgX, feX, fzX]
        try simp [elRows, El.row]
      · simp [go_of FT_178 rfl, F178, w0, hv, wm]
        generalize hst : St.mk _ _ _ _ = st
        obtain ⟨e1, ⟨τ1, H1, g1, s1⟩, hx1, -, rfl, f0, f1, f2, f6, f7, fA, fC, fX, fbc, fg, cw, fB, fS⟩ := loop178_0 (n := n) (iV (0 : Nat)) (iW 0) (iW 0) .nil .nil .nil (bV false) (.cells [iW 0, iW 0, .nil, .nil, .nil, .nil]) (.cells [iW 0, iW 0, .nil, .nil, .nil, .nil]) 1 129 es r (by omega) (by omega) (by omega) (by omega) (by omega) st q2 hS (by simp [← hst]) (by simp [← hst]) (by simp [← hst]) (by simp [← hst]) (by simp [← hst]) (by simp [← hst, k1]) (by simp [← hst]) (by simp [← hst]) (by simp [← hst]) (by simp [← hst]) (by simp [← hst]) (by simp [← hst])
        simp only at f0 f1 f2 f6 f7 fA fC fX fbc fg fB fS
        clear hst
        obtain rfl : cw = .nil := by
          rcases fS with ⟨_, h⟩ | ⟨_, h, _⟩
          · exact h
          · exact absurd (by subst hes; rfl) h
        have fgX := far (show 129 < g1 by omega)
        have feX := far (show 1 < g1 by omega)
        have fzX := far (show 0 < g1 by omega)
        simp [hx1, f0, f1, f2, f6, f7, fA, fC, fB, w5, hesl, hlt0, rm1, fgX, feX, fzX]
        try simp [elRows, El.row]
    · have hesl : ¬ es.length = 0 := fun e => hes (List.eq_nil_of_length_eq_zero e)
      have hes : elRows es ≠ [] := by cases es with | nil => exact absurd rfl hes | cons a l => simp [elRows]
      refine ⟨.mk (.mk tk to ta tks) es [], r, by simp only [Arm.wt, armsWt]; omega, by omega, fun s => ?_⟩
      rcases hs1 with ⟨rfl, w1⟩ | ⟨rfl, v, q0, w0, hv, w1⟩ | ⟨rfl, v, w0, hv, rfl, rfl, rfl, rfl⟩
      · simp [go_of FT_178 rfl, F178, w1, wm]
        generalize hst : St.mk _ _ _ _ = st
        obtain ⟨e1, ⟨τ1, H1, g1, s1⟩, hx1, -, rfl, f0, f1, f2, f6, f7, fA, fC, fX, fbc, fg, cw, fB, fS⟩ := loop178_0 (n := n) (iV (0 : Nat)) (iW tk) (iW to) (asW ta) (nsW tks) .nil (bV true) (.cells [iW 0, iW 0, .nil, .nil, .nil, .nil]) (.cells [iW 0, iW 0, .nil, .nil, .nil, .nil]) 1 129 es r (by omega) (by omega) (by omega) (by omega) (by omega) st q2 hS (by simp [← hst]) (by simp [← hst]) (by simp [← hst]) (by simp [← hst]) (by simp [← hst]) (by simp [← hst, k1]) (by simp [← hst]) (by simp [← hst]) (by simp [← hst]) (by simp [← hst]) (by simp [← hst]) (by simp [← hst])
        simp only at f0 f1 f2 f6 f7 fA fC fX fbc fg fB fS
        clear hst
        obtain ⟨bx, -, hb0, hb1, hb2, rfl, hBX⟩ : ∃ bx, elRows es ≠ [] ∧ bx ≠ 1 ∧ 129 < bx ∧ bx < g1 ∧ cw = .own bx 0 es.length none ∧ H1 bx = .row none 2 (elRows es) 0 := by
          rcases fS with ⟨h, _⟩ | h
          · exact absurd h hes
          · exact h
        have b1 : (129 = bx) = False := eq_false (by omega)
        have b2 : (1 = bx) = False := eq_false (by omega)
        have b3 : (0 = bx) = False := eq_false (by omega)
        have b4 : (bx = 129) = False := eq_false (by omega)
        have b5 : (bx = 0) = False := eq_false (by omega)
        have b6 : (bx = 1) = False := eq_false (by omega)
        have fgX := far (show 129 < g1 by omega)
        have feX := far (show 1 < g1 by omega)
        have fzX := far (show 0 < g1 by omega)
        have fbX := far (show bx < g1 by omega)
        simp [hx1, f0, f1, f2, f6, f7, fA, fC, fB, hBX, b1, b2, b3, b4, b5, b6, hes, hesl, hlt0, rm1, fgX, feX, fzX, fbX]
      · simp [go_of FT_178 rfl, F178, w0, hv, w1, wm]
        generalize hst : St.mk _ _ _ _ = st
        obtain ⟨e1, ⟨τ1, H1, g1, s1⟩, hx1, -, rfl, f0, f1, f2, f6, f7, fA, fC, fX, fbc, fg, cw, fB, fS⟩ := loop178_0 (n := n) (iV (0 : Nat)) (iW tk) (iW to) (asW ta) (nsW tks) .nil (bV false) (.cells [iW 0, iW 0, .nil, .nil, .nil, .nil]) (.cells [iW 0, iW 0, .nil, .nil, .nil, .nil]) 1 129 es r (by omega) (by omega) (by omega) (by omega) (by omega) st q2 hS (by simp [← hst]) (by simp [← hst]) (by simp [← hst]) (by simp [← hst]) (by simp [← hst]) (by simp [← hst, k1]) (by simp [← hst]) (by simp [← hst]) (by simp [← hst]) (by simp [← hst]) (by simp [← hst]) (by simp [← hst])
        simp only at f0 f1 f2 f6 f7 fA fC fX fbc fg fB fS
        clear hst
        obtain ⟨bx, -, hb0, hb1, hb2, rfl, hBX⟩ : ∃ bx, elRows es ≠ [] ∧ bx ≠ 1 ∧ 129 < bx ∧ bx < g1 ∧ cw = .own bx 0 es.length none ∧ H1 bx = .row none 2 (elRows es) 0 := by
          rcases fS with ⟨h, _⟩ | h
          · exact absurd h hes
          · exact h
        have b1 : (129 = bx) = False := eq_false (by omega)
        have b2 : (1 = bx) = False := eq_false (by omega)
        have b3 : (0 = bx) = False := eq_false (by omega)
        have b4 : (bx = 129) = False := eq_false (by omega)
        have b5 : (bx = 0) = False := eq_false (by omega)
        have b6 : (bx = 1) = False := eq_false (by omega)
        have fgX := far (show 129 < g1 by omega)
        have feX := far (show 1 < g1 by omega)
        have fzX := far (show 0 < g1 by omega)
        have fbX := far (show bx < g1 by omega)
        simp [hx1, f0, f1, f2, f6, f7, fA, fC, fB, hBX, b1, b2, b3, b4, b5, b6, hes, hesl, hlt0, rm1, fgX, feX, fzX, fbX]
      · simp [go_of FT_178 rfl, F178, w0, hv, wm]
        generalize hst : St.mk _ _ _ _ = st
        obtain ⟨e1, ⟨τ1, H1, g1, s1⟩, hx1, -, rfl, f0, f1, f2, f6, f7, fA, fC, fX, fbc, fg, cw, fB, fS⟩ := loop178_0 (n := n) (iV (0 : Nat)) (iW 0) (iW 0) .nil .nil .nil (bV false) (.cells [iW 0, iW 0, .nil, .nil, .nil, .nil]) (.cells [iW 0, iW 0, .nil, .nil, .nil, .nil]) 1 129 es r (by omega) (by omega) (by omega) (by omega) (by omega) st q2 hS (by simp [← hst]) (by simp [← hst]) (by simp [← hst]) (by simp [← hst]) (by simp [← hst]) (by simp [← hst, k1]) (by simp [← hst]) (by simp [← hst]) (by simp [← hst]) (by simp [← hst]) (by simp [← hst]) (by simp [← hst])
        simp only at f0 f1 f2 f6 f7 fA fC fX fbc fg fB fS
        clear hst
        obtain ⟨bx, -, hb0, hb1, hb2, rfl, hBX⟩ : ∃ bx, elRows es ≠ [] ∧ bx ≠ 1 ∧ 129 < bx ∧ bx < g1 ∧ cw = .own bx 0 es.length none ∧ H1 bx = .row none 2 (elRows es) 0 := by
          rcases fS with ⟨h, _⟩ | h
          · exact absurd h hes
          · exact h
        have b1 : (129 = bx) = False := eq_false (by omega)
        have b2 : (1 = bx) = False := eq_false (by omega)
        have b3 : (0 = bx) = False := eq_false (by omega)
        have b4 : (bx = 129) = False := eq_false (by omega)
        have b5 : (bx = 0) = False := eq_false (by omega)
        have b6 : (bx = 1) = False := eq_false (by omega)
        have fgX := far (show 129 < g1 by omega)
        have feX := far (show 1 < g1 by omega)
        have fzX := far (show 0 < g1 by omega)
        have fbX := far (show bx < g1 by omega)
        simp [hx1, f0, f1, f2, f6, f7, fA, fC, fB, hBX, b1, b2, b3, b4, b5, b6, hes, hesl, hlt0, rm1, fgX, feX, fzX, fbX]

  | succ d ih =>
    intro hd n hn p hp root
    have ih := ih (by omega)
    have hpow : 4 ^ (d + 1) = 4 * 4 ^ d := by rw [Nat.pow_succ, Nat.mul_comm]
    have hp1 : 1 ≤ 4 ^ d := Nat.pos_of_ne_zero (by simp)
    have hp2 : 4 ^ d ≤ 4 ^ 1 := Nat.pow_le_pow_right (by decide) (by omega)
    obtain ⟨n, rfl⟩ : ∃ k, n = k + 1 := ⟨n - 1, by omega⟩
    have rm1 : room 1 32 = true := by decide
    obtain ⟨t1, q1, ht1, hq1, hs1⟩ := netStage hb root n (by omega) p (by omega)
    obtain ⟨tk, to, ta, tks⟩ := t1
    obtain ⟨m, q2, m1, m2, m3, wm⟩ := draw_pick hb 3 q1 (by omega) n (by omega)
    have m2 := m2 (by omega)
    obtain ⟨M, rfl⟩ : ∃ M : Nat, m = M := ⟨m.toNat, by omega⟩
    obtain ⟨es, r, k1, k2, k3, hS⟩ := Seq.have (R := CoilR b n) (wt := El.wt) (W := 4) (P := 40) (B := 2 ^ 35) (fun p hp => by
      obtain ⟨e, q, h1, h2, h3⟩ := draw_Coil hb p (by omega) n (by omega)
      exact ⟨e, q, by simp only [El.wt]; omega, h2, h3⟩) M q2 (by omega)
    have hew := elsWt_le k2
    have hesL : es.length ≤ 2 := by omega
    have hlt0 : ((0 : Int) < (d : Int) + 1) = True := eq_true (by omega)
    have hdw : IntKind.wrap .i64 ((d : Int) + 1 - 1) = d := by rw [Int.add_sub_cancel]; exact wrap_id (by omega) (by omega)
    obtain ⟨u, q3, u1, u2, u3, wu⟩ := draw_pick hb 3 r (by omega) n (by omega)
    by_cases hu : u = 0
    · obtain ⟨u5, q4, u6, u7, u8, wu2⟩ := draw_pick hb 3 q3 (by omega) n (by omega)
      have u7 := u7 (by omega)
      obtain ⟨K, hK, hK1, hK2⟩ : ∃ K : Nat, u5 = (K : Int) - 1 ∧ 1 ≤ K ∧ K ≤ 3 := ⟨(u5 + 1).toNat, by omega, by omega, by omega⟩
      have hKw : IntKind.wrap .i64 (1 + u5) = (K : Int) := by rw [hK]; rw [wrap_id (by omega) (by omega)]; omega
      obtain ⟨ks, r2, kl, kw, kp, hS2⟩ := Seq.have (R := ArmR b n d) (wt := Arm.wt) (W := 200 * 4 ^ d) (P := 2000 * 4 ^ d) (B := 2 ^ 34 - 4000 * 4 ^ d) (fun p hp => ih n (by omega) p (by omega) false) K q4 (by
        have : K * (2000 * 4 ^ d) ≤ 3 * (2000 * 4 ^ d) := Nat.mul_le_mul hK2 (Nat.le_refl _)
        omega)
      have kww := armsWt_le kw
      have kw2 : ks.length * (200 * 4 ^ d) ≤ 3 * (200 * 4 ^ d) := Nat.mul_le_mul (by omega) (Nat.le_refl _)
      have kp2 : K * (2000 * 4 ^ d) ≤ 3 * (2000 * 4 ^ d) := Nat.mul_le_mul hK2 (Nat.le_refl _)
      rw [← hdw] at hS2
      have hks : armRows ks ≠ [] := by cases ks with | nil => simp at kl; omega | cons a l => simp [armRows]
      have hksl : ¬ ks.length = 0 := by omega
      by_cases hes : es = []
      · have hesl : es.length = 0 := by rw [hes]; rfl
        refine ⟨.mk (.mk tk to ta tks) es ks, r2, by rw [hpow]; simp only [Arm.wt]; omega, by rw [hpow]; omega, fun s => ?_⟩
        rcases hs1 with ⟨rfl, w1⟩ | ⟨rfl, v, q0, w0, hv, w1⟩ | ⟨rfl, v, w0, hv, rfl, rfl, rfl, rfl⟩
        · simp [go_of FT_178 rfl, F178, w1, wm]
          generalize hst : St.mk _ _ _ _ = st
          obtain ⟨e1, ⟨τ1, H1, g1, s1⟩, hx1, -, rfl, f0, f1, f2, f6, f7, fA, fC, fX, fbc, fg, cw, fB, fS⟩ := loop178_0 (n := n) (iV ((d : Int) + 1)) (iW tk) (iW to) (asW ta) (nsW tks) .nil (bV true) (.cells [iW 0, iW 0, .nil, .nil, .nil, .nil]) (.cells [iW 0, iW 0, .nil, .nil, .nil, .nil]) 1 129 es r (by omega) (by omega) (by omega) (by omega) (by omega) st q2 hS (by simp [← hst]) (by simp [← hst]) (by simp [← hst]) (by simp [← hst]) (by simp [← hst]) (by simp [← hst, k1]) (by simp [← hst]) (by simp [← hst]) (by simp [← hst]) (by simp [← hst]) (by simp [← hst]) (by simp [← hst])
          simp only at f0 f1 f2 f6 f7 fA fC fX fbc fg fB fS
          clear hst
          obtain rfl : cw = .nil := by
            rcases fS with ⟨_, h⟩ | ⟨_, h, _⟩
            · exact h
            · exact absurd (by subst hes; rfl) h
          simp [hx1, f0, f1, f2, f6, f7, fA, fC, fB, wu, wu2, hu, hKw, hlt0]
          generalize hst : St.mk _ _ _ _ = st3
          obtain ⟨e3, ⟨τ3, H3, g3, s3⟩, hx3, -, rfl, i0, i1, i2, i6, i7, iA, iC, iX, ibc, ig, cw2, iB, iS⟩ := loop178_1 (n := n) ((d : Int) + 1) (iW tk) (iW to) (asW ta) (nsW tks) .nil (bV true) (.cells [iW 0, iW 0, .nil, .nil, .nil, .nil]) (.cells [iW 0, iW 0, .nil, .nil, .nil, .nil]) 1 129 ks r2 (by omega) (by omega) (by omega) (by omega) (by omega) st3 q4 hS2 (by simp [← hst, f0]) (by simp [← hst, f1]) (by simp [← hst, f2]) (by simp [← hst, f6]) (by simp [← hst, f7]) (by simp [← hst, kl]) (by simp [← hst]) (by simp [← hst, fC]) (by simp [← hst, fC, ]) (by simp [← hst]; try omega) (by simp [← hst, fB]) (by simp [← hst]; try omega)
          simp only at i0 i1 i2 i6 i7 iA iC iX ibc ig iB iS
          clear hst
          obtain ⟨by', -, hc0, hc1, hc2, rfl, hBY⟩ : ∃ by', armRows ks ≠ [] ∧ by' ≠ 1 ∧ 129 < by' ∧ by' < g3 ∧ cw2 = .own by' 0 ks.length none ∧ H3 by' = .row none 6 (armRows ks) 0 := by
            rcases iS with ⟨h, _⟩ | h
            · exact absurd h hks
            · exact h
          have c1 : (129 = by') = False := eq_false (by omega)
          have c2 : (1 = by') = False := eq_false (by omega)
          have c3 : (0 = by') = False := eq_false (by omega)
          have c4 : (by' = 129) = False := eq_false (by omega)
          have c5 : (by' = 0) = False := eq_false (by omega)
          have c6 : (by' = 1) = False := eq_false (by omega)
          simp [hx3, i0, i1, i2, i6, i7, iA, iC, iB, hBY, hesl, hksl, c1, c2, c3, c4, c5, c6]
          try simp [elRows, El.row]
          exact hes
        · simp [go_of FT_178 rfl, F178, w0, hv, w1, wm]
          generalize hst : St.mk _ _ _ _ = st
          obtain ⟨e1, ⟨τ1, H1, g1, s1⟩, hx1, -, rfl, f0, f1, f2, f6, f7, fA, fC, fX, fbc, fg, cw, fB, fS⟩ := loop178_0 (n := n) (iV ((d : Int) + 1)) (iW tk) (iW to) (asW ta) (nsW tks) .nil (bV false) (.cells [iW 0, iW 0, .nil, .nil, .nil, .nil]) (.cells [iW 0, iW 0, .nil, .nil, .nil, .nil]) 1 129 es r (by omega) (by omega) (by omega) (by omega) (by omega) st q2 hS (by simp [← hst]) (by simp [← hst]) (by simp [← hst]) (by simp [← hst]) (by simp [← hst]) (by simp [← hst, k1]) (by simp [← hst]) (by simp [← hst]) (by simp [← hst]) (by simp [← hst]) (by simp [← hst]) (by simp [← hst])
          simp only at f0 f1 f2 f6 f7 fA fC fX fbc fg fB fS
          clear hst
          obtain rfl : cw = .nil := by
            rcases fS with ⟨_, h⟩ | ⟨_, h, _⟩
            · exact h
            · exact absurd (by subst hes; rfl) h
          simp [hx1, f0, f1, f2, f6, f7, fA, fC, fB, wu, wu2, hu, hKw, hlt0]
          generalize hst : St.mk _ _ _ _ = st3
          obtain ⟨e3, ⟨τ3, H3, g3, s3⟩, hx3, -, rfl, i0, i1, i2, i6, i7, iA, iC, iX, ibc, ig, cw2, iB, iS⟩ := loop178_1 (n := n) ((d : Int) + 1) (iW tk) (iW to) (asW ta) (nsW tks) .nil (bV false) (.cells [iW 0, iW 0, .nil, .nil, .nil, .nil]) (.cells [iW 0, iW 0, .nil, .nil, .nil, .nil]) 1 129 ks r2 (by omega) (by omega) (by omega) (by omega) (by omega) st3 q4 hS2 (by simp [← hst, f0]) (by simp [← hst, f1]) (by simp [← hst, f2]) (by simp [← hst, f6]) (by simp [← hst, f7]) (by simp [← hst, kl]) (by simp [← hst]) (by simp [← hst, fC]) (by simp [← hst, fC, ]) (by simp [← hst]; try omega) (by simp [← hst, fB]) (by simp [← hst]; try omega)
          simp only at i0 i1 i2 i6 i7 iA iC iX ibc ig iB iS
          clear hst
          obtain ⟨by', -, hc0, hc1, hc2, rfl, hBY⟩ : ∃ by', armRows ks ≠ [] ∧ by' ≠ 1 ∧ 129 < by' ∧ by' < g3 ∧ cw2 = .own by' 0 ks.length none ∧ H3 by' = .row none 6 (armRows ks) 0 := by
            rcases iS with ⟨h, _⟩ | h
            · exact absurd h hks
            · exact h
          have c1 : (129 = by') = False := eq_false (by omega)
          have c2 : (1 = by') = False := eq_false (by omega)
          have c3 : (0 = by') = False := eq_false (by omega)
          have c4 : (by' = 129) = False := eq_false (by omega)
          have c5 : (by' = 0) = False := eq_false (by omega)
          have c6 : (by' = 1) = False := eq_false (by omega)
          simp [hx3, i0, i1, i2, i6, i7, iA, iC, iB, hBY, hesl, hksl, c1, c2, c3, c4, c5, c6]
          try simp [elRows, El.row]
          exact hes
        · simp [go_of FT_178 rfl, F178, w0, hv, wm]
          generalize hst : St.mk _ _ _ _ = st
          obtain ⟨e1, ⟨τ1, H1, g1, s1⟩, hx1, -, rfl, f0, f1, f2, f6, f7, fA, fC, fX, fbc, fg, cw, fB, fS⟩ := loop178_0 (n := n) (iV ((d : Int) + 1)) (iW 0) (iW 0) .nil .nil .nil (bV false) (.cells [iW 0, iW 0, .nil, .nil, .nil, .nil]) (.cells [iW 0, iW 0, .nil, .nil, .nil, .nil]) 1 129 es r (by omega) (by omega) (by omega) (by omega) (by omega) st q2 hS (by simp [← hst]) (by simp [← hst]) (by simp [← hst]) (by simp [← hst]) (by simp [← hst]) (by simp [← hst, k1]) (by simp [← hst]) (by simp [← hst]) (by simp [← hst]) (by simp [← hst]) (by simp [← hst]) (by simp [← hst])
          simp only at f0 f1 f2 f6 f7 fA fC fX fbc fg fB fS
          clear hst
          obtain rfl : cw = .nil := by
            rcases fS with ⟨_, h⟩ | ⟨_, h, _⟩
            · exact h
            · exact absurd (by subst hes; rfl) h
          simp [hx1, f0, f1, f2, f6, f7, fA, fC, fB, wu, wu2, hu, hKw, hlt0]
          generalize hst : St.mk _ _ _ _ = st3
          obtain ⟨e3, ⟨τ3, H3, g3, s3⟩, hx3, -, rfl, i0, i1, i2, i6, i7, iA, iC, iX, ibc, ig, cw2, iB, iS⟩ := loop178_1 (n := n) ((d : Int) + 1) (iW 0) (iW 0) .nil .nil .nil (bV false) (.cells [iW 0, iW 0, .nil, .nil, .nil, .nil]) (.cells [iW 0, iW 0, .nil, .nil, .nil, .nil]) 1 129 ks r2 (by omega) (by omega) (by omega) (by omega) (by omega) st3 q4 hS2 (by simp [← hst, f0]) (by simp [← hst, f1]) (by simp [← hst, f2]) (by simp [← hst, f6]) (by simp [← hst, f7]) (by simp [← hst, kl]) (by simp [← hst]) (by simp [← hst, fC]) (by simp [← hst, fC, ]) (by simp [← hst]; try omega) (by simp [← hst, fB]) (by simp [← hst]; try omega)
          simp only at i0 i1 i2 i6 i7 iA iC iX ibc ig iB iS
          clear hst
          obtain ⟨by', -, hc0, hc1, hc2, rfl, hBY⟩ : ∃ by', armRows ks ≠ [] ∧ by' ≠ 1 ∧ 129 < by' ∧ by' < g3 ∧ cw2 = .own by' 0 ks.length none ∧ H3 by' = .row none 6 (armRows ks) 0 := by
            rcases iS with ⟨h, _⟩ | h
            · exact absurd h hks
            · exact h
          have c1 : (129 = by') = False := eq_false (by omega)
          have c2 : (1 = by') = False := eq_false (by omega)
          have c3 : (0 = by') = False := eq_false (by omega)
          have c4 : (by' = 129) = False := eq_false (by omega)
          have c5 : (by' = 0) = False := eq_false (by omega)
          have c6 : (by' = 1) = False := eq_false (by omega)
          simp [hx3, i0, i1, i2, i6, i7, iA, iC, iB, hBY, hesl, hksl, c1, c2, c3, c4, c5, c6]
          try simp [elRows, El.row]
          exact hes
      · have hesl : ¬ es.length = 0 := fun e => hes (List.eq_nil_of_length_eq_zero e)
        have hes : elRows es ≠ [] := by cases es with | nil => exact absurd rfl hes | cons a l => simp [elRows]
        refine ⟨.mk (.mk tk to ta tks) es ks, r2, by rw [hpow]; simp only [Arm.wt]; omega, by rw [hpow]; omega, fun s => ?_⟩
        rcases hs1 with ⟨rfl, w1⟩ | ⟨rfl, v, q0, w0, hv, w1⟩ | ⟨rfl, v, w0, hv, rfl, rfl, rfl, rfl⟩
        · simp [go_of FT_178 rfl, F178, w1, wm]
          generalize hst : St.mk _ _ _ _ = st
          obtain ⟨e1, ⟨τ1, H1, g1, s1⟩, hx1, -, rfl, f0, f1, f2, f6, f7, fA, fC, fX, fbc, fg, cw, fB, fS⟩ := loop178_0 (n := n) (iV ((d : Int) + 1)) (iW tk) (iW to) (asW ta) (nsW tks) .nil (bV true) (.cells [iW 0, iW 0, .nil, .nil, .nil, .nil]) (.cells [iW 0, iW 0, .nil, .nil, .nil, .nil]) 1 129 es r (by omega) (by omega) (by omega) (by omega) (by omega) st q2 hS (by simp [← hst]) (by simp [← hst]) (by simp [← hst]) (by simp [← hst]) (by simp [← hst]) (by simp [← hst, k1]) (by simp [← hst]) (by simp [← hst]) (by simp [← hst]) (by simp [← hst]) (by simp [← hst]) (by simp [← hst])
          simp only at f0 f1 f2 f6 f7 fA fC fX fbc fg fB fS
          clear hst
          obtain ⟨bx, -, hb0, hb1, hb2, rfl, hBX⟩ : ∃ bx, elRows es ≠ [] ∧ bx ≠ 1 ∧ 129 < bx ∧ bx < g1 ∧ cw = .own bx 0 es.length none ∧ H1 bx = .row none 2 (elRows es) 0 := by
            rcases fS with ⟨h, _⟩ | h
            · exact absurd h hes
            · exact h
          have b1 : (129 = bx) = False := eq_false (by omega)
          have b2 : (1 = bx) = False := eq_false (by omega)
          have b3 : (0 = bx) = False := eq_false (by omega)
          have b4 : (bx = 129) = False := eq_false (by omega)
          have b5 : (bx = 0) = False := eq_false (by omega)
          have b6 : (bx = 1) = False := eq_false (by omega)
          simp [hx1, f0, f1, f2, f6, f7, fA, fC, fB, hBX, b1, b2, b3, b4, b5, b6, wu, wu2, hu, hKw, hlt0]
          generalize hst : St.mk _ _ _ _ = st3
          obtain ⟨e3, ⟨τ3, H3, g3, s3⟩, hx3, -, rfl, i0, i1, i2, i6, i7, iA, iC, iX, ibc, ig, cw2, iB, iS⟩ := loop178_1 (n := n) ((d : Int) + 1) (iW tk) (iW to) (asW ta) (nsW tks) (.own bx 0 es.length none) (bV true) (.cells [iW 0, iW 0, .nil, .nil, .nil, .nil]) (.row none 2 (elRows es) 0) bx 129 ks r2 (by omega) (by omega) (by omega) (by omega) (by omega) st3 q4 hS2 (by simp [← hst, f0]) (by simp [← hst, f1]) (by simp [← hst, f2]) (by simp [← hst, f6]) (by simp [← hst, f7]) (by simp [← hst, kl]) (by simp [← hst]) (by simp [← hst, fC]) (by simp [← hst, fC, hBX, b1, b2, b3, b4, b5, b6]) (by simp [← hst]; try omega) (by simp [← hst, fB]) (by simp [← hst]; try omega)
          simp only at i0 i1 i2 i6 i7 iA iC iX ibc ig iB iS
          clear hst
          obtain ⟨by', -, hc0, hc1, hc2, rfl, hBY⟩ : ∃ by', armRows ks ≠ [] ∧ by' ≠ bx ∧ 129 < by' ∧ by' < g3 ∧ cw2 = .own by' 0 ks.length none ∧ H3 by' = .row none 6 (armRows ks) 0 := by
            rcases iS with ⟨h, _⟩ | h
            · exact absurd h hks
            · exact h
          have c1 : (129 = by') = False := eq_false (by omega)
          have c2 : (1 = by') = False := eq_false (by omega)
          have c3 : (0 = by') = False := eq_false (by omega)
          have c4 : (by' = 129) = False := eq_false (by omega)
          have c5 : (by' = 0) = False := eq_false (by omega)
          have c6 : (by' = 1) = False := eq_false (by omega)
          have d1 : (bx = by') = False := eq_false (fun e => hc0 e.symm)
          have d2 : (by' = bx) = False := eq_false hc0
          simp [hx3, i0, i1, i2, i6, i7, iA, iC, iB, hBY, hesl, hksl, c1, c2, c3, c4, c5, c6, iX, b1, b2, b3, b4, b5, b6, d1, d2]
        · simp [go_of FT_178 rfl, F178, w0, hv, w1, wm]
          generalize hst : St.mk _ _ _ _ = st
          obtain ⟨e1, ⟨τ1, H1, g1, s1⟩, hx1, -, rfl, f0, f1, f2, f6, f7, fA, fC, fX, fbc, fg, cw, fB, fS⟩ := loop178_0 (n := n) (iV ((d : Int) + 1)) (iW tk) (iW to) (asW ta) (nsW tks) .nil (bV false) (.cells [iW 0, iW 0, .nil, .nil, .nil, .nil]) (.cells [iW 0, iW 0, .nil, .nil, .nil, .nil]) 1 129 es r (by omega) (by omega) (by omega) (by omega) (by omega) st q2 hS (by simp [← hst]) (by simp [← hst]) (by simp [← hst]) (by simp [← hst]) (by simp [← hst]) (by simp [← hst, k1]) (by simp [← hst]) (by simp [← hst]) (by simp [← hst]) (by simp [← hst]) (by simp [← hst]) (by simp [← hst])
          simp only at f0 f1 f2 f6 f7 fA fC fX fbc fg fB fS
          clear hst
          obtain ⟨bx, -, hb0, hb1, hb2, rfl, hBX⟩ : ∃ bx, elRows es ≠ [] ∧ bx ≠ 1 ∧ 129 < bx ∧ bx < g1 ∧ cw = .own bx 0 es.length none ∧ H1 bx = .row none 2 (elRows es) 0 := by
            rcases fS with ⟨h, _⟩ | h
            · exact absurd h hes
            · exact h
          have b1 : (129 = bx) = False := eq_false (by omega)
          have b2 : (1 = bx) = False := eq_false (by omega)
          have b3 : (0 = bx) = False := eq_false (by omega)
          have b4 : (bx = 129) = False := eq_false (by omega)
          have b5 : (bx = 0) = False := eq_false (by omega)
          have b6 : (bx = 1) = False := eq_false (by omega)
          simp [hx1, f0, f1, f2, f6, f7, fA, fC, fB, hBX, b1, b2, b3, b4, b5, b6, wu, wu2, hu, hKw, hlt0]
          generalize hst : St.mk _ _ _ _ = st3
          obtain ⟨e3, ⟨τ3, H3, g3, s3⟩, hx3, -, rfl, i0, i1, i2, i6, i7, iA, iC, iX, ibc, ig, cw2, iB, iS⟩ := loop178_1 (n := n) ((d : Int) + 1) (iW tk) (iW to) (asW ta) (nsW tks) (.own bx 0 es.length none) (bV false) (.cells [iW 0, iW 0, .nil, .nil, .nil, .nil]) (.row none 2 (elRows es) 0) bx 129 ks r2 (by omega) (by omega) (by omega) (by omega) (by omega) st3 q4 hS2 (by simp [← hst, f0]) (by simp [← hst, f1]) (by simp [← hst, f2]) (by simp [← hst, f6]) (by simp [← hst, f7]) (by simp [← hst, kl]) (by simp [← hst]) (by simp [← hst, fC]) (by simp [← hst, fC, hBX, b1, b2, b3, b4, b5, b6]) (by simp [← hst]; try omega) (by simp [← hst, fB]) (by simp [← hst]; try omega)
          simp only at i0 i1 i2 i6 i7 iA iC iX ibc ig iB iS
          clear hst
          obtain ⟨by', -, hc0, hc1, hc2, rfl, hBY⟩ : ∃ by', armRows ks ≠ [] ∧ by' ≠ bx ∧ 129 < by' ∧ by' < g3 ∧ cw2 = .own by' 0 ks.length none ∧ H3 by' = .row none 6 (armRows ks) 0 := by
            rcases iS with ⟨h, _⟩ | h
            · exact absurd h hks
            · exact h
          have c1 : (129 = by') = False := eq_false (by omega)
          have c2 : (1 = by') = False := eq_false (by omega)
          have c3 : (0 = by') = False := eq_false (by omega)
          have c4 : (by' = 129) = False := eq_false (by omega)
          have c5 : (by' = 0) = False := eq_false (by omega)
          have c6 : (by' = 1) = False := eq_false (by omega)
          have d1 : (bx = by') = False := eq_false (fun e => hc0 e.symm)
          have d2 : (by' = bx) = False := eq_false hc0
          simp [hx3, i0, i1, i2, i6, i7, iA, iC, iB, hBY, hesl, hksl, c1, c2, c3, c4, c5, c6, iX, b1, b2, b3, b4, b5, b6, d1, d2]
        · simp [go_of FT_178 rfl, F178, w0, hv, wm]
          generalize hst : St.mk _ _ _ _ = st
          obtain ⟨e1, ⟨τ1, H1, g1, s1⟩, hx1, -, rfl, f0, f1, f2, f6, f7, fA, fC, fX, fbc, fg, cw, fB, fS⟩ := loop178_0 (n := n) (iV ((d : Int) + 1)) (iW 0) (iW 0) .nil .nil .nil (bV false) (.cells [iW 0, iW 0, .nil, .nil, .nil, .nil]) (.cells [iW 0, iW 0, .nil, .nil, .nil, .nil]) 1 129 es r (by omega) (by omega) (by omega) (by omega) (by omega) st q2 hS (by simp [← hst]) (by simp [← hst]) (by simp [← hst]) (by simp [← hst]) (by simp [← hst]) (by simp [← hst, k1]) (by simp [← hst]) (by simp [← hst]) (by simp [← hst]) (by simp [← hst]) (by simp [← hst]) (by simp [← hst])
          simp only at f0 f1 f2 f6 f7 fA fC fX fbc fg fB fS
          clear hst
          obtain ⟨bx, -, hb0, hb1, hb2, rfl, hBX⟩ : ∃ bx, elRows es ≠ [] ∧ bx ≠ 1 ∧ 129 < bx ∧ bx < g1 ∧ cw = .own bx 0 es.length none ∧ H1 bx = .row none 2 (elRows es) 0 := by
            rcases fS with ⟨h, _⟩ | h
            · exact absurd h hes
            · exact h
          have b1 : (129 = bx) = False := eq_false (by omega)
          have b2 : (1 = bx) = False := eq_false (by omega)
          have b3 : (0 = bx) = False := eq_false (by omega)
          have b4 : (bx = 129) = False := eq_false (by omega)
          have b5 : (bx = 0) = False := eq_false (by omega)
          have b6 : (bx = 1) = False := eq_false (by omega)
          simp [hx1, f0, f1, f2, f6, f7, fA, fC, fB, hBX, b1, b2, b3, b4, b5, b6, wu, wu2, hu, hKw, hlt0]
          generalize hst : St.mk _ _ _ _ = st3
          obtain ⟨e3, ⟨τ3, H3, g3, s3⟩, hx3, -, rfl, i0, i1, i2, i6, i7, iA, iC, iX, ibc, ig, cw2, iB, iS⟩ := loop178_1 (n := n) ((d : Int) + 1) (iW 0) (iW 0) .nil .nil (.own bx 0 es.length none) (bV false) (.cells [iW 0, iW 0, .nil, .nil, .nil, .nil]) (.row none 2 (elRows es) 0) bx 129 ks r2 (by omega) (by omega) (by omega) (by omega) (by omega) st3 q4 hS2 (by simp [← hst, f0]) (by simp [← hst, f1]) (by simp [← hst, f2]) (by simp [← hst, f6]) (by simp [← hst, f7]) (by simp [← hst, kl]) (by simp [← hst]) (by simp [← hst, fC]) (by simp [← hst, fC, hBX, b1, b2, b3, b4, b5, b6]) (by simp [← hst]; try omega) (by simp [← hst, fB]) (by simp [← hst]; try omega)
          simp only at i0 i1 i2 i6 i7 iA iC iX ibc ig iB iS
          clear hst
          obtain ⟨by', -, hc0, hc1, hc2, rfl, hBY⟩ : ∃ by', armRows ks ≠ [] ∧ by' ≠ bx ∧ 129 < by' ∧ by' < g3 ∧ cw2 = .own by' 0 ks.length none ∧ H3 by' = .row none 6 (armRows ks) 0 := by
            rcases iS with ⟨h, _⟩ | h
            · exact absurd h hks
            · exact h
          have c1 : (129 = by') = False := eq_false (by omega)
          have c2 : (1 = by') = False := eq_false (by omega)
          have c3 : (0 = by') = False := eq_false (by omega)
          have c4 : (by' = 129) = False := eq_false (by omega)
          have c5 : (by' = 0) = False := eq_false (by omega)
          have c6 : (by' = 1) = False := eq_false (by omega)
          have d1 : (bx = by') = False := eq_false (fun e => hc0 e.symm)
          have d2 : (by' = bx) = False := eq_false hc0
          simp [hx3, i0, i1, i2, i6, i7, iA, iC, iB, hBY, hesl, hksl, c1, c2, c3, c4, c5, c6, iX, b1, b2, b3, b4, b5, b6, d1, d2]
    · by_cases hes : es = []
      · have hesl : es.length = 0 := by rw [hes]; rfl
        obtain ⟨⟨eo, ea⟩, q5, g1, g2, w5⟩ := draw_Coil hb q3 (by omega) n (by omega)
        simp only at g1
        refine ⟨.mk (.mk tk to ta tks) [⟨eo, ea⟩] [], q5, by rw [hpow]; simp only [Arm.wt, elsWt, armsWt, El.wt]; omega, by rw [hpow]; omega, fun s => ?_⟩
        rcases hs1 with ⟨rfl, w1⟩ | ⟨rfl, v, q0, w0, hv, w1⟩ | ⟨rfl, v, w0, hv, rfl, rfl, rfl, rfl⟩
        · simp [go_of FT_178 rfl, F178, w1, wm]
          generalize hst : St.mk _ _ _ _ = st
          obtain ⟨e1, ⟨τ1, H1, g1, s1⟩, hx1, -, rfl, f0, f1, f2, f6, f7, fA, fC, fX, fbc, fg, cw, fB, fS⟩ := loop178_0 (n := n) (iV ((d : Int) + 1)) (iW tk) (iW to) (asW ta) (nsW tks) .nil (bV true) (.cells [iW 0, iW 0, .nil, .nil, .nil, .nil]) (.cells [iW 0, iW 0, .nil, .nil, .nil, .nil]) 1 129 es r (by omega) (by omega) (by omega) (by omega) (by omega) st q2 hS (by simp [← hst]) (by simp [← hst]) (by simp [← hst]) (by simp [← hst]) (by simp [← hst]) (by simp [← hst, k1]) (by simp [← hst]) (by simp [← hst]) (by simp [← hst]) (by simp [← hst]) (by simp [← hst]) (by simp [← hst])
          simp only at f0 f1 f2 f6 f7 fA fC fX fbc fg fB fS
          clear hst
          obtain rfl : cw = .nil := by
            rcases fS with ⟨_, h⟩ | ⟨_, h, _⟩
            · exact h
            · exact absurd (by subst hes; rfl) h
          have fgX := far (show 129 < g1 by omega)
          have feX := far (show 1 < g1 by omega)
          have fzX := far (show 0 < g1 by omega)
          simp [hx1, f0, f1, f2, f6, f7, fA, fC, fB, wu, hu, w5, hesl, hlt0, rm1, fgX, feX, fzX]
          try simp [elRows, El.row]
        · simp [go_of FT_178 rfl, F178, w0, hv, w1, wm]
          generalize hst : St.mk _ _ _ _ = st
          obtain ⟨e1, ⟨τ1, H1, g1, s1⟩, hx1, -, rfl, f0, f1, f2, f6, f7, fA, fC, fX, fbc, fg, cw, fB, fS⟩ := loop178_0 (n := n) (iV ((d : Int) + 1)) (iW tk) (iW to) (asW ta) (nsW tks) .nil (bV false) (.cells [iW 0, iW 0, .nil, .nil, .nil, .nil]) (.cells [iW 0, iW 0, .nil, .nil, .nil, .nil]) 1 129 es r (by omega) (by omega) (by omega) (by omega) (by omega) st q2 hS (by simp [← hst]) (by simp [← hst]) (by simp [← hst]) (by simp [← hst]) (by simp [← hst]) (by simp [← hst, k1]) (by simp [← hst]) (by simp [← hst]) (by simp [← hst]) (by simp [← hst]) (by simp [← hst]) (by simp [← hst])
          simp only at f0 f1 f2 f6 f7 fA fC fX fbc fg fB fS
          clear hst
          obtain rfl : cw = .nil := by
            rcases fS with ⟨_, h⟩ | ⟨_, h, _⟩
            · exact h
            · exact absurd (by subst hes; rfl) h
          have fgX := far (show 129 < g1 by omega)
          have feX := far (show 1 < g1 by omega)
          have fzX := far (show 0 < g1 by omega)
          simp [hx1, f0, f1, f2, f6, f7, fA, fC, fB, wu, hu, w5, hesl, hlt0, rm1, fgX, feX, fzX]
          try simp [elRows, El.row]
        · simp [go_of FT_178 rfl, F178, w0, hv, wm]
          generalize hst : St.mk _ _ _ _ = st
          obtain ⟨e1, ⟨τ1, H1, g1, s1⟩, hx1, -, rfl, f0, f1, f2, f6, f7, fA, fC, fX, fbc, fg, cw, fB, fS⟩ := loop178_0 (n := n) (iV ((d : Int) + 1)) (iW 0) (iW 0) .nil .nil .nil (bV false) (.cells [iW 0, iW 0, .nil, .nil, .nil, .nil]) (.cells [iW 0, iW 0, .nil, .nil, .nil, .nil]) 1 129 es r (by omega) (by omega) (by omega) (by omega) (by omega) st q2 hS (by simp [← hst]) (by simp [← hst]) (by simp [← hst]) (by simp [← hst]) (by simp [← hst]) (by simp [← hst, k1]) (by simp [← hst]) (by simp [← hst]) (by simp [← hst]) (by simp [← hst]) (by simp [← hst]) (by simp [← hst])
          simp only at f0 f1 f2 f6 f7 fA fC fX fbc fg fB fS
          clear hst
          obtain rfl : cw = .nil := by
            rcases fS with ⟨_, h⟩ | ⟨_, h, _⟩
            · exact h
            · exact absurd (by subst hes; rfl) h
          have fgX := far (show 129 < g1 by omega)
          have feX := far (show 1 < g1 by omega)
          have fzX := far (show 0 < g1 by omega)
          simp [hx1, f0, f1, f2, f6, f7, fA, fC, fB, wu, hu, w5, hesl, hlt0, rm1, fgX, feX, fzX]
          try simp [elRows, El.row]
      · have hesl : ¬ es.length = 0 := fun e => hes (List.eq_nil_of_length_eq_zero e)
        have hes : elRows es ≠ [] := by cases es with | nil => exact absurd rfl hes | cons a l => simp [elRows]
        refine ⟨.mk (.mk tk to ta tks) es [], q3, by rw [hpow]; simp only [Arm.wt, armsWt]; omega, by rw [hpow]; omega, fun s => ?_⟩
        rcases hs1 with ⟨rfl, w1⟩ | ⟨rfl, v, q0, w0, hv, w1⟩ | ⟨rfl, v, w0, hv, rfl, rfl, rfl, rfl⟩
        · simp [go_of FT_178 rfl, F178, w1, wm]
          generalize hst : St.mk _ _ _ _ = st
          obtain ⟨e1, ⟨τ1, H1, g1, s1⟩, hx1, -, rfl, f0, f1, f2, f6, f7, fA, fC, fX, fbc, fg, cw, fB, fS⟩ := loop178_0 (n := n) (iV ((d : Int) + 1)) (iW tk) (iW to) (asW ta) (nsW tks) .nil (bV true) (.cells [iW 0, iW 0, .nil, .nil, .nil, .nil]) (.cells [iW 0, iW 0, .nil, .nil, .nil, .nil]) 1 129 es r (by omega) (by omega) (by omega) (by omega) (by omega) st q2 hS (by simp [← hst]) (by simp [← hst]) (by simp [← hst]) (by simp [← hst]) (by simp [← hst]) (by simp [← hst, k1]) (by simp [← hst]) (by simp [← hst]) (by simp [← hst]) (by simp [← hst]) (by simp [← hst]) (by simp [← hst])
          simp only at f0 f1 f2 f6 f7 fA fC fX fbc fg fB fS
          clear hst
          obtain ⟨bx, -, hb0, hb1, hb2, rfl, hBX⟩ : ∃ bx, elRows es ≠ [] ∧ bx ≠ 1 ∧ 129 < bx ∧ bx < g1 ∧ cw = .own bx 0 es.length none ∧ H1 bx = .row none 2 (elRows es) 0 := by
            rcases fS with ⟨h, _⟩ | h
            · exact absurd h hes
            · exact h
          have b1 : (129 = bx) = False := eq_false (by omega)
          have b2 : (1 = bx) = False := eq_false (by omega)
          have b3 : (0 = bx) = False := eq_false (by omega)
          have b4 : (bx = 129) = False := eq_false (by omega)
          have b5 : (bx = 0) = False := eq_false (by omega)
          have b6 : (bx = 1) = False := eq_false (by omega)
          have fgX := far (show 129 < g1 by omega)
          have feX := far (show 1 < g1 by omega)
          have fzX := far (show 0 < g1 by omega)
          have fbX := far (show bx < g1 by omega)
          simp [hx1, f0, f1, f2, f6, f7, fA, fC, fB, hBX, b1, b2, b3, b4, b5, b6, wu, hu, hes, hesl, hlt0, rm1, fgX, feX, fzX, fbX]
        · simp [go_of FT_178 rfl, F178, w0, hv, w1, wm]
          generalize hst : St.mk _ _ _ _ = st
          obtain ⟨e1, ⟨τ1, H1, g1, s1⟩, hx1, -, rfl, f0, f1, f2, f6, f7, fA, fC, fX, fbc, fg, cw, fB, fS⟩ := loop178_0 (n := n) (iV ((d : Int) + 1)) (iW tk) (iW to) (asW ta) (nsW tks) .nil (bV false) (.cells [iW 0, iW 0, .nil, .nil, .nil, .nil]) (.cells [iW 0, iW 0, .nil, .nil, .nil, .nil]) 1 129 es r (by omega) (by omega) (by omega) (by omega) (by omega) st q2 hS (by simp [← hst]) (by simp [← hst]) (by simp [← hst]) (by simp [← hst]) (by simp [← hst]) (by simp [← hst, k1]) (by simp [← hst]) (by simp [← hst]) (by simp [← hst]) (by simp [← hst]) (by simp [← hst]) (by simp [← hst])
          simp only at f0 f1 f2 f6 f7 fA fC fX fbc fg fB fS
          clear hst
          obtain ⟨bx, -, hb0, hb1, hb2, rfl, hBX⟩ : ∃ bx, elRows es ≠ [] ∧ bx ≠ 1 ∧ 129 < bx ∧ bx < g1 ∧ cw = .own bx 0 es.length none ∧ H1 bx = .row none 2 (elRows es) 0 := by
            rcases fS with ⟨h, _⟩ | h
            · exact absurd h hes
            · exact h
          have b1 : (129 = bx) = False := eq_false (by omega)
          have b2 : (1 = bx) = False := eq_false (by omega)
          have b3 : (0 = bx) = False := eq_false (by omega)
          have b4 : (bx = 129) = False := eq_false (by omega)
          have b5 : (bx = 0) = False := eq_false (by omega)
          have b6 : (bx = 1) = False := eq_false (by omega)
          have fgX := far (show 129 < g1 by omega)
          have feX := far (show 1 < g1 by omega)
          have fzX := far (show 0 < g1 by omega)
          have fbX := far (show bx < g1 by omega)
          simp [hx1, f0, f1, f2, f6, f7, fA, fC, fB, hBX, b1, b2, b3, b4, b5, b6, wu, hu, hes, hesl, hlt0, rm1, fgX, feX, fzX, fbX]
        · simp [go_of FT_178 rfl, F178, w0, hv, wm]
          generalize hst : St.mk _ _ _ _ = st
          obtain ⟨e1, ⟨τ1, H1, g1, s1⟩, hx1, -, rfl, f0, f1, f2, f6, f7, fA, fC, fX, fbc, fg, cw, fB, fS⟩ := loop178_0 (n := n) (iV ((d : Int) + 1)) (iW 0) (iW 0) .nil .nil .nil (bV false) (.cells [iW 0, iW 0, .nil, .nil, .nil, .nil]) (.cells [iW 0, iW 0, .nil, .nil, .nil, .nil]) 1 129 es r (by omega) (by omega) (by omega) (by omega) (by omega) st q2 hS (by simp [← hst]) (by simp [← hst]) (by simp [← hst]) (by simp [← hst]) (by simp [← hst]) (by simp [← hst, k1]) (by simp [← hst]) (by simp [← hst]) (by simp [← hst]) (by simp [← hst]) (by simp [← hst]) (by simp [← hst])
          simp only at f0 f1 f2 f6 f7 fA fC fX fbc fg fB fS
          clear hst
          obtain ⟨bx, -, hb0, hb1, hb2, rfl, hBX⟩ : ∃ bx, elRows es ≠ [] ∧ bx ≠ 1 ∧ 129 < bx ∧ bx < g1 ∧ cw = .own bx 0 es.length none ∧ H1 bx = .row none 2 (elRows es) 0 := by
            rcases fS with ⟨h, _⟩ | h
            · exact absurd h hes
            · exact h
          have b1 : (129 = bx) = False := eq_false (by omega)
          have b2 : (1 = bx) = False := eq_false (by omega)
          have b3 : (0 = bx) = False := eq_false (by omega)
          have b4 : (bx = 129) = False := eq_false (by omega)
          have b5 : (bx = 0) = False := eq_false (by omega)
          have b6 : (bx = 1) = False := eq_false (by omega)
          have fgX := far (show 129 < g1 by omega)
          have feX := far (show 1 < g1 by omega)
          have fzX := far (show 0 < g1 by omega)
          have fbX := far (show bx < g1 by omega)
          simp [hx1, f0, f1, f2, f6, f7, fA, fC, fB, hBX, b1, b2, b3, b4, b5, b6, wu, hu, hes, hesl, hlt0, rm1, fgX, feX, fzX, fbX]

end Go.VM

/- Draws: forks. Conditions: none. -/
namespace Go.VM
set_option linter.unusedSimpArgs false
set_option linter.unusedVariables false
set_option maxHeartbeats 16000000

structure FK where
  e1 : El
  e2 : El
  e3 : Option El
def FK.net (x : FK) : Net := match x.e3 with | some e => .mk 1 e.op e.as [] | none => .mk 0 0 [] []
def FK.step (o : Arm) (x : FK) : Arm := .mk x.net [] [o, .mk (.mk 1 x.e1.op x.e1.as []) [x.e2] []]
def forkF : Arm → List FK → Arm
  | o, [] => o
  | o, x :: r => forkF (x.step o) r
def FK.fine (x : FK) : Prop := x.e1.as.length ≤ 2 ∧ x.e2.as.length ≤ 3 ∧ ∀ e, x.e3 = some e → e.as.length ≤ 2
def FK.wt (x : FK) : Nat := x.e1.as.length + x.e2.as.length + (match x.e3 with | some e => e.as.length | none => 0)
theorem FK.step_wt (o : Arm) (x : FK) : (x.step o).wt ≤ o.wt + 6 + x.wt := by
  obtain ⟨⟨o1, a1⟩, ⟨o2, a2⟩, e3⟩ := x
  cases e3 <;> simp [FK.step, FK.net, FK.wt, Arm.wt, armsWt, Net.wt, netsWt, elsWt, El.wt] <;> omega
theorem forkF_wt : ∀ (l : List FK) (o : Arm) (W : Nat), (∀ x ∈ l, x.wt ≤ W) → (forkF o l).wt ≤ o.wt + l.length * (6 + W)
  | [], o, W, h => by simp [forkF]
  | x :: r, o, W, h => by
    have h1 := h x (List.mem_cons_self ..)
    have h2 := forkF_wt r (x.step o) W fun y hy => h y (List.mem_cons_of_mem _ hy)
    have h3 := x.step_wt o
    simp only [forkF, List.length_cons, Nat.add_mul]; omega
/-- One fork's draws. -/
def ForkR (b : List Int) (n : Nat) (p : Nat) (x : FK) (q : Nat) : Prop := ∃ q1 q2 q3 v, (∀ s, go n 134 [pV] [rB b p] s = some ⟨elX x.e1, [rB b q1], []⟩) ∧ (∀ s, go n 135 [pV] [rB b q1] s = some ⟨elX x.e2, [rB b q2], []⟩) ∧ (∀ s, go n 67 [pV, iV 2] [rB b q2] s = some ⟨iV v, [rB b q3], []⟩) ∧
  ((v = 0 ∧ ∃ e, x.e3 = some e ∧ ∀ s, go n 134 [pV] [rB b q3] s = some ⟨elX e, [rB b q], []⟩) ∨ (v ≠ 0 ∧ x.e3 = none ∧ q = q3))
theorem draw_FK {b : List Int} (hb : RD b) (p : Nat) (hp : p < 2 ^ 35) (n : Nat) (hn : 8 ≤ n) : ∃ (x : FK) (q : Nat), x.wt ≤ 7 ∧ q ≤ p + 100 ∧ ForkR b n p x q := by
  obtain ⟨e1, q1, g1, g2, w1⟩ := draw_Contact hb p (by omega) n (by omega)
  obtain ⟨e2, q2, g3, g4, w2⟩ := draw_Coil hb q1 (by omega) n (by omega)
  obtain ⟨v, q3, h1, h2, h3, w3⟩ := draw_pick hb 2 q2 (by omega) n (by omega)
  by_cases hv : v = 0
  · obtain ⟨e3, q4, g5, g6, w4⟩ := draw_Contact hb q3 (by omega) n (by omega)
    exact ⟨⟨e1, e2, some e3⟩, q4, by simp only [FK.wt]; omega, by omega, q1, q2, q3, v, w1, w2, w3, .inl ⟨hv, e3, rfl, w4⟩⟩
  · exact ⟨⟨e1, e2, none⟩, q3, by simp only [FK.wt]; omega, by omega, q1, q2, q3, v, w1, w2, w3, .inr ⟨hv, rfl, rfl⟩⟩

/-- How the arm lies that forks are built of. -/
def ForkAt (H : Nat → Box) (g : Nat) : Arm → Prop
  | .mk (.mk ok oo oa oks) cs ks => oks = [] ∧ ∃ bx aw, bx ≠ 513 ∧ bx ≠ 0 ∧ bx ≠ 1 ∧ bx < g ∧ (aw = asW oa ∨ (aw = .nil ∧ oa = [])) ∧
    ((H 513 = .cells [iW ok, iW oo, aw, .nil, .own bx 0 1 (some 1), .nil] ∧ cs.length = 1 ∧ ks = [] ∧ H bx = .row none 2 (elRows cs) 0) ∨
     (H 513 = .cells [iW ok, iW oo, aw, .nil, .nil, .own bx 0 2 (some 2)] ∧ cs = [] ∧ ks.length = 2 ∧ H bx = .row none 6 (armRows ks) 0))
theorem ForkAt.mono {H : Nat → Box} {g g' : Nat} (h : g ≤ g') : ∀ {o : Arm}, ForkAt H g o → ForkAt H g' o
  | .mk (.mk _ _ _ _) _ _, ⟨x, bx, aw, h1, h2, h3, h4, h5⟩ => ⟨x, bx, aw, h1, h2, h3, by omega, h5⟩

theorem ForkAt.kids {H : Nat → Box} {g : Nat} {ok oo : Int} {oa : List Arg} {x y : Arm} (aw : W) (bx : Nat) (h1 : bx ≠ 513) (h2 : bx ≠ 0) (h3 : bx ≠ 1) (h4 : bx < g) (haw : aw = asW oa ∨ (aw = .nil ∧ oa = []))
    (hB : H 513 = .cells [iW ok, iW oo, aw, .nil, .nil, .own bx 0 2 (some 2)]) (hX : H bx = .row none 6 (armRows [x, y]) 0) : ForkAt H g (.mk (.mk ok oo oa []) [] [x, y]) :=
  ⟨rfl, bx, aw, h1, h2, h3, h4, haw, .inr ⟨hB, rfl, rfl, hX⟩⟩

theorem loop177 {b : List Int} {n : Nat} (N : Nat) (es : List FK) (hN : N = es.length) (hNb : N ≤ 1000) (r : Nat) (hn : 1100 ≤ n) (o0 : Arm) (st : St) (p : Nat) (hS : Seq (ForkR b n) p es r)
    (h0 : st.τ 0 = pV) (h1 : st.τ 1 = iV N) (h4 : st.τ 4 = .w (.ptr 1 0)) (h5 : st.τ 5 = .w (.ptr 513 0)) (h6 : st.τ 6 = iV 0) (hA : st.H 0 = rB b p) (hC : st.H 1 = .cells [iW 0, iW 0, .nil, .nil, .nil, .nil]) (hB : ForkAt st.H st.g o0) (hg : 513 < st.g) :
    ∃ e st', execC (go n) mode GT false 41 n F177_L0 st = some (e, st') ∧ e ≠ .normal ∧ (e = .exit 0 ∧ st'.τ 0 = pV ∧ st'.τ 4 = .w (.ptr 1 0) ∧ st'.τ 5 = .w (.ptr 513 0) ∧ st'.H 0 = rB b r ∧ st'.H 1 = .cells [iW 0, iW 0, .nil, .nil, .nil, .nil] ∧ 513 < st'.g ∧
      ForkAt st'.H st'.g (forkF o0 es)) := by
  rw [F177_L0, execC_loop]
  refine iter_rule (fun k st => ∃ i o rest q, rest.length = k ∧ i + rest.length = N ∧ forkF o rest = forkF o0 es ∧ Seq (ForkR b n) q rest r ∧ st.τ 0 = pV ∧ st.τ 1 = iV N ∧ st.τ 4 = .w (.ptr 1 0) ∧ st.τ 5 = .w (.ptr 513 0) ∧ st.τ 6 = iV i ∧ st.H 0 = rB b q ∧
      st.H 1 = .cells [iW 0, iW 0, .nil, .nil, .nil, .nil] ∧ ForkAt st.H st.g o ∧ 513 < st.g) ?_ n es.length st (by omega)
    ⟨0, o0, es, p, rfl, by omega, rfl, hS, h0, h1, h4, h5, by simpa using h6, hA, hC, hB, hg⟩
  clear h0 h1 h4 h5 h6 hA hC hB hg hS
  rintro k ⟨τ, H, g, s⟩ ⟨i, o, rest, q, hr, hi, hst, hS, h0, h1, h4, h5, h6, hA, hC, hB, hg⟩
  simp only at h0 h1 h4 h5 h6 hA hC hB hg
  cases hS with
  | nil =>
    simp only [forkF] at hst
    subst hst
    have : i = N := by simpa using hi
    subst this
    refine ⟨.exit 0, ⟨upd (upd (upd τ 14 (iV i)) 15 (iV i)) 16 (.w (.d (.s (.bool false)))), H, g + 192, restS s⟩, ?_, by simp, fun _ => ⟨rfl, by simpa using h0, by simpa using h4, by simpa using h5, hA, hC, by simp only; omega, hB.mono (by simp only; omega)⟩⟩
    simp [F177_B0, h0, h1, h4, h5, h6]
  | @cons _ q2 _ x rest2 w hS2 =>
    obtain ⟨p1, p2, p3, v, w1, w2, w3, hfin⟩ := w
    simp only [List.length_cons] at hi hr
    have hlt : ((i : Int) < (N : Int)) = True := eq_true (by omega)
    have hltn : (i < N) = True := eq_true (by omega)
    have hwr := wrap_succ (i := i) (by omega)
    obtain ⟨⟨o1, a1⟩, ⟨o2, a2⟩, e3⟩ := x
    obtain ⟨⟨ok, oo, oa, oks⟩, cs, ks⟩ := o
    have hgo : forkF _ rest2 = forkF o0 es := hst
    obtain ⟨rfl, bx, aw, hb1, hb2, hb3, hb4, haw, hcase⟩ := hB
    have fgX := far (show 513 < g by omega)
    have feX := far (show 1 < g by omega)
    have fzX := far (show 0 < g by omega)
    have fbX := far hb4
    refine ⟨.normal, ?_⟩
    simp only at hfin w1 w2

    have b1 : (513 = bx) = False := eq_false (fun e => hb1 e.symm)
    have b2 : (1 = bx) = False := eq_false (fun e => hb3 e.symm)
    have b3 : (0 = bx) = False := eq_false (fun e => hb2 e.symm)
    have b4 : (bx = 513) = False := eq_false hb1
    have b5 : (bx = 0) = False := eq_false hb2
    have b6 : (bx = 1) = False := eq_false hb3
    rcases hfin with ⟨rfl, e3, rfl, w4⟩ | ⟨hv, rfl, rfl⟩
    · rcases haw with rfl | ⟨rfl, rfl⟩
      · rcases hcase with ⟨hB, hcl, rfl, hBX⟩ | ⟨hB, rfl, hkl, hBX⟩
        · have tkE : List.take 1 (elRows cs) = elRows cs := List.take_of_length_le (by rw [elRows_length]; omega)
          have h1l : 1 ≤ cs.length := by omega
          simp [-getElem?_pos, F177_B0, h0, h1, h4, h5, h6, hA, hC, hB, hBX, tkE, h1l, hcl, hlt, hltn, w1, w2, w3, w4, hwr, b1, b2, b3, b4, b5, b6, fgX, feX, fzX, fbX]
          refine ⟨rest2.length, by omega, i + 1, _, rest2, rfl, by omega, hgo, q2, hS2, by simp, rfl, ?_⟩
          exact ForkAt.kids (asW e3.as) (g + 192 + 512) (by omega) (by omega) (by omega) (by omega) (.inl rfl) (by simp; try rfl) (by simp [armRows, Arm.row, elRows, El.row, fgX]; try rfl)
        · have tkA : List.take 2 (armRows ks) = armRows ks := List.take_of_length_le (by rw [armRows_length]; omega)
          have h1l : 2 ≤ ks.length := by omega
          simp [-getElem?_pos, F177_B0, h0, h1, h4, h5, h6, hA, hC, hB, hBX, tkA, h1l, hkl, hlt, hltn, w1, w2, w3, w4, hwr, b1, b2, b3, b4, b5, b6, fgX, feX, fzX, fbX]
          refine ⟨rest2.length, by omega, i + 1, _, rest2, rfl, by omega, hgo, q2, hS2, by simp, rfl, ?_⟩
          exact ForkAt.kids (asW e3.as) (g + 192 + 512) (by omega) (by omega) (by omega) (by omega) (.inl rfl) (by simp; try rfl) (by simp [armRows, Arm.row, elRows, El.row, fgX]; try rfl)
      · rcases hcase with ⟨hB, hcl, rfl, hBX⟩ | ⟨hB, rfl, hkl, hBX⟩
        · have tkE : List.take 1 (elRows cs) = elRows cs := List.take_of_length_le (by rw [elRows_length]; omega)
          have h1l : 1 ≤ cs.length := by omega
          simp [-getElem?_pos, F177_B0, h0, h1, h4, h5, h6, hA, hC, hB, hBX, tkE, h1l, hcl, hlt, hltn, w1, w2, w3, w4, hwr, b1, b2, b3, b4, b5, b6, fgX, feX, fzX, fbX]
          refine ⟨rest2.length, by omega, i + 1, _, rest2, rfl, by omega, hgo, q2, hS2, by simp, rfl, ?_⟩
          exact ForkAt.kids (asW e3.as) (g + 192 + 512) (by omega) (by omega) (by omega) (by omega) (.inl rfl) (by simp; try rfl) (by simp [armRows, Arm.row, elRows, El.row, fgX]; try rfl)
        · have tkA : List.take 2 (armRows ks) = armRows ks := List.take_of_length_le (by rw [armRows_length]; omega)
          have h1l : 2 ≤ ks.length := by omega
          simp [-getElem?_pos, F177_B0, h0, h1, h4, h5, h6, hA, hC, hB, hBX, tkA, h1l, hkl, hlt, hltn, w1, w2, w3, w4, hwr, b1, b2, b3, b4, b5, b6, fgX, feX, fzX, fbX]
          refine ⟨rest2.length, by omega, i + 1, _, rest2, rfl, by omega, hgo, q2, hS2, by simp, rfl, ?_⟩
          exact ForkAt.kids (asW e3.as) (g + 192 + 512) (by omega) (by omega) (by omega) (by omega) (.inl rfl) (by simp; try rfl) (by simp [armRows, Arm.row, elRows, El.row, fgX]; try rfl)
    · rcases haw with rfl | ⟨rfl, rfl⟩
      · rcases hcase with ⟨hB, hcl, rfl, hBX⟩ | ⟨hB, rfl, hkl, hBX⟩
        · have tkE : List.take 1 (elRows cs) = elRows cs := List.take_of_length_le (by rw [elRows_length]; omega)
          have h1l : 1 ≤ cs.length := by omega
          simp [-getElem?_pos, F177_B0, h0, h1, h4, h5, h6, hA, hC, hB, hBX, tkE, h1l, hcl, hlt, hltn, w1, w2, w3, hv, hwr, b1, b2, b3, b4, b5, b6, fgX, feX, fzX, fbX]
          refine ⟨rest2.length, by omega, i + 1, _, rest2, rfl, by omega, hgo, q2, hS2, by simp, rfl, ?_⟩
          exact ForkAt.kids (.nil) (g + 192 + 512) (by omega) (by omega) (by omega) (by omega) (.inr ⟨rfl, rfl⟩) (by simp; try rfl) (by simp [armRows, Arm.row, elRows, El.row, fgX]; try rfl)
        · have tkA : List.take 2 (armRows ks) = armRows ks := List.take_of_length_le (by rw [armRows_length]; omega)
          have h1l : 2 ≤ ks.length := by omega
          simp [-getElem?_pos, F177_B0, h0, h1, h4, h5, h6, hA, hC, hB, hBX, tkA, h1l, hkl, hlt, hltn, w1, w2, w3, hv, hwr, b1, b2, b3, b4, b5, b6, fgX, feX, fzX, fbX]
          refine ⟨rest2.length, by omega, i + 1, _, rest2, rfl, by omega, hgo, q2, hS2, by simp, rfl, ?_⟩
          exact ForkAt.kids (.nil) (g + 192 + 512) (by omega) (by omega) (by omega) (by omega) (.inr ⟨rfl, rfl⟩) (by simp; try rfl) (by simp [armRows, Arm.row, elRows, El.row, fgX]; try rfl)
      · rcases hcase with ⟨hB, hcl, rfl, hBX⟩ | ⟨hB, rfl, hkl, hBX⟩
        · have tkE : List.take 1 (elRows cs) = elRows cs := List.take_of_length_le (by rw [elRows_length]; omega)
          have h1l : 1 ≤ cs.length := by omega
          simp [-getElem?_pos, F177_B0, h0, h1, h4, h5, h6, hA, hC, hB, hBX, tkE, h1l, hcl, hlt, hltn, w1, w2, w3, hv, hwr, b1, b2, b3, b4, b5, b6, fgX, feX, fzX, fbX]
          refine ⟨rest2.length, by omega, i + 1, _, rest2, rfl, by omega, hgo, q2, hS2, by simp, rfl, ?_⟩
          exact ForkAt.kids (.nil) (g + 192 + 512) (by omega) (by omega) (by omega) (by omega) (.inr ⟨rfl, rfl⟩) (by simp; try rfl) (by simp [armRows, Arm.row, elRows, El.row, fgX]; try rfl)
        · have tkA : List.take 2 (armRows ks) = armRows ks := List.take_of_length_le (by rw [armRows_length]; omega)
          have h1l : 2 ≤ ks.length := by omega
          simp [-getElem?_pos, F177_B0, h0, h1, h4, h5, h6, hA, hC, hB, hBX, tkA, h1l, hkl, hlt, hltn, w1, w2, w3, hv, hwr, b1, b2, b3, b4, b5, b6, fgX, feX, fzX, fbX]
          refine ⟨rest2.length, by omega, i + 1, _, rest2, rfl, by omega, hgo, q2, hS2, by simp, rfl, ?_⟩
          exact ForkAt.kids (.nil) (g + 192 + 512) (by omega) (by omega) (by omega) (by omega) (.inr ⟨rfl, rfl⟩) (by simp; try rfl) (by simp [armRows, Arm.row, elRows, El.row, fgX]; try rfl)


def Arm.setNet (e : El) : Arm → Arm | .mk _ cs ks => .mk (.mk 1 e.op e.as []) cs ks
theorem setNet_wt (e : El) (o : Arm) : (o.setNet e).wt ≤ o.wt + 1 + e.as.length := by
  obtain ⟨t, cs, ks⟩ := o
  have := t.wt_pos
  simp only [Arm.setNet, Arm.wt, Net.wt, netsWt]; omega
theorem draw_Forks {b : List Int} (hb : RD b) (N : Nat) (hN : N ≤ 100) (n : Nat) (hn : 1300 ≤ n) (p : Nat) (hp : p < 2 ^ 34) :
    ∃ (t : Arm) (q : Nat), t.wt ≤ 40 + 20 * N ∧ q ≤ p + 200 + 100 * N ∧ ∀ s, go n 177 [pV, iV N] [rB b p] s = some ⟨armX t, [rB b q], []⟩ := by
  obtain ⟨n, rfl⟩ : ∃ k, n = k + 1 := ⟨n - 1, by omega⟩
  obtain ⟨⟨eo, ea⟩, q1, g1, g2, w1⟩ := draw_Contact hb p (by omega) n (by omega)
  obtain ⟨⟨co, ca⟩, q2, g3, g4, w2⟩ := draw_Coil hb q1 (by omega) n (by omega)
  obtain ⟨es, r, k1, k2, k3, k4⟩ := Seq.have (R := ForkR b n) (wt := FK.wt) (W := 7) (P := 100) (B := 2 ^ 35) (fun p hp => draw_FK hb p hp n (by omega)) N q2 (by omega)
  obtain ⟨⟨fo, fa⟩, q3, g5, g6, w3⟩ := draw_Contact hb r (by omega) n (by omega)
  have hwt := forkF_wt es (.mk (.mk 1 eo ea []) [⟨co, ca⟩] []) 7 k2
  have hsw := setNet_wt ⟨fo, fa⟩ (forkF (.mk (.mk 1 eo ea []) [⟨co, ca⟩] []) es)
  simp only at g1 g3 g5
  refine ⟨(forkF (.mk (.mk 1 eo ea []) [⟨co, ca⟩] []) es).setNet ⟨fo, fa⟩, q3, ?_, by omega, fun s => ?_⟩
  · have e0 : (Arm.mk (.mk 1 eo ea []) [⟨co, ca⟩] []).wt ≤ 8 := by simp only [Arm.wt, Net.wt, netsWt, elsWt, El.wt, armsWt]; omega
    rw [k1] at hwt
    simp only at hsw
    omega
  simp [go_of FT_177 rfl, F177, w1, w2]
  generalize hst : St.mk _ _ _ _ = st
  obtain ⟨e, ⟨τ', H', g', s'⟩, hx, -, rfl, e0, e4, e5, eA, eC, eg, eB⟩ := loop177 N es (by omega) (by omega) r (by omega) (.mk (.mk 1 eo ea []) [⟨co, ca⟩] []) st q2 k4 (by simp [← hst]) (by simp [← hst]) (by simp [← hst]) (by simp [← hst]) (by simp [← hst]) (by simp [← hst]) (by simp [← hst]) (by subst hst; exact ⟨rfl, 385, asW ea, by decide, by decide, by decide, by simp, .inl rfl, .inl ⟨by simp, rfl, rfl, by simp [elRows, El.row]⟩⟩) (by simp [← hst])
  simp only at e0 e4 e5 eA eC eg eB
  clear hst
  generalize forkF (.mk (.mk 1 eo ea []) [⟨co, ca⟩] []) es = T at eB ⊢
  obtain ⟨⟨ok, oo, oa, oks⟩, cs, ks⟩ := T
  obtain ⟨rfl, bx, aw, hb1, hb2, hb3, hb4, haw, hcase⟩ := eB
  have b1 : (513 = bx) = False := eq_false (fun e => hb1 e.symm)
  have b2 : (1 = bx) = False := eq_false (fun e => hb3 e.symm)
  have b3 : (0 = bx) = False := eq_false (fun e => hb2 e.symm)
  have b4 : (bx = 513) = False := eq_false hb1
  have b5 : (bx = 0) = False := eq_false hb2
  have b6 : (bx = 1) = False := eq_false hb3
  have fgX := far (show 513 < g' by omega)
  have fzX := far (show 0 < g' by omega)
  have fbX := far hb4
  rcases haw with rfl | ⟨rfl, rfl⟩
  · rcases hcase with ⟨hB, hcl, rfl, hBX⟩ | ⟨hB, rfl, hkl, hBX⟩
    · have tkE : List.take 1 (elRows cs) = elRows cs := List.take_of_length_le (by rw [elRows_length]; omega)
      simp [hx, e0, e4, e5, eA, eC, hB, hBX, w3, tkE, hcl, b1, b2, b3, b4, b5, b6, Arm.setNet, fgX, fzX, fbX]
    · have tkA : List.take 2 (armRows ks) = armRows ks := List.take_of_length_le (by rw [armRows_length]; omega)
      simp [hx, e0, e4, e5, eA, eC, hB, hBX, w3, tkA, hkl, b1, b2, b3, b4, b5, b6, Arm.setNet, fgX, fzX, fbX]
  · rcases hcase with ⟨hB, hcl, rfl, hBX⟩ | ⟨hB, rfl, hkl, hBX⟩
    · have tkE : List.take 1 (elRows cs) = elRows cs := List.take_of_length_le (by rw [elRows_length]; omega)
      simp [hx, e0, e4, e5, eA, eC, hB, hBX, w3, tkE, hcl, b1, b2, b3, b4, b5, b6, Arm.setNet, fgX, fzX, fbX]
    · have tkA : List.take 2 (armRows ks) = armRows ks := List.take_of_length_le (by rw [armRows_length]; omega)
      simp [hx, e0, e4, e5, eA, eC, hB, hBX, w3, tkA, hkl, b1, b2, b3, b4, b5, b6, Arm.setNet, fgX, fzX, fbX]

end Go.VM

/- Draws: ladders that are right. Conditions: none. -/
namespace Go.VM
set_option linter.unusedSimpArgs false
set_option linter.unusedVariables false
set_option maxHeartbeats 16000000

def RootR (b : List Int) (n : Nat) (p : Nat) (t : Arm) (q : Nat) : Prop := ∀ s, go n 178 [pV, iV 2, bV true] [rB b p] s = some ⟨armX t, [rB b q], []⟩
/-- A slice of one's own: of a new box, or none yet. -/
def Held (H : Nat → Box) (g : Nat) (v : V) (ks : List Arm) : Prop := ∃ bx c, bx ≠ 0 ∧ bx < g ∧ v = .w (.own bx 0 ks.length c) ∧ H bx = .row none 6 (armRows ks) 0 ∧ (c = none ∨ (c = some 0 ∧ ks = []))
/-- A slice of one's own that was read. -/
def Kept (H : Nat → Box) (g : Nat) (v : V) (L : List Arm) (j : Nat) : Prop := ∃ bx c o m, bx ≠ 0 ∧ bx < g ∧ v = .w (.own bx 0 j c) ∧ H bx = .row o 6 (armRows L) m ∧ (o = none ∨ o = some 0)
def dropF (L : List Arm) : Nat → Nat
  | 0 => 0
  | j + 1 => if 400 < armsSize (L.take (j + 1)) then dropF L j else j + 1
theorem dropF_le (L : List Arm) : ∀ j, dropF L j ≤ j
  | 0 => Nat.le_refl _
  | j + 1 => by have := dropF_le L j; simp only [dropF]; split <;> omega
theorem armsWt_take_le (l : List Arm) (i : Nat) : armsWt (l.take i) ≤ armsWt l := by
  have := armsWt_append (l.take i) (l.drop i)
  rw [List.take_append_drop] at this; omega


theorem loop151_0 {b : List Int} {n : Nat} (ts : List Arm) (r : Nat) (h3l : ts.length ≤ 4) (hn : 8 ≤ n) (st : St) (p : Nat) (hS : Seq (RootR b n) p ts r)
    (h0 : st.τ 0 = pV) (h4 : st.τ 4 = iV ts.length) (hA : st.H 0 = rB b p) (hg : 0 < st.g) (h3 : Held st.H st.g (st.τ 3) []) :
    ∃ e st', execC (go n) mode GT false 61 n F151_L0 st = some (e, st') ∧ e ≠ .normal ∧ (e = .exit 1 ∧ st'.H 0 = rB b r ∧ 0 < st'.g ∧ Held st'.H st'.g (st'.τ 3) ts) := by
  rw [F151_L0, execC_loop]
  refine iter_rule (fun k st => ∃ ks rest q, ts = ks ++ rest ∧ rest.length = k ∧ Seq (RootR b n) q rest r ∧ st.τ 0 = pV ∧ st.τ 4 = iV rest.length ∧ st.H 0 = rB b q ∧ 0 < st.g ∧ Held st.H st.g (st.τ 3) ks) ?_ n ts.length st (by omega)
    ⟨[], ts, p, rfl, rfl, hS, h0, h4, hA, hg, h3⟩
  clear h0 h4 hA hg hS h3
  rintro k ⟨τ, H, g, s⟩ ⟨ks, rest, q, hts, hr, hS, h0, h4, hA, hg, bx, c, hb0, hb2, h3, hBX, hc⟩
  simp only at h0 h3 h4 hA hg hb2 hBX
  cases hS with
  | nil =>
    rw [List.append_nil] at hts
    subst hts
    refine ⟨.exit 1, ⟨upd (upd τ 38 (iV 0)) 39 (.w (.d (.s (.bool false)))), H, g + 128, restS s⟩, ?_, by simp, fun _ => ⟨rfl, hA, by simp only; omega, bx, c, hb0, by simp only; omega, by simpa using h3, hBX, hc⟩⟩
    simp [F151_B0, h0, h3, h4]
  | @cons _ q2 _ t rest2 w hS2 =>
    have w : ∀ s, _ := w
    have hlen : ts.length = ks.length + (rest2.length + 1) := by rw [hts]; simp
    have hlt : ((0 : Int) < (rest2.length : Int) + 1) = True := eq_true (by omega)
    have hwr : IntKind.wrap .i64 ((rest2.length : Int) + 1 - 1) = (rest2.length : Int) := by rw [Int.add_sub_cancel]; exact wrap_id (by omega) (by omega)
    have hwr2 : IntKind.wrap .i64 (rest2.length : Int) = (rest2.length : Int) := wrap_id (by omega) (by omega)
    obtain ⟨⟨tk, to, ta, tks⟩, tcs, tkk⟩ := t
    have fzX := far (show 0 < g by omega)
    have fbX := far hb2
    have rm : room (ks.length + 1) 112 = true := room_of (by omega) (by omega)
    have rm1 : room 1 112 = true := by decide
    have hk : rest2.length < k := by simp at hr; omega
    have b3 : (0 = bx) = False := eq_false (fun e => hb0 e.symm)
    have b5 : (bx = 0) = False := eq_false hb0
    refine ⟨.normal, ?_⟩
    rcases hc with rfl | ⟨rfl, rfl⟩
    · simp [-getElem?_pos, F151_B0, h0, h3, h4, hA, hBX, hlt, w, hwr, hwr2, rm, b3, b5, fzX, fbX]
      refine ⟨rest2.length, hk, ks ++ [.mk (.mk tk to ta tks) tcs tkk], rest2, by rw [hts]; simp, rfl, q2, hS2, rfl, rfl, _, none, ?_, ?_, (by rw [List.length_append]; rfl), ?_, .inl rfl⟩
      · omega
      · omega
      · simp [armRows_append, armRows, Arm.row]; try rfl
    · simp [-getElem?_pos, F151_B0, h0, h3, h4, hA, hBX, hlt, w, hwr, hwr2, rm1, armRows, b3, b5, fzX, fbX]
      refine ⟨rest2.length, hk, [.mk (.mk tk to ta tks) tcs tkk], rest2, by rw [hts]; simp, rfl, q2, hS2, rfl, rfl, _, none, ?_, ?_, rfl, ?_, .inl rfl⟩
      · omega
      · omega
      · simp [armRows_append, armRows, Arm.row]; try rfl

theorem loop151_1 {b : List Int} {n : Nat} (L : List Arm) (hn : L.length < n) (hL : armsWt L < 2 ^ 38) (hL4 : L.length ≤ 4) (hw : ∀ j, ∀ s, go n 107 [.w (.d (.l 0 (List.take j (armRows L))))] [] s = some ⟨iV (armsSize (L.take j)), [], []⟩) (st : St) (p : Nat)
    (hA : st.H 0 = rB b p) (hg : 0 < st.g) (h3 : Held st.H st.g (st.τ 3) L) :
    ∃ e st', execC (go n) mode GT false 61 n F151_L1 st = some (e, st') ∧ e ≠ .normal ∧ (e = .exit 3 ∧ st'.H 0 = rB b p ∧ Kept st'.H st'.g (st'.τ 3) L (dropF L L.length)) := by
  obtain ⟨bx, c, hb0, hb2, h3, hBX, hc⟩ := h3
  rw [F151_L1, execC_loop]
  refine iter_rule (fun k st => k ≤ L.length ∧ dropF L k = dropF L L.length ∧ st.H 0 = rB b p ∧ bx < st.g ∧ st.τ 3 = .w (.own bx 0 k c) ∧ ∃ o m, st.H bx = .row o 6 (armRows L) m ∧ (o = none ∨ o = some 0)) ?_ n L.length st (by omega)
    ⟨Nat.le_refl _, rfl, hA, hb2, h3, none, 0, hBX, .inl rfl⟩
  clear hA hg h3 hb2 hBX
  rintro k ⟨τ, H, g, s⟩ ⟨hk, hd, hA, hb2, h3, o, m, hBX, ho⟩
  simp only at h3 hA hb2 hBX
  have b3 : (0 = bx) = False := eq_false (fun e => hb0 e.symm)
  have b5 : (bx = 0) = False := eq_false hb0
  have fbX := far hb2
  cases k with
  | zero =>
    have hd : dropF L L.length = 0 := hd.symm
    refine ⟨.exit 3, ?_⟩
    simp [F151_B1, h3, hA, hd]
    exact ⟨bx, c, o, m, hb0, by omega, rfl, hBX, ho⟩
  | succ k =>
    have hki : ((0 : Int) < (k : Int) + 1) = True := eq_true (by omega)
    have hwk : IntKind.wrap .i64 (k : Int) = k := wrap_id (by omega) (by omega)
    have w := hw (k + 1)
    have hkL : k + 1 ≤ L.length := hk
    have hkL3 : k < L.length := hk
    have hkL2 : k ≤ L.length := by omega
    have hkk : ((k : Int) ≤ (k : Int) + 1) = True := eq_true (by omega)
    have hc2 : c = none := by
      rcases hc with h | ⟨_, h⟩
      · exact h
      · subst h; simp at hk
    subst hc2
    by_cases hz : 400 < armsSize (L.take (k + 1))
    · have hzi : ((400 : Int) < (armsSize (L.take (k + 1)) : Int)) = True := eq_true (by omega)
      have hd2 : dropF L k = dropF L L.length := by rw [← hd]; simp only [dropF]; rw [if_pos hz]
      refine ⟨.normal, ?_⟩
      rcases ho with rfl | rfl <;> simp [-getElem?_pos, F151_B1, h3, hA, hBX, hki, hwk, w, hz, hzi, hkL, hkL2, hkL3, hkk, b3, b5, fbX] <;> exact ⟨k, by omega, by omega, hd2, by omega, rfl⟩
    · have hzi : ((400 : Int) < (armsSize (L.take (k + 1)) : Int)) = False := eq_false (by omega)
      have hd2 : dropF L L.length = k + 1 := by rw [← hd]; simp only [dropF]; rw [if_neg hz]
      refine ⟨.exit 3, ?_⟩
      rcases ho with rfl | rfl <;> simp [-getElem?_pos, F151_B1, h3, hA, hBX, hki, hwk, w, hz, hzi, hkL, hkL2, hkL3, hkk, hd2, b3, b5, fbX] <;> exact ⟨bx, none, some 0, _, hb0, by omega, rfl, by simp; try rfl, .inr rfl⟩


theorem draw_Ladder {b : List Int} (hb : RD b) (n : Nat) (hn : 40000 ≤ n) (p : Nat) (hp : p < 2 ^ 30) :
    ∃ (l : List Arm) (q : Nat), armsWt l ≤ 13000 ∧ q ≤ p + 2 ^ 18 ∧ ∀ s, go n 151 [pV] [rB b p] s = some ⟨.w (ksW l), [rB b q], []⟩ := by
  obtain ⟨n, rfl⟩ : ∃ k, n = k + 1 := ⟨n - 1, by omega⟩
  obtain ⟨v, q1, h1, h2, h3, w1⟩ := draw_pick hb 24 p (by omega) n (by omega)
  have rm1 : room 1 112 = true := by decide
  by_cases c0 : v = 0
  · obtain ⟨u, q2, hu, k2, w2⟩ := draw_num hb [9, 15, 16, 17, 18, 30] (by simp) q1 (by omega) n (by omega)
    simp only [lV, List.map_cons, List.map_nil] at w2
    have hu2 : u = 9 ∨ u = 15 ∨ u = 16 ∨ u = 17 ∨ u = 18 ∨ u = 30 := by simpa using hu
    obtain ⟨N, rfl, hN1, hN2⟩ : ∃ N : Nat, u = N ∧ 1 ≤ N ∧ N ≤ 30 := ⟨u.toNat, by omega, by omega, by omega⟩
    obtain ⟨t, q3, k3, k4, w3⟩ := draw_Stair hb N hN1 (by omega) n (by omega) q2 (by omega)
    obtain ⟨⟨co, ca⟩, q4, k5, k6, w4⟩ := draw_Coil hb q3 (by omega) n (by omega)
    simp only at k5
    refine ⟨[.mk t [⟨co, ca⟩] []], q4, by simp only [armsWt, Arm.wt, elsWt, El.wt]; omega, by omega, fun s => ?_⟩
    obtain ⟨tk, to, ta, tks⟩ := t
    subst c0
    simp [go_of FT_151 rfl, F151, w1, w2, w3, w4, rm1, armRows, Arm.row, elRows, El.row, List.replicate]
  by_cases c1 : v = 1
  · obtain ⟨u, q2, hu, k2, w2⟩ := draw_num hb [5, 7, 8, 9, 12] (by simp) q1 (by omega) n (by omega)
    simp only [lV, List.map_cons, List.map_nil] at w2
    have hu2 : u = 5 ∨ u = 7 ∨ u = 8 ∨ u = 9 ∨ u = 12 := by simpa using hu
    obtain ⟨N, rfl, hN1, hN2⟩ : ∃ N : Nat, u = N ∧ 1 ≤ N ∧ N ≤ 12 := ⟨u.toNat, by omega, by omega, by omega⟩
    obtain ⟨t, q3, k3, k4, w3⟩ := draw_Forks hb N (by omega) n (by omega) q2 (by omega)
    refine ⟨[t], q3, by simp only [armsWt]; omega, by omega, fun s => ?_⟩
    obtain ⟨⟨tk, to, ta, tks⟩, tcs, tkk⟩ := t
    subst c1
    simp [go_of FT_151 rfl, F151, w1, w2, w3, rm1, armRows, Arm.row, List.replicate]
  by_cases c2 : v = 2
  · refine ⟨[], q1, by simp [armsWt], by omega, fun s => ?_⟩
    subst c2
    simp [go_of FT_151 rfl, F151, w1, armRows]
  · obtain ⟨u, q2, u1, u2, u3, w2⟩ := draw_pick hb 4 q1 (by omega) n (by omega)
    have u2 := u2 (by omega)
    obtain ⟨K, hK, hK1, hK2⟩ : ∃ K : Nat, u = (K : Int) - 1 ∧ 1 ≤ K ∧ K ≤ 4 := ⟨(u + 1).toNat, by omega, by omega, by omega⟩
    have hKw : IntKind.wrap .i64 (1 + u) = (K : Int) := by rw [hK]; rw [wrap_id (by omega) (by omega)]; omega
    obtain ⟨L, r, kl, kw, kp, hS⟩ := Seq.have (R := RootR b n) (wt := Arm.wt) (W := 3200) (P := 32000) (B := 2 ^ 33) (fun p hp => by
      obtain ⟨t, q, g1, g2, g3⟩ := draw_ArmS hb 2 (by omega) n (by omega) p (by omega) true
      exact ⟨t, q, by omega, by omega, g3⟩) K q2 (by omega)
    have kww := armsWt_le kw
    have hdl := dropF_le L L.length
    have htw := armsWt_take_le L (dropF L L.length)
    refine ⟨L.take (dropF L L.length), r, by omega, by omega, fun s => ?_⟩
    have hw : ∀ j, ∀ s, go n 107 [.w (.d (.l 0 (List.take j (armRows L))))] [] s = some ⟨iV (armsSize (L.take j)), [], []⟩ := fun j s => by
      have e : List.take j (armRows L) = armRows (L.take j) := by rw [armRows_map, armRows_map, List.map_take]
      have := armsWt_take_le L j
      rw [e]
      exact run_TreeSizeS (L.take j) (by omega) n (by omega) s
    simp [go_of FT_151 rfl, F151, w1, w2, c0, c1, c2, hKw]
    generalize hst : St.mk _ _ _ _ = st
    obtain ⟨e1, st1, hx1, -, rfl, fA, fg, f3⟩ := loop151_0 L r (by omega) (by omega) st q2 hS (by simp [← hst]) (by simp [← hst, kl]) (by simp [← hst]) (by simp [← hst]) (by subst hst; exact ⟨65, some 0, by decide, by simp, by simp, by simp [armRows], .inr ⟨rfl, rfl⟩⟩)
    obtain ⟨e2, ⟨τ2, H2, g2, s2⟩, hx2, -, rfl, gA, bx, c, o, m, hb0, hb2, i3, hBX, ho⟩ := loop151_1 L (by omega) (by omega) (by omega) hw st1 r fA fg f3
    simp only at gA hb2 i3 hBX
    have b3 : (0 = bx) = False := eq_false (fun e => hb0 e.symm)
    have b5 : (bx = 0) = False := eq_false hb0
    have e : List.take (dropF L L.length) (armRows L) = armRows (L.take (dropF L L.length)) := by rw [armRows_map, armRows_map, List.map_take]
    rcases ho with rfl | rfl <;> simp [hx1, hx2, gA, i3, hBX, b3, b5, hdl, e]

end Go.VM

/- Draws: arms spoilt. Conditions: none. -/
namespace Go.VM
set_option linter.unusedSimpArgs false
set_option linter.unusedVariables false
set_option maxHeartbeats 16000000

theorem len_of6 (l : List Arm) : ∀ x ∈ armRows l, x.length = 6 := fun x hx => by
  rw [armRows_map] at hx
  obtain ⟨a, _, rfl⟩ := List.mem_map.1 hx
  obtain ⟨⟨_, _, _, _⟩, _, _⟩ := a
  rfl
theorem armRows_set (l : List Arm) (i : Nat) (k op : Int) (as : List Arg) (nks : List Net) (cs : List El) (ks : List Arm) : (armRows l).set i [iD k, iD op, .l 0 (argRows as), .l 0 (netRows nks), .l 0 (elRows cs), .l 0 (armRows ks)] = armRows (l.set i (.mk (.mk k op as nks) cs ks)) := by
  rw [armRows_map l, armRows_map (l.set i (.mk (.mk k op as nks) cs ks)), List.map_set]; simp only [Arm.row]
theorem armsWt_set : ∀ (l : List Arm) (i : Nat) (x y : Arm), l[i]? = some x → armsWt (l.set i y) + x.wt = armsWt l + y.wt
  | [], i, x, y, h => by simp at h
  | a :: r, 0, x, y, h => by simp at h; subst h; simp [armsWt]; omega
  | a :: r, i + 1, x, y, h => by
    have := armsWt_set r i x y (by simpa using h)
    simp only [List.set_cons_succ, armsWt]; omega
theorem elsWt_one (e : El) : elsWt [e] = 1 + e.as.length := by simp [elsWt, El.wt]
theorem zeroArm_wt : armsWt [.mk (.mk 0 0 [] []) [] []] = 2 := by simp [armsWt, Arm.wt, Net.wt, netsWt, elsWt]

theorem draw_SpoilArm {b : List Int} (hb : RD b) : ∀ (m : Nat) (t : Arm), t.wt ≤ m → m ≤ 2 ^ 20 → ∀ (n : Nat), m + 40 ≤ n → ∀ p, p + 200 * m < 2 ^ 34 → ∃ (t' : Arm) (q : Nat), t'.wt ≤ t.wt + 10 ∧ q ≤ p + 200 * m ∧ ∀ s, go n 179 [pV, armX t] [rB b p] s = some ⟨armX t', [rB b q], []⟩
  | 0, t, h, hm, n, hn, p, hp => by have := t.wt_pos; omega
  | m + 1, .mk (.mk nk no na nks) cs ks, h, hm, n, hn, p, hp => by
    obtain ⟨n, rfl⟩ : ∃ k, n = k + 1 := ⟨n - 1, by omega⟩
    have hlk := armsWt_len ks
    have hlc := elsWt_len cs
    simp only [Arm.wt] at h
    have al6 := eq_true (len_of6 ks)
    have al2 := eq_true (len_of2 cs)
    have rm6 : room ks.length 112 = true := room_of (by omega) (by omega)
    have rm6b : room (ks.length + 1) 112 = true := room_of (by omega) (by omega)
    have rm2 : room cs.length 32 = true := room_of (by omega) (by omega)
    have rm2b : room (cs.length + 1) 32 = true := room_of (by omega) (by omega)
    have tk6 : ∀ x : List D, List.take (ks.length + 1) (armRows ks ++ [x]) = armRows ks ++ [x] := fun x => by rw [List.take_of_length_le (by simp)]
    have tk2 : ∀ x : List D, List.take (cs.length + 1) (elRows cs ++ [x]) = elRows cs ++ [x] := fun x => by rw [List.take_of_length_le (by simp)]
    -- what is spoilt here
    have here : ∀ q0, q0 ≤ p + 1 → ∃ (v : Int) (q1 : Nat) (t' : Arm) (q : Nat), t'.wt ≤ (Arm.mk (.mk nk no na nks) cs ks).wt + 10 ∧ q ≤ p + 200 * (m + 1) ∧ (∀ s, go n 67 [pV, iV 6] [rB b q0] s = some ⟨iV v, [rB b q1], []⟩) ∧
        ((v = 0 ∧ t' = .mk (.mk 0 0 [] []) cs ks ∧ q = q1) ∨
         (v = 1 ∧ ∃ u, (∀ s, go n 67 [pV, iV 2] [rB b q1] s = some ⟨iV u, [rB b q], []⟩) ∧ ((u = 0 ∧ t' = .mk (.mk nk no na nks) [] []) ∨ (u ≠ 0 ∧ t' = .mk (.mk nk no na nks) [] ks))) ∨
         (v = 2 ∧ ∃ eo ea, t' = .mk (.mk nk no na nks) (cs ++ [⟨eo, ea⟩]) ks ∧ ∀ s, go n 134 [pV] [rB b q1] s = some ⟨.agg [iW eo, asW ea], [rB b q], []⟩) ∨
         (v = 3 ∧ ∃ co ca q2 eo ea, t' = .mk (.mk nk no na nks) (cs ++ [⟨eo, ea⟩]) ks ∧ (∀ s, go n 135 [pV] [rB b q1] s = some ⟨.agg [iW co, asW ca], [rB b q2], []⟩) ∧ ∀ s, go n 136 [pV, .agg [iW co, asW ca]] [rB b q2] s = some ⟨.agg [iW eo, asW ea], [rB b q], []⟩) ∨
         (v = 4 ∧ t' = .mk (.mk nk no na nks) cs (ks ++ [.mk (.mk 0 0 [] []) [] []]) ∧ q = q1) ∨
         (v ≠ 0 ∧ v ≠ 1 ∧ v ≠ 2 ∧ v ≠ 3 ∧ v ≠ 4 ∧ ∃ uk uo ua uks, t' = .mk (.mk uk uo ua uks) cs ks ∧ ∀ s, go n 116 [pV, .agg [iW nk, iW no, asW na, nsW nks]] [rB b q1] s = some ⟨.agg [iW uk, iW uo, asW ua, nsW uks], [rB b q], []⟩)) := by
      intro q0 hq0
      obtain ⟨v, q1, h1, h2, h3, w⟩ := draw_pick hb 6 q0 (by omega) n (by omega)
      have hnp := Net.wt_pos (.mk nk no na nks)
      by_cases c0 : v = 0
      · exact ⟨v, q1, _, q1, by simp only [Arm.wt, Net.wt, netsWt, List.length_nil]; omega, by omega, w, .inl ⟨c0, rfl, rfl⟩⟩
      by_cases c1 : v = 1
      · obtain ⟨u, q2, u1, u2, u3, w2⟩ := draw_pick hb 2 q1 (by omega) n (by omega)
        by_cases hu : u = 0
        · exact ⟨v, q1, .mk (.mk nk no na nks) [] [], q2, by simp only [Arm.wt, elsWt, armsWt]; omega, by omega, w, .inr (.inl ⟨c1, u, w2, .inl ⟨hu, rfl⟩⟩)⟩
        · exact ⟨v, q1, .mk (.mk nk no na nks) [] ks, q2, by simp only [Arm.wt, elsWt]; omega, by omega, w, .inr (.inl ⟨c1, u, w2, .inr ⟨hu, rfl⟩⟩)⟩
      by_cases c2 : v = 2
      · obtain ⟨⟨eo, ea⟩, q2, g1, g2, w2⟩ := draw_Contact hb q1 (by omega) n (by omega)
        simp only at g1
        exact ⟨v, q1, _, q2, by simp only [Arm.wt, elsWt_append, elsWt_one]; omega, by omega, w, .inr (.inr (.inl ⟨c2, eo, ea, rfl, w2⟩))⟩
      by_cases c3 : v = 3
      · obtain ⟨⟨co, ca⟩, q2, g1, g2, w2⟩ := draw_Coil hb q1 (by omega) n (by omega)
        simp only at g1
        obtain ⟨⟨eo, ea⟩, q3, g3, g4, w3⟩ := draw_Spoil hb ⟨co, ca⟩ (by simp only; omega) q2 (by omega) n (by omega)
        simp only at g3
        exact ⟨v, q1, _, q3, by simp only [Arm.wt, elsWt_append, elsWt_one]; omega, by omega, w, .inr (.inr (.inr (.inl ⟨c3, co, ca, q2, eo, ea, rfl, w2, w3⟩)))⟩
      by_cases c4 : v = 4
      · exact ⟨v, q1, _, q1, by simp only [Arm.wt, armsWt_append, zeroArm_wt]; omega, by omega, w, .inr (.inr (.inr (.inr (.inl ⟨c4, rfl, rfl⟩))))⟩
      · obtain ⟨⟨uk, uo, ua, uks⟩, q2, g1, g2, w2⟩ := draw_SpoilNet hb (Net.mk nk no na nks).wt (.mk nk no na nks) (Nat.le_refl _) (by omega) n (by omega) q1 (by omega)
        exact ⟨v, q1, .mk (.mk uk uo ua uks) cs ks, q2, by simp only [Arm.wt]; omega, by omega, w, .inr (.inr (.inr (.inr (.inr ⟨c0, c1, c2, c3, c4, uk, uo, ua, uks, rfl, w2⟩))))⟩
    by_cases hk : 0 < ks.length
    · have hki : ((0 : Int) < (ks.length : Int)) = True := eq_true (by omega)
      obtain ⟨u, q0, g1, g2, g3, w0⟩ := draw_pick hb 3 p (by omega) n (by omega)
      by_cases hu : 0 < u
      · have hu' := eq_true hu
        obtain ⟨v, q1, h1, h2, h3, w1⟩ := draw_pick hb ks.length q0 (by omega) n (by omega)
        have h2 := h2 (by omega)
        obtain ⟨j, rfl⟩ : ∃ j : Nat, v = j := ⟨v.toNat, by omega⟩
        have hj : j < ks.length := by omega
        have hg := List.getElem?_eq_getElem hj
        have hmem := armsWt_mem (List.getElem_mem hj)
        obtain ⟨t', q2, k1, k2, w2⟩ := draw_SpoilArm hb m ks[j] (by omega) (by omega) n (by omega) q1 (by omega)
        have hset := armsWt_set ks j ks[j] t' hg
        obtain ⟨xk, xo, xa, xks, xcs, xkk, hx⟩ : ∃ k' op as ks' cs' kk, ks[j] = .mk (.mk k' op as ks') cs' kk := by
          cases hq : ks[j] with | mk nn cs ks => cases nn; exact ⟨_, _, _, _, _, _, rfl⟩
        rw [hx] at hg w2
        have hb1 := armRows_get hg
        obtain ⟨⟨yk, yo, ya, yks⟩, ycs, ykk⟩ := t'
        have hs := armRows_set ks j yk yo ya yks ycs ykk
        refine ⟨.mk (.mk nk no na nks) cs (ks.set j (.mk (.mk yk yo ya yks) ycs ykk)), q2, by simp only [Arm.wt]; omega, by omega, fun s => ?_⟩
        have tk := take_armRows (ks.set j (.mk (.mk yk yo ya yks) ycs ykk))
        simp only [List.length_set] at tk
        simp [-getElem?_pos, go_of FT_179 rfl, F179, w0, w1, w2, hki, hk, hu', al6, rm6, hj, hb1, hs, tk, List.replicate]
      · have hu' := eq_false hu
        obtain ⟨v, q1, t', q, e1, e2, w, hcase⟩ := here q0 g3
        refine ⟨t', q, e1, e2, fun s => ?_⟩
        rcases hcase with ⟨rfl, rfl, rfl⟩ | ⟨rfl, u2, w2, hcu⟩ | ⟨rfl, eo, ea, rfl, w2⟩ | ⟨rfl, co, ca, q2, eo, ea, rfl, w2, w3⟩ | ⟨rfl, rfl, rfl⟩ | ⟨c0, c1, c2, c3, c4, uk, uo, ua, uks, rfl, w2⟩
        · simp [go_of FT_179 rfl, F179, w0, w, hki, hk, hu', List.replicate]
        · rcases hcu with ⟨rfl, rfl⟩ | ⟨hcu, rfl⟩
          · simp [go_of FT_179 rfl, F179, w0, w, w2, hki, hk, hu', List.replicate, armRows, elRows]
          · simp [go_of FT_179 rfl, F179, w0, w, w2, hcu, hki, hk, hu', List.replicate, elRows]
        · simp [go_of FT_179 rfl, F179, w0, w, w2, hki, hk, hu', al2, rm2, rm2b, tk2, List.replicate, elRows_append]
          try simp [elRows, El.row]
        · simp [go_of FT_179 rfl, F179, w0, w, w2, w3, hki, hk, hu', al2, rm2, rm2b, tk2, List.replicate, elRows_append]
          try simp [elRows, El.row]
        · simp [go_of FT_179 rfl, F179, w0, w, hki, hk, hu', al6, rm6, rm6b, tk6, List.replicate, armRows_append]
          try simp [armRows, Arm.row, argRows, netRows, elRows]
        · simp [go_of FT_179 rfl, F179, w0, w, w2, c0, c1, c2, c3, c4, hki, hk, hu', List.replicate]
    · have hki : ((0 : Int) < (ks.length : Int)) = False := eq_false (by omega)
      have hke : ks = [] := List.eq_nil_of_length_eq_zero (by omega)
      obtain ⟨v, q1, t', q, e1, e2, w, hcase⟩ := here p (by omega)
      subst hke
      have rm0 : room 0 112 = true := by decide
      have rm1 : room 1 112 = true := by decide
      have ark : armRows [] = [] := by simp [armRows]
      refine ⟨t', q, e1, e2, fun s => ?_⟩
      rcases hcase with ⟨rfl, rfl, rfl⟩ | ⟨rfl, u2, w2, hcu⟩ | ⟨rfl, eo, ea, rfl, w2⟩ | ⟨rfl, co, ca, q2, eo, ea, rfl, w2, w3⟩ | ⟨rfl, rfl, rfl⟩ | ⟨c0, c1, c2, c3, c4, uk, uo, ua, uks, rfl, w2⟩
      · simp [go_of FT_179 rfl, F179, w, rm0, rm1, ark, List.replicate]
      · rcases hcu with ⟨rfl, rfl⟩ | ⟨hcu, rfl⟩
        · simp [go_of FT_179 rfl, F179, w, w2, rm0, rm1, ark, List.replicate, elRows]
        · simp [go_of FT_179 rfl, F179, w, w2, hcu, rm0, rm1, ark, List.replicate, elRows]
      · simp [go_of FT_179 rfl, F179, w, w2, rm0, rm1, ark, al2, rm2, rm2b, tk2, List.replicate, elRows_append]
        try simp [elRows, El.row]
      · simp [go_of FT_179 rfl, F179, w, w2, w3, rm0, rm1, ark, al2, rm2, rm2b, tk2, List.replicate, elRows_append]
        try simp [elRows, El.row]
      · simp [go_of FT_179 rfl, F179, w, rm0, rm1, ark, List.replicate, armRows_append]
        try simp [armRows, Arm.row, argRows, netRows, elRows]
      · simp [go_of FT_179 rfl, F179, w, w2, c0, c1, c2, c3, c4, rm0, rm1, ark, List.replicate]

end Go.VM

/- Draws: a ladder spoilt. Conditions: none. -/
namespace Go.VM
set_option linter.unusedSimpArgs false
set_option linter.unusedVariables false
set_option maxHeartbeats 16000000

theorem runS_at (n : Nat) (args : List V) (bs : List Box) (s : Sup) : runF (callS n) modeS GT n 152 F152 args bs s = if args.length ≤ F152.ntmps then
    behindF (execC (callS n) modeS GT false F152.ntmps n F152.code ⟨nth (.tup []) args, nth .dead bs, bs.length, s⟩) (endF (modeS 152).stamp (modeS 152).move bs.length F152.res)
  else none := runF_at _ _ _ _ _ _ _ _ _
theorem callS_go {n f : Nat} (h : brIds.contains f = false) (args : List V) (bs : List Box) (s : Sup) : callS n f args bs s = go n f args bs s := by
  unfold callS lend; simp only [h]; rfl
theorem callS_br {n f : Nat} (h : brIds.contains f = true) (args : List V) (bs : List Box) (s : Sup) : callS n f args bs s = bnd2 (frzA false (fun k => s (2 * k)) ⟨nth .dead bs, 0, []⟩ args) fun args' _ => brwCall (go n) f bs s args' := by
  unfold callS lend; simp only [h, if_true]; exact brw_at _ _ _ _ _

inductive FillR (b : List Int) (n : Nat) : Nat → Nat → Nat → Nat → Prop
  | stop {len p q : Nat} {v : Int} (w : ∀ s, go n 67 [pV, iV 2] [rB b p] s = some ⟨iV v, [rB b q], []⟩) (h : ¬ (len : Int) < 40 + v) (hv : 0 ≤ v ∧ v < 2) : FillR b n len p 0 q
  | more {len p j q r : Nat} {v : Int} (w : ∀ s, go n 67 [pV, iV 2] [rB b p] s = some ⟨iV v, [rB b q], []⟩) (h : (len : Int) < 40 + v) (hv : 0 ≤ v ∧ v < 2) (k : FillR b n (len + 1) q j r) : FillR b n len p (j + 1) r
theorem FillR.have {b : List Int} (hb : RD b) {n : Nat} (hn : 2 ≤ n) : ∀ (fuel len p : Nat), 42 ≤ len + fuel → p + fuel < 2 ^ 38 → ∃ j q, FillR b n len p j q ∧ j ≤ fuel ∧ q ≤ p + fuel + 1
  | 0, len, p, h, hp => by
    obtain ⟨v, q, h1, h2, h3, w⟩ := draw_pick hb 2 p (by omega) n (by omega)
    have h2 := h2 (by omega)
    exact ⟨0, q, .stop w (by omega) ⟨h1, h2⟩, by omega, by omega⟩
  | fuel + 1, len, p, h, hp => by
    obtain ⟨v, q, h1, h2, h3, w⟩ := draw_pick hb 2 p (by omega) n (by omega)
    have h2 := h2 (by omega)
    by_cases c : (len : Int) < 40 + v
    · obtain ⟨j, r, k1, k2, k3⟩ := FillR.have hb hn fuel (len + 1) q (by omega) (by omega)
      exact ⟨j + 1, r, .more w c ⟨h1, h2⟩ k1, by omega, by omega⟩
    · exact ⟨0, q, .stop w c ⟨h1, h2⟩, by omega, by omega⟩
/-- A slice of arms that is being built, and the coil of the arm that it is filled with. -/
def Fill (H : Nat → Box) (g b6 bc : Nat) (v : V) (ks : List Arm) (one : El) : Prop := ∃ bx o m, bx ≠ 0 ∧ bx ≠ b6 ∧ bx ≠ bc ∧ bx < g ∧ v = .w (.own bx 0 ks.length none) ∧ H bx = .row none 6 (armRows ks) 0 ∧ H bc = .row o 2 [[iD one.op, .l 0 (argRows one.as)]] m ∧ (o = none ∨ o = some 0)

theorem loop152_0 {b : List Int} {n : Nat} (eo co : Int) (ea ca : List Arg) (L : List Arm) (hL : L.length ≤ 2 ^ 20) (j r b6 bc : Nat) (h6c : b6 ≠ bc) (h60 : b6 ≠ 0) (hc0 : bc ≠ 0) (hj : j ≤ 1000) (hn : j < n) (st : St) (p : Nat) (hS : FillR b n L.length p j r)
    (h0 : st.τ 0 = pV) (h6 : st.τ 6 = .w (.ptr b6 0)) (hA : st.H 0 = rB b p) (hg : 0 < st.g) (hg6 : b6 < st.g) (hgc : bc < st.g) (hB : st.H b6 = .cells [iW 1, iW eo, asW ea, .nil, .own bc 0 1 (some 1), .nil]) (h5 : Fill st.H st.g b6 bc (st.τ 5) L ⟨co, ca⟩) :
    ∃ e st', execC (callS n) modeS GT false 95 n F152_L0 st = some (e, st') ∧ e ≠ .normal ∧ (e = .exit 1 ∧ st'.H 0 = rB b r ∧ Fill st'.H st'.g b6 bc (st'.τ 5) (L ++ List.replicate j (.mk (.mk 1 eo ea []) [⟨co, ca⟩] [])) ⟨co, ca⟩) := by
  rw [F152_L0, execC_loop]
  refine iter_rule (fun k st => ∃ i q, i + k = j ∧ FillR b n (L.length + i) q k r ∧ st.τ 0 = pV ∧ st.τ 6 = .w (.ptr b6 0) ∧ st.H 0 = rB b q ∧ 0 < st.g ∧ b6 < st.g ∧ bc < st.g ∧ st.H b6 = .cells [iW 1, iW eo, asW ea, .nil, .own bc 0 1 (some 1), .nil] ∧ Fill st.H st.g b6 bc (st.τ 5) (L ++ List.replicate i (.mk (.mk 1 eo ea []) [⟨co, ca⟩] [])) ⟨co, ca⟩) ?_ n j st hn
    ⟨0, p, by omega, hS, h0, h6, hA, hg, hg6, hgc, hB, by simpa using h5⟩
  clear h0 h6 hA hg hg6 hgc hB h5 hS
  rintro k ⟨τ, H, g, s⟩ ⟨i, q, hk, hS, h0, h6, hA, hg, hg6, hgc, hB, bx, o, m, hx0, hx6, hxc, hxg, h5, hX, hC, ho⟩
  simp only at h0 h5 h6 hA hg hg6 hgc hB hxg hX hC
  have hlen : (L ++ List.replicate i (Arm.mk (.mk 1 eo ea []) [⟨co, ca⟩] [])).length = L.length + i := by simp
  rw [hlen] at h5
  cases hS with
  | @stop _ _ q2 v w hlt hv =>
    have wc : ∀ s, callS n 67 [pV, iV 2] [rB b q] s = some ⟨iV v, [rB b r], []⟩ := fun s => (callS_go rfl _ _ _).trans (w s)
    have hi : i = j := by omega
    subst hi
    have hwr : IntKind.wrap .i64 (40 + v) = 40 + v := wrap_id (by omega) (by omega)
    have hlt' : (((L.length + i : Nat) : Int) < 40 + v) = False := eq_false hlt
    have fzX := far (show 0 < g by omega)
    have b5 : (bx = 0) = False := eq_false hx0
    have b6' : (b6 = 0) = False := eq_false h60
    have bc' : (bc = 0) = False := eq_false hc0
    refine ⟨.exit 1, ?_⟩
    simp [-getElem?_pos, -Int.natCast_add, -List.length_append, F152_B0, modeS, brIds, h0, h5, h6, hA, wc, hwr, hlt', b5, b6', bc', fzX]
    exact ⟨bx, o, m, hx0, hx6, hxc, by omega, by rw [hlen], by simpa [b5] using hX, by simpa [bc'] using hC, ho⟩
  | @more _ _ j' q2 _ v w hlt hv hS2 =>
    have wc : ∀ s, callS n 67 [pV, iV 2] [rB b q] s = some ⟨iV v, [rB b q2], []⟩ := fun s => (callS_go rfl _ _ _).trans (w s)
    have hwr : IntKind.wrap .i64 (40 + v) = 40 + v := wrap_id (by omega) (by omega)
    have hlt' : (((L.length + i : Nat) : Int) < 40 + v) = True := eq_true hlt
    have fzX := far (show 0 < g by omega)
    have faX := far hg6
    have fcX := far hgc
    have fbX := far hxg
    have b1 : (bx = 0) = False := eq_false hx0
    have b2 : (0 = bx) = False := eq_false (fun e => hx0 e.symm)
    have b3 : (b6 = 0) = False := eq_false h60
    have b4 : (0 = b6) = False := eq_false (fun e => h60 e.symm)
    have b5 : (bc = 0) = False := eq_false hc0
    have b6' : (0 = bc) = False := eq_false (fun e => hc0 e.symm)
    have b7 : (b6 = bc) = False := eq_false h6c
    have b8 : (bc = b6) = False := eq_false (fun e => h6c e.symm)
    have b9 : (bx = b6) = False := eq_false hx6
    have b10 : (b6 = bx) = False := eq_false (fun e => hx6 e.symm)
    have b11 : (bx = bc) = False := eq_false hxc
    have b12 : (bc = bx) = False := eq_false (fun e => hxc e.symm)
    have rm : room (L.length + i + 1) 112 = true := room_of (by omega) (by omega)
    have hl2 : (armRows (L ++ List.replicate i (Arm.mk (.mk 1 eo ea []) [⟨co, ca⟩] []))).length = L.length + i := by rw [armRows_length, hlen]
    have hcat : L ++ List.replicate (i + 1) (Arm.mk (.mk 1 eo ea []) [⟨co, ca⟩] []) = (L ++ List.replicate i (Arm.mk (.mk 1 eo ea []) [⟨co, ca⟩] [])) ++ [Arm.mk (.mk 1 eo ea []) [⟨co, ca⟩] []] := by rw [List.replicate_succ', List.append_assoc]
    have tk : List.take (L.length + i) (armRows (L ++ List.replicate i (Arm.mk (.mk 1 eo ea []) [⟨co, ca⟩] []))) = armRows (L ++ List.replicate i (Arm.mk (.mk 1 eo ea []) [⟨co, ca⟩] [])) := List.take_of_length_le (by rw [hl2]; omega)
    generalize hks : L ++ List.replicate i (Arm.mk (.mk 1 eo ea []) [⟨co, ca⟩] []) = ks at hlen hX hl2 hcat tk
    refine ⟨.normal, ?_⟩
    rcases ho with rfl | rfl
    all_goals
      simp [-getElem?_pos, -Int.natCast_add, -List.length_append, F152_B0, modeS, brIds, h0, h5, h6, hA, hB, hX, hC, wc, hwr, hlt', rm, hl2, tk, b1, b2, b3, b4, b5, b6', b7, b8, b9, b10, b11, b12, fzX, faX, fcX, fbX]
      refine ⟨j', by omega, i + 1, by omega, q2, hS2, rfl, by omega, by omega, g + 384 + 192, some 0, max m 1, by omega, by omega, by omega, by omega, ?_, ?_, ?_, .inr rfl⟩
      · rw [hcat, List.length_append, hlen]; rfl
      · rw [hcat, armRows_append]; simp [armRows, Arm.row, elRows, El.row, netRows]
      · simp [b5, b12, fcX]

/-- Coils that are being built. -/
def Coils (H : Nat → Box) (g ba : Nat) (v : V) (cs : List El) : Prop := ∃ bx, bx ≠ 0 ∧ bx ≠ ba ∧ bx ≠ 193 ∧ bx < g ∧ v = .w (.own bx 0 cs.length none) ∧ H bx = .row none 2 (elRows cs) 0

theorem loop152_1 {n : Nat} (u5 u7 : V) (X0 X1 : Box) (ba : Nat) (hba : ba ≠ 0) (hbb : ba ≠ 193) (N : Nat) (need : Int) (hN : (N : Int) = need ∨ (need ≤ 0 ∧ N = 0)) (hN2 : N ≤ 1000) (co : Int) (ca : List Arg) (cs : List El) (hcs : cs.length ≤ 2 ^ 20) (hn : N < n) (st : St)
    (h0 : st.τ 0 = pV) (h5 : st.τ 5 = u5) (h7 : st.τ 7 = u7) (h8 : st.τ 8 = iV need) (h10 : st.τ 10 = .w (.ptr ba 0)) (h11 : st.τ 11 = iV 0) (hA : st.H 0 = X0) (hX : st.H 193 = X1) (hB : st.H ba = .cells [iW co, asW ca]) (hg : 193 < st.g) (hga : ba < st.g) (h9 : Coils st.H st.g ba (st.τ 9) cs) :
    ∃ e st', execC (callS n) modeS GT false 95 n F152_L1 st = some (e, st') ∧ e ≠ .normal ∧ (e = .exit 3 ∧ st'.τ 0 = pV ∧ st'.τ 5 = u5 ∧ st'.τ 7 = u7 ∧ st'.H 0 = X0 ∧ st'.H 193 = X1 ∧ 193 < st'.g ∧ Coils st'.H st'.g ba (st'.τ 9) (cs ++ List.replicate N ⟨co, ca⟩)) := by
  rw [F152_L1, execC_loop]
  refine iter_rule (fun k st => ∃ i, i + k = N ∧ st.τ 0 = pV ∧ st.τ 5 = u5 ∧ st.τ 7 = u7 ∧ st.τ 8 = iV need ∧ st.τ 10 = .w (.ptr ba 0) ∧ st.τ 11 = iV i ∧ st.H 0 = X0 ∧ st.H 193 = X1 ∧ st.H ba = .cells [iW co, asW ca] ∧ 193 < st.g ∧ ba < st.g ∧ Coils st.H st.g ba (st.τ 9) (cs ++ List.replicate i ⟨co, ca⟩)) ?_ n N st hn
    ⟨0, by omega, h0, h5, h7, h8, h10, by simpa using h11, hA, hX, hB, hg, hga, by simpa using h9⟩
  clear h0 h5 h7 h8 h10 h11 hA hX hB hg hga h9
  rintro k ⟨τ, H, g, s⟩ ⟨i, hk, h0, h5, h7, h8, h10, h11, hA, hX, hB, hg, hga, bx, hx0, hxa, hx1, hxg, h9, hC⟩
  simp only at h0 h5 h7 h8 h9 h10 h11 hA hX hB hg hga hxg hC
  have hlen : (cs ++ List.replicate i (⟨co, ca⟩ : El)).length = cs.length + i := by simp
  rw [hlen] at h9
  cases k with
  | zero =>
    have hi : i = N := by omega
    subst hi
    have hlt : (((i : Nat) : Int) < need) = False := eq_false (by omega)
    refine ⟨.exit 3, ?_⟩
    simp [-getElem?_pos, -Int.natCast_add, -List.length_append, F152_B1, h0, h5, h7, h8, h9, h10, h11, hA, hX, hlt]
    exact ⟨by omega, bx, hx0, hxa, hx1, by omega, by rw [hlen], hC⟩
  | succ k =>
    have hlt : (((i : Nat) : Int) < need) = True := eq_true (by omega)
    have hw := wrap_succ (i := i) (by omega)
    have fzX := far (show 193 < g by omega)
    have fyX := far (show 0 < g by omega)
    have faX := far hga
    have fbX := far hxg
    have b1 : (bx = 0) = False := eq_false hx0
    have b2 : (0 = bx) = False := eq_false (fun e => hx0 e.symm)
    have b3 : (bx = ba) = False := eq_false hxa
    have b4 : (ba = bx) = False := eq_false (fun e => hxa e.symm)
    have b5 : (bx = 193) = False := eq_false hx1
    have b6 : (193 = bx) = False := eq_false (fun e => hx1 e.symm)
    have rm : room (cs.length + i + 1) 32 = true := room_of (by omega) (by omega)
    have hl2 : (elRows (cs ++ List.replicate i (⟨co, ca⟩ : El))).length = cs.length + i := by rw [elRows_length, hlen]
    have hcat : cs ++ List.replicate (i + 1) (⟨co, ca⟩ : El) = (cs ++ List.replicate i ⟨co, ca⟩) ++ [⟨co, ca⟩] := by rw [List.replicate_succ', List.append_assoc]
    have tk : List.take (cs.length + i) (elRows (cs ++ List.replicate i (⟨co, ca⟩ : El))) = elRows (cs ++ List.replicate i ⟨co, ca⟩) := List.take_of_length_le (by rw [hl2]; omega)
    generalize hks : cs ++ List.replicate i (⟨co, ca⟩ : El) = ks at hlen hC hl2 hcat tk
    refine ⟨.normal, ?_⟩
    simp [-getElem?_pos, -Int.natCast_add, -List.length_append, F152_B1, modeS, brIds, h0, h5, h7, h8, h9, h10, h11, hA, hX, hB, hC, hlt, hw, rm, hl2, tk, b1, b2, b3, b4, b5, b6, fzX, fyX, faX, fbX]
    refine ⟨k, by omega, i + 1, by omega, rfl, by omega, g + 192 + 192, by omega, by omega, by omega, by omega, ?_, ?_⟩
    · rw [hcat, List.length_append, hlen]; rfl
    · rw [hcat, elRows_append]; simp [elRows, El.row]

theorem armsWt_rep (a : Arm) : ∀ j, armsWt (List.replicate j a) = j * a.wt
  | 0 => by simp [armsWt]
  | j + 1 => by rw [List.replicate_succ, armsWt, armsWt_rep a j, Nat.add_mul]; omega
theorem elsWt_rep (a : El) : ∀ j, elsWt (List.replicate j a) = j * a.wt
  | 0 => by simp [elsWt]
  | j + 1 => by rw [List.replicate_succ, elsWt, elsWt_rep a j, Nat.add_mul]; omega
theorem draw_SpoilL {b : List Int} (hb : RD b) (l : List Arm) (hl : armsWt l ≤ 20000) (n : Nat) (hn : 60000 ≤ n) (p : Nat) (hp : p < 2 ^ 30) :
    ∃ (l' : List Arm) (q : Nat), armsWt l' ≤ armsWt l + 2000 ∧ q ≤ p + 2 ^ 23 ∧ ∀ s, runF (callS n) modeS GT n 152 F152 [pV, .w (ksW l)] [rB b p] s = some ⟨.w (ksW l'), [rB b q], []⟩ := by
  have lift : ∀ {f : Nat} {args : List V} {bs : List Box} {r : Res}, brIds.contains f = false → (∀ s, go n f args bs s = some r) → ∀ s, callS n f args bs s = some r := fun hf w s => (callS_go hf _ _ _).trans (w s)
  have hlen := armsWt_len l
  have rm0 : room 0 112 = true := by decide
  have rm1 : room 1 112 = true := by decide
  by_cases hnil : l = []
  · subst hnil
    refine ⟨[.mk (.mk 0 0 [] []) [] []], p, by rw [zeroArm_wt]; omega, by omega, fun s => ?_⟩
    simp [runS_at, F152, modeS, brIds, armRows, Arm.row, argRows, netRows, elRows, rm0, rm1]
  have hpos : 0 < l.length := List.length_pos_iff.2 hnil
  have h0 : (l.length = 0) = False := eq_false (by omega)
  have h0b : ((l.length : Int) == 0) = false := by simpa using hnil
  have al6 := eq_true (len_of6 l)
  have rm6 : room l.length 112 = true := room_of (by omega) (by omega)
  obtain ⟨v, q1, v1, v2, v3, w1⟩ := draw_pick hb 10 p (by omega) n (by omega)
  have w1 := lift rfl w1
  by_cases c0 : v = 0
  · obtain ⟨⟨eo, ea⟩, q2, g1, g2, w2⟩ := draw_Contact hb q1 (by omega) n (by omega)
    obtain ⟨⟨co, ca⟩, q3, g3, g4, w3⟩ := draw_Coil hb q2 (by omega) n (by omega)
    have w2 := lift rfl w2
    have w3 := lift rfl w3
    simp only at g1 g3
    obtain ⟨j, r, hS, hj, hr⟩ := FillR.have (n := n) hb (by omega) 42 l.length q3 (by omega) (by omega)
    refine ⟨l ++ List.replicate j (.mk (.mk 1 eo ea []) [⟨co, ca⟩] []), r, ?_, by omega, fun s => ?_⟩
    · rw [armsWt_append, armsWt_rep]
      have e1 : (Arm.mk (.mk 1 eo ea []) [⟨co, ca⟩] []).wt ≤ 8 := by simp only [Arm.wt, Net.wt, netsWt, elsWt, El.wt, armsWt]; omega
      have := Nat.mul_le_mul hj e1
      omega
    subst c0
    simp [runS_at, F152, modeS, brIds, h0, h0b, al6, rm6, w1, w2, w3]
    generalize hst : St.mk _ _ _ _ = st
    obtain ⟨e1, ⟨τ1, H1, g1, s1⟩, hx1, -, rfl, fA, bx, o, m, hx0, hx6, hxc, hxg, f5, fX, fC, ho⟩ := loop152_0 (n := n) eo co ea ca l (by omega) j r 1217 1089 (by decide) (by decide) (by decide) (by omega) (by omega) st q3 hS (by simp [← hst]) (by simp [← hst]) (by simp [← hst]) (by simp [← hst]) (by simp [← hst]) (by simp [← hst]) (by simp [← hst]) (by subst hst; exact ⟨193, none, 0, by decide, by decide, by decide, by simp, by simp, by simp, by simp, .inl rfl⟩)
    simp only at fA hxg f5 fX
    clear hst
    generalize l ++ List.replicate j (Arm.mk (.mk 1 eo ea []) [⟨co, ca⟩] []) = L at f5 fX ⊢
    have b1 : (bx = 0) = False := eq_false hx0
    have b2 : (0 = bx) = False := eq_false (fun e => hx0 e.symm)
    simp [hx1, fA, f5, fX, b1, b2]
  by_cases c1 : v = 1
  · obtain ⟨u, q2, u1, u2, u3, w2⟩ := draw_pick hb l.length q1 (by omega) n (by omega)
    have u2 := u2 (by omega)
    obtain ⟨j, rfl⟩ : ∃ j : Nat, u = j := ⟨u.toNat, by omega⟩
    have hj : j < l.length := by omega
    have hz := armsSize_le l
    obtain ⟨x, q3, x1, x2, x3, w3⟩ := draw_pick hb 2 q2 (by omega) n (by omega)
    have x2 := x2 (by omega)
    obtain ⟨⟨co, ca⟩, q4, g3, g4, w5⟩ := draw_Coil hb q3 (by omega) n (by omega)
    simp only at g3
    have w2 := lift rfl w2
    have w3 := lift rfl w3
    have w5 := lift rfl w5
    have w4 := fun s => run_TreeSizeS l (by omega) n (by omega) s
    have c107 := fun args bs s => callS_br (n := n) (f := 107) rfl args bs s
    have hg := List.getElem?_eq_getElem hj
    have hmem := armsWt_mem (List.getElem_mem hj)
    obtain ⟨xk, xo, xa, xks, xcs, xkk, hx⟩ : ∃ k' op as ks' cs' kk, l[j] = .mk (.mk k' op as ks') cs' kk := by
      cases hq : l[j] with | mk nn cs ks => cases nn; exact ⟨_, _, _, _, _, _, rfl⟩
    rw [hx] at hg hmem
    have hb1 := armRows_get hg
    simp only [Arm.wt] at hmem
    have hcl := elsWt_len xcs
    have al2 := eq_true (len_of2 xcs)
    have rm2 : room xcs.length 32 = true := room_of (by omega) (by omega)
    have hwr : IntKind.wrap .i64 (400 - (armsSize l : Int)) = 400 - (armsSize l : Int) := wrap_id (by omega) (by omega)
    have hwr2 : IntKind.wrap .i64 (400 - (armsSize l : Int) + x) = 400 - (armsSize l : Int) + x := wrap_id (by omega) (by omega)
    obtain ⟨N, hN, hN2⟩ : ∃ N : Nat, ((N : Int) = 400 - (armsSize l : Int) + x ∨ (400 - (armsSize l : Int) + x ≤ 0 ∧ N = 0)) ∧ N ≤ 401 := ⟨(400 - (armsSize l : Int) + x).toNat, by omega, by omega⟩
    have hset := armsWt_set l j _ (.mk (.mk xk xo xa xks) (xcs ++ List.replicate N ⟨co, ca⟩) xkk) hg
    have hs := armRows_set l j xk xo xa xks (xcs ++ List.replicate N ⟨co, ca⟩) xkk
    refine ⟨l.set j (.mk (.mk xk xo xa xks) (xcs ++ List.replicate N ⟨co, ca⟩) xkk), q4, ?_, by omega, fun s => ?_⟩
    · simp only [Arm.wt, elsWt_append, elsWt_rep, El.wt] at hset
      have := Nat.mul_le_mul hN2 (show 1 + ca.length ≤ 4 by omega)
      omega
    subst c1
    simp [-getElem?_pos, runS_at, F152, modeS, brIds, h0, h0b, al6, rm6, al2, rm2, w1, w2, w3, c107, brwCall, brwEnd, V.flat, W.flat, w4, w5, hj, hb1, hwr, hwr2]
    generalize hst : St.mk _ _ _ _ = st
    obtain ⟨e1, ⟨τ1, H1, g1, s1⟩, hx1, -, rfl, f0, f5, f7, fA, fX, fg, bx, hx0, hxa, hxb, hxg, f9, fC⟩ := loop152_1 (n := n) (.w (.own 193 0 l.length none)) (iV j) (rB b q4) (.row none 6 (armRows l) 0) 2305 (by decide) (by decide) N _ hN (by omega) co ca xcs (by omega) (by omega) st (by simp [← hst]) (by simp [← hst]) (by simp [← hst]) (by simp [← hst]) (by simp [← hst]) (by simp [← hst]) (by simp [← hst]) (by simp [← hst]) (by simp [← hst]) (by simp [← hst]) (by simp [← hst]) (by subst hst; exact ⟨2049, by decide, by decide, by decide, by simp, by simp, by simp⟩)
    simp only at f0 f5 f7 fA fX fg hxg f9 fC
    clear hst
    generalize xcs ++ List.replicate N (⟨co, ca⟩ : El) = C at f9 fC hs ⊢
    have b1 : (bx = 0) = False := eq_false hx0
    have b2 : (0 = bx) = False := eq_false (fun e => hx0 e.symm)
    have b3 : (bx = 193) = False := eq_false hxb
    have b4 : (193 = bx) = False := eq_false (fun e => hxb e.symm)
    have tk := take_armRows (l.set j (.mk (.mk xk xo xa xks) C xkk))
    simp only [List.length_set] at tk
    simp [-getElem?_pos, hx1, f0, f5, f7, fA, fX, f9, fC, hj, hb1, hs, tk, b1, b2, b3, b4]
  · obtain ⟨u, q2, u1, u2, u3, w2⟩ := draw_pick hb l.length q1 (by omega) n (by omega)
    have u2 := u2 (by omega)
    obtain ⟨j, rfl⟩ : ∃ j : Nat, u = j := ⟨u.toNat, by omega⟩
    have hj : j < l.length := by omega
    have hg := List.getElem?_eq_getElem hj
    have hmem := armsWt_mem (List.getElem_mem hj)
    obtain ⟨t', q3, k1, k2, w3⟩ := draw_SpoilArm hb 20000 l[j] (by omega) (by omega) n (by omega) q2 (by omega)
    have hset := armsWt_set l j l[j] t' hg
    obtain ⟨xk, xo, xa, xks, xcs, xkk, hx⟩ : ∃ k' op as ks' cs' kk, l[j] = .mk (.mk k' op as ks') cs' kk := by
      cases hq : l[j] with | mk nn cs ks => cases nn; exact ⟨_, _, _, _, _, _, rfl⟩
    rw [hx] at hg w3
    have w2 := lift rfl w2
    have w3 := lift rfl w3
    have hb1 := armRows_get hg
    obtain ⟨⟨yk, yo, ya, yks⟩, ycs, ykk⟩ := t'
    have hs := armRows_set l j yk yo ya yks ycs ykk
    refine ⟨l.set j (.mk (.mk yk yo ya yks) ycs ykk), q3, by omega, by omega, fun s => ?_⟩
    have tk := take_armRows (l.set j (.mk (.mk yk yo ya yks) ycs ykk))
    simp only [List.length_set] at tk
    simp [-getElem?_pos, runS_at, F152, modeS, brIds, h0, h0b, c0, c1, al6, rm6, w1, w2, w3, hj, hb1, hs, tk]

end Go.VM

/- Draws: ladders. Conditions: none. -/
namespace Go.VM
set_option linter.unusedSimpArgs false
set_option linter.unusedVariables false
set_option maxHeartbeats 16000000

theorem draw_Spoil2 {b : List Int} (hb : RD b) (l : List Arm) (hl : armsWt l ≤ 20000) (n : Nat) (hn : 60001 ≤ n) (p : Nat) (hp : p < 2 ^ 30) :
    ∃ (l' : List Arm) (q : Nat), armsWt l' ≤ armsWt l + 2000 ∧ q ≤ p + 2 ^ 23 ∧ ∀ s, go n 152 [pV, .w (ksW l)] [rB b p] s = some ⟨.w (ksW l'), [rB b q], []⟩ := by
  obtain ⟨n, rfl⟩ : ∃ k, n = k + 1 := ⟨n - 1, by omega⟩
  obtain ⟨l', q, h1, h2, w⟩ := draw_SpoilL hb l hl n (by omega) p hp
  exact ⟨l', q, h1, h2, fun s => (go_sp FT_152 rfl rfl).trans (w s)⟩
theorem draw_LAny {b : List Int} (hb : RD b) (n : Nat) (hn : 70000 ≤ n) (p : Nat) (hp : p < 2 ^ 29) :
    ∃ (l : List Arm) (q : Nat), armsWt l ≤ 15000 ∧ q ≤ p + 2 ^ 24 ∧ ∀ s, go n 128 [pV] [rB b p] s = some ⟨.w (ksW l), [rB b q], []⟩ := by
  obtain ⟨n, rfl⟩ : ∃ k, n = k + 1 := ⟨n - 1, by omega⟩
  obtain ⟨l, q1, h1, h2, w1⟩ := draw_Ladder hb n (by omega) p (by omega)
  obtain ⟨v, q2, v1, v2, v3, w2⟩ := draw_pick hb 16 q1 (by omega) n (by omega)
  by_cases c : v = 0
  · obtain ⟨l', q3, k1, k2, w3⟩ := draw_Spoil2 hb l (by omega) n (by omega) q2 (by omega)
    refine ⟨l', q3, by omega, by omega, fun s => ?_⟩
    subst c
    simp [go_of FT_128 rfl, F128, w1, w2, w3]
  · refine ⟨l, q2, by omega, by omega, fun s => ?_⟩
    simp [go_of FT_128 rfl, F128, w1, w2, c]
theorem draw_DrawNormMake {b : List Int} (hl : b.length < 2 ^ 40) (hb : ∀ x ∈ b, 0 ≤ x ∧ x < 256) (n : Nat) (hn : 80000 ≤ n) : ∃ l : List Arm, armsWt l ≤ 15000 ∧ ∀ s, go n 111 [.w (bW 0 b)] [] s = some ⟨.w (ksW l), [], []⟩ := by
  obtain ⟨n, rfl⟩ : ∃ k, n = k + 1 := ⟨n - 1, by omega⟩
  obtain ⟨b2, hR, w0⟩ := draw_open hl hb n (by omega)
  obtain ⟨l, q, g1, g2, w1⟩ := draw_LAny hR n (by omega) 0 (by omega)
  have w1 : ∀ s, go n 128 [pV] [.cells [.d (.l 0 (byt b2)), .d (.s (.int .i64 0))]] s = some ⟨.w (ksW l), [rB b2 q], []⟩ := w1
  exact ⟨l, g1, fun s => by simp [go_of FT_111 rfl, F111, w0, w1]⟩
end Go.VM
