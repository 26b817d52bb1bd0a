/- Draws: arms. Conditions: none. -/
import Derived.Test.YtcjdokngpmnkjaaGreatDoorVS4

namespace Go.VM
set_option linter.unusedSimpArgs false
set_option linter.unusedVariables false
set_option maxHeartbeats 16000000
def CoilR (b : List Int) (n : Nat) (p : Nat) (e : El) (q : Nat) : Prop := ∀ s, go n 135 [pV] [rB b p] s = some ⟨elX e, [rB b q], []⟩
def ArmR (b : List Int) (n : Nat) (d : Int) (p : Nat) (t : Arm) (q : Nat) : Prop := ∀ s, go n 178 [pV, iV d, bV false] [rB b p] s = some ⟨armX t, [rB b q], []⟩
def Slot (H : Nat → Box) (g lo av sz : Nat) (cw : W) (len : Nat) (rows : List (List D)) : Prop :=
 (rows = [] ∧ cw = .nil) ∨ ∃ bx, rows ≠ [] ∧ bx ≠ av ∧ lo < bx ∧ bx < g ∧ cw = .own bx 0 len none ∧ H bx = .row none sz rows 0
theorem k40 {b : List Int} {n : Nat} (d0 : V) (k0 op0 as0 nk0 kk0 : W) (u2 : V) (C1 Xc : Box) (bc bq : Nat) (ts : List El) (r : Nat) (h3 : ts.length ≤ 4) (hn : 8 ≤ n) (hbq : 1 < bq) (hcq : bc ≠ bq) (hc0 : bc ≠ 0) (st : St) (p : Nat) (hS : Seq (CoilR b n) p ts r)
 (h0 : st.τ 0 = pV) (h1 : st.τ 1 = d0) (h2 : st.τ 2 = u2) (h6 : st.τ 6 = .w (.ptr 1 0)) (h7 : st.τ 7 = .w (.ptr bq 0)) (h8 : st.τ 8 = iV ts.length) (hA : st.H 0 = rB b p) (hC : st.H 1 = C1) (hX : st.H bc = Xc) (hbc : bc < st.g) (hB : st.H bq = .cells [k0, op0, as0, nk0, .nil, kk0]) (hg : bq < st.g) :
 ∃ e st', execC (go n) mode GT false 74 n F178_L0 st = some (e, st') ∧ e ≠ .normal ∧ (e = .exit 0 ∧ st'.τ 0 = pV ∧ st'.τ 1 = d0 ∧ st'.τ 2 = u2 ∧ st'.τ 6 = .w (.ptr 1 0) ∧ st'.τ 7 = .w (.ptr bq 0) ∧ st'.H 0 = rB b r ∧ st'.H 1 = C1 ∧ st'.H bc = Xc ∧ bc < st'.g ∧ bq < st'.g ∧
  ∃ cw, st'.H bq = .cells [k0, op0, as0, nk0, cw, kk0] ∧ Slot st'.H st'.g bq bc 2 cw ts.length (elRows ts)) := by
 rw [F178_L0, k00]; refine k03 (fun k st => ∃ ks rest q cw, ts = ks ++ rest ∧ rest.length = k ∧ Seq (CoilR b n) q rest r ∧ st.τ 0 = pV ∧ st.τ 1 = d0 ∧ st.τ 2 = u2 ∧ st.τ 6 = .w (.ptr 1 0) ∧ st.τ 7 = .w (.ptr bq 0) ∧ st.τ 8 = iV rest.length ∧ st.H 0 = rB b q ∧ st.H 1 = C1 ∧ st.H bc = Xc ∧ bc < st.g ∧ bq < st.g ∧
  st.H bq = .cells [k0, op0, as0, nk0, cw, kk0] ∧ Slot st.H st.g bq bc 2 cw ks.length (elRows ks)) ?_ n ts.length st (by omega)
  ⟨[], ts, p, .nil, rfl, rfl, hS, h0, h1, h2, h6, h7, h8, hA, hC, hX, hbc, hg, hB, .inl ⟨by simp [elRows], rfl⟩⟩
 clear h0 h1 h2 h6 h7 h8 hA hC hX hbc hB hg hS; rintro k ⟨τ, H, g, s⟩ ⟨ks, rest, q, cw, hts, hr, hS, h0, h1, h2, h6, h7, h8, hA, hC, hX, hbc, hg, hB, hcw⟩; simp only at h0 h1 h2 h6 h7 h8 hA hC hX hbc hg hB hcw; cases hS with
 | nil =>
  rw [List.append_nil] at hts; subst hts; refine ⟨.exit 0, ⟨upd (upd τ 22 (iV 0)) 23 (.w (.d (.s (.bool false)))), H, g + 128, restS s⟩, ?_, by simp, fun _ => ⟨rfl, by simpa using h0, by simpa using h1, by simpa using h2, by simpa using h6, by simpa using h7, hA, hC, hX, by simp only; omega, by simp only; omega, cw, hB, ?_⟩⟩
  · simp [F178_B0, h0, h1, h6, h7, h8]
  · rcases hcw with hcw | ⟨bx, hn0, hb0, hb1, hb2, hb3, hb4⟩
    · exact .inl hcw
    · exact .inr ⟨bx, hn0, hb0, hb1, by simp only; omega, hb3, hb4⟩
 | @cons _ q2 _ t rest2 w hS2 =>
  have w : ∀ s, _ := w; have hlen : ts.length = ks.length + (rest2.length + 1) := by rw [hts]; simp
  have hlt : ((0 : Int) < (rest2.length : Int) + 1) = True := eq_true (by omega); have hwr : IntKind.wrap .i64 ((rest2.length : Int) + 1 - 1) = (rest2.length : Int) := by rw [Int.add_sub_cancel]; exact k29 (by omega) (by omega)
  have hwr2 : IntKind.wrap .i64 (rest2.length : Int) = (rest2.length : Int) := k29 (by omega) (by omega); obtain ⟨eo, ea⟩ := t; have fgX := far (show bq < g by omega); have feX := far (show 1 < g by omega); have fzX := far (show 0 < g by omega); have fxX := far (show bc < g by omega); have lq1 : ∀ x : Nat, (bq < g + x) = True := fun x => eq_true (by omega)
  have lq2 : ∀ x y : Nat, (bq < g + x + y) = True := fun x y => eq_true (by omega)
  have rm : room (ks.length + 1) 32 = true := k08 (by omega) (by omega); have rm1 : room 1 32 = true := by decide
  have hk : rest2.length < k := by simp at hr; omega
  have a1 : (1 = bq) = False := eq_false (by omega); have a2 : (0 = bq) = False := eq_false (by omega); have a3 : (bc = bq) = False := eq_false hcq; have a4 : (bq = 1) = False := eq_false (by omega); have a5 : (bq = 0) = False := eq_false (by omega); have a6 : (bc = 0) = False := eq_false hc0; have a7 : (bq = bc) = False := eq_false (fun e => hcq e.symm); refine ⟨.normal, ?_⟩
  rcases hcw with ⟨hks, rfl⟩ | ⟨bx, hn0, hb0, hb1, hb2, rfl, hBX⟩
  · have hks : ks = [] := by cases ks with | nil => rfl | cons a l => simp [elRows] at hks
    subst hks; simp only [List.length_nil] at hlen; simp [-getElem?_pos, F178_B0, h0, h1, h2, h6, h7, h8, hA, hC, hX, hB, hlt, w, hwr, hwr2, rm1, a1, a2, a3, a4, a5, a6, a7, lq1, lq2, fgX, feX, fzX, fxX]; refine ⟨rest2.length, hk, [⟨eo, ea⟩], rest2, by rw [hts]; simp, rfl, q2, hS2, rfl, rfl, by omega, by omega, .inr ⟨_, ?_, ?_, ?_, ?_, rfl, ?_⟩⟩
    · simp [k32, elRows, El.row]
    · omega
    · omega
    · omega
    · simp [k32, elRows, El.row, fgX]; try rfl
  · have fbX := far hb2
    have b1 : (bq = bx) = False := eq_false (by omega); have b2 : (1 = bx) = False := eq_false (by omega); have b3 : (0 = bx) = False := eq_false (by omega); have b4 : (bx = bq) = False := eq_false (by omega); have b5 : (bx = 0) = False := eq_false (by omega); have b6 : (bx = 1) = False := eq_false (by omega); have b7 : (bx = bc) = False := eq_false hb0; have b8 : (bc = bx) = False := eq_false (fun e => hb0 e.symm); simp [-getElem?_pos, F178_B0, h0, h1, h2, h6, h7, h8, hA, hC, hX, hB, hBX, hlt, w, hwr, hwr2, rm, a1, a2, a3, a4, a5, a6, a7, lq1, lq2, b1, b2, b3, b4, b5, b6, b7, b8, fgX, feX, fzX, fxX, fbX]
    refine ⟨rest2.length, hk, ks ++ [⟨eo, ea⟩], rest2, by rw [hts]; simp, rfl, q2, hS2, rfl, rfl, by omega, by omega, .inr ⟨_, ?_, ?_, ?_, ?_, (by rw [List.length_append]; rfl), ?_⟩⟩
    · simp [k32, elRows, El.row]
    · omega
    · omega
    · omega
    · simp [k32, elRows, El.row, fgX]; try rfl
theorem kc7 {b : List Int} {n : Nat} (d0 : Int) (k0 op0 as0 nk0 cc0 : W) (u2 : V) (C1 Xc : Box) (bc bq : Nat) (ts : List Arm) (r : Nat) (h3 : ts.length ≤ 4) (hn : 8 ≤ n) (hbq : 1 < bq) (hcq : bc ≠ bq) (hc0 : bc ≠ 0) (st : St) (p : Nat) (hS : Seq (ArmR b n (IntKind.wrap .i64 (d0 - 1))) p ts r)
 (h0 : st.τ 0 = pV) (h1 : st.τ 1 = iV d0) (h2 : st.τ 2 = u2) (h6 : st.τ 6 = .w (.ptr 1 0)) (h7 : st.τ 7 = .w (.ptr bq 0)) (h8 : st.τ 9 = iV ts.length) (hA : st.H 0 = rB b p) (hC : st.H 1 = C1) (hX : st.H bc = Xc) (hbc : bc < st.g) (hB : st.H bq = .cells [k0, op0, as0, nk0, cc0, .nil]) (hg : bq < st.g) :
 ∃ e st', execC (go n) mode GT false 74 n F178_L1 st = some (e, st') ∧ e ≠ .normal ∧ (e = .exit 2 ∧ st'.τ 0 = pV ∧ st'.τ 1 = iV d0 ∧ st'.τ 2 = u2 ∧ st'.τ 6 = .w (.ptr 1 0) ∧ st'.τ 7 = .w (.ptr bq 0) ∧ st'.H 0 = rB b r ∧ st'.H 1 = C1 ∧ st'.H bc = Xc ∧ bc < st'.g ∧ bq < st'.g ∧
  ∃ cw, st'.H bq = .cells [k0, op0, as0, nk0, cc0, cw] ∧ Slot st'.H st'.g bq bc 6 cw ts.length (armRows ts)) := by
 rw [F178_L1, k00]; refine k03 (fun k st => ∃ ks rest q cw, ts = ks ++ rest ∧ rest.length = k ∧ Seq (ArmR b n (IntKind.wrap .i64 (d0 - 1))) q rest r ∧ st.τ 0 = pV ∧ st.τ 1 = iV d0 ∧ st.τ 2 = u2 ∧ st.τ 6 = .w (.ptr 1 0) ∧ st.τ 7 = .w (.ptr bq 0) ∧ st.τ 9 = iV rest.length ∧ st.H 0 = rB b q ∧ st.H 1 = C1 ∧ st.H bc = Xc ∧ bc < st.g ∧ bq < st.g ∧
  st.H bq = .cells [k0, op0, as0, nk0, cc0, cw] ∧ Slot st.H st.g bq bc 6 cw ks.length (armRows ks)) ?_ n ts.length st (by omega)
  ⟨[], ts, p, .nil, rfl, rfl, hS, h0, h1, h2, h6, h7, h8, hA, hC, hX, hbc, hg, hB, .inl ⟨by simp [armRows], rfl⟩⟩
 clear h0 h1 h2 h6 h7 h8 hA hC hX hbc hB hg hS; rintro k ⟨τ, H, g, s⟩ ⟨ks, rest, q, cw, hts, hr, hS, h0, h1, h2, h6, h7, h8, hA, hC, hX, hbc, hg, hB, hcw⟩; simp only at h0 h1 h2 h6 h7 h8 hA hC hX hbc hg hB hcw; cases hS with
 | nil =>
  rw [List.append_nil] at hts; subst hts; refine ⟨.exit 2, ⟨upd (upd τ 43 (iV 0)) 44 (.w (.d (.s (.bool false)))), H, g + 128, restS s⟩, ?_, by simp, fun _ => ⟨rfl, by simpa using h0, by simpa using h1, by simpa using h2, by simpa using h6, by simpa using h7, hA, hC, hX, by simp only; omega, by simp only; omega, cw, hB, ?_⟩⟩
  · simp [F178_B1, h0, h1, h6, h7, h8]
  · rcases hcw with hcw | ⟨bx, hn0, hb0, hb1, hb2, hb3, hb4⟩
    · exact .inl hcw
    · exact .inr ⟨bx, hn0, hb0, hb1, by simp only; omega, hb3, hb4⟩
 | @cons _ q2 _ t rest2 w hS2 =>
  have w : ∀ s, _ := w; have hlen : ts.length = ks.length + (rest2.length + 1) := by rw [hts]; simp
  have hlt : ((0 : Int) < (rest2.length : Int) + 1) = True := eq_true (by omega); have hwr : IntKind.wrap .i64 ((rest2.length : Int) + 1 - 1) = (rest2.length : Int) := by rw [Int.add_sub_cancel]; exact k29 (by omega) (by omega)
  have hwr2 : IntKind.wrap .i64 (rest2.length : Int) = (rest2.length : Int) := k29 (by omega) (by omega); obtain ⟨⟨tk, to, ta, tks⟩, tcs, tkk⟩ := t; have fgX := far (show bq < g by omega); have feX := far (show 1 < g by omega); have fzX := far (show 0 < g by omega); have fxX := far (show bc < g by omega); have lq1 : ∀ x : Nat, (bq < g + x) = True := fun x => eq_true (by omega)
  have lq2 : ∀ x y : Nat, (bq < g + x + y) = True := fun x y => eq_true (by omega)
  have rm : room (ks.length + 1) 112 = true := k08 (by omega) (by omega); have rm1 : room 1 112 = true := by decide
  have hk : rest2.length < k := by simp at hr; omega
  have a1 : (1 = bq) = False := eq_false (by omega); have a2 : (0 = bq) = False := eq_false (by omega); have a3 : (bc = bq) = False := eq_false hcq; have a4 : (bq = 1) = False := eq_false (by omega); have a5 : (bq = 0) = False := eq_false (by omega); have a6 : (bc = 0) = False := eq_false hc0; have a7 : (bq = bc) = False := eq_false (fun e => hcq e.symm); refine ⟨.normal, ?_⟩
  rcases hcw with ⟨hks, rfl⟩ | ⟨bx, hn0, hb0, hb1, hb2, rfl, hBX⟩
  · have hks : ks = [] := by cases ks with | nil => rfl | cons a l => simp [armRows] at hks
    subst hks; simp only [List.length_nil] at hlen; simp [-getElem?_pos, F178_B1, h0, h1, h2, h6, h7, h8, hA, hC, hX, hB, hlt, w, hwr, hwr2, rm1, a1, a2, a3, a4, a5, a6, a7, lq1, lq2, fgX, feX, fzX, fxX]; refine ⟨rest2.length, hk, [.mk (.mk tk to ta tks) tcs tkk], rest2, by rw [hts]; simp, rfl, q2, hS2, rfl, rfl, by omega, by omega, .inr ⟨_, ?_, ?_, ?_, ?_, rfl, ?_⟩⟩
    · simp [k28, armRows, Arm.row]
    · omega
    · omega
    · omega
    · simp [k28, armRows, Arm.row, fgX]; try rfl
  · have fbX := far hb2
    have b1 : (bq = bx) = False := eq_false (by omega); have b2 : (1 = bx) = False := eq_false (by omega); have b3 : (0 = bx) = False := eq_false (by omega); have b4 : (bx = bq) = False := eq_false (by omega); have b5 : (bx = 0) = False := eq_false (by omega); have b6 : (bx = 1) = False := eq_false (by omega); have b7 : (bx = bc) = False := eq_false hb0; have b8 : (bc = bx) = False := eq_false (fun e => hb0 e.symm); simp [-getElem?_pos, F178_B1, h0, h1, h2, h6, h7, h8, hA, hC, hX, hB, hBX, hlt, w, hwr, hwr2, rm, a1, a2, a3, a4, a5, a6, a7, lq1, lq2, b1, b2, b3, b4, b5, b6, b7, b8, fgX, feX, fzX, fxX, fbX]
    refine ⟨rest2.length, hk, ks ++ [.mk (.mk tk to ta tks) tcs tkk], rest2, by rw [hts]; simp, rfl, q2, hS2, rfl, rfl, by omega, by omega, .inr ⟨_, ?_, ?_, ?_, ?_, (by rw [List.length_append]; rfl), ?_⟩⟩
    · simp [k28, armRows, Arm.row]
    · omega
    · omega
    · omega
    · simp [k28, armRows, Arm.row, fgX]; try rfl
theorem kA9 {W : Nat} : ∀ {l : List El}, (∀ t ∈ l, t.wt ≤ W) → elsWt l ≤ l.length * W
 | [], h => by simp [elsWt]
 | a :: r, h => by
  have h1 := h a (List.mem_cons_self ..); have h2 := kA9 fun t ht => h t (List.mem_cons_of_mem _ ht)
  simp only [elsWt, List.length_cons, Nat.add_mul]; omega
theorem kv1 {W : Nat} : ∀ {l : List Arm}, (∀ t ∈ l, t.wt ≤ W) → armsWt l ≤ l.length * W
 | [], h => by simp [armsWt]
 | a :: r, h => by
  have h1 := h a (List.mem_cons_self ..); have h2 := kv1 fun t ht => h t (List.mem_cons_of_mem _ ht)
  simp only [armsWt, List.length_cons, Nat.add_mul]; omega
theorem kI1 {b : List Int} (hb : RD b) (root : Bool) (n : Nat) (hn : 25 ≤ n) (p : Nat) (hp : p + 4000 < 2 ^ 34) : ∃ (t : Net) (q : Nat), t.wt ≤ 64 ∧ q ≤ p + 641 ∧
 ((root = true ∧ ∀ s, go n 115 [pV, iV 2] [rB b p] s = some ⟨netX t, [rB b q], []⟩) ∨
  (root = false ∧ ∃ v q0, (∀ s, go n 67 [pV, iV 3] [rB b p] s = some ⟨iV v, [rB b q0], []⟩) ∧ 0 < v ∧ ∀ s, go n 115 [pV, iV 2] [rB b q0] s = some ⟨netX t, [rB b q], []⟩) ∨
  (root = false ∧ ∃ v, (∀ s, go n 67 [pV, iV 3] [rB b p] s = some ⟨iV v, [rB b q], []⟩) ∧ ¬ 0 < v ∧ t.kind = 0 ∧ t.op = 0 ∧ t.as = [] ∧ t.kids = [])) := by
 cases root
 · obtain ⟨v, q0, h1, h2, h3, w⟩ := k06 hb 3 p (by omega) n (by omega)
   by_cases hv : 0 < v
   · obtain ⟨t, q, g1, g2, w2⟩ := kJ3 hb 2 (by omega) n (by omega) q0 (by omega)
     exact ⟨t, q, by omega, by omega, .inr (.inl ⟨rfl, v, q0, w, hv, w2⟩)⟩
   · exact ⟨.mk 0 0 [] [], q0, by simp [Net.wt, netsWt], by omega, .inr (.inr ⟨rfl, v, w, hv, rfl, rfl, rfl, rfl⟩)⟩
 · obtain ⟨t, q, g1, g2, w2⟩ := kJ3 hb 2 (by omega) n (by omega) p (by omega)
   exact ⟨t, q, by omega, by omega, .inl ⟨rfl, w2⟩⟩
theorem draw_ArmS {b : List Int} (hb : RD b) : ∀ (d : Nat), d ≤ 2 → ∀ (n : Nat), d + 40 ≤ n → ∀ p, p + 4000 * 4 ^ d < 2 ^ 34 → ∀ root : Bool, ∃ (t : Arm) (q : Nat), t.wt ≤ 200 * 4 ^ d ∧ q ≤ p + 2000 * 4 ^ d ∧ ∀ s, go n 178 [pV, iV d, bV root] [rB b p] s = some ⟨armX t, [rB b q], []⟩ := by
 intro d
 induction d with
 | zero =>
  intro _ n hn p hp root; obtain ⟨n, rfl⟩ : ∃ k, n = k + 1 := ⟨n - 1, by omega⟩; have rm1 : room 1 32 = true := by decide
  obtain ⟨t1, q1, ht1, hq1, hs1⟩ := kI1 hb root n (by omega) p (by omega); obtain ⟨tk, to, ta, tks⟩ := t1; obtain ⟨m, q2, m1, m2, m3, wm⟩ := k06 hb 3 q1 (by omega) n (by omega); have m2 := m2 (by omega); obtain ⟨M, rfl⟩ : ∃ M : Nat, m = M := ⟨m.toNat, by omega⟩; obtain ⟨es, r, k1, k2, k3, hS⟩ := Seq.have (R := CoilR b n) (wt := El.wt) (W := 4) (P := 40) (B := 2 ^ 35) (fun p hp => by
   obtain ⟨e, q, h1, h2, h3⟩ := k57 hb p (by omega) n (by omega); exact ⟨e, q, by simp only [El.wt]; omega, h2, h3⟩) M q2 (by omega)
  have hew := kA9 k2; have hesL : es.length ≤ 2 := by omega
  have hlt0 : (0 : Int) < 0 ↔ False := by simp
  by_cases hes : es = []
  · have hesl : es.length = 0 := by rw [hes]; rfl
    obtain ⟨⟨eo, ea⟩, q5, g1, g2, w5⟩ := k57 hb r (by omega) n (by omega); simp only at g1; refine ⟨.mk (.mk tk to ta tks) [⟨eo, ea⟩] [], q5, by simp only [Arm.wt, elsWt, armsWt, El.wt]; omega, by omega, fun s => ?_⟩
    rcases hs1 with ⟨rfl, w1⟩ | ⟨rfl, v, q0, w0, hv, w1⟩ | ⟨rfl, v, w0, hv, rfl, rfl, rfl, rfl⟩
    · simp [go_of FT_178 rfl, F178, w1, wm]
      generalize hst : St.mk _ _ _ _ = st; obtain ⟨e1, ⟨τ1, H1, g1, s1⟩, hx1, -, rfl, f0, f1, f2, f6, f7, fA, fC, fX, fbc, fg, cw, fB, fS⟩ := k40 (n := n) (iV (0 : Nat)) (iW tk) (iW to) (asW ta) (nsW tks) .nil (bV true) (.cells [iW 0, iW 0, .nil, .nil, .nil, .nil]) (.cells [iW 0, iW 0, .nil, .nil, .nil, .nil]) 1 129 es r (by omega) (by omega) (by omega) (by omega) (by omega) st q2 hS (by simp [← hst]) (by simp [← hst]) (by simp [← hst]) (by simp [← hst]) (by simp [← hst]) (by simp [← hst, k1]) (by simp [← hst]) (by simp [← hst]) (by simp [← hst]) (by simp [← hst]) (by simp [← hst]) (by simp [← hst]); simp only at f0 f1 f2 f6 f7 fA fC fX fbc fg fB fS; clear hst
      obtain rfl : cw = .nil := by
       rcases fS with ⟨_, h⟩ | ⟨_, h, _⟩
       · exact h
       · exact absurd (by subst hes; rfl) h
      have fgX := far (show 129 < g1 by omega); have feX := far (show 1 < g1 by omega); have fzX := far (show 0 < g1 by omega); simp [hx1, f0, f1, f2, f6, f7, fA, fC, fB, w5, hesl, hlt0, rm1, fgX, feX, fzX]
      try simp [elRows, El.row]
    · simp [go_of FT_178 rfl, F178, w0, hv, w1, wm]
      generalize hst : St.mk _ _ _ _ = st; obtain ⟨e1, ⟨τ1, H1, g1, s1⟩, hx1, -, rfl, f0, f1, f2, f6, f7, fA, fC, fX, fbc, fg, cw, fB, fS⟩ := k40 (n := n) (iV (0 : Nat)) (iW tk) (iW to) (asW ta) (nsW tks) .nil (bV false) (.cells [iW 0, iW 0, .nil, .nil, .nil, .nil]) (.cells [iW 0, iW 0, .nil, .nil, .nil, .nil]) 1 129 es r (by omega) (by omega) (by omega) (by omega) (by omega) st q2 hS (by simp [← hst]) (by simp [← hst]) (by simp [← hst]) (by simp [← hst]) (by simp [← hst]) (by simp [← hst, k1]) (by simp [← hst]) (by simp [← hst]) (by simp [← hst]) (by simp [← hst]) (by simp [← hst]) (by simp [← hst]); simp only at f0 f1 f2 f6 f7 fA fC fX fbc fg fB fS; clear hst
      obtain rfl : cw = .nil := by
       rcases fS with ⟨_, h⟩ | ⟨_, h, _⟩
       · exact h
       · exact absurd (by subst hes; rfl) h
      have fgX := far (show 129 < g1 by omega); have feX := far (show 1 < g1 by omega); have fzX := far (show 0 < g1 by omega); simp [hx1, f0, f1, f2, f6, f7, fA, fC, fB, w5, hesl, hlt0, rm1, fgX, feX, fzX]
      try simp [elRows, El.row]
    · simp [go_of FT_178 rfl, F178, w0, hv, wm]
      generalize hst : St.mk _ _ _ _ = st; obtain ⟨e1, ⟨τ1, H1, g1, s1⟩, hx1, -, rfl, f0, f1, f2, f6, f7, fA, fC, fX, fbc, fg, cw, fB, fS⟩ := k40 (n := n) (iV (0 : Nat)) (iW 0) (iW 0) .nil .nil .nil (bV false) (.cells [iW 0, iW 0, .nil, .nil, .nil, .nil]) (.cells [iW 0, iW 0, .nil, .nil, .nil, .nil]) 1 129 es r (by omega) (by omega) (by omega) (by omega) (by omega) st q2 hS (by simp [← hst]) (by simp [← hst]) (by simp [← hst]) (by simp [← hst]) (by simp [← hst]) (by simp [← hst, k1]) (by simp [← hst]) (by simp [← hst]) (by simp [← hst]) (by simp [← hst]) (by simp [← hst]) (by simp [← hst]); simp only at f0 f1 f2 f6 f7 fA fC fX fbc fg fB fS; clear hst; obtain rfl : cw = .nil := by
       rcases fS with ⟨_, h⟩ | ⟨_, h, _⟩
       · exact h
       · exact absurd (by subst hes; rfl) h
      have fgX := far (show 129 < g1 by omega); have feX := far (show 1 < g1 by omega); have fzX := far (show 0 < g1 by omega); simp [hx1, f0, f1, f2, f6, f7, fA, fC, fB, w5, hesl, hlt0, rm1, fgX, feX, fzX]
      try simp [elRows, El.row]
  · have hesl : ¬ es.length = 0 := fun e => hes (List.eq_nil_of_length_eq_zero e)
    have hes : elRows es ≠ [] := by cases es with | nil => exact absurd rfl hes | cons a l => simp [elRows]
    refine ⟨.mk (.mk tk to ta tks) es [], r, by simp only [Arm.wt, armsWt]; omega, by omega, fun s => ?_⟩
    rcases hs1 with ⟨rfl, w1⟩ | ⟨rfl, v, q0, w0, hv, w1⟩ | ⟨rfl, v, w0, hv, rfl, rfl, rfl, rfl⟩
    · simp [go_of FT_178 rfl, F178, w1, wm]
      generalize hst : St.mk _ _ _ _ = st; obtain ⟨e1, ⟨τ1, H1, g1, s1⟩, hx1, -, rfl, f0, f1, f2, f6, f7, fA, fC, fX, fbc, fg, cw, fB, fS⟩ := k40 (n := n) (iV (0 : Nat)) (iW tk) (iW to) (asW ta) (nsW tks) .nil (bV true) (.cells [iW 0, iW 0, .nil, .nil, .nil, .nil]) (.cells [iW 0, iW 0, .nil, .nil, .nil, .nil]) 1 129 es r (by omega) (by omega) (by omega) (by omega) (by omega) st q2 hS (by simp [← hst]) (by simp [← hst]) (by simp [← hst]) (by simp [← hst]) (by simp [← hst]) (by simp [← hst, k1]) (by simp [← hst]) (by simp [← hst]) (by simp [← hst]) (by simp [← hst]) (by simp [← hst]) (by simp [← hst]); simp only at f0 f1 f2 f6 f7 fA fC fX fbc fg fB fS; clear hst
      obtain ⟨bx, -, hb0, hb1, hb2, rfl, hBX⟩ : ∃ bx, elRows es ≠ [] ∧ bx ≠ 1 ∧ 129 < bx ∧ bx < g1 ∧ cw = .own bx 0 es.length none ∧ H1 bx = .row none 2 (elRows es) 0 := by
       rcases fS with ⟨h, _⟩ | h
       · exact absurd h hes
       · exact h
      have b1 : (129 = bx) = False := eq_false (by omega); have b2 : (1 = bx) = False := eq_false (by omega); have b3 : (0 = bx) = False := eq_false (by omega); have b4 : (bx = 129) = False := eq_false (by omega); have b5 : (bx = 0) = False := eq_false (by omega); have b6 : (bx = 1) = False := eq_false (by omega); have fgX := far (show 129 < g1 by omega); have feX := far (show 1 < g1 by omega); have fzX := far (show 0 < g1 by omega); have fbX := far (show bx < g1 by omega); simp [hx1, f0, f1, f2, f6, f7, fA, fC, fB, hBX, b1, b2, b3, b4, b5, b6, hes, hesl, hlt0, rm1, fgX, feX, fzX, fbX]
    · simp [go_of FT_178 rfl, F178, w0, hv, w1, wm]
      generalize hst : St.mk _ _ _ _ = st; obtain ⟨e1, ⟨τ1, H1, g1, s1⟩, hx1, -, rfl, f0, f1, f2, f6, f7, fA, fC, fX, fbc, fg, cw, fB, fS⟩ := k40 (n := n) (iV (0 : Nat)) (iW tk) (iW to) (asW ta) (nsW tks) .nil (bV false) (.cells [iW 0, iW 0, .nil, .nil, .nil, .nil]) (.cells [iW 0, iW 0, .nil, .nil, .nil, .nil]) 1 129 es r (by omega) (by omega) (by omega) (by omega) (by omega) st q2 hS (by simp [← hst]) (by simp [← hst]) (by simp [← hst]) (by simp [← hst]) (by simp [← hst]) (by simp [← hst, k1]) (by simp [← hst]) (by simp [← hst]) (by simp [← hst]) (by simp [← hst]) (by simp [← hst]) (by simp [← hst]); simp only at f0 f1 f2 f6 f7 fA fC fX fbc fg fB fS; clear hst
      obtain ⟨bx, -, hb0, hb1, hb2, rfl, hBX⟩ : ∃ bx, elRows es ≠ [] ∧ bx ≠ 1 ∧ 129 < bx ∧ bx < g1 ∧ cw = .own bx 0 es.length none ∧ H1 bx = .row none 2 (elRows es) 0 := by
       rcases fS with ⟨h, _⟩ | h
       · exact absurd h hes
       · exact h
      have b1 : (129 = bx) = False := eq_false (by omega); have b2 : (1 = bx) = False := eq_false (by omega); have b3 : (0 = bx) = False := eq_false (by omega); have b4 : (bx = 129) = False := eq_false (by omega); have b5 : (bx = 0) = False := eq_false (by omega); have b6 : (bx = 1) = False := eq_false (by omega); have fgX := far (show 129 < g1 by omega); have feX := far (show 1 < g1 by omega); have fzX := far (show 0 < g1 by omega); have fbX := far (show bx < g1 by omega); simp [hx1, f0, f1, f2, f6, f7, fA, fC, fB, hBX, b1, b2, b3, b4, b5, b6, hes, hesl, hlt0, rm1, fgX, feX, fzX, fbX]
    · simp [go_of FT_178 rfl, F178, w0, hv, wm]
      generalize hst : St.mk _ _ _ _ = st; obtain ⟨e1, ⟨τ1, H1, g1, s1⟩, hx1, -, rfl, f0, f1, f2, f6, f7, fA, fC, fX, fbc, fg, cw, fB, fS⟩ := k40 (n := n) (iV (0 : Nat)) (iW 0) (iW 0) .nil .nil .nil (bV false) (.cells [iW 0, iW 0, .nil, .nil, .nil, .nil]) (.cells [iW 0, iW 0, .nil, .nil, .nil, .nil]) 1 129 es r (by omega) (by omega) (by omega) (by omega) (by omega) st q2 hS (by simp [← hst]) (by simp [← hst]) (by simp [← hst]) (by simp [← hst]) (by simp [← hst]) (by simp [← hst, k1]) (by simp [← hst]) (by simp [← hst]) (by simp [← hst]) (by simp [← hst]) (by simp [← hst]) (by simp [← hst]); simp only at f0 f1 f2 f6 f7 fA fC fX fbc fg fB fS; clear hst
      obtain ⟨bx, -, hb0, hb1, hb2, rfl, hBX⟩ : ∃ bx, elRows es ≠ [] ∧ bx ≠ 1 ∧ 129 < bx ∧ bx < g1 ∧ cw = .own bx 0 es.length none ∧ H1 bx = .row none 2 (elRows es) 0 := by
       rcases fS with ⟨h, _⟩ | h
       · exact absurd h hes
       · exact h
      have b1 : (129 = bx) = False := eq_false (by omega); have b2 : (1 = bx) = False := eq_false (by omega); have b3 : (0 = bx) = False := eq_false (by omega); have b4 : (bx = 129) = False := eq_false (by omega); have b5 : (bx = 0) = False := eq_false (by omega); have b6 : (bx = 1) = False := eq_false (by omega); have fgX := far (show 129 < g1 by omega); have feX := far (show 1 < g1 by omega); have fzX := far (show 0 < g1 by omega); have fbX := far (show bx < g1 by omega); simp [hx1, f0, f1, f2, f6, f7, fA, fC, fB, hBX, b1, b2, b3, b4, b5, b6, hes, hesl, hlt0, rm1, fgX, feX, fzX, fbX]
 | succ d ih =>
  intro hd n hn p hp root; have ih := ih (by omega); have hpow : 4 ^ (d + 1) = 4 * 4 ^ d := by rw [Nat.pow_succ, Nat.mul_comm]
  have hp1 : 1 ≤ 4 ^ d := Nat.pos_of_ne_zero (by simp); have hp2 : 4 ^ d ≤ 4 ^ 1 := Nat.pow_le_pow_right (by decide) (by omega); obtain ⟨n, rfl⟩ : ∃ k, n = k + 1 := ⟨n - 1, by omega⟩; have rm1 : room 1 32 = true := by decide
  obtain ⟨t1, q1, ht1, hq1, hs1⟩ := kI1 hb root n (by omega) p (by omega); obtain ⟨tk, to, ta, tks⟩ := t1; obtain ⟨m, q2, m1, m2, m3, wm⟩ := k06 hb 3 q1 (by omega) n (by omega); have m2 := m2 (by omega); obtain ⟨M, rfl⟩ : ∃ M : Nat, m = M := ⟨m.toNat, by omega⟩; obtain ⟨es, r, k1, k2, k3, hS⟩ := Seq.have (R := CoilR b n) (wt := El.wt) (W := 4) (P := 40) (B := 2 ^ 35) (fun p hp => by
   obtain ⟨e, q, h1, h2, h3⟩ := k57 hb p (by omega) n (by omega); exact ⟨e, q, by simp only [El.wt]; omega, h2, h3⟩) M q2 (by omega)
  have hew := kA9 k2; have hesL : es.length ≤ 2 := by omega
  have hlt0 : ((0 : Int) < (d : Int) + 1) = True := eq_true (by omega); have hdw : IntKind.wrap .i64 ((d : Int) + 1 - 1) = d := by rw [Int.add_sub_cancel]; exact k29 (by omega) (by omega)
  obtain ⟨u, q3, u1, u2, u3, wu⟩ := k06 hb 3 r (by omega) n (by omega)
  by_cases hu : u = 0
  · obtain ⟨u5, q4, u6, u7, u8, wu2⟩ := k06 hb 3 q3 (by omega) n (by omega)
    have u7 := u7 (by omega); obtain ⟨K, hK, hK1, hK2⟩ : ∃ K : Nat, u5 = (K : Int) - 1 ∧ 1 ≤ K ∧ K ≤ 3 := ⟨(u5 + 1).toNat, by omega, by omega, by omega⟩; have hKw : IntKind.wrap .i64 (1 + u5) = (K : Int) := by rw [hK]; rw [k29 (by omega) (by omega)]; omega
    obtain ⟨ks, r2, kl, kw, kp, hS2⟩ := Seq.have (R := ArmR b n d) (wt := Arm.wt) (W := 200 * 4 ^ d) (P := 2000 * 4 ^ d) (B := 2 ^ 34 - 4000 * 4 ^ d) (fun p hp => ih n (by omega) p (by omega) false) K q4 (by
     have : K * (2000 * 4 ^ d) ≤ 3 * (2000 * 4 ^ d) := Nat.mul_le_mul hK2 (Nat.le_refl _); omega)
    have kww := kv1 kw; have kw2 : ks.length * (200 * 4 ^ d) ≤ 3 * (200 * 4 ^ d) := Nat.mul_le_mul (by omega) (Nat.le_refl _); have kp2 : K * (2000 * 4 ^ d) ≤ 3 * (2000 * 4 ^ d) := Nat.mul_le_mul hK2 (Nat.le_refl _); rw [← hdw] at hS2; have hks : armRows ks ≠ [] := by cases ks with | nil => simp at kl; omega | cons a l => simp [armRows]
    have hksl : ¬ ks.length = 0 := by omega
    by_cases hes : es = []
    · have hesl : es.length = 0 := by rw [hes]; rfl
      refine ⟨.mk (.mk tk to ta tks) es ks, r2, by rw [hpow]; simp only [Arm.wt]; omega, by rw [hpow]; omega, fun s => ?_⟩
      rcases hs1 with ⟨rfl, w1⟩ | ⟨rfl, v, q0, w0, hv, w1⟩ | ⟨rfl, v, w0, hv, rfl, rfl, rfl, rfl⟩
      · simp [go_of FT_178 rfl, F178, w1, wm]
        generalize hst : St.mk _ _ _ _ = st; obtain ⟨e1, ⟨τ1, H1, g1, s1⟩, hx1, -, rfl, f0, f1, f2, f6, f7, fA, fC, fX, fbc, fg, cw, fB, fS⟩ := k40 (n := n) (iV ((d : Int) + 1)) (iW tk) (iW to) (asW ta) (nsW tks) .nil (bV true) (.cells [iW 0, iW 0, .nil, .nil, .nil, .nil]) (.cells [iW 0, iW 0, .nil, .nil, .nil, .nil]) 1 129 es r (by omega) (by omega) (by omega) (by omega) (by omega) st q2 hS (by simp [← hst]) (by simp [← hst]) (by simp [← hst]) (by simp [← hst]) (by simp [← hst]) (by simp [← hst, k1]) (by simp [← hst]) (by simp [← hst]) (by simp [← hst]) (by simp [← hst]) (by simp [← hst]) (by simp [← hst]); simp only at f0 f1 f2 f6 f7 fA fC fX fbc fg fB fS; clear hst
        obtain rfl : cw = .nil := by
         rcases fS with ⟨_, h⟩ | ⟨_, h, _⟩
         · exact h
         · exact absurd (by subst hes; rfl) h
        simp [hx1, f0, f1, f2, f6, f7, fA, fC, fB, wu, wu2, hu, hKw, hlt0]; generalize hst : St.mk _ _ _ _ = st3
        obtain ⟨e3, ⟨τ3, H3, g3, s3⟩, hx3, -, rfl, i0, i1, i2, i6, i7, iA, iC, iX, ibc, ig, cw2, iB, iS⟩ := kc7 (n := n) ((d : Int) + 1) (iW tk) (iW to) (asW ta) (nsW tks) .nil (bV true) (.cells [iW 0, iW 0, .nil, .nil, .nil, .nil]) (.cells [iW 0, iW 0, .nil, .nil, .nil, .nil]) 1 129 ks r2 (by omega) (by omega) (by omega) (by omega) (by omega) st3 q4 hS2 (by simp [← hst, f0]) (by simp [← hst, f1]) (by simp [← hst, f2]) (by simp [← hst, f6]) (by simp [← hst, f7]) (by simp [← hst, kl]) (by simp [← hst]) (by simp [← hst, fC]) (by simp [← hst, fC, ]) (by simp [← hst]; try omega) (by simp [← hst, fB]) (by simp [← hst]; try omega); simp only at i0 i1 i2 i6 i7 iA iC iX ibc ig iB iS; clear hst
        obtain ⟨by', -, hc0, hc1, hc2, rfl, hBY⟩ : ∃ by', armRows ks ≠ [] ∧ by' ≠ 1 ∧ 129 < by' ∧ by' < g3 ∧ cw2 = .own by' 0 ks.length none ∧ H3 by' = .row none 6 (armRows ks) 0 := by
         rcases iS with ⟨h, _⟩ | h
         · exact absurd h hks
         · exact h
        have c1 : (129 = by') = False := eq_false (by omega); have c2 : (1 = by') = False := eq_false (by omega); have c3 : (0 = by') = False := eq_false (by omega); have c4 : (by' = 129) = False := eq_false (by omega); have c5 : (by' = 0) = False := eq_false (by omega); have c6 : (by' = 1) = False := eq_false (by omega); simp [hx3, i0, i1, i2, i6, i7, iA, iC, iB, hBY, hesl, hksl, c1, c2, c3, c4, c5, c6]
        try simp [elRows, El.row]
        exact hes
      · simp [go_of FT_178 rfl, F178, w0, hv, w1, wm]
        generalize hst : St.mk _ _ _ _ = st; obtain ⟨e1, ⟨τ1, H1, g1, s1⟩, hx1, -, rfl, f0, f1, f2, f6, f7, fA, fC, fX, fbc, fg, cw, fB, fS⟩ := k40 (n := n) (iV ((d : Int) + 1)) (iW tk) (iW to) (asW ta) (nsW tks) .nil (bV false) (.cells [iW 0, iW 0, .nil, .nil, .nil, .nil]) (.cells [iW 0, iW 0, .nil, .nil, .nil, .nil]) 1 129 es r (by omega) (by omega) (by omega) (by omega) (by omega) st q2 hS (by simp [← hst]) (by simp [← hst]) (by simp [← hst]) (by simp [← hst]) (by simp [← hst]) (by simp [← hst, k1]) (by simp [← hst]) (by simp [← hst]) (by simp [← hst]) (by simp [← hst]) (by simp [← hst]) (by simp [← hst]); simp only at f0 f1 f2 f6 f7 fA fC fX fbc fg fB fS; clear hst
        obtain rfl : cw = .nil := by
         rcases fS with ⟨_, h⟩ | ⟨_, h, _⟩
         · exact h
         · exact absurd (by subst hes; rfl) h
        simp [hx1, f0, f1, f2, f6, f7, fA, fC, fB, wu, wu2, hu, hKw, hlt0]; generalize hst : St.mk _ _ _ _ = st3
        obtain ⟨e3, ⟨τ3, H3, g3, s3⟩, hx3, -, rfl, i0, i1, i2, i6, i7, iA, iC, iX, ibc, ig, cw2, iB, iS⟩ := kc7 (n := n) ((d : Int) + 1) (iW tk) (iW to) (asW ta) (nsW tks) .nil (bV false) (.cells [iW 0, iW 0, .nil, .nil, .nil, .nil]) (.cells [iW 0, iW 0, .nil, .nil, .nil, .nil]) 1 129 ks r2 (by omega) (by omega) (by omega) (by omega) (by omega) st3 q4 hS2 (by simp [← hst, f0]) (by simp [← hst, f1]) (by simp [← hst, f2]) (by simp [← hst, f6]) (by simp [← hst, f7]) (by simp [← hst, kl]) (by simp [← hst]) (by simp [← hst, fC]) (by simp [← hst, fC, ]) (by simp [← hst]; try omega) (by simp [← hst, fB]) (by simp [← hst]; try omega); simp only at i0 i1 i2 i6 i7 iA iC iX ibc ig iB iS; clear hst
        obtain ⟨by', -, hc0, hc1, hc2, rfl, hBY⟩ : ∃ by', armRows ks ≠ [] ∧ by' ≠ 1 ∧ 129 < by' ∧ by' < g3 ∧ cw2 = .own by' 0 ks.length none ∧ H3 by' = .row none 6 (armRows ks) 0 := by
         rcases iS with ⟨h, _⟩ | h
         · exact absurd h hks
         · exact h
        have c1 : (129 = by') = False := eq_false (by omega); have c2 : (1 = by') = False := eq_false (by omega); have c3 : (0 = by') = False := eq_false (by omega); have c4 : (by' = 129) = False := eq_false (by omega); have c5 : (by' = 0) = False := eq_false (by omega); have c6 : (by' = 1) = False := eq_false (by omega); simp [hx3, i0, i1, i2, i6, i7, iA, iC, iB, hBY, hesl, hksl, c1, c2, c3, c4, c5, c6]
        try simp [elRows, El.row]
        exact hes
      · simp [go_of FT_178 rfl, F178, w0, hv, wm]
        generalize hst : St.mk _ _ _ _ = st; obtain ⟨e1, ⟨τ1, H1, g1, s1⟩, hx1, -, rfl, f0, f1, f2, f6, f7, fA, fC, fX, fbc, fg, cw, fB, fS⟩ := k40 (n := n) (iV ((d : Int) + 1)) (iW 0) (iW 0) .nil .nil .nil (bV false) (.cells [iW 0, iW 0, .nil, .nil, .nil, .nil]) (.cells [iW 0, iW 0, .nil, .nil, .nil, .nil]) 1 129 es r (by omega) (by omega) (by omega) (by omega) (by omega) st q2 hS (by simp [← hst]) (by simp [← hst]) (by simp [← hst]) (by simp [← hst]) (by simp [← hst]) (by simp [← hst, k1]) (by simp [← hst]) (by simp [← hst]) (by simp [← hst]) (by simp [← hst]) (by simp [← hst]) (by simp [← hst]); simp only at f0 f1 f2 f6 f7 fA fC fX fbc fg fB fS; clear hst; obtain rfl : cw = .nil := by
         rcases fS with ⟨_, h⟩ | ⟨_, h, _⟩
         · exact h
         · exact absurd (by subst hes; rfl) h
        simp [hx1, f0, f1, f2, f6, f7, fA, fC, fB, wu, wu2, hu, hKw, hlt0]; generalize hst : St.mk _ _ _ _ = st3
        obtain ⟨e3, ⟨τ3, H3, g3, s3⟩, hx3, -, rfl, i0, i1, i2, i6, i7, iA, iC, iX, ibc, ig, cw2, iB, iS⟩ := kc7 (n := n) ((d : Int) + 1) (iW 0) (iW 0) .nil .nil .nil (bV false) (.cells [iW 0, iW 0, .nil, .nil, .nil, .nil]) (.cells [iW 0, iW 0, .nil, .nil, .nil, .nil]) 1 129 ks r2 (by omega) (by omega) (by omega) (by omega) (by omega) st3 q4 hS2 (by simp [← hst, f0]) (by simp [← hst, f1]) (by simp [← hst, f2]) (by simp [← hst, f6]) (by simp [← hst, f7]) (by simp [← hst, kl]) (by simp [← hst]) (by simp [← hst, fC]) (by simp [← hst, fC, ]) (by simp [← hst]; try omega) (by simp [← hst, fB]) (by simp [← hst]; try omega); simp only at i0 i1 i2 i6 i7 iA iC iX ibc ig iB iS; clear hst
        obtain ⟨by', -, hc0, hc1, hc2, rfl, hBY⟩ : ∃ by', armRows ks ≠ [] ∧ by' ≠ 1 ∧ 129 < by' ∧ by' < g3 ∧ cw2 = .own by' 0 ks.length none ∧ H3 by' = .row none 6 (armRows ks) 0 := by
         rcases iS with ⟨h, _⟩ | h
         · exact absurd h hks
         · exact h
        have c1 : (129 = by') = False := eq_false (by omega); have c2 : (1 = by') = False := eq_false (by omega); have c3 : (0 = by') = False := eq_false (by omega); have c4 : (by' = 129) = False := eq_false (by omega); have c5 : (by' = 0) = False := eq_false (by omega); have c6 : (by' = 1) = False := eq_false (by omega); simp [hx3, i0, i1, i2, i6, i7, iA, iC, iB, hBY, hesl, hksl, c1, c2, c3, c4, c5, c6]
        try simp [elRows, El.row]
        exact hes
    · have hesl : ¬ es.length = 0 := fun e => hes (List.eq_nil_of_length_eq_zero e)
      have hes : elRows es ≠ [] := by cases es with | nil => exact absurd rfl hes | cons a l => simp [elRows]
      refine ⟨.mk (.mk tk to ta tks) es ks, r2, by rw [hpow]; simp only [Arm.wt]; omega, by rw [hpow]; omega, fun s => ?_⟩
      rcases hs1 with ⟨rfl, w1⟩ | ⟨rfl, v, q0, w0, hv, w1⟩ | ⟨rfl, v, w0, hv, rfl, rfl, rfl, rfl⟩
      · simp [go_of FT_178 rfl, F178, w1, wm]
        generalize hst : St.mk _ _ _ _ = st; obtain ⟨e1, ⟨τ1, H1, g1, s1⟩, hx1, -, rfl, f0, f1, f2, f6, f7, fA, fC, fX, fbc, fg, cw, fB, fS⟩ := k40 (n := n) (iV ((d : Int) + 1)) (iW tk) (iW to) (asW ta) (nsW tks) .nil (bV true) (.cells [iW 0, iW 0, .nil, .nil, .nil, .nil]) (.cells [iW 0, iW 0, .nil, .nil, .nil, .nil]) 1 129 es r (by omega) (by omega) (by omega) (by omega) (by omega) st q2 hS (by simp [← hst]) (by simp [← hst]) (by simp [← hst]) (by simp [← hst]) (by simp [← hst]) (by simp [← hst, k1]) (by simp [← hst]) (by simp [← hst]) (by simp [← hst]) (by simp [← hst]) (by simp [← hst]) (by simp [← hst]); simp only at f0 f1 f2 f6 f7 fA fC fX fbc fg fB fS; clear hst
        obtain ⟨bx, -, hb0, hb1, hb2, rfl, hBX⟩ : ∃ bx, elRows es ≠ [] ∧ bx ≠ 1 ∧ 129 < bx ∧ bx < g1 ∧ cw = .own bx 0 es.length none ∧ H1 bx = .row none 2 (elRows es) 0 := by
         rcases fS with ⟨h, _⟩ | h
         · exact absurd h hes
         · exact h
        have b1 : (129 = bx) = False := eq_false (by omega); have b2 : (1 = bx) = False := eq_false (by omega); have b3 : (0 = bx) = False := eq_false (by omega); have b4 : (bx = 129) = False := eq_false (by omega); have b5 : (bx = 0) = False := eq_false (by omega); have b6 : (bx = 1) = False := eq_false (by omega); simp [hx1, f0, f1, f2, f6, f7, fA, fC, fB, hBX, b1, b2, b3, b4, b5, b6, wu, wu2, hu, hKw, hlt0]; generalize hst : St.mk _ _ _ _ = st3
        obtain ⟨e3, ⟨τ3, H3, g3, s3⟩, hx3, -, rfl, i0, i1, i2, i6, i7, iA, iC, iX, ibc, ig, cw2, iB, iS⟩ := kc7 (n := n) ((d : Int) + 1) (iW tk) (iW to) (asW ta) (nsW tks) (.own bx 0 es.length none) (bV true) (.cells [iW 0, iW 0, .nil, .nil, .nil, .nil]) (.row none 2 (elRows es) 0) bx 129 ks r2 (by omega) (by omega) (by omega) (by omega) (by omega) st3 q4 hS2 (by simp [← hst, f0]) (by simp [← hst, f1]) (by simp [← hst, f2]) (by simp [← hst, f6]) (by simp [← hst, f7]) (by simp [← hst, kl]) (by simp [← hst]) (by simp [← hst, fC]) (by simp [← hst, fC, hBX, b1, b2, b3, b4, b5, b6]) (by simp [← hst]; try omega) (by simp [← hst, fB]) (by simp [← hst]; try omega)
        simp only at i0 i1 i2 i6 i7 iA iC iX ibc ig iB iS; clear hst; obtain ⟨by', -, hc0, hc1, hc2, rfl, hBY⟩ : ∃ by', armRows ks ≠ [] ∧ by' ≠ bx ∧ 129 < by' ∧ by' < g3 ∧ cw2 = .own by' 0 ks.length none ∧ H3 by' = .row none 6 (armRows ks) 0 := by
         rcases iS with ⟨h, _⟩ | h
         · exact absurd h hks
         · exact h
        have c1 : (129 = by') = False := eq_false (by omega); have c2 : (1 = by') = False := eq_false (by omega); have c3 : (0 = by') = False := eq_false (by omega); have c4 : (by' = 129) = False := eq_false (by omega); have c5 : (by' = 0) = False := eq_false (by omega); have c6 : (by' = 1) = False := eq_false (by omega); have d1 : (bx = by') = False := eq_false (fun e => hc0 e.symm); have d2 : (by' = bx) = False := eq_false hc0; simp [hx3, i0, i1, i2, i6, i7, iA, iC, iB, hBY, hesl, hksl, c1, c2, c3, c4, c5, c6, iX, b1, b2, b3, b4, b5, b6, d1, d2]
      · simp [go_of FT_178 rfl, F178, w0, hv, w1, wm]
        generalize hst : St.mk _ _ _ _ = st; obtain ⟨e1, ⟨τ1, H1, g1, s1⟩, hx1, -, rfl, f0, f1, f2, f6, f7, fA, fC, fX, fbc, fg, cw, fB, fS⟩ := k40 (n := n) (iV ((d : Int) + 1)) (iW tk) (iW to) (asW ta) (nsW tks) .nil (bV false) (.cells [iW 0, iW 0, .nil, .nil, .nil, .nil]) (.cells [iW 0, iW 0, .nil, .nil, .nil, .nil]) 1 129 es r (by omega) (by omega) (by omega) (by omega) (by omega) st q2 hS (by simp [← hst]) (by simp [← hst]) (by simp [← hst]) (by simp [← hst]) (by simp [← hst]) (by simp [← hst, k1]) (by simp [← hst]) (by simp [← hst]) (by simp [← hst]) (by simp [← hst]) (by simp [← hst]) (by simp [← hst]); simp only at f0 f1 f2 f6 f7 fA fC fX fbc fg fB fS; clear hst
        obtain ⟨bx, -, hb0, hb1, hb2, rfl, hBX⟩ : ∃ bx, elRows es ≠ [] ∧ bx ≠ 1 ∧ 129 < bx ∧ bx < g1 ∧ cw = .own bx 0 es.length none ∧ H1 bx = .row none 2 (elRows es) 0 := by
         rcases fS with ⟨h, _⟩ | h
         · exact absurd h hes
         · exact h
        have b1 : (129 = bx) = False := eq_false (by omega); have b2 : (1 = bx) = False := eq_false (by omega); have b3 : (0 = bx) = False := eq_false (by omega); have b4 : (bx = 129) = False := eq_false (by omega); have b5 : (bx = 0) = False := eq_false (by omega); have b6 : (bx = 1) = False := eq_false (by omega); simp [hx1, f0, f1, f2, f6, f7, fA, fC, fB, hBX, b1, b2, b3, b4, b5, b6, wu, wu2, hu, hKw, hlt0]; generalize hst : St.mk _ _ _ _ = st3
        obtain ⟨e3, ⟨τ3, H3, g3, s3⟩, hx3, -, rfl, i0, i1, i2, i6, i7, iA, iC, iX, ibc, ig, cw2, iB, iS⟩ := kc7 (n := n) ((d : Int) + 1) (iW tk) (iW to) (asW ta) (nsW tks) (.own bx 0 es.length none) (bV false) (.cells [iW 0, iW 0, .nil, .nil, .nil, .nil]) (.row none 2 (elRows es) 0) bx 129 ks r2 (by omega) (by omega) (by omega) (by omega) (by omega) st3 q4 hS2 (by simp [← hst, f0]) (by simp [← hst, f1]) (by simp [← hst, f2]) (by simp [← hst, f6]) (by simp [← hst, f7]) (by simp [← hst, kl]) (by simp [← hst]) (by simp [← hst, fC]) (by simp [← hst, fC, hBX, b1, b2, b3, b4, b5, b6]) (by simp [← hst]; try omega) (by simp [← hst, fB]) (by simp [← hst]; try omega)
        simp only at i0 i1 i2 i6 i7 iA iC iX ibc ig iB iS; clear hst; obtain ⟨by', -, hc0, hc1, hc2, rfl, hBY⟩ : ∃ by', armRows ks ≠ [] ∧ by' ≠ bx ∧ 129 < by' ∧ by' < g3 ∧ cw2 = .own by' 0 ks.length none ∧ H3 by' = .row none 6 (armRows ks) 0 := by
         rcases iS with ⟨h, _⟩ | h
         · exact absurd h hks
         · exact h
        have c1 : (129 = by') = False := eq_false (by omega); have c2 : (1 = by') = False := eq_false (by omega); have c3 : (0 = by') = False := eq_false (by omega); have c4 : (by' = 129) = False := eq_false (by omega); have c5 : (by' = 0) = False := eq_false (by omega); have c6 : (by' = 1) = False := eq_false (by omega); have d1 : (bx = by') = False := eq_false (fun e => hc0 e.symm); have d2 : (by' = bx) = False := eq_false hc0; simp [hx3, i0, i1, i2, i6, i7, iA, iC, iB, hBY, hesl, hksl, c1, c2, c3, c4, c5, c6, iX, b1, b2, b3, b4, b5, b6, d1, d2]
      · simp [go_of FT_178 rfl, F178, w0, hv, wm]
        generalize hst : St.mk _ _ _ _ = st; obtain ⟨e1, ⟨τ1, H1, g1, s1⟩, hx1, -, rfl, f0, f1, f2, f6, f7, fA, fC, fX, fbc, fg, cw, fB, fS⟩ := k40 (n := n) (iV ((d : Int) + 1)) (iW 0) (iW 0) .nil .nil .nil (bV false) (.cells [iW 0, iW 0, .nil, .nil, .nil, .nil]) (.cells [iW 0, iW 0, .nil, .nil, .nil, .nil]) 1 129 es r (by omega) (by omega) (by omega) (by omega) (by omega) st q2 hS (by simp [← hst]) (by simp [← hst]) (by simp [← hst]) (by simp [← hst]) (by simp [← hst]) (by simp [← hst, k1]) (by simp [← hst]) (by simp [← hst]) (by simp [← hst]) (by simp [← hst]) (by simp [← hst]) (by simp [← hst]); simp only at f0 f1 f2 f6 f7 fA fC fX fbc fg fB fS; clear hst
        obtain ⟨bx, -, hb0, hb1, hb2, rfl, hBX⟩ : ∃ bx, elRows es ≠ [] ∧ bx ≠ 1 ∧ 129 < bx ∧ bx < g1 ∧ cw = .own bx 0 es.length none ∧ H1 bx = .row none 2 (elRows es) 0 := by
         rcases fS with ⟨h, _⟩ | h
         · exact absurd h hes
         · exact h
        have b1 : (129 = bx) = False := eq_false (by omega); have b2 : (1 = bx) = False := eq_false (by omega); have b3 : (0 = bx) = False := eq_false (by omega); have b4 : (bx = 129) = False := eq_false (by omega); have b5 : (bx = 0) = False := eq_false (by omega); have b6 : (bx = 1) = False := eq_false (by omega); simp [hx1, f0, f1, f2, f6, f7, fA, fC, fB, hBX, b1, b2, b3, b4, b5, b6, wu, wu2, hu, hKw, hlt0]; generalize hst : St.mk _ _ _ _ = st3
        obtain ⟨e3, ⟨τ3, H3, g3, s3⟩, hx3, -, rfl, i0, i1, i2, i6, i7, iA, iC, iX, ibc, ig, cw2, iB, iS⟩ := kc7 (n := n) ((d : Int) + 1) (iW 0) (iW 0) .nil .nil (.own bx 0 es.length none) (bV false) (.cells [iW 0, iW 0, .nil, .nil, .nil, .nil]) (.row none 2 (elRows es) 0) bx 129 ks r2 (by omega) (by omega) (by omega) (by omega) (by omega) st3 q4 hS2 (by simp [← hst, f0]) (by simp [← hst, f1]) (by simp [← hst, f2]) (by simp [← hst, f6]) (by simp [← hst, f7]) (by simp [← hst, kl]) (by simp [← hst]) (by simp [← hst, fC]) (by simp [← hst, fC, hBX, b1, b2, b3, b4, b5, b6]) (by simp [← hst]; try omega) (by simp [← hst, fB]) (by simp [← hst]; try omega)
        simp only at i0 i1 i2 i6 i7 iA iC iX ibc ig iB iS; clear hst; obtain ⟨by', -, hc0, hc1, hc2, rfl, hBY⟩ : ∃ by', armRows ks ≠ [] ∧ by' ≠ bx ∧ 129 < by' ∧ by' < g3 ∧ cw2 = .own by' 0 ks.length none ∧ H3 by' = .row none 6 (armRows ks) 0 := by
         rcases iS with ⟨h, _⟩ | h
         · exact absurd h hks
         · exact h
        have c1 : (129 = by') = False := eq_false (by omega); have c2 : (1 = by') = False := eq_false (by omega); have c3 : (0 = by') = False := eq_false (by omega); have c4 : (by' = 129) = False := eq_false (by omega); have c5 : (by' = 0) = False := eq_false (by omega); have c6 : (by' = 1) = False := eq_false (by omega); have d1 : (bx = by') = False := eq_false (fun e => hc0 e.symm); have d2 : (by' = bx) = False := eq_false hc0; simp [hx3, i0, i1, i2, i6, i7, iA, iC, iB, hBY, hesl, hksl, c1, c2, c3, c4, c5, c6, iX, b1, b2, b3, b4, b5, b6, d1, d2]
  · by_cases hes : es = []
    · have hesl : es.length = 0 := by rw [hes]; rfl
      obtain ⟨⟨eo, ea⟩, q5, g1, g2, w5⟩ := k57 hb q3 (by omega) n (by omega); simp only at g1; refine ⟨.mk (.mk tk to ta tks) [⟨eo, ea⟩] [], q5, by rw [hpow]; simp only [Arm.wt, elsWt, armsWt, El.wt]; omega, by rw [hpow]; omega, fun s => ?_⟩
      rcases hs1 with ⟨rfl, w1⟩ | ⟨rfl, v, q0, w0, hv, w1⟩ | ⟨rfl, v, w0, hv, rfl, rfl, rfl, rfl⟩
      · simp [go_of FT_178 rfl, F178, w1, wm]
        generalize hst : St.mk _ _ _ _ = st; obtain ⟨e1, ⟨τ1, H1, g1, s1⟩, hx1, -, rfl, f0, f1, f2, f6, f7, fA, fC, fX, fbc, fg, cw, fB, fS⟩ := k40 (n := n) (iV ((d : Int) + 1)) (iW tk) (iW to) (asW ta) (nsW tks) .nil (bV true) (.cells [iW 0, iW 0, .nil, .nil, .nil, .nil]) (.cells [iW 0, iW 0, .nil, .nil, .nil, .nil]) 1 129 es r (by omega) (by omega) (by omega) (by omega) (by omega) st q2 hS (by simp [← hst]) (by simp [← hst]) (by simp [← hst]) (by simp [← hst]) (by simp [← hst]) (by simp [← hst, k1]) (by simp [← hst]) (by simp [← hst]) (by simp [← hst]) (by simp [← hst]) (by simp [← hst]) (by simp [← hst]); simp only at f0 f1 f2 f6 f7 fA fC fX fbc fg fB fS; clear hst
        obtain rfl : cw = .nil := by
         rcases fS with ⟨_, h⟩ | ⟨_, h, _⟩
         · exact h
         · exact absurd (by subst hes; rfl) h
        have fgX := far (show 129 < g1 by omega); have feX := far (show 1 < g1 by omega); have fzX := far (show 0 < g1 by omega); simp [hx1, f0, f1, f2, f6, f7, fA, fC, fB, wu, hu, w5, hesl, hlt0, rm1, fgX, feX, fzX]
        try simp [elRows, El.row]
      · simp [go_of FT_178 rfl, F178, w0, hv, w1, wm]
        generalize hst : St.mk _ _ _ _ = st; obtain ⟨e1, ⟨τ1, H1, g1, s1⟩, hx1, -, rfl, f0, f1, f2, f6, f7, fA, fC, fX, fbc, fg, cw, fB, fS⟩ := k40 (n := n) (iV ((d : Int) + 1)) (iW tk) (iW to) (asW ta) (nsW tks) .nil (bV false) (.cells [iW 0, iW 0, .nil, .nil, .nil, .nil]) (.cells [iW 0, iW 0, .nil, .nil, .nil, .nil]) 1 129 es r (by omega) (by omega) (by omega) (by omega) (by omega) st q2 hS (by simp [← hst]) (by simp [← hst]) (by simp [← hst]) (by simp [← hst]) (by simp [← hst]) (by simp [← hst, k1]) (by simp [← hst]) (by simp [← hst]) (by simp [← hst]) (by simp [← hst]) (by simp [← hst]) (by simp [← hst]); simp only at f0 f1 f2 f6 f7 fA fC fX fbc fg fB fS; clear hst
        obtain rfl : cw = .nil := by
         rcases fS with ⟨_, h⟩ | ⟨_, h, _⟩
         · exact h
         · exact absurd (by subst hes; rfl) h
        have fgX := far (show 129 < g1 by omega); have feX := far (show 1 < g1 by omega); have fzX := far (show 0 < g1 by omega); simp [hx1, f0, f1, f2, f6, f7, fA, fC, fB, wu, hu, w5, hesl, hlt0, rm1, fgX, feX, fzX]
        try simp [elRows, El.row]
      · simp [go_of FT_178 rfl, F178, w0, hv, wm]
        generalize hst : St.mk _ _ _ _ = st; obtain ⟨e1, ⟨τ1, H1, g1, s1⟩, hx1, -, rfl, f0, f1, f2, f6, f7, fA, fC, fX, fbc, fg, cw, fB, fS⟩ := k40 (n := n) (iV ((d : Int) + 1)) (iW 0) (iW 0) .nil .nil .nil (bV false) (.cells [iW 0, iW 0, .nil, .nil, .nil, .nil]) (.cells [iW 0, iW 0, .nil, .nil, .nil, .nil]) 1 129 es r (by omega) (by omega) (by omega) (by omega) (by omega) st q2 hS (by simp [← hst]) (by simp [← hst]) (by simp [← hst]) (by simp [← hst]) (by simp [← hst]) (by simp [← hst, k1]) (by simp [← hst]) (by simp [← hst]) (by simp [← hst]) (by simp [← hst]) (by simp [← hst]) (by simp [← hst]); simp only at f0 f1 f2 f6 f7 fA fC fX fbc fg fB fS; clear hst; obtain rfl : cw = .nil := by
         rcases fS with ⟨_, h⟩ | ⟨_, h, _⟩
         · exact h
         · exact absurd (by subst hes; rfl) h
        have fgX := far (show 129 < g1 by omega); have feX := far (show 1 < g1 by omega); have fzX := far (show 0 < g1 by omega); simp [hx1, f0, f1, f2, f6, f7, fA, fC, fB, wu, hu, w5, hesl, hlt0, rm1, fgX, feX, fzX]
        try simp [elRows, El.row]
    · have hesl : ¬ es.length = 0 := fun e => hes (List.eq_nil_of_length_eq_zero e)
      have hes : elRows es ≠ [] := by cases es with | nil => exact absurd rfl hes | cons a l => simp [elRows]
      refine ⟨.mk (.mk tk to ta tks) es [], q3, by rw [hpow]; simp only [Arm.wt, armsWt]; omega, by rw [hpow]; omega, fun s => ?_⟩
      rcases hs1 with ⟨rfl, w1⟩ | ⟨rfl, v, q0, w0, hv, w1⟩ | ⟨rfl, v, w0, hv, rfl, rfl, rfl, rfl⟩
      · simp [go_of FT_178 rfl, F178, w1, wm]
        generalize hst : St.mk _ _ _ _ = st; obtain ⟨e1, ⟨τ1, H1, g1, s1⟩, hx1, -, rfl, f0, f1, f2, f6, f7, fA, fC, fX, fbc, fg, cw, fB, fS⟩ := k40 (n := n) (iV ((d : Int) + 1)) (iW tk) (iW to) (asW ta) (nsW tks) .nil (bV true) (.cells [iW 0, iW 0, .nil, .nil, .nil, .nil]) (.cells [iW 0, iW 0, .nil, .nil, .nil, .nil]) 1 129 es r (by omega) (by omega) (by omega) (by omega) (by omega) st q2 hS (by simp [← hst]) (by simp [← hst]) (by simp [← hst]) (by simp [← hst]) (by simp [← hst]) (by simp [← hst, k1]) (by simp [← hst]) (by simp [← hst]) (by simp [← hst]) (by simp [← hst]) (by simp [← hst]) (by simp [← hst]); simp only at f0 f1 f2 f6 f7 fA fC fX fbc fg fB fS; clear hst
        obtain ⟨bx, -, hb0, hb1, hb2, rfl, hBX⟩ : ∃ bx, elRows es ≠ [] ∧ bx ≠ 1 ∧ 129 < bx ∧ bx < g1 ∧ cw = .own bx 0 es.length none ∧ H1 bx = .row none 2 (elRows es) 0 := by
         rcases fS with ⟨h, _⟩ | h
         · exact absurd h hes
         · exact h
        have b1 : (129 = bx) = False := eq_false (by omega); have b2 : (1 = bx) = False := eq_false (by omega); have b3 : (0 = bx) = False := eq_false (by omega); have b4 : (bx = 129) = False := eq_false (by omega); have b5 : (bx = 0) = False := eq_false (by omega); have b6 : (bx = 1) = False := eq_false (by omega); have fgX := far (show 129 < g1 by omega); have feX := far (show 1 < g1 by omega); have fzX := far (show 0 < g1 by omega); have fbX := far (show bx < g1 by omega); simp [hx1, f0, f1, f2, f6, f7, fA, fC, fB, hBX, b1, b2, b3, b4, b5, b6, wu, hu, hes, hesl, hlt0, rm1, fgX, feX, fzX, fbX]
      · simp [go_of FT_178 rfl, F178, w0, hv, w1, wm]
        generalize hst : St.mk _ _ _ _ = st; obtain ⟨e1, ⟨τ1, H1, g1, s1⟩, hx1, -, rfl, f0, f1, f2, f6, f7, fA, fC, fX, fbc, fg, cw, fB, fS⟩ := k40 (n := n) (iV ((d : Int) + 1)) (iW tk) (iW to) (asW ta) (nsW tks) .nil (bV false) (.cells [iW 0, iW 0, .nil, .nil, .nil, .nil]) (.cells [iW 0, iW 0, .nil, .nil, .nil, .nil]) 1 129 es r (by omega) (by omega) (by omega) (by omega) (by omega) st q2 hS (by simp [← hst]) (by simp [← hst]) (by simp [← hst]) (by simp [← hst]) (by simp [← hst]) (by simp [← hst, k1]) (by simp [← hst]) (by simp [← hst]) (by simp [← hst]) (by simp [← hst]) (by simp [← hst]) (by simp [← hst]); simp only at f0 f1 f2 f6 f7 fA fC fX fbc fg fB fS; clear hst
        obtain ⟨bx, -, hb0, hb1, hb2, rfl, hBX⟩ : ∃ bx, elRows es ≠ [] ∧ bx ≠ 1 ∧ 129 < bx ∧ bx < g1 ∧ cw = .own bx 0 es.length none ∧ H1 bx = .row none 2 (elRows es) 0 := by
         rcases fS with ⟨h, _⟩ | h
         · exact absurd h hes
         · exact h
        have b1 : (129 = bx) = False := eq_false (by omega); have b2 : (1 = bx) = False := eq_false (by omega); have b3 : (0 = bx) = False := eq_false (by omega); have b4 : (bx = 129) = False := eq_false (by omega); have b5 : (bx = 0) = False := eq_false (by omega); have b6 : (bx = 1) = False := eq_false (by omega); have fgX := far (show 129 < g1 by omega); have feX := far (show 1 < g1 by omega); have fzX := far (show 0 < g1 by omega); have fbX := far (show bx < g1 by omega); simp [hx1, f0, f1, f2, f6, f7, fA, fC, fB, hBX, b1, b2, b3, b4, b5, b6, wu, hu, hes, hesl, hlt0, rm1, fgX, feX, fzX, fbX]
      · simp [go_of FT_178 rfl, F178, w0, hv, wm]
        generalize hst : St.mk _ _ _ _ = st; obtain ⟨e1, ⟨τ1, H1, g1, s1⟩, hx1, -, rfl, f0, f1, f2, f6, f7, fA, fC, fX, fbc, fg, cw, fB, fS⟩ := k40 (n := n) (iV ((d : Int) + 1)) (iW 0) (iW 0) .nil .nil .nil (bV false) (.cells [iW 0, iW 0, .nil, .nil, .nil, .nil]) (.cells [iW 0, iW 0, .nil, .nil, .nil, .nil]) 1 129 es r (by omega) (by omega) (by omega) (by omega) (by omega) st q2 hS (by simp [← hst]) (by simp [← hst]) (by simp [← hst]) (by simp [← hst]) (by simp [← hst]) (by simp [← hst, k1]) (by simp [← hst]) (by simp [← hst]) (by simp [← hst]) (by simp [← hst]) (by simp [← hst]) (by simp [← hst]); simp only at f0 f1 f2 f6 f7 fA fC fX fbc fg fB fS; clear hst
        obtain ⟨bx, -, hb0, hb1, hb2, rfl, hBX⟩ : ∃ bx, elRows es ≠ [] ∧ bx ≠ 1 ∧ 129 < bx ∧ bx < g1 ∧ cw = .own bx 0 es.length none ∧ H1 bx = .row none 2 (elRows es) 0 := by
         rcases fS with ⟨h, _⟩ | h
         · exact absurd h hes
         · exact h
        have b1 : (129 = bx) = False := eq_false (by omega); have b2 : (1 = bx) = False := eq_false (by omega); have b3 : (0 = bx) = False := eq_false (by omega); have b4 : (bx = 129) = False := eq_false (by omega); have b5 : (bx = 0) = False := eq_false (by omega); have b6 : (bx = 1) = False := eq_false (by omega); have fgX := far (show 129 < g1 by omega); have feX := far (show 1 < g1 by omega); have fzX := far (show 0 < g1 by omega); have fbX := far (show bx < g1 by omega); simp [hx1, f0, f1, f2, f6, f7, fA, fC, fB, hBX, b1, b2, b3, b4, b5, b6, wu, hu, hes, hesl, hlt0, rm1, fgX, feX, fzX, fbX]
end Go.VM
