/- The verifier over a list, run. Conditions: none. -/
import Derived.Test.YtfpkfcfiihfopaaDoorVY23

namespace Go.VM
set_option linter.unusedSimpArgs false
set_option linter.unusedVariables false
set_option maxHeartbeats 16000000
theorem drop_at {α : Type} {l : List α} {i : Nat} {x : α} (h : l[i]? = some x) : l.drop i = x :: l.drop (i + 1) := by
 obtain ⟨h1, h2⟩ := List.getElem?_eq_some_iff.1 h; rw [List.drop_eq_getElem_cons h1, h2]
theorem next_bnd {u : CS} {i : Ins} {k : Int} (h : -k ≤ u.b ∧ u.b ≤ k ∧ -k ≤ u.f ∧ u.f ≤ k) : -(k + 1) ≤ (u.next i).b ∧ (u.next i).b ≤ k + 1 ∧ -(k + 1) ≤ (u.next i).f ∧ (u.next i).f ≤ k + 1 := behind_bnd (s := (u.b, u.f)) h
def CkAt (st : St) (q : Nat) (l : List Ins) (i : Nat) : Prop := ∃ u : CS, checkFrom ⟨0, 0, false, false⟩ 0 l = checkFrom u i (l.drop i) ∧ (-(i : Int) ≤ u.b ∧ u.b ≤ i ∧ -(i : Int) ≤ u.f ∧ u.f ≤ i) ∧
 st.τ 0 = .w (isW l) ∧ st.τ 2 = .w (.ptr 0 0) ∧ st.H 0 = .cells [iW 0, iW 0] ∧ st.τ 3 = .w (.ptr q 0) ∧ st.H q = .cells [iW u.b, iW u.f] ∧ st.τ 4 = bV u.based ∧ st.τ 5 = bV u.coil ∧ q < st.g
theorem loop284_0 {n : Nat} (q : Nat) (l : List Ins) (hq : 0 < q) (ha : ∀ x ∈ l, x.e.as.length < 2 ^ 62) (h62 : 63 ≤ n) (hn : l.length < n) (hl : l.length < 2 ^ 38) (st : St) (h14 : st.τ 14 = .w (isW l)) (h15 : st.τ 15 = iV l.length) (h16 : st.τ 16 = iV 0) (hck : CkAt st q l 0) :
 ∃ e st', execC (go n) mode GT false 60 n F284_L0 st = some (e, st') ∧ e ≠ .normal ∧ ((e = .exit 0 ∧ CkAt st' q l l.length) ∨ (e = .ret ∧ st'.τ 2 = .w (.ptr 0 0) ∧ st'.H 0 = .cells [iW (checkFrom ⟨0, 0, false, false⟩ 0 l).1, iW ((checkFrom ⟨0, 0, false, false⟩ 0 l).2 : Nat)])) := by
 rw [F284_L0, execC_loop]; refine iter_rule (fun k st => ∃ i, i + k = l.length ∧ st.τ 14 = .w (isW l) ∧ st.τ 15 = iV l.length ∧ st.τ 16 = iV i ∧ CkAt st q l i) ?_ n l.length st hn ⟨0, by omega, h14, h15, by simpa using h16, hck⟩
 clear h14 h15 h16 hck; rintro k ⟨τ, H, g, s⟩ ⟨i, hk, h14, h15, h16, u, hu, hb, h0, h2, hA, h3, hQ, h4, h5, hg⟩; simp only at h14 h15 h16 h0 h2 hA h3 hQ h4 h5 hg; cases k with
 | zero =>
  have : i = l.length := by omega
  subst this; refine ⟨.exit 0, ?_⟩
  simp [F284_B0, h15, h16]; exact ⟨u, hu, hb, by simp [h0], by simp [h2], hA, by simp [h3], hQ, by simp [h4], by simp [h5], by simp only; omega⟩
 | succ k =>
  have hlt : i < l.length := by omega
  have hlt' := ltT hlt; have hgt := List.getElem?_eq_getElem hlt; have hmem := List.getElem_mem hlt; have hw := wrap_succ (i := i) (by omega); have w1 : ∀ s, go n 310 [hX (u.b, u.f), insX l[i], bV u.based, bV u.coil] [] s = some ⟨iV (u.wrong l[i]), [], []⟩ := fun s => by
   have := run_sureWrong (n := n - 1) (by omega) u l[i] (ha _ hmem) s
   rwa [show n - 1 + 1 = n by omega] at this
  have hstep := drop_at hgt; have hnb := next_bnd (i := l[i]) hb; have hnx : u.next l[i] = ⟨(behind (u.b, u.f) l[i].c).1, (behind (u.b, u.f) l[i].c).2, decide (l[i].c ≠ 11) && (u.based || decide (l[i].c = 10) || decide (l[i].c = 7)), decide (l[i].c = 10)⟩ := rfl; have w2 : ∀ s, go n 311 [hX (u.b, u.f), iV l[i].c] [] s = some ⟨hX (behind (u.b, u.f) l[i].c), [], []⟩ := fun s => by
   have := run_behind (n := n - 1) (u.b, u.f) l[i].c (by simp only; omega) s
   rwa [show n - 1 + 1 = n by omega] at this
  obtain ⟨c, op, as, hx⟩ : ∃ c op as, l[i] = ⟨c, ⟨op, as⟩⟩ := ⟨_, _, _, rfl⟩; rw [hx] at hgt w1 w2 hstep hnb hnx; have hrow := insRows_get hgt; have fgX := far hg; have f0X := far (show 0 < g by omega); have e1 : (q = 0) = False := eq_false (by omega); have e2 : (0 = q) = False := eq_false (by omega); simp only at w2 hnx; have hcf : checkFrom u i (l.drop i) = if u.wrong ⟨c, ⟨op, as⟩⟩ ≠ 0 then (u.wrong ⟨c, ⟨op, as⟩⟩, i) else checkFrom (u.next ⟨c, ⟨op, as⟩⟩) (i + 1) (l.drop (i + 1)) := by rw [hstep]; rfl
  rw [hcf] at hu
  by_cases hz : u.wrong ⟨c, ⟨op, as⟩⟩ = 0
  · rw [if_neg (by simp [hz])] at hu
    rw [hz] at w1; rw [hnx] at hu hnb; generalize behind (u.b, u.f) c = v at w2 hu hnb; obtain ⟨b, f, B, co⟩ := u; obtain ⟨v1, v2⟩ := v; simp only at *
    suffices hsuf : ∃ st', execC (go n) mode GT false 60 n F284_B0 ⟨τ, H, g, s⟩ = some (.normal, st') ∧ st'.τ 14 = .w (isW l) ∧ st'.τ 15 = iV l.length ∧ st'.τ 16 = iV ((i + 1 : Nat) : Int) ∧ CkAt st' q l (i + 1) by
     obtain ⟨st', a0, a1, a2, a3, a4⟩ := hsuf; rw [a0]; exact ⟨.normal, st', rfl, fun _ => ⟨k, by omega, i + 1, by omega, a1, a2, a3, a4⟩, fun h => absurd rfl h⟩
    have fin : ∀ st' : St, st'.τ 0 = .w (isW l) → st'.τ 2 = .w (.ptr 0 0) → st'.H 0 = .cells [iW 0, iW 0] → st'.τ 3 = .w (.ptr q 0) → st'.H q = .cells [iW v1, iW v2] → st'.τ 4 = bV (decide (c ≠ 11) && (B || decide (c = 10) || decide (c = 7))) → st'.τ 5 = bV (decide (c = 10)) → q < st'.g → CkAt st' q l (i + 1) := fun st' a1 a2 a3 a4 a5 a6 a7 a8 =>
     ⟨_, hu, by simp only; omega, a1, a2, a3, a4, a5, a6, a7, a8⟩
    by_cases k11 : c = 11
    · subst k11
      simp [-getElem?_pos, F284_B0, h0, h2, h3, h4, h5, h14, h15, h16, hA, hQ, hlt, hlt', hrow, w1, w2, hw, fgX, f0X, e1, e2]; exact fin _ (by simp [h0]) (by simp [h2]) (by simp [f0X, hA, e1, e2]) (by simp [h3]) (by simp [fgX, e1, e2]) (by simp) (by simp) (by simp only; omega)
    by_cases k10 : c = 10
    · subst k10
      cases B
      · simp [-getElem?_pos, F284_B0, h0, h2, h3, h4, h5, h14, h15, h16, hA, hQ, hlt, hlt', hrow, w1, w2, hw, fgX, f0X, e1, e2]
        exact fin _ (by simp [h0]) (by simp [h2]) (by simp [f0X, hA, e1, e2]) (by simp [h3]) (by simp [fgX, e1, e2]) (by simp) (by simp) (by simp only; omega)
      · simp [-getElem?_pos, F284_B0, h0, h2, h3, h4, h5, h14, h15, h16, hA, hQ, hlt, hlt', hrow, w1, w2, hw, fgX, f0X, e1, e2]
        exact fin _ (by simp [h0]) (by simp [h2]) (by simp [f0X, hA, e1, e2]) (by simp [h3]) (by simp [fgX, e1, e2]) (by simp) (by simp) (by simp only; omega)
    by_cases k7 : c = 7
    · subst k7
      cases B
      · simp [-getElem?_pos, F284_B0, h0, h2, h3, h4, h5, h14, h15, h16, hA, hQ, hlt, hlt', hrow, w1, w2, hw, fgX, f0X, e1, e2]
        exact fin _ (by simp [h0]) (by simp [h2]) (by simp [f0X, hA, e1, e2]) (by simp [h3]) (by simp [fgX, e1, e2]) (by simp) (by simp) (by simp only; omega)
      · simp [-getElem?_pos, F284_B0, h0, h2, h3, h4, h5, h14, h15, h16, hA, hQ, hlt, hlt', hrow, w1, w2, hw, fgX, f0X, e1, e2]
        exact fin _ (by simp [h0]) (by simp [h2]) (by simp [f0X, hA, e1, e2]) (by simp [h3]) (by simp [fgX, e1, e2]) (by simp) (by simp) (by simp only; omega)
    cases B
    · simp [-getElem?_pos, F284_B0, h0, h2, h3, h4, h5, h14, h15, h16, hA, hQ, hlt, hlt', hrow, w1, w2, hw, fgX, f0X, e1, e2, k11, k10, k7]
      exact fin _ (by simp [h0]) (by simp [h2]) (by simp [f0X, hA, e1, e2]) (by simp [h3]) (by simp [fgX, e1, e2]) (by simp [k11, k10, k7]) (by simp [k11, k10, k7]) (by simp only; omega)
    · simp [-getElem?_pos, F284_B0, h0, h2, h3, h4, h5, h14, h15, h16, hA, hQ, hlt, hlt', hrow, w1, w2, hw, fgX, f0X, e1, e2, k11, k10, k7]
      exact fin _ (by simp [h0]) (by simp [h2]) (by simp [f0X, hA, e1, e2]) (by simp [h3]) (by simp [fgX, e1, e2]) (by simp [k11, k10, k7]) (by simp [k11, k10, k7]) (by simp only; omega)
  · rw [if_pos hz] at hu
    have hz' : (u.wrong ⟨c, ⟨op, as⟩⟩ = 0) = False := eq_false hz; rw [hu]; generalize u.wrong ⟨c, ⟨op, as⟩⟩ = wr at w1 hz'; refine ⟨.ret, ?_⟩
    simp [-getElem?_pos, F284_B0, h0, h2, h3, h4, h5, h14, h15, h16, hA, hQ, hlt, hlt', hrow, w1, w2, hw, fgX, f0X, e1, e2, hz']
theorem run_SureCheck {n : Nat} (l : List Ins) (ha : ∀ x ∈ l, x.e.as.length < 2 ^ 62) (h62 : 63 ≤ n) (hn : l.length < n) (hl : l.length < 2 ^ 38) (s : Sup) : go (n + 1) 284 [.w (isW l)] [] s = some ⟨faultX (checkL l).1 ((checkL l).2 : Nat), [], []⟩ := by
 unfold checkL
 by_cases h : 1000 < l.length
 · have hi : ((1000 : Int) < (l.length : Int)) = True := eq_true (by omega)
   simp [go_of (n := n) FT_284 rfl, F284, insRows_length, h, hi]
 · have hi : ((1000 : Int) < (l.length : Int)) = False := eq_false (by omega)
   rw [if_neg h]; simp [go_of (n := n) FT_284 rfl, F284, insRows_length, hi]; generalize hst : St.mk _ _ _ _ = st; obtain ⟨e, ⟨τ', H', g', s'⟩, hx, -, ⟨rfl, u, hu, hb, h0, h2, hA, h3, hQ, h4, h5, hg⟩ | ⟨rfl, h2, hA⟩⟩ := loop284_0 (n := n) 320 l (by omega) ha h62 hn hl st (by simp [← hst]) (by simp [← hst]) (by simp [← hst]) (by
    subst hst; exact ⟨⟨0, 0, false, false⟩, rfl, by simp, by simp, by simp, by simp, by simp, by simp, by simp, by simp, by simp⟩)
   · simp only at h0 h2 hA h3 hQ h4 h5 hg
     clear hst; rw [List.drop_length] at hu; rw [hu]; have f0X := far (show 0 < g' by omega)
     by_cases hz : u.b = 0
     · have e : checkFrom u l.length [] = (0, 0) := by unfold checkFrom; simp [hz]
       rw [e]; simp [hx, h0, h2, hA, h3, hQ, hz, f0X]
     · have e : checkFrom u l.length [] = (9, l.length) := by unfold checkFrom; simp [hz]
       rw [e]; simp [hx, h0, h2, hA, h3, hQ, hz, f0X, insRows_length]
   · simp only at h2 hA
     clear hst; simp [hx, h2, hA]
theorem checkFrom_nn : ∀ (l : List Ins) (u : CS) (k : Nat), 0 ≤ (checkFrom u k l).1 ∧ ((checkFrom u k l).1 = 0 → (checkFrom u k l).2 = 0)
 | [], u, k => by unfold checkFrom; split <;> simp
 | i :: r, u, k => by
  have h : 0 ≤ u.wrong i := by unfold CS.wrong; repeat (first | decide | split)
  unfold checkFrom; split
  · rename_i h2; exact ⟨h, fun h3 => absurd h3 h2⟩
  · exact checkFrom_nn r _ _
theorem checkL_nn (l : List Ins) : 0 ≤ (checkL l).1 ∧ ((checkL l).1 = 0 → (checkL l).2 = 0) := by
 unfold checkL; split
 · simp
 · exact checkFrom_nn _ _ _
theorem run_verified {n : Nat} (l : List Ins) (ha : ∀ x ∈ l, x.e.as.length < 2 ^ 62) (h62 : 64 ≤ n) (hn : l.length + 1 < n) (hl : l.length < 2 ^ 38) (s : Sup) : go (n + 1) 305 [.w (isW l)] [] s = some ⟨bV (decide ((checkL l).1 = 0)), [], []⟩ := by
 obtain ⟨n, rfl⟩ : ∃ k, n = k + 1 := ⟨n - 1, by omega⟩; have w := run_SureCheck (n := n) l ha (by omega) (by omega) hl; have h := (checkL_nn l).2; generalize checkL l = r at w h; obtain ⟨a, b⟩ := r; simp only at w h
 by_cases ha : a = 0
 · have hb := h ha
   subst ha hb; simp [go_of (n := n + 1) FT_305 rfl, F305, w]
 · simp [go_of (n := n + 1) FT_305 rfl, F305, w, ha]
end Go.VM
