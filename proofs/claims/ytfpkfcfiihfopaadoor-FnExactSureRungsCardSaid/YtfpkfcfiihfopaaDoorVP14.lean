/- The document's verifier over a list, run. Conditions: none. -/
import Derived.Test.YtfpkfcfiihfopaaDoorVP13

namespace Go.VM
set_option linter.unusedSimpArgs false
set_option linter.unusedVariables false
set_option maxHeartbeats 16000000
theorem fit_next {u : CS} (h : u.fit) {i : Ins} (hw : u.wrong i = 0) : (u.next i).fit := by
 obtain ⟨c, op, as⟩ := i; obtain ⟨b, f, B, co⟩ := u; obtain ⟨b0, b1, f0, f1⟩ := h; simp only at b0 b1 f0 f1; unfold CS.wrong at hw; simp only at hw; split at hw
 · cases hw
 split at hw
 · cases hw
 rename_i hnd
 split at hw
 · cases hw
 rename_i h1
 split at hw
 · cases hw
 rename_i h5
 split at hw
 · cases hw
 split at hw
 · cases hw
 rename_i h7
 unfold needsI at hnd; unfold CS.fit CS.next behind; simp only
 by_cases c1 : c = 1
 · subst c1; simp; omega
 by_cases c4 : c = 4
 · subst c4; simp at hnd ⊢; omega
 by_cases c5 : c = 5
 · subst c5; simp at hnd ⊢; omega
 by_cases c11 : c = 11
 · subst c11; simp at hnd ⊢; omega
 by_cases c7 : c = 7
 · subst c7; simp at h7 ⊢; omega
 by_cases c9 : c = 9
 · subst c9; simp at h7 ⊢; omega
 simp [c1, c4, c5, c11, c7, c9]; omega
theorem run_nextS {n : Nat} (u : CS) (hu : u.fit) (i : Ins) (hw : u.wrong i = 0) (s : Sup) : go (n + 1) 344 [csX u, iV i.c] [] s = some ⟨csX (u.next i), [], []⟩ := by
 have hf := fit_next hu hw; obtain ⟨c, op, as⟩ := i; obtain ⟨b, f, B, co⟩ := u; obtain ⟨b0, b1, f0, f1⟩ := hu; simp only at b0 b1 f0 f1; have wb : IntKind.i64.wrap (b + 1) = b + 1 := wrap_id (by omega) (by omega); have wb' : IntKind.i64.wrap (b - 1) = b - 1 := wrap_id (by omega) (by omega); have wf : IntKind.i64.wrap (f + 1) = f + 1 := wrap_id (by omega) (by omega); have wf' : IntKind.i64.wrap (f - 1) = f - 1 := wrap_id (by omega) (by omega); have h11 : c = 11 → b = 1 ∧ f = 0 := fun e => by
  subst e; unfold CS.wrong at hw; simp only at hw; split at hw
  · cases hw
  split at hw
  · cases hw
  rename_i hnd
  split at hw
  · cases hw
  split at hw
  · cases hw
  rename_i h5
  split at hw
  · cases hw
  split at hw
  · cases hw
  rename_i h7
  simp [needsI] at hnd; simp at h5 h7; exact ⟨by omega, h7⟩
 unfold CS.next behind; simp only
 by_cases c1 : c = 1
 · subst c1; cases B <;> simp [go_of (n := n) FT_344 rfl, F344, wb]
 by_cases c4 : c = 4
 · subst c4; cases B <;> simp [go_of (n := n) FT_344 rfl, F344, wb']
 by_cases c5 : c = 5
 · subst c5; cases B <;> simp [go_of (n := n) FT_344 rfl, F344, wb']
 by_cases c7 : c = 7
 · subst c7; cases B <;> simp [go_of (n := n) FT_344 rfl, F344, wf]
 by_cases c9 : c = 9
 · subst c9; cases B <;> simp [go_of (n := n) FT_344 rfl, F344, wf']
 by_cases c11 : c = 11
 · obtain ⟨rfl, rfl⟩ := h11 c11
   subst c11; cases B <;> simp [go_of (n := n) FT_344 rfl, F344]
 by_cases c10 : c = 10
 · subst c10; cases B <;> simp [go_of (n := n) FT_344 rfl, F344]
 cases B <;> simp [go_of (n := n) FT_344 rfl, F344, c1, c4, c5, c7, c9, c11, c10]
def CkS (l : List Ins) (k : Nat) (st : St) : Prop := ∃ (i : Nat) (u : CS), i + k = l.length ∧ u.fit ∧ checkFrom ⟨0, 0, false, false⟩ 0 l = checkFrom u i (l.drop i) ∧ st.τ 0 = .w (isW l) ∧ st.τ 2 = .w (.ptr 0 0) ∧ st.H 0 = .cells [iW 0, iW 0] ∧
 st.τ 3 = .w (.ptr 320 0) ∧ st.H 320 = .cells [iW u.b, iW u.f, tW u.based, tW u.coil] ∧ st.τ 4 = iV i ∧ 320 < st.g
theorem loop322 {n : Nat} (l : List Ins) (h26 : 26 ≤ n) (hn : l.length < n) (hl : l.length < 2 ^ 38) (st : St) (hck : CkS l l.length st) :
 ∃ e st', execC (go n) mode GT false 42 n F322_L0 st = some (e, st') ∧ e ≠ .normal ∧ ((e = .exit 0 ∧ CkS l 0 st') ∨ (e = .ret ∧ st'.τ 2 = .w (.ptr 0 0) ∧ st'.H 0 = .cells [iW (checkFrom ⟨0, 0, false, false⟩ 0 l).1, iW ((checkFrom ⟨0, 0, false, false⟩ 0 l).2 : Nat)])) := by
 rw [F322_L0, execC_loop]; refine iter_rule (CkS l) ?_ n l.length st hn hck
 clear hck; rintro k ⟨τ, H, g, s⟩ ⟨i, u, hk, hf, hu, h0, h2, hA, h3, hQ, h4, hg⟩; simp only at h0 h2 hA h3 hQ h4 hg; have fgX := far hg; have f0X := far (show 0 < g by omega); cases k with
 | zero =>
  have : i = l.length := by omega
  subst this; refine ⟨.exit 0, ?_⟩
  simp [F322_B0, h0, h4, insRows_length]; exact ⟨l.length, u, by omega, hf, hu, by simp [upd, h0], by simp [upd, h2], hA, by simp [upd, h3], hQ, by simp [upd, h4], by simp only; omega⟩
 | succ k =>
  have hlt : i < l.length := by omega
  have hlt' := ltT hlt; have hgt := List.getElem?_eq_getElem hlt; have hw := wrap_succ (i := i) (by omega); have hstep := drop_at hgt; have w1 : ∀ s, go n 343 [csX u, insX l[i]] [] s = some ⟨iV (u.wrong l[i]), [], []⟩ := fun s => by
   have := run_sureWrongS (n := n - 1) (by omega) u hf l[i] s
   rwa [show n - 1 + 1 = n by omega] at this
  have w2 : u.wrong l[i] = 0 → ∀ s, go n 344 [csX u, iV l[i].c] [] s = some ⟨csX (u.next l[i]), [], []⟩ := fun hz s => by
   have := run_nextS (n := n - 1) u hf l[i] hz s
   rwa [show n - 1 + 1 = n by omega] at this
  have hfn : u.wrong l[i] = 0 → (u.next l[i]).fit := fun hz => fit_next hf hz
  have hcf : checkFrom u i (l.drop i) = if u.wrong l[i] ≠ 0 then (u.wrong l[i], i) else checkFrom (u.next l[i]) (i + 1) (l.drop (i + 1)) := by rw [hstep]; rfl
  rw [hcf] at hu; have hnn : 0 ≤ u.wrong l[i] := by unfold CS.wrong; repeat (first | decide | split)
  obtain ⟨c, op, as, hx⟩ : ∃ c op as, l[i] = ⟨c, ⟨op, as⟩⟩ := ⟨_, _, _, rfl⟩; rw [hx] at hgt w1 w2 hfn hu hnn; have hrow := insRows_get hgt
  by_cases hz : u.wrong ⟨c, ⟨op, as⟩⟩ = 0
  · rw [if_neg (by simp [hz])] at hu
    have w2 := w2 hz; have hfn := hfn hz; rw [hz] at w1; generalize u.next ⟨c, ⟨op, as⟩⟩ = v at w2 hu hfn; obtain ⟨b, f, B, co⟩ := u; obtain ⟨vb, vf, vB, vco⟩ := v; refine ⟨.normal, ?_⟩
    try simp only at w1 w2
    simp [-getElem?_pos, F322_B0, h0, h2, h3, h4, hA, hQ, hlt, hlt', hrow, w1, w2, hw, fgX, f0X, insRows_length]; exact ⟨k, by omega, i + 1, ⟨vb, vf, vB, vco⟩, by omega, hfn, hu, by simp [upd, h0], by simp [upd, h2], by simp [upd, hA, f0X], by simp [upd, h3], by simp [upd], by simp [upd], by (show 320 < _) <;> simp <;> omega⟩
  · rw [if_pos hz] at hu
    rw [hu]; have hp : (0 < u.wrong ⟨c, ⟨op, as⟩⟩) = True := eq_true (by omega); generalize u.wrong ⟨c, ⟨op, as⟩⟩ = wr at w1 hp; obtain ⟨b, f, B, co⟩ := u; refine ⟨.ret, ?_⟩
    try simp only at w1
    simp [-getElem?_pos, F322_B0, h0, h2, h3, h4, hA, hQ, hlt, hlt', hrow, w1, hw, fgX, f0X, hp, insRows_length]
theorem run_SureCheckS {n : Nat} (l : List Ins) (h26 : 26 ≤ n) (hn : l.length < n) (hl : l.length < 2 ^ 38) (s : Sup) : go (n + 1) 322 [.w (isW l)] [] s = some ⟨faultX (checkL l).1 ((checkL l).2 : Nat), [], []⟩ := by
 unfold checkL
 by_cases h : 1000 < l.length
 · have hi : ((1000 : Int) < (l.length : Int)) = True := eq_true (by omega)
   simp [go_of (n := n) FT_322 rfl, F322, insRows_length, h, hi]
 · have hi : ((1000 : Int) < (l.length : Int)) = False := eq_false (by omega)
   rw [if_neg h]; simp [go_of (n := n) FT_322 rfl, F322, insRows_length, hi]; generalize hst : St.mk _ _ _ _ = st; obtain ⟨e, ⟨τ', H', g', s'⟩, hx, -, ⟨rfl, i, u, hi', hf, hu, h0, h2, hA, h3, hQ, h4, hg⟩ | ⟨rfl, h2, hA⟩⟩ := loop322 (n := n) l h26 hn hl st (by
    subst hst; exact ⟨0, ⟨0, 0, false, false⟩, by omega, ⟨by simp, by simp, by simp, by simp⟩, rfl, by simp, by simp, by simp, by simp, by simp, by simp, by simp⟩)
   · simp only at h0 h2 hA h3 hQ h4 hg
     clear hst; obtain rfl : i = l.length := by omega
     rw [List.drop_length] at hu; rw [hu]; have f0X := far (show 0 < g' by omega); have fgX := far hg; have hb0 := hf.1
     by_cases hz : u.b = 0
     · have e : checkFrom u l.length [] = (0, 0) := by unfold checkFrom; simp [hz]
       rw [e]; simp [hx, h0, h2, hA, h3, hQ, hz, f0X, fgX]
     · have e : checkFrom u l.length [] = (9, l.length) := by unfold checkFrom; simp [hz]
       have hp : (0 < u.b) = True := eq_true (by omega); rw [e]; simp [hx, h0, h2, hA, h3, hQ, hp, f0X, fgX, insRows_length]
   · simp only at h2 hA
     clear hst; simp [hx, h2, hA]
end Go.VM
