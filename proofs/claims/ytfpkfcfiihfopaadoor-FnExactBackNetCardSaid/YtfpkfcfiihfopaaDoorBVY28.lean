/- Reading lists back: the hands of the reader. Conditions: none. -/
import Derived.Test.YtfpkfcfiihfopaaDoorBVW2

namespace Go.VM
set_option linter.unusedSimpArgs false
set_option linter.unusedVariables false
set_option maxHeartbeats 16000000
def KidsAt (H : Nat → Box) (g p q : Nat) (k : Int) (L : List Net) : Prop := ∃ w, H p = .cells [iW k, iW 0, .nil, w] ∧ ((L = [] ∧ w = .nil) ∨ ∃ b, b ≠ p ∧ b ≠ q ∧ b ≠ 128 ∧ b < g ∧ w = .own b 0 L.length none ∧ H b = .row none 4 (netRows L) 0)
theorem KidsAt.mk {H : Nat → Box} {g p q : Nat} {k : Int} {L : List Net} (b n : Nat) (h1 : H p = .cells [iW k, iW 0, .nil, .own b 0 n none]) (h2 : b ≠ p) (h3 : b ≠ q) (h3' : b ≠ 128) (h4 : b < g) (hn : n = L.length) (h5 : H b = .row none 4 (netRows L) 0) : KidsAt H g p q k L :=
 ⟨_, h1, .inr ⟨b, h2, h3, h3', h4, by rw [hn], h5⟩⟩
theorem netRow_all (l : List Net) : ∀ x ∈ netRows l, x.length = 4 := fun x hx => by
 rw [netRows_map] at hx; simp only [List.mem_map] at hx; obtain ⟨⟨k, op, as, ks⟩, -, rfl⟩ := hx
 rfl
theorem flat_take {k : Int} {l : List Net} {i : Nat} {x : Net} (h : l[i]? = some x) : (l.take (i + 1)).flatMap (Net.open k) = (l.take i).flatMap (Net.open k) ++ x.open k := by
 rw [List.take_add_one, h]; simp
theorem flat_le {k : Int} (l : List Net) (i : Nat) : ((l.take i).flatMap (Net.open k)).length ≤ (l.flatMap (Net.open k)).length := by
 conv => rhs; rw [← List.take_append_drop i l]
 simp only [List.flatMap_append, List.length_append]; omega
theorem loop341_0 {n : Nat} (k : Int) (l : List Net) (p q : Nat) (hb : (l.flatMap (Net.open k)).length < 2 ^ 29) (hn : l.length < n) (hl : l.length < 2 ^ 40) (st : St) (h0 : st.τ 0 = iV k) (h6 : st.τ 6 = .w (.ptr 128 0)) (h7 : st.τ 7 = .w (.ptr p 0)) (h17 : st.τ 17 = .w (.own q 0 l.length (some l.length))) (h18 : st.τ 18 = iV l.length) (h19 : st.τ 19 = iV 0) (hQ : st.H q = .row none 4 (netRows l) 0) (hA : KidsAt st.H st.g p q k []) (hpq : p ≠ q) (hpg : p < st.g) (hqg : q < st.g) (hp8 : p ≠ 128) (hq8 : q ≠ 128) (hZ : st.H 128 = .cells [iW 0, iW 0, .nil, .nil] ∧ 128 < st.g) :
 ∃ e st', execC (go n) mode GT false 41 n F341_L0 st = some (e, st') ∧ e ≠ .normal ∧ (e = .exit 0 ∧ st'.τ 6 = .w (.ptr 128 0) ∧ st'.τ 7 = .w (.ptr p 0) ∧ KidsAt st'.H st'.g p q k (l.flatMap (Net.open k)) ∧ p < st'.g ∧ st'.H 128 = .cells [iW 0, iW 0, .nil, .nil] ∧ 128 < st'.g) := by
 rw [F341_L0, execC_loop]; refine iter_rule (fun m st => ∃ i, i + m = l.length ∧ st.τ 0 = iV k ∧ st.τ 6 = .w (.ptr 128 0) ∧ st.τ 7 = .w (.ptr p 0) ∧ st.τ 17 = .w (.own q 0 l.length (some l.length)) ∧ st.τ 18 = iV l.length ∧ st.τ 19 = iV i ∧ st.H q = .row none 4 (netRows l) 0 ∧ KidsAt st.H st.g p q k ((l.take i).flatMap (Net.open k)) ∧ p < st.g ∧ q < st.g ∧ st.H 128 = .cells [iW 0, iW 0, .nil, .nil] ∧ 128 < st.g) ?_ n l.length st hn
  ⟨0, by omega, h0, h6, h7, h17, h18, by simpa using h19, hQ, by simpa using hA, hpg, hqg, hZ⟩
 clear h0 h6 h7 h17 h18 h19 hQ hA hpg hqg hZ; rintro m ⟨τ, H, g, s⟩ ⟨i, hm, h0, h6, h7, h17, h18, h19, hQ, ⟨w, hP, hw⟩, hpg, hqg, hZ, hzg⟩; simp only at h0 h6 h7 h17 h18 h19 hQ hP hw hpg hqg hZ hzg; cases m with
 | zero =>
  have : i = l.length := by omega
  subst this; rw [List.take_length] at hw; refine ⟨.exit 0, ?_⟩
  simp [F341_B0, h18, h19, h6, h7]; refine ⟨⟨w, hP, ?_⟩, by omega, hZ, by omega⟩
  rcases hw with hw | ⟨b, w1, w2, w2', w3, w4, w5⟩
  · exact .inl hw
  · exact .inr ⟨b, w1, w2, w2', by omega, w4, w5⟩
 | succ m =>
  have hlt : i < l.length := by omega
  have hlt' := ltT hlt; have hgt := List.getElem?_eq_getElem hlt; have hw1 := wrap_succ (i := i) (by omega); have hstep := flat_take (k := k) hgt; have hle := flat_le (k := k) l (i + 1); rw [hstep, List.length_append] at hle; obtain ⟨xk, xo, xa, xks, hx⟩ : ∃ xk xo xa xks, l[i] = .mk xk xo xa xks := by cases hq : l[i] with | mk a b c d => exact ⟨_, _, _, _, rfl⟩
  rw [hx] at hgt hstep hle; have hrow := netRows_get hgt; have tkl : List.take l.length (netRows l) = netRows l := List.take_of_length_le (by rw [netRows_length]; omega); have pX := far hpg; have zX := far hzg; have z1 : (128 = p) = False := eq_false fun e => hp8 e.symm
  have z2 : (p = 128) = False := eq_false hp8; have z3 : (128 = q) = False := eq_false fun e => hq8 e.symm
  have qX := far hqg; have e1 : (p = q) = False := eq_false hpq; have e2 : (q = p) = False := eq_false fun e => hpq e.symm
  generalize (l.take i).flatMap (Net.open k) = S at hw hstep hle; have al := eq_true (netRow_all xks); have tkx : List.take xks.length (netRows xks) = netRows xks := List.take_of_length_le (by rw [netRows_length]; omega); have fin : ∀ st' : St, st'.τ 0 = iV k → st'.τ 6 = .w (.ptr 128 0) → st'.τ 7 = .w (.ptr p 0) → st'.τ 17 = .w (.own q 0 l.length (some l.length)) → st'.τ 18 = iV l.length → st'.τ 19 = iV ((i + 1 : Nat) : Int) → st'.H q = .row none 4 (netRows l) 0 → KidsAt st'.H st'.g p q k (S ++ Net.open k (.mk xk xo xa xks)) → p < st'.g → q < st'.g → st'.H 128 = .cells [iW 0, iW 0, .nil, .nil] ∧ 128 < st'.g →
   ∃ k', k' < m + 1 ∧ ∃ i, i + k' = l.length ∧ st'.τ 0 = iV k ∧ st'.τ 6 = .w (.ptr 128 0) ∧ st'.τ 7 = .w (.ptr p 0) ∧ st'.τ 17 = .w (.own q 0 l.length (some l.length)) ∧ st'.τ 18 = iV l.length ∧ st'.τ 19 = iV i ∧ st'.H q = .row none 4 (netRows l) 0 ∧ KidsAt st'.H st'.g p q k ((l.take i).flatMap (Net.open k)) ∧ p < st'.g ∧ q < st'.g ∧ st'.H 128 = .cells [iW 0, iW 0, .nil, .nil] ∧ 128 < st'.g := fun st' a1 a2 a3 a4 a5 a6 a7 a8 a9 a10 a11 =>
   ⟨m, by omega, i + 1, by omega, a1, a2, a3, a4, a5, a6, a7, by rw [hstep]; exact a8, a9, a10, a11⟩
  suffices hsuf : ∃ st', execC (go n) mode GT false 41 n F341_B0 ⟨τ, H, g, s⟩ = some (.normal, st') ∧ st'.τ 0 = iV k ∧ st'.τ 6 = .w (.ptr 128 0) ∧ st'.τ 7 = .w (.ptr p 0) ∧ st'.τ 17 = .w (.own q 0 l.length (some l.length)) ∧ st'.τ 18 = iV l.length ∧ st'.τ 19 = iV ((i + 1 : Nat) : Int) ∧ st'.H q = .row none 4 (netRows l) 0 ∧ KidsAt st'.H st'.g p q k (S ++ Net.open k (.mk xk xo xa xks)) ∧ p < st'.g ∧ q < st'.g ∧ st'.H 128 = .cells [iW 0, iW 0, .nil, .nil] ∧ 128 < st'.g by
   obtain ⟨st', a0, a1, a2, a3, a4, a5, a6, a7, a8, a9, a10, a11⟩ := hsuf; rw [a0]; exact ⟨.normal, st', rfl, fun _ => fin st' a1 a2 a3 a4 a5 a6 a7 a8 a9 a10 a11, fun h => absurd rfl h⟩
  have rm1 : room 1 64 = true := by decide
  rcases ptf (xk = k) with hk | hk
  · have eo : Net.open k (.mk xk xo xa xks) = xks := by have : xk = k := of_eq_true hk; unfold Net.open; rw [if_pos (by simpa [Net.kind] using this)]; rfl
    rw [eo] at hle ⊢; have rmx : room xks.length 64 = true := room_of (by omega) (by omega); have rmS : room (S.length + xks.length) 64 = true := room_of (by omega) (by omega); have tkS : List.take S.length (netRows S) = netRows S := List.take_of_length_le (by rw [netRows_length]; omega); rcases hw with ⟨rfl, rfl⟩ | ⟨b, w1, w2, w2', w3, rfl, w5⟩
    · simp [-getElem?_pos, F341_B0, h0, h6, h7, h17, h18, h19, hQ, hP, hlt, hlt', hrow, hw1, tkl, e1, e2, pX, qX, hk, netRows_length, al, rmx]
      exact ⟨KidsAt.mk (g + 64 + 256 + 256 + 256) xks.length (by simp [e1, e2, pX]) (by omega) (by omega) (by omega) (by omega) (by simp) (by simp [pX, qX]), by omega, by omega, by simp [zX, z1, z2, z3, hZ]⟩
    · have bX := far w3
      have e3 : (b = p) = False := eq_false w1; have e4 : (b = q) = False := eq_false w2; have e5 : (p = b) = False := eq_false fun e => w1 e.symm
      have e6 : (q = b) = False := eq_false fun e => w2 e.symm
      have z4 : (128 = b) = False := eq_false fun e => w2' e.symm
      have z5 : (b = 128) = False := eq_false w2'; simp [-getElem?_pos, F341_B0, h0, h6, h7, h17, h18, h19, hQ, hP, hlt, hlt', hrow, hw1, tkl, e1, e2, pX, qX, hk, netRows_length, al, rmS, tkS, tkx, w5, e3, e4, e5, e6, bX]; exact ⟨KidsAt.mk (g + 64 + 256 + 256 + 256) (S.length + xks.length) (by simp [e1, e2, e3, e4, e5, e6, pX, bX]) (by omega) (by omega) (by omega) (by omega) (by simp) (by simp [pX, qX, bX, netRows_append]), by omega, by omega, by simp [zX, z1, z2, z3, hZ, z4, z5]⟩
  · have eo : Net.open k (.mk xk xo xa xks) = [.mk xk xo xa xks] := by have : ¬ xk = k := of_eq_false hk; unfold Net.open; rw [if_neg (by simpa [Net.kind] using this)]
    rw [eo] at hle ⊢; simp only [List.length_singleton] at hle; have rmS : room (S.length + 1) 64 = true := room_of (by omega) (by omega); have tkS : List.take S.length (netRows S) = netRows S := List.take_of_length_le (by rw [netRows_length]; omega); have n1 : netRows [.mk xk xo xa xks] = [[iD xk, iD xo, .l 0 (argRows xa), .l 0 (netRows xks)]] := by simp [netRows, Net.row]
    rcases hw with ⟨rfl, rfl⟩ | ⟨b, w1, w2, w2', w3, rfl, w5⟩
    · simp [-getElem?_pos, F341_B0, h0, h6, h7, h17, h18, h19, hQ, hP, hlt, hlt', hrow, hw1, tkl, e1, e2, pX, qX, hk, netRows_length, rm1]
      exact ⟨KidsAt.mk (g + 64 + 256 + 256 + 256) 1 (by simp [e1, e2, pX]) (by omega) (by omega) (by omega) (by omega) (by simp) (by simp [pX, qX, n1]), by omega, by omega, by simp [zX, z1, z2, z3, hZ]⟩
    · have bX := far w3
      have e3 : (b = p) = False := eq_false w1; have e4 : (b = q) = False := eq_false w2; have e5 : (p = b) = False := eq_false fun e => w1 e.symm
      have e6 : (q = b) = False := eq_false fun e => w2 e.symm
      have z4 : (128 = b) = False := eq_false fun e => w2' e.symm
      have z5 : (b = 128) = False := eq_false w2'; simp [-getElem?_pos, F341_B0, h0, h6, h7, h17, h18, h19, hQ, hP, hlt, hlt', hrow, hw1, tkl, e1, e2, pX, qX, hk, netRows_length, rmS, tkS, w5, e3, e4, e5, e6, bX]; exact ⟨KidsAt.mk (g + 64 + 256 + 256 + 256) (S.length + 1) (by simp [e1, e2, e3, e4, e5, e6, pX, bX]) (by omega) (by omega) (by omega) (by omega) (by simp) (by simp [pX, qX, bX, netRows_append, n1]), by omega, by omega, by simp [zX, z1, z2, z3, hZ, z4, z5]⟩
theorem run_together {n : Nat} (k : Int) (a b : Net) (hb : (Net.open k a).length + (Net.open k b).length < 2 ^ 29) (hn : 4 ≤ n) (s : Sup) : go (n + 1) 341 [iV k, netX a, netX b] [] s = some ⟨netX (together k a b), [], []⟩ := by
 have w0 := run_none (n := n) (by omega) a; unfold together
 by_cases h : a.none = true
 · rw [if_pos h]
   rw [h] at w0; obtain ⟨ak, ao, aa, aks⟩ := a; obtain ⟨bk, bo, ba, bks⟩ := b; simp [go_of (n := n) FT_341 rfl, F341, w0]
 · rw [if_neg h]
   have h : a.none = false := by simpa using h
   rw [h] at w0; have e : Net.open k a ++ Net.open k b = [a, b].flatMap (Net.open k) := by simp
   have hlen : ([a, b].flatMap (Net.open k)).length < 2 ^ 29 := by rw [← e, List.length_append]; exact hb
   have hlp := loop341_0 (n := n) k [a, b]; simp only [← e] at hlp hlen; generalize Net.open k a ++ Net.open k b = L at hlp hlen ⊢; obtain ⟨ak, ao, aa, aks⟩ := a; obtain ⟨bk, bo, ba, bks⟩ := b; have rm2 : room 2 64 = true := by decide
   simp [go_of (n := n) FT_341 rfl, F341, w0, rm2]; generalize hst : St.mk _ _ _ _ = st; obtain ⟨e, ⟨τ', H', g', s'⟩, hx, -, rfl, h6, h7, ⟨w, hP, hw⟩, hpg, hZ, hzg⟩ := hlp 448 704 hlen (by simp; omega) (by simp) st (by simp [← hst]) (by simp [← hst]) (by simp [← hst]) (by simp [← hst]) (by simp [← hst]) (by simp [← hst]) (by simp [← hst, netRows, Net.row]) (by subst hst; exact ⟨_, by simp, .inl ⟨rfl, rfl⟩⟩) (by simp) (by simp [← hst]) (by simp [← hst]) (by simp) (by simp) (by simp [← hst]); simp only at h6 h7 hP hw hpg hZ hzg; clear hst; have zX := far hzg; rcases hw with ⟨rfl, rfl⟩ | ⟨b, w1, w2, w2', w3, rfl, w5⟩
   · simp [hx, h6, h7, hP, hZ, zX]
   · have tkL : List.take L.length (netRows L) = netRows L := List.take_of_length_le (by rw [netRows_length]; omega)
     have z4 : (128 = b) = False := eq_false fun e => w2' e.symm
     have z5 : (b = 128) = False := eq_false w2'; simp [hx, h6, h7, hP, hZ, zX, z4, z5, w5, tkL]
end Go.VM
