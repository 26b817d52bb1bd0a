/- Nets read out of lists of instructions, in plain words: what is read is right and in normal form, is no longer, and is read again. Conditions: none. -/
import Derived.Test.YtfpkfcfiihfopaaDoorVP11
import Derived.Test.YtfpkfcfiihfopaaDoorVY23
import Derived.Test.YtfpkfcfiihfopaaDoorVZ1
import Derived.Test.YtfpkfcfiihfopaaDoorVY20
import Derived.Test.YtfpkfcfiihfopaaDoorVY24

namespace Go.VM
set_option linter.unusedVariables false
set_option linter.unusedSimpArgs false
set_option maxHeartbeats 16000000
theorem run_needsS {n : Nat} (c : Int) (s : Sup) : go (n + 1) 318 [iV c] [] s = some ⟨iV (needsI c), [], []⟩ := by
 unfold needsI
 by_cases c1 : c = 1
 · simp [go_of (n := n) FT_318 rfl, F318, c1]
 by_cases c4 : c = 4
 · simp [go_of (n := n) FT_318 rfl, F318, c4]
 by_cases c5 : c = 5
 · simp [go_of (n := n) FT_318 rfl, F318, c5]
 simp [go_of (n := n) FT_318 rfl, F318, c1, c4, c5]
theorem run_ListOkS {n : Nat} (hn : 20 ≤ n) (i : Ins) (s : Sup) : go (n + 1) 317 [insX i] [] s = some ⟨bV i.ok, [], []⟩ := by
 obtain ⟨c, e⟩ := i; have w2 : ∀ s, go n 166 [elX e] [] s = some ⟨sV (.bool e.contact), [], []⟩ := fun s => run_ElemIsContactS (by omega) e s
 have w3 : ∀ s, go n 143 [elX e] [] s = some ⟨sV (.bool e.coil), [], []⟩ := fun s => run_ElemIsCoilS (by omega) e s
 obtain ⟨op, as⟩ := e; unfold Ins.ok El.bareB; simp only; generalize El.contact ⟨op, as⟩ = r1 at w2 ⊢; generalize El.coil ⟨op, as⟩ = r2 at w3 ⊢
 by_cases h0 : c < 1
 · have : ¬ (1 ≤ c ∧ c ≤ 3) := by omega
   have e10 : ¬ c = 10 := by omega
   have e4 : ¬ (4 ≤ c ∧ c ≤ 11) := by omega
   rw [if_neg this, if_neg e10, decide_eq_false e4]; simp [go_of (n := n) FT_317 rfl, F317, h0]
 have h0' : (c < 1) = False := eq_false h0
 by_cases h11 : 11 < c
 · have : ¬ (1 ≤ c ∧ c ≤ 3) := by omega
   have e10 : ¬ c = 10 := by omega
   have e4 : ¬ (4 ≤ c ∧ c ≤ 11) := by omega
   rw [if_neg this, if_neg e10, decide_eq_false e4]; simp [go_of (n := n) FT_317 rfl, F317, h0', h11]
 have h11' : (11 < c) = False := eq_false h11
 by_cases h3 : c ≤ 3
 · rw [if_pos ⟨by omega, h3⟩]
   simp [go_of (n := n) FT_317 rfl, F317, h0', h11', h3, w2]
 have h3' : (c ≤ 3) = False := eq_false h3; rw [if_neg (by omega)]
 by_cases h10 : c = 10
 · subst h10
   simp [go_of (n := n) FT_317 rfl, F317, w3]
 · rw [if_neg h10, decide_eq_true (by omega : 4 ≤ c ∧ c ≤ 11)]
   by_cases ho : op = 0
   · cases as with
     | nil => simp [go_of (n := n) FT_317 rfl, F317, h0', h11', h3', h10, ho]
     | cons x r =>
      have hq : (((r.length : Int) + 1) = 0) = False := eq_false (by omega); simp [go_of (n := n) FT_317 rfl, F317, h0', h11', h3', h10, ho, hq]
   · simp [go_of (n := n) FT_317 rfl, F317, h0', h11', h3', h10, ho]
def rgRows (L : List (List Ins)) : List (List D) := L.map fun p => [.l 0 (insRows p)]
abbrev rgW (L : List (List Ins)) : W := .d (.l 0 (rgRows L))
theorem rgRows_length (L : List (List Ins)) : (rgRows L).length = L.length := by simp [rgRows]
theorem rgRows_append (a b : List (List Ins)) : rgRows (a ++ b) = rgRows a ++ rgRows b := by simp [rgRows]
theorem rgRows_all (L : List (List Ins)) : ∀ x ∈ rgRows L, x.length = 1 := fun x hx => by
 simp only [rgRows, List.mem_map] at hx; obtain ⟨a, -, rfl⟩ := hx
 rfl
def AccR (τ : Nat → V) (H : Nat → Box) (g t : Nat) (L : List (List Ins)) : Prop := (L = [] ∧ τ t = .w .nil) ∨ ∃ b, b < g ∧ τ t = .w (.own b 0 L.length none) ∧ H b = .row none 1 (rgRows L) 0
theorem AccR.keep {τ τ' : Nat → V} {H H' : Nat → Box} {g g' t : Nat} {L : List (List Ins)} (h : AccR τ H g t L) (e : τ' t = τ t) (eH : ∀ b, b < g → H' b = H b) (hg : g ≤ g') : AccR τ' H' g' t L := by
 rcases h with ⟨h1, h2⟩ | ⟨b, h2, h3, h4⟩
 · exact .inl ⟨h1, e.trans h2⟩
 · exact .inr ⟨b, by omega, e.trans h3, (eH b h2).trans h4⟩
theorem AccR.mk {τ : Nat → V} {H : Nat → Box} {g t n b : Nat} {L : List (List Ins)} (h2 : τ t = .w (.own b 0 n none)) (h1 : b < g) (hn : n = L.length) (h3 : H b = .row none 1 (rgRows L) 0) : AccR τ H g t L :=
 .inr ⟨b, h1, by rw [h2, hn], h3⟩
theorem cut_step {l : List Ins} {f i : Nat} {x : Ins} (hf : f ≤ i) (h : l[i]? = some x) : (l.drop f).take (i + 1 - f) = (l.drop f).take (i - f) ++ [x] := by
 rw [show i + 1 - f = (i - f) + 1 by omega, List.take_add_one, List.getElem?_drop, show f + (i - f) = i by omega, h]
 rfl
theorem insRows_cut (l : List Ins) (f k : Nat) : List.take k (List.drop f (insRows l)) = insRows ((l.drop f).take k) := by
 simp [insRows, List.map_take, List.map_drop]
theorem rungsGo_len : ∀ (l acc : List Ins), (rungsGo acc l).length ≤ l.length
 | [], acc => by simp [rungsGo]
 | i :: r, acc => by
  unfold rungsGo; split
  · have := rungsGo_len r []; simp; omega
  · have := rungsGo_len r (acc ++ [i]); simp; omega
abbrev tW (b : Bool) : W := .d (.s (.bool b))
abbrev csX (u : CS) : V := .agg [iW u.b, iW u.f, tW u.based, tW u.coil]
def CS.fit (u : CS) : Prop := 0 ≤ u.b ∧ u.b ≤ 16 ∧ 0 ≤ u.f ∧ u.f ≤ 8
theorem run_sureWrongS {n : Nat} (hn : 24 ≤ n) (u : CS) (hu : u.fit) (i : Ins) (s : Sup) : go (n + 1) 343 [csX u, insX i] [] s = some ⟨iV (u.wrong i), [], []⟩ := by
 obtain ⟨n, rfl⟩ : ∃ k, n = k + 1 := ⟨n - 1, by omega⟩; have w1 := run_ListOkS (n := n) (by omega) i; obtain ⟨c, op, as⟩ := i; have w2 := run_needsS (n := n) c; obtain ⟨b, f, B, co⟩ := u; obtain ⟨b0, b1, f0, f1⟩ := hu; simp only at b0 b1 f0 f1; unfold CS.wrong; simp only; generalize Ins.ok ⟨c, ⟨op, as⟩⟩ = ok at w1 ⊢; generalize hnd : needsI c = nd at w2 ⊢; cases ok with
 | false =>
  by_cases h5 : c = 5
  · subst h5; simp [go_of (n := n + 1) FT_343 rfl, F343, w1]
  · simp [go_of (n := n + 1) FT_343 rfl, F343, w1, h5]
 | true =>
  by_cases h2 : b < nd
  · by_cases h5 : c = 5
    · subst h5; simp [go_of (n := n + 1) FT_343 rfl, F343, w1, w2, h2]
    · simp [go_of (n := n + 1) FT_343 rfl, F343, w1, w2, h2, h5]
  have e2 : (b < nd) = False := eq_false h2
  by_cases h1 : c = 1
  · subst h1
    have k : (b = 16) = (16 ≤ b) := propext ⟨fun h => by omega, fun h => by omega⟩; cases B <;> cases co <;> rcases ptf (16 ≤ b) with k0 | k0 <;> rw [k0] at k <;> rcases ptf (b = 1) with k2 | k2 <;> simp [go_of (n := n + 1) FT_343 rfl, F343, w1, w2, e2, k, k0, k2]
  by_cases h3 : c = 3
  · subst h3
    cases B <;> cases co <;> rcases ptf (b = 1) with k0 | k0 <;> simp [go_of (n := n + 1) FT_343 rfl, F343, w1, w2, e2, k0]
  by_cases h5 : c = 5
  · subst h5
    cases B <;> cases co <;> rcases ptf (b = 2) with k0 | k0 <;> simp [go_of (n := n + 1) FT_343 rfl, F343, w1, w2, e2, k0]
  by_cases h6 : c = 6
  · subst h6
    cases B <;> cases co <;> rcases ptf (b = 1) with k0 | k0 <;> simp [go_of (n := n + 1) FT_343 rfl, F343, w1, w2, e2, k0]
  by_cases h7 : c = 7
  · subst h7
    have k : (f = 8) = (8 ≤ f) := propext ⟨fun h => by omega, fun h => by omega⟩; cases B <;> cases co <;> rcases ptf (1 < b) with k0 | k0 <;> rcases ptf (b = 1) with k2 | k2 <;> rcases ptf (8 ≤ f) with k1 | k1 <;> rw [k1] at k <;> simp [go_of (n := n + 1) FT_343 rfl, F343, w1, w2, e2, k, k0, k1, k2]
  by_cases h8 : c = 8
  · subst h8
    cases B <;> cases co <;> rcases ptf (1 < b) with k0 | k0 <;> rcases ptf (b = 1) with k2 | k2 <;> rcases ptf (f = 0) with k1 | k1 <;> simp [go_of (n := n + 1) FT_343 rfl, F343, w1, w2, e2, k0, k1, k2]
  by_cases h9 : c = 9
  · subst h9
    cases B <;> cases co <;> rcases ptf (1 < b) with k0 | k0 <;> rcases ptf (b = 1) with k2 | k2 <;> rcases ptf (f = 0) with k1 | k1 <;> simp [go_of (n := n + 1) FT_343 rfl, F343, w1, w2, e2, k0, k1, k2]
  by_cases h11 : c = 11
  · subst h11
    rcases ptf (f = 0) with k1 | k1
    · have k : (0 < f) = False := eq_false (by have := of_eq_true k1; omega)
      cases B <;> cases co <;> rcases ptf (1 < b) with k0 | k0 <;> rcases ptf (b = 1) with k2 | k2 <;> simp [go_of (n := n + 1) FT_343 rfl, F343, w1, w2, e2, k, k0, k1, k2]
    · have k : (0 < f) = True := eq_true (by have := of_eq_false k1; omega)
      cases B <;> cases co <;> rcases ptf (1 < b) with k0 | k0 <;> rcases ptf (b = 1) with k2 | k2 <;> simp [go_of (n := n + 1) FT_343 rfl, F343, w1, w2, e2, k, k0, k1, k2]
  by_cases k0 : 7 ≤ c
  · cases B <;> cases co <;> rcases ptf (1 < b) with k1 | k1 <;> rcases ptf (b = 1) with k2 | k2 <;> simp [go_of (n := n + 1) FT_343 rfl, F343, w1, w2, e2, h1, h3, h5, h6, h7, h8, h9, h11, k0, k1, k2]
  · cases B <;> cases co <;> rcases ptf (b = 1) with k2 | k2 <;> simp [go_of (n := n + 1) FT_343 rfl, F343, w1, w2, e2, h1, h3, h5, h6, h7, h8, h9, h11, k0, k2]
end Go.VM
