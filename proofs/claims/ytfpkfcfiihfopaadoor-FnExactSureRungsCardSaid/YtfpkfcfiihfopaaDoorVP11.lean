/- Lists of instructions read back as ladders, in plain words: what was printed is read as it was. Conditions: none. -/
import Derived.Test.YtfpkfcfiihfopaaDoorVW1
import Derived.Test.YtfpkfcfiihfopaaDoorVY24
import Derived.Test.YtfpkfcfiihfopaaDoorVP10

namespace Go.VM
set_option linter.unusedVariables false
def Net.nil : Net := .mk 0 0 [] []
set_option linter.unusedSimpArgs false
set_option maxHeartbeats 16000000
def KidsAt (H : Nat → Box) (g p q : Nat) (k : Int) (L : List Net) : Prop := ∃ w, H p = .cells [iW k, iW 0, .nil, w] ∧ ((L = [] ∧ w = .nil) ∨ ∃ b, b ≠ p ∧ b ≠ q ∧ b ≠ 128 ∧ b < g ∧ w = .own b 0 L.length none ∧ H b = .row none 4 (netRows L) 0)
theorem KidsAt.mk {H : Nat → Box} {g p q : Nat} {k : Int} {L : List Net} (b n : Nat) (h1 : H p = .cells [iW k, iW 0, .nil, .own b 0 n none]) (h2 : b ≠ p) (h3 : b ≠ q) (h3' : b ≠ 128) (h4 : b < g) (hn : n = L.length) (h5 : H b = .row none 4 (netRows L) 0) : KidsAt H g p q k L :=
 ⟨_, h1, .inr ⟨b, h2, h3, h3', h4, by rw [hn], h5⟩⟩
def StkAt (st : St) (t p q : Nat) (s : List Net) : Prop := (s = [] ∧ st.τ t = .w .nil) ∨ ∃ b c R, b ≠ 0 ∧ b ≠ p ∧ b ≠ q ∧ b < st.g ∧ st.τ t = .w (.own b 0 s.length c) ∧ st.H b = .row none 4 R 0 ∧ R.take s.length = netRows s.reverse
theorem StkAt.keep {st st' : St} {t p q : Nat} {s : List Net} (h : StkAt st t p q s) (e : st'.τ t = st.τ t) (eH : ∀ b, b < st.g → b ≠ 0 → b ≠ p → b ≠ q → st'.H b = st.H b) (hg : st.g ≤ st'.g) : StkAt st' t p q s := by
 rcases h with ⟨h1, h2⟩ | ⟨b, c, R, h1, h2, h3, h4, h5, h6, h7⟩
 · exact .inl ⟨h1, e.trans h2⟩
 · exact .inr ⟨b, c, R, h1, h2, h3, by omega, e.trans h5, (eH b h4 h1 h2 h3).trans h6, h7⟩
end Go.VM

/- Lists of instructions as arguments of the laws of exactness. Conditions: none. -/
namespace Go.VM
set_option linter.unusedVariables false
set_option linter.unusedSimpArgs false
set_option maxHeartbeats 4000000
theorem ins_W (x : Ins) : rowW x.row = x.e.as.length := by
 simp [Ins.row, rowW, dW, args_rowsW]
theorem sz_ins {n : Nat} (x : Ins) (hl : x.e.as.length < 2 ^ 63) (K : Nat) (hK : K < 2 ^ 40) (s : Sup) : go (n + 3) 320 [rowX x.row, iV K] [] s = some ⟨szV (rowW x.row) K, [], []⟩ := by
 have w := sz_el (n := n) x.e hl K hK; rw [ins_W]; rw [el_W] at w
 by_cases h : x.e.as.length ≤ K
 · simp only [szV, if_pos h] at w ⊢
   generalize K - x.e.as.length = T at w ⊢; have hT : ((T : Int) < 0) = False := eq_false (by omega); simp [go_of FT_320 rfl, F320, Ins.row, w, hT]
 · simp only [szV, if_neg h] at w ⊢
   simp [go_of FT_320 rfl, F320, Ins.row, w]
abbrev listD (l : List Ins) : Nat := l.length + rowsW (insRows l)
theorem sz_list {n : Nat} (l : List Ins) (hl : dFits (.l 0 (insRows l))) (hn : l.length + 4 ≤ n) (K : Nat) (hK : K < 2 ^ 40) (s : Sup) : go n 289 [.w (isW l), iV K] [] s = some ⟨szV (listD l) K, [], []⟩ := by
 obtain ⟨n, rfl⟩ : ∃ k, n = k + 4 := ⟨n - 4, by omega⟩; have := run_szS (f := 289) (sz := 3) (c := 320) (n := n + 3) rfl rfl rfl rfl rfl 0 rowW (insRows l) (insRows_all fun a _ => rfl)
  (fun r hr k hk s => by
   have hf := rowsFits_mem hl.2 hr; simp only [insRows, List.mem_map] at hr; obtain ⟨a, ha, rfl⟩ := hr; simp only [Ins.row, rowFits, dFits, argRows, List.length_map] at hf; exact sz_ins (n := n) a (by omega) k hk s) (by have := hl.1; omega) (by simp [insRows]; omega) K hK s
 rw [← rowsW_map, show (insRows l).length = l.length by simp [insRows]] at this; exact this
theorem list_mem {l : List Ins} {x : Ins} (h : x ∈ l) : x.e.as.length ≤ rowsW (insRows l) := by
 induction l with
 | nil => cases h
 | cons a r ih =>
  simp only [insRows, List.map_cons, rowsW] at ih ⊢; rcases List.mem_cons.1 h with rfl | h
  · rw [ins_W]; omega
  · have := ih h; omega
section
variable {P : Program} {fid : Nat → FuncId} {cid : FuncId → Nat} {w0 w : World}
theorem sz_callL (E : Env P fid cid) (hg : Glob GT (ctxN w0.heap.size w0)) {l : List Ins} (hf : dFits (.l 0 (insRows l))) {a : Value} (ha : Rd w0.heap.size w0 a (.l 0 (insRows l))) :
 MC P fid 289 [a, .int .i64 1048576] w0 fun v w' => Tou Old w0 w' ∧ ∃ k : Int, v = .int .i64 k ∧ (0 ≤ k → listD l ≤ 2 ^ 20) := by
 have h := sz_list l hf (Nat.le_refl _) 1048576 (by omega) sup0; refine (E.call hg (Tou.refl _ _) h rfl (vs := [a, .int .i64 1048576]) fun i x hx => ?_).mono ?_
 · match i with
   | 0 => simp at hx; subst hx; exact ⟨a, rfl, ha.here⟩
   | 1 => simp at hx; subst hx; exact ⟨_, rfl, Rel.s _ rfl⟩
   | i + 2 => simp at hx
 · rintro v w' ⟨κ', rfl, O⟩
   refine ⟨out_tou O, _, out_s O, fun hk => ?_⟩
   by_cases hle : listD l ≤ 1048576
   · exact hle
   · rw [if_neg hle] at hk; omega
theorem sound_list (E : Env P fid cid) (hg : Glob GT (ctxN w0.heap.size w0)) {l : List Ins} (hl : listD l ≤ 2 ^ 20) {a : Value} (ha : Rd w0.heap.size w0 a (.l 0 (insRows l))) : Sound P fid w0 a (insRows l) 289 290 275 276 where
 to := fun w hw => by
  have hl' : l.length + rowsW (insRows l) ≤ 2 ^ 20 := hl; obtain ⟨t, R, h⟩ := mk_list l (2 ^ 20) (fun x hx => by have := list_mem hx; omega) (by omega) (Nat.le_refl _) (by omega); obtain ⟨h1, h2, h3⟩ := h sup0; refine (E.calls hg hw h1 (ha.tou hw fun _ h => h)).mono ?_
  rintro v w' ⟨κ', rfl, O⟩; exact ⟨κ'.ζ, _, _, out_own sup0_ne O (h3 sup0_inj), h2⟩
 eq := fun N M u v w hw hu hv => by
  have hl' : l.length + rowsW (insRows l) ≤ 2 ^ 20 := hl; exact (gives_ins E hg (m := 2 ^ 20) (fun x hx => by have := list_mem hx; omega) (by omega) (by omega)).1 N M u v w hw hu hv
 mark := fun R hR => by
  have hl' : l.length + rowsW (insRows l) ≤ 2 ^ 20 := hl; exact (gives_ins E hg (m := 2 ^ 20) (fun x hx => by have := list_mem hx; omega) (by omega) (by omega)).2.1 R hR
end
end Go.VM
