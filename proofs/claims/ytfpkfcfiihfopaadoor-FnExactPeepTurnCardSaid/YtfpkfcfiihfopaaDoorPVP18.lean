/- The normal form of arms, as the document has it: squeezed. Conditions: none. -/
import Derived.Test.YtfpkfcfiihfopaaDoorPVZ7H
import Derived.Test.YtfpkfcfiihfopaaDoorPVY8
import Derived.Test.YtfpkfcfiihfopaaDoorPVZ1

namespace Go.VM
set_option linter.unusedSimpArgs false
set_option linter.unusedVariables false
set_option maxHeartbeats 16000000
abbrev hX (s : Int × Int) : V := .agg [iW s.1, iW s.2]
def Net.nil : Net := .mk 0 0 [] []
def KidsAt (H : Nat → Box) (g p q : Nat) (k : Int) (L : List Net) : Prop := ∃ w, H p = .cells [iW k, iW 0, .nil, w] ∧ ((L = [] ∧ w = .nil) ∨ ∃ b, b ≠ p ∧ b ≠ q ∧ b ≠ 128 ∧ b < g ∧ w = .own b 0 L.length none ∧ H b = .row none 4 (netRows L) 0)
theorem KidsAt.mk {H : Nat → Box} {g p q : Nat} {k : Int} {L : List Net} (b n : Nat) (h1 : H p = .cells [iW k, iW 0, .nil, .own b 0 n none]) (h2 : b ≠ p) (h3 : b ≠ q) (h3' : b ≠ 128) (h4 : b < g) (hn : n = L.length) (h5 : H b = .row none 4 (netRows L) 0) : KidsAt H g p q k L :=
 ⟨_, h1, .inr ⟨b, h2, h3, h3', h4, by rw [hn], h5⟩⟩
def StkAt (st : St) (t p q : Nat) (s : List Net) : Prop := (s = [] ∧ st.τ t = .w .nil) ∨ ∃ b c R, b ≠ 0 ∧ b ≠ p ∧ b ≠ q ∧ b < st.g ∧ st.τ t = .w (.own b 0 s.length c) ∧ st.H b = .row none 4 R 0 ∧ R.take s.length = netRows s.reverse
theorem StkAt.keep {st st' : St} {t p q : Nat} {s : List Net} (h : StkAt st t p q s) (e : st'.τ t = st.τ t) (eH : ∀ b, b < st.g → b ≠ 0 → b ≠ p → b ≠ q → st'.H b = st.H b) (hg : st.g ≤ st'.g) : StkAt st' t p q s := by
 rcases h with ⟨h1, h2⟩ | ⟨b, c, R, h1, h2, h3, h4, h5, h6, h7⟩
 · exact .inl ⟨h1, e.trans h2⟩
 · exact .inr ⟨b, c, R, h1, h2, h3, by omega, e.trans h5, (eH b h4 h1 h2 h3).trans h6, h7⟩
theorem fr_nil {s : Sup} : Fr s [] := ⟨by simp, by simp⟩
end Go.VM
