/- How high a list's stacks are. Conditions: none. -/
import Derived.Test.YtfpkfcfiihfopaaDoorXVP5
import Derived.Test.YtfpkfcfiihfopaaDoorXVY8
import Derived.Test.YtfpkfcfiihfopaaDoorXVZ1
import Derived.Test.YtfpkfcfiihfopaaDoorXVP12

namespace Go.VM
set_option linter.unusedSimpArgs false
set_option linter.unusedVariables false
set_option maxHeartbeats 16000000
abbrev hX (s : Int × Int) : V := .agg [iW s.1, iW s.2]
def Net.nil : Net := .mk 0 0 [] []
def KidsAt (H : Nat → Box) (g p q : Nat) (k : Int) (L : List Net) : Prop := ∃ w, H p = .cells [iW k, iW 0, .nil, w] ∧ ((L = [] ∧ w = .nil) ∨ ∃ b, b ≠ p ∧ b ≠ q ∧ b ≠ 128 ∧ b < g ∧ w = .own b 0 L.length none ∧ H b = .row none 4 (netRows L) 0)
theorem KidsAt.mk {H : Nat → Box} {g p q : Nat} {k : Int} {L : List Net} (b n : Nat) (h1 : H p = .cells [iW k, iW 0, .nil, .own b 0 n none]) (h2 : b ≠ p) (h3 : b ≠ q) (h3' : b ≠ 128) (h4 : b < g) (hn : n = L.length) (h5 : H b = .row none 4 (netRows L) 0) : KidsAt H g p q k L :=
 ⟨_, h1, .inr ⟨b, h2, h3, h3', h4, by rw [hn], h5⟩⟩
def StkAt (st : St) (t p q : Nat) (s : List Net) : Prop := (s = [] ∧ st.τ t = .w .nil) ∨ ∃ b c R, b ≠ 0 ∧ b ≠ p ∧ b ≠ q ∧ b < st.g ∧ st.τ t = .w (.own b 0 s.length c) ∧ st.H b = .row none 4 R 0 ∧ R.take s.length = netRows s.reverse
theorem StkAt.keep {st st' : St} {t p q : Nat} {s : List Net} (h : StkAt st t p q s) (e : st'.τ t = st.τ t) (eH : ∀ b, b < st.g → b ≠ 0 → b ≠ p → b ≠ q → st'.H b = st.H b) (hg : st.g ≤ st'.g) : StkAt st' t p q s := by
 rcases h with ⟨h1, h2⟩ | ⟨b, c, R, h1, h2, h3, h4, h5, h6, h7⟩
 · exact .inl ⟨h1, e.trans h2⟩
 · exact .inr ⟨b, c, R, h1, h2, h3, by omega, e.trans h5, (eH b h4 h1 h2 h3).trans h6, h7⟩
theorem fr_nil {s : Sup} : Fr s [] := ⟨by simp, by simp⟩
def F222T : Fn := ⟨14, [.cell 2 true 4], (.seq (.reg [oo 1 (.box 4 (.t 0)), oo 2 (.new [(wi 0), (wi 0), .nil, .nil])]) (.seq (.seq (.reg [oo 3 (.ld true 4 (.t 1)), oo 4 (.call (xf 144) [(.t 3)]), oo 5 (.bin .gtr .one (.t 4) (xi 400)), om 6 5, og 7 (.ld true 4 (.t 1)) 6 false, og 8 (.call (xf 142) [(.t 7)]) 6 false, og 9 (.bin .gtr .one (.t 8) (xi 0)) 6 false, oo 10 (.pick (.t 6) (xb true) (.t 9))]) (.cond (.t 10) (.seq (.reg [oo 11 (.bld [(wi 0), (wi 0), .nil, .nil] []), on (.st 4 (.t 2) (.t 11))]) .ret) .skip)) (.seq (.reg [oo 12 (.ld true 4 (.t 1)), oo 13 (.call (xf 214) [(.t 12)]), on (.st 4 (.t 2) (.t 13))]) .ret)))⟩
def F105T : Fn := ⟨14, [.cell 2 true 4], (.seq (.reg [oo 1 (.box 4 (.t 0)), oo 2 (.new [(wi 0), (wi 0), .nil, .nil])]) (.seq (.seq (.reg [oo 3 (.ld true 4 (.t 1)), oo 4 (.call (xf 118) [(.t 3)]), oo 5 (.bin .gtr .one (.t 4) (xi 400)), om 6 5, og 7 (.ld true 4 (.t 1)) 6 false, og 8 (.call (xf 119) [(.t 7)]) 6 false, og 9 (.bin .neq .one (.t 8) (xi 0)) 6 false, oo 10 (.pick (.t 6) (xb true) (.t 9))]) (.cond (.t 10) (.seq (.reg [oo 11 (.bld [(wi 0), (wi 0), .nil, .nil] []), on (.st 4 (.t 2) (.t 11))]) .ret) .skip)) (.seq (.reg [oo 12 (.ld true 4 (.t 1)), oo 13 (.call (xf 120) [(.t 12)]), on (.st 4 (.t 2) (.t 13))]) .ret)))⟩
def netAns (t : Net) : Net := if 400 < t.size ∨ t.wrong ≠ 0 then .mk 0 0 [] [] else t.norm
theorem run_NormNetS (h222 : FT 222 = some F222T) (t : Net) (hm : t.wt < 2 ^ 28) (n : Nat) (hn : 2 * t.wt + 50 ≤ n) (s : Sup) : go n 222 [netX t] [] s = some ⟨netX (netAns t), [], []⟩ := by
 obtain ⟨n, rfl⟩ : ∃ k, n = k + 1 := ⟨n - 1, by omega⟩; have w1 := run_sizeS t.wt t (Nat.le_refl _) (by omega) n (by omega); have w2 := run_wrongS t.wt t (Nat.le_refl _) (by omega) n (by omega); unfold netAns
 by_cases h1 : 400 < t.size
 · have h1i : ((400 : Int) < (t.size : Int)) = True := eq_true (by omega)
   rw [if_pos (.inl h1)]; obtain ⟨k, op, as, ks⟩ := t; simp [go_of h222 rfl, F222T, w1, h1, h1i]
 · have h1i : ((400 : Int) < (t.size : Int)) = False := eq_false (by omega)
   by_cases h2 : t.wrong = 0
   · have w3 := run_l9Net t.wt t (Nat.le_refl _) (by omega) h2 n (by omega)
     rw [if_neg (by simp [h1, h2])]; generalize t.norm = y at w3 ⊢; obtain ⟨k, op, as, ks⟩ := t; obtain ⟨k2, op2, as2, ks2⟩ := y; rw [h2] at w2; simp [go_of h222 rfl, F222T, w1, w2, w3, h1, h1i]
   · have hp : (0 < t.wrong) = True := eq_true (by have := t.wrong_or; omega)
     rw [if_pos (.inr h2)]; generalize t.wrong = c at w2 hp; obtain ⟨k, op, as, ks⟩ := t; simp [go_of h222 rfl, F222T, w1, w2, h1, h1i, hp]
theorem ps_NormNet (h105 : FT 105 = some F105T) (t : Net) (hm : t.wt < 2 ^ 28) (n : Nat) (hn : t.wt + 60 ≤ n) (s : Sup) : ∃ ds : List D, goS n 105 [netX t] [] s = some ⟨rowX ds, [], []⟩ ∧ erL ds = (netAns t).row ∧ (Inj s → Fr s (stsL ds)) := by
 obtain ⟨n, rfl⟩ : ∃ k, n = k + 1 := ⟨n - 1, by omega⟩; have w1 := run_size t.wt t (Nat.le_refl _) (by omega) n (by omega); have w2 := run_wrong t.wt t (Nat.le_refl _) (by omega) n (by omega); have g1 : goS n 118 = go n 118 := gos_go rfl; have g2 : goS n 119 = go n 119 := gos_go rfl; have nil : erL [iD 0, iD 0, .l 0 [], .l 0 []] = (Net.mk 0 0 [] []).row ∧ (Inj s → Fr s (stsL [iD 0, iD 0, .l 0 [], .l 0 []])) := ⟨by simp [erL, D.er, erR, Net.row, argRows, netRows], fun _ => by simpa [stsL_c, stsL_n, sts_s, D.sts] using fr_nil⟩; unfold netAns
 by_cases h1 : 400 < t.size
 · have h1i : ((400 : Int) < (t.size : Int)) = True := eq_true (by omega)
   rw [if_pos (.inl h1)]; obtain ⟨k, op, as, ks⟩ := t; exact ⟨_, by simp [gos_of h105 rfl, F105T, g1, g2, w1, h1, h1i], nil⟩
 · have h1i : ((400 : Int) < (t.size : Int)) = False := eq_false (by omega)
   by_cases h2 : t.wrong = 0
   · obtain ⟨t1, t2, R1, R2, w⟩ := ns_net t.wt t (Nat.le_refl _) (by omega) h2 n (by omega)
     have v := fun s => (w s).1
     rw [if_neg (by simp [h1, h2])]; rw [h2] at w2; generalize t.norm = y at w v ⊢; obtain ⟨k2, op2, as2, ks2⟩ := y; obtain ⟨k, op, as, ks⟩ := t; simp only [Net.kind, Net.op, Net.as, Net.kids] at w v; have key : ∃ sp : Sup, goS (n + 1) 105 [netX (.mk k op as ks)] [] s = some ⟨rowX [iD k2, iD op2, .l (t1 sp) (R1 sp), .l (t2 sp) (R2 sp)], [], []⟩ ∧ (Inj s → Inj sp ∧ ∀ F, Fr sp F → Fr s F) := by
      refine ⟨fun k => subS (restS (restS s)) 1 (2 * k + 1), by simp [gos_of h105 rfl, F105T, g1, g2, w1, w2, v, h1, h1i], fun hi => ?_⟩
      first
       | exact ⟨inj_arg (inj_sub (inj_rest (inj_rest hi)) _), fun F hF => by simpa using ((past_0 hi).weak.weak.call _ fun _ => hF).fr⟩
       | exact ⟨inj_arg (inj_sub (inj_rest (inj_rest (inj_rest hi))) _), fun F hF => by simpa using ((past_0 hi).weak.weak.weak.call _ fun _ => hF).fr⟩
       | exact ⟨inj_arg (inj_sub (inj_rest hi) _), fun F hF => by simpa using ((past_0 hi).weak.call _ fun _ => hF).fr⟩
     obtain ⟨sp, e1, e2⟩ := key; refine ⟨_, e1, by simp [erL, D.er, (w _).2.1, (w _).2.2.1, Net.row], fun hi => ?_⟩
     obtain ⟨i1, i2⟩ := e2 hi; have := i2 _ ((w sp).2.2.2 i1)
     simpa [stsL_c, stsL_n, sts_s] using this
   · rw [if_pos (.inr h2)]
     obtain ⟨k, op, as, ks⟩ := t; exact ⟨_, by simp [gos_of h105 rfl, F105T, g1, g2, w1, w2, h1, h1i, h2], nil⟩
theorem netAns_wt (t : Net) : (netAns t).wt ≤ 1 + t.wt := by
 unfold netAns; split
 · simp [Net.wt, netsWt]
 · rename_i h
   have := (norm_ok t (by simp at h; exact h.2)).2.2.2; omega
end Go.VM
