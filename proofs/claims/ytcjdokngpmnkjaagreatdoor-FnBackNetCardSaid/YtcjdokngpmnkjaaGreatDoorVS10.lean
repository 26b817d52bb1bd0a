/- Draws: nets; they come to an end and are of their shape. Conditions: none. -/
import Derived.Test.YtcjdokngpmnkjaaGreatDoorVW2
import Derived.Test.YtcjdokngpmnkjaaGreatDoorVS3
import Derived.Test.YtcjdokngpmnkjaaGreatDoorVY2
import Derived.Test.YtcjdokngpmnkjaaGreatDoorVQ11
import Derived.Test.YtcjdokngpmnkjaaGreatDoorVM33

namespace Go.VM
set_option linter.unusedSimpArgs false
set_option linter.unusedVariables false
set_option maxHeartbeats 16000000
inductive Seq {α : Type} (R : Nat → α → Nat → Prop) : Nat → List α → Nat → Prop
 | nil (p : Nat) : Seq R p [] p
 | cons {p q r : Nat} {t : α} {ts : List α} (h : R p t q) (k : Seq R q ts r) : Seq R p (t :: ts) r
theorem Seq.have {α : Type} {R : Nat → α → Nat → Prop} {wt : α → Nat} {W P B : Nat} (h : ∀ p, p < B → ∃ t q, wt t ≤ W ∧ q ≤ p + P ∧ R p t q) : ∀ (M p : Nat), p + M * P < B → ∃ ts r, ts.length = M ∧ (∀ t ∈ ts, wt t ≤ W) ∧ r ≤ p + M * P ∧ Seq R p ts r
 | 0, p, hp => ⟨[], p, rfl, by simp, by omega, .nil p⟩
 | M + 1, p, hp => by
  rw [Nat.add_mul] at hp; obtain ⟨t, q, h1, h2, h3⟩ := h p (by omega); obtain ⟨ts, r, k1, k2, k3, k4⟩ := Seq.have h M q (by omega); refine ⟨t :: ts, r, by simp [k1], fun x hx => ?_, by rw [Nat.add_mul]; omega, .cons h3 k4⟩
  rcases List.mem_cons.1 hx with rfl | hx
  · exact h1
  · exact k2 x hx
theorem netsWt_le {W : Nat} : ∀ {l : List Net}, (∀ t ∈ l, t.wt ≤ W) → netsWt l ≤ l.length * W
 | [], h => by simp [netsWt]
 | a :: r, h => by
  have h1 := h a (List.mem_cons_self ..); have h2 := netsWt_le fun t ht => h t (List.mem_cons_of_mem _ ht)
  simp only [netsWt, List.length_cons, Nat.add_mul]; omega
def NetR (b : List Int) (n : Nat) (d : Int) (p : Nat) (t : Net) (q : Nat) : Prop := ∀ s, go n 115 [pV, iV d] [rB b p] s = some ⟨netX t, [rB b q], []⟩
theorem loop115 {b : List Int} {n : Nat} (d k0 : Int) (ts : List Net) (r : Nat) (h3 : ts.length ≤ 3) (hn : 4 ≤ n) (st : St) (p : Nat) (hS : Seq (NetR b n (IntKind.wrap .i64 (d - 1))) p ts r)
 (h0 : st.τ 0 = pV) (h1 : st.τ 1 = iV d) (h4 : st.τ 4 = .w (.ptr 1 0)) (h6 : st.τ 6 = .w (.ptr 1025 0)) (h7 : st.τ 7 = iV ts.length) (h8 : st.τ 8 = iV 0) (hA : st.H 0 = rB b p) (hC : st.H 1 = .cells [iW 0, iW 0, .nil, .nil]) (hB : st.H 1025 = .cells [iW k0, iW 0, .nil, .nil]) (hg : 1025 < st.g) :
 ∃ e st', execC (go n) mode GT false 53 n F115_L0 st = some (e, st') ∧ e ≠ .normal ∧ (e = .exit 0 ∧ st'.τ 4 = .w (.ptr 1 0) ∧ st'.τ 6 = .w (.ptr 1025 0) ∧ st'.H 0 = rB b r ∧ st'.H 1 = .cells [iW 0, iW 0, .nil, .nil] ∧ ∃ cw, st'.H 1025 = .cells [iW k0, iW 0, .nil, cw] ∧
  ((ts = [] ∧ cw = .nil) ∨ ∃ bx, 1025 < bx ∧ bx < st'.g ∧ cw = .own bx 0 ts.length none ∧ st'.H bx = .row none 4 (netRows ts) 0)) := by
 rw [F115_L0, execC_loop]; refine iter_rule (fun k st => ∃ ks rest q cw, ts = ks ++ rest ∧ rest.length = k ∧ Seq (NetR b n (IntKind.wrap .i64 (d - 1))) q rest r ∧ st.τ 0 = pV ∧ st.τ 1 = iV d ∧ st.τ 4 = .w (.ptr 1 0) ∧ st.τ 6 = .w (.ptr 1025 0) ∧ st.τ 7 = iV ts.length ∧ st.τ 8 = iV ks.length ∧ st.H 0 = rB b q ∧
  st.H 1 = .cells [iW 0, iW 0, .nil, .nil] ∧ st.H 1025 = .cells [iW k0, iW 0, .nil, cw] ∧ 1025 < st.g ∧ ((ks = [] ∧ cw = .nil) ∨ ∃ bx, 1025 < bx ∧ bx < st.g ∧ cw = .own bx 0 ks.length none ∧ st.H bx = .row none 4 (netRows ks) 0)) ?_ n ts.length st (by omega)
  ⟨[], ts, p, .nil, rfl, rfl, hS, h0, h1, h4, h6, h7, by simpa using h8, hA, hC, hB, hg, .inl ⟨rfl, rfl⟩⟩
 clear h0 h1 h4 h6 h7 h8 hA hC hB hg hS; rintro k ⟨τ, H, g, s⟩ ⟨ks, rest, q, cw, hts, hr, hS, h0, h1, h4, h6, h7, h8, hA, hC, hB, hg, hcw⟩; simp only at h0 h1 h4 h6 h7 h8 hA hC hB hg hcw; cases hS with
 | nil =>
  rw [List.append_nil] at hts; subst hts; refine ⟨.exit 0, ⟨upd (upd (upd τ 38 (iV ts.length)) 39 (iV ts.length)) 40 (.w (.d (.s (.bool false)))), H, g + 192, restS s⟩, ?_, by simp, fun _ => ⟨rfl, by simpa using h4, by simpa using h6, hA, hC, cw, hB, ?_⟩⟩
  · simp [F115_B0, h0, h1, h4, h6, h7, h8]
  · rcases hcw with hcw | ⟨bx, hb1, hb2, hb3, hb4⟩
    · exact .inl hcw
    · exact .inr ⟨bx, hb1, by simp only; omega, hb3, hb4⟩
 | @cons _ q2 _ t rest2 w hS2 =>
  have w : ∀ s, _ := w; have hlen : ts.length = ks.length + (rest2.length + 1) := by rw [hts]; simp
  have hlt : ((ks.length : Int) < (ts.length : Int)) = True := eq_true (by omega); have hltn : (ks.length < ts.length) = True := eq_true (by omega); have hwr := wrap_succ (i := ks.length) (by omega); obtain ⟨tk, to, ta, tks⟩ := t; have fgX := far hg; have feX := far (show 1 < g by omega); have fzX := far (show 0 < g by omega); have rm : room (ks.length + 1) 64 = true := room_of (by omega) (by omega); have rm1 : room 1 64 = true := by decide
  have hk : rest2.length < k := by simp at hr; omega
  refine ⟨.normal, ?_⟩
  rcases hcw with ⟨rfl, rfl⟩ | ⟨bx, hb1, hb2, rfl, hBX⟩
  · simp only [List.length_nil] at h8 hlt hltn hwr hlen
    simp [-getElem?_pos, F115_B0, h0, h1, h4, h6, h7, h8, hA, hC, hB, hlt, hltn, w, hwr, rm1, fgX, feX, fzX]; refine ⟨rest2.length, hk, [.mk tk to ta tks], rest2, by rw [hts]; simp, rfl, q2, hS2, by show IntKind.wrap .i64 1 = 1; decide, rfl, by omega, _, ?_, ?_, ⟨rfl, rfl⟩, ?_⟩
    · omega
    · omega
    · rw [if_neg (by omega), if_pos rfl]; simp [netRows, Net.row]
  · have fbX := far hb2
    have b1 : (1025 = bx) = False := eq_false (by omega); have b2 : (1 = bx) = False := eq_false (by omega); have b3 : (0 = bx) = False := eq_false (by omega); have b4 : (bx = 1025) = False := eq_false (by omega); have b5 : (bx = 0) = False := eq_false (by omega); have b6 : (bx = 1) = False := eq_false (by omega); simp [-getElem?_pos, F115_B0, h0, h1, h4, h6, h7, h8, hA, hC, hB, hBX, hlt, hltn, w, hwr, rm, b1, b2, b3, b4, b5, b6, fgX, feX, fzX, fbX]; refine ⟨rest2.length, hk, ks ++ [.mk tk to ta tks], rest2, by rw [hts]; simp, rfl, q2, hS2, by simp, rfl, by omega, _, ?_, ?_, ⟨rfl, by simp⟩, ?_⟩
    · omega
    · omega
    · rw [if_neg (by omega), if_pos rfl]; simp [netRows_append, netRows, Net.row]
def ContR (b : List Int) (n : Nat) (p : Nat) (e : El) (q : Nat) : Prop := ∀ s, go n 134 [pV] [rB b p] s = some ⟨elX e, [rB b q], []⟩
def StairAt (H : Nat → Box) (g : Nat) : Net → Prop
 | .mk ok oo oa oks => (H 257 = .cells [iW ok, iW oo, asW oa, .nil] ∧ oks = []) ∨ ∃ bx, 257 < bx ∧ bx < g ∧ H 257 = .cells [iW ok, iW oo, .nil, .own bx 0 2 (some 2)] ∧ oa = [] ∧ oks.length = 2 ∧ H bx = .row none 4 (netRows oks) 0
theorem StairAt.mono {H : Nat → Box} {g g' : Nat} (h : g ≤ g') : ∀ {o : Net}, StairAt H g o → StairAt H g' o
 | .mk _ _ _ _, .inl x => .inl x
 | .mk _ _ _ _, .inr ⟨bx, h1, h2, h3⟩ => .inr ⟨bx, h1, by omega, h3⟩
theorem draw_open {b : List Int} (hl : b.length < 2 ^ 40) (hb : ∀ x ∈ b, 0 ≤ x ∧ x < 256) (n : Nat) (hn : 1 ≤ n) : ∃ b2, RD b2 ∧ ∀ s, go n 65 [.w (bW 0 b)] [] s = some ⟨.w (.ptr 0 0), [], [rB b2 0]⟩ := by
 obtain ⟨n, rfl⟩ : ∃ k, n = k + 1 := ⟨n - 1, by omega⟩
 by_cases h : 2000 < b.length
 · have hi : ((2000 : Int) < (b.length : Int)) = True := eq_true (by omega)
   refine ⟨b.take 2000, ⟨fun x hx => hb x (List.mem_of_mem_take hx), by simp; omega⟩, fun s => ?_⟩
   have e : List.take 2000 (byt b) = byt (b.take 2000) := by simp [byt]
   have h2 : 2000 ≤ b.length := by omega
   have h2i : ((2000 : Int) ≤ (b.length : Int)) = True := eq_true (by omega); have al := eq_true (show ∀ x ∈ byt b, x.length = 1 from fun x hx => by simp only [byt, List.mem_map] at hx; obtain ⟨a, _, rfl⟩ := hx; rfl); simp [go_of FT_65 rfl, F65, h, hi, h2, h2i, e, al]
 · have hi : ((2000 : Int) < (b.length : Int)) = False := eq_false (by omega)
   refine ⟨b, ⟨hb, by omega⟩, fun s => ?_⟩
   simp [go_of FT_65 rfl, F65, h, hi]
inductive FillR (b : List Int) (n : Nat) : Nat → Nat → Nat → Nat → Prop
 | stop {len p q : Nat} {v : Int} (w : ∀ s, go n 67 [pV, iV 2] [rB b p] s = some ⟨iV v, [rB b q], []⟩) (h : ¬ (len : Int) < 40 + v) (hv : 0 ≤ v ∧ v < 2) : FillR b n len p 0 q
 | more {len p j q r : Nat} {v : Int} (w : ∀ s, go n 67 [pV, iV 2] [rB b p] s = some ⟨iV v, [rB b q], []⟩) (h : (len : Int) < 40 + v) (hv : 0 ≤ v ∧ v < 2) (k : FillR b n (len + 1) q j r) : FillR b n len p (j + 1) r
theorem FillR.have {b : List Int} (hb : RD b) {n : Nat} (hn : 2 ≤ n) : ∀ (fuel len p : Nat), 42 ≤ len + fuel → p + fuel < 2 ^ 38 → ∃ j q, FillR b n len p j q ∧ j ≤ fuel ∧ q ≤ p + fuel + 1
 | 0, len, p, h, hp => by
  obtain ⟨v, q, h1, h2, h3, w⟩ := draw_pick hb 2 p (by omega) n (by omega); have h2 := h2 (by omega); exact ⟨0, q, .stop w (by omega) ⟨h1, h2⟩, by omega, by omega⟩
 | fuel + 1, len, p, h, hp => by
  obtain ⟨v, q, h1, h2, h3, w⟩ := draw_pick hb 2 p (by omega) n (by omega); have h2 := h2 (by omega)
  by_cases c : (len : Int) < 40 + v
  · obtain ⟨j, r, k1, k2, k3⟩ := FillR.have hb hn fuel (len + 1) q (by omega) (by omega)
    exact ⟨j + 1, r, .more w c ⟨h1, h2⟩ k1, by omega, by omega⟩
  · exact ⟨0, q, .stop w c ⟨h1, h2⟩, by omega, by omega⟩
def Coils (H : Nat → Box) (g ba : Nat) (v : V) (cs : List El) : Prop := ∃ bx, bx ≠ 0 ∧ bx ≠ ba ∧ bx ≠ 193 ∧ bx < g ∧ v = .w (.own bx 0 cs.length none) ∧ H bx = .row none 2 (elRows cs) 0
structure FK where
 e1 : El
 e2 : El
 e3 : Option El
def FK.net (x : FK) : Net := match x.e3 with | some e => .mk 1 e.op e.as [] | none => .mk 0 0 [] []
def FK.step (o : Arm) (x : FK) : Arm := .mk x.net [] [o, .mk (.mk 1 x.e1.op x.e1.as []) [x.e2] []]
def FK.wt (x : FK) : Nat := x.e1.as.length + x.e2.as.length + (match x.e3 with | some e => e.as.length | none => 0)
theorem FK.step_wt (o : Arm) (x : FK) : (x.step o).wt ≤ o.wt + 6 + x.wt := by
 obtain ⟨⟨o1, a1⟩, ⟨o2, a2⟩, e3⟩ := x; cases e3 <;> simp [FK.step, FK.net, FK.wt, Arm.wt, armsWt, Net.wt, netsWt, elsWt, El.wt] <;> omega
def ForkAt (H : Nat → Box) (g : Nat) : Arm → Prop
 | .mk (.mk ok oo oa oks) cs ks => oks = [] ∧ ∃ bx aw, bx ≠ 513 ∧ bx ≠ 0 ∧ bx ≠ 1 ∧ bx < g ∧ (aw = asW oa ∨ (aw = .nil ∧ oa = [])) ∧
  ((H 513 = .cells [iW ok, iW oo, aw, .nil, .own bx 0 1 (some 1), .nil] ∧ cs.length = 1 ∧ ks = [] ∧ H bx = .row none 2 (elRows cs) 0) ∨
   (H 513 = .cells [iW ok, iW oo, aw, .nil, .nil, .own bx 0 2 (some 2)] ∧ cs = [] ∧ ks.length = 2 ∧ H bx = .row none 6 (armRows ks) 0))
theorem ForkAt.mono {H : Nat → Box} {g g' : Nat} (h : g ≤ g') : ∀ {o : Arm}, ForkAt H g o → ForkAt H g' o
 | .mk (.mk _ _ _ _) _ _, ⟨x, bx, aw, h1, h2, h3, h4, h5⟩ => ⟨x, bx, aw, h1, h2, h3, by omega, h5⟩
theorem ForkAt.kids {H : Nat → Box} {g : Nat} {ok oo : Int} {oa : List Arg} {x y : Arm} (aw : W) (bx : Nat) (h1 : bx ≠ 513) (h2 : bx ≠ 0) (h3 : bx ≠ 1) (h4 : bx < g) (haw : aw = asW oa ∨ (aw = .nil ∧ oa = []))
 (hB : H 513 = .cells [iW ok, iW oo, aw, .nil, .nil, .own bx 0 2 (some 2)]) (hX : H bx = .row none 6 (armRows [x, y]) 0) : ForkAt H g (.mk (.mk ok oo oa []) [] [x, y]) :=
 ⟨rfl, bx, aw, h1, h2, h3, h4, haw, .inr ⟨hB, rfl, rfl, hX⟩⟩
end Go.VM
