/- The normal form of an arm, reckoned. Conditions: none. -/
import Derived.Test.YtcjdokngpmnkjaaGreatDoorVQ10

namespace Go.VM
set_option linter.unusedSimpArgs false
set_option linter.unusedVariables false
set_option maxHeartbeats 16000000
theorem kE6 {a b : Net} (ha : NetFine a) (hb : NetFine b) : NetFine (a.join b) ∧ (a.join b).wt ≤ a.wt + b.wt + 1 := by
 unfold Net.join
 by_cases h1 : a.none = true
 · rw [if_pos h1]; exact ⟨hb, by omega⟩
 · rw [if_neg h1]
   by_cases h2 : b.none = true
   · rw [if_pos h2]; exact ⟨ha, by omega⟩
   · rw [if_neg h2]
     have ra : a.wrong = 0 := by rcases ha with h | h; exact absurd h h1; exact h
     have rb : b.wrong = 0 := by rcases hb with h | h; exact absurd h h2; exact h
     have hr : Net.wrong (.mk 2 0 [] [a, b]) = 0 := kl6 (.inl rfl) (by simp) (fun e => by omega) (by simp [ra, rb]); obtain ⟨k1, _, _, k4⟩ := ko1 _ hr; simp only [Net.wt, netsWt, List.length_nil] at k4; exact ⟨.inr k1, by omega⟩
theorem kh8 {n : Net} (h : NetFine n) (hn : n.none = false) : n.wrong = 0 := by
 rcases h with h | h
 · rw [hn] at h; cases h
 · exact h
theorem kA3 (l : List El) : ∀ x ∈ elRows l, x.length = 2 := fun x hx => by
 simp only [elRows, List.mem_map] at hx; obtain ⟨a, _, rfl⟩ := hx
 rfl
def NetAt (ca ck : W) (nk nop : Int) (nas : List Arg) (nks : List Net) : Prop := (ca = asW nas ∧ ck = nsW nks) ∨ (ca = .nil ∧ ck = .nil ∧ nk = 0 ∧ nop = 0 ∧ nas = [] ∧ nks = [])
@[simp] theorem k67 : elRows [] = [] := rfl
def SqInv (R : Arm) (B : Nat) (st : St) (nk nop : Int) (nas : List Arg) (nks : List Net) (C : List El) (K : List Arm) (kw : W) (bc : Nat) (cap : Option Nat) : Prop :=
 squeeze (.mk nk nop nas nks) C K = R ∧ NetFine (.mk nk nop nas nks) ∧ (∀ a ∈ K, a.wrong false = 0) ∧ Net.wt (.mk nk nop nas nks) + elsWt C + armsWt K ≤ B ∧ st.τ 2 = .w (.ptr 64 0) ∧ st.H 64 = .cells [iW 0, iW 0, .nil, .nil, .nil, .nil] ∧ st.τ 3 = .w (.ptr 640 0) ∧
  (∃ ca ck, st.H 640 = .cells [iW nk, iW nop, ca, ck, .own bc 0 C.length cap, kw] ∧ NetAt ca ck nk nop nas nks) ∧ st.H bc = .row none 2 (elRows C) 0 ∧ (bc = 256 ∨ 640 < bc) ∧ bc < st.g ∧ 640 < st.g ∧ (kw = ksW K ∨ (kw = .own 512 0 K.length (some K.length) ∧ st.H 512 = .row none 6 (armRows K) 0))
def SqEx (R : Arm) (B k : Nat) (st : St) : Prop := ∃ nk nop nas nks C K kw bc cap, armsWt K ≤ k ∧ SqInv R B st nk nop nas nks C K kw bc cap
def SqFin (R : Arm) (B : Nat) (st : St) : Prop := ∃ nk nop nas nks C K kw bc cap, SqInv R B st nk nop nas nks C K kw bc cap ∧ R = .mk (.mk nk nop nas nks) C K
theorem loop146_1 {n : Nat} (R : Arm) (B : Nat) (hB30 : B < 2 ^ 28) (hn : B + 20 ≤ n) (st : St) (nk nop : Int) (nas : List Arg) (nks : List Net) (C : List El) (K : List Arm) (kw : W) (bc : Nat) (cap : Option Nat) (hI : SqInv R B st nk nop nas nks C K kw bc cap) :
 ∃ e st', execC (go n) mode GT false 91 n F146_L1 st = some (e, st') ∧ e ≠ .normal ∧ (e = .exit 2 ∧ SqFin R B st') := by
 rw [F146_L1, k00]; refine k03 (fun k st => SqEx R B k st) ?_ n (armsWt K) st (by have := hI.2.2.2.1; omega) ⟨nk, nop, nas, nks, C, K, kw, bc, cap, Nat.le_refl _, hI⟩
 clear hI; rintro k ⟨τ, H, g, s⟩ ⟨nk, nop, nas, nks, C, K, kw, bc, cap, hk, hsq, hfn, hKr, hwt, h2, hC, h3, ⟨ca, ck, hA, hnet⟩, hB, hbc, hbg, hgg, hkw⟩; simp only at h2 hC h3 hA hB hbg hgg hkw; have fgX := far hgg; have feX := far (show 512 < g by omega); have fbX := far hbg; have fzX := far (show 64 < g by omega); have fxX := far (show 256 < g by omega); have b1 : (640 = bc) = False := eq_false (by omega); have b2 : (64 = bc) = False := eq_false (by omega); have b3 : (bc = 640) = False := eq_false (by omega); have b4 : (bc = 64) = False := eq_false (by omega); have b5 : (512 = bc) = False := eq_false (by omega); have b6 : (bc = 512) = False := eq_false (by omega)
 have b7 : (256 < g) = True := eq_true (by omega); have b8 : (512 < g) = True := eq_true (by omega); have w := kd7 (n := n) (by omega) (.mk nk nop nas nks)
 by_cases hK1 : K.length = 1
 · obtain ⟨kid, rfl⟩ : ∃ x, K = [x] := by
    match K, hK1 with
    | [x], _ => exact ⟨x, rfl⟩
   obtain ⟨⟨kk, ko, ka, kn⟩, kc, ks⟩ := kid; have hkid := hKr _ (List.mem_singleton.2 rfl); obtain ⟨q1, q2, q3, q4, q5⟩ := k13 hkid; have q5' := (k20 _).1 q5; have wk := kd7 (n := n) (by omega) (.mk kk ko ka kn); have hcl := k37 C; have hkl := k37 kc; have hks := k19 ks; simp only [armsWt, Arm.wt] at hwt hk; have hjf := kE6 hfn q2; have hsq0 := hsq; rw [squeeze] at hsq
   by_cases hcond : C.length = 0 ∨ Net.none (.mk kk ko ka kn) = true
   · rw [if_pos hcond] at hsq
     have rm : room (C.length + kc.length) 32 = true := k08 (by omega) (by omega); have al := eq_true (kA3 kc); have wc := run_cloneE (n := n) (by omega) (C ++ kc) (by simp; omega); simp only [csW, k32, List.length_append] at wc; have tk : List.take (C.length + kc.length) (elRows C ++ elRows kc) = elRows C ++ elRows kc := by rw [List.take_of_length_le (by simp)]
     have hjn : Net.none (.mk nk nop nas nks) = false → Net.none (.mk kk ko ka kn) = false → ∀ s, go n 120 [.agg [iW 2, iW 0, .d (.l 0 []), .d (.l 0 [[iD nk, iD nop, .l 0 (argRows nas), .l 0 (netRows nks)], [iD kk, iD ko, .l 0 (argRows ka), .l 0 (netRows kn)]])]] [] s = some ⟨netX (Net.norm (.mk 2 0 [] [.mk nk nop nas nks, .mk kk ko ka kn])), [], []⟩ := fun e1 e2 s => by
      have r1 := kh8 hfn e1; have r2 := kh8 q2 e2; have := kj6 (B + 2) (.mk 2 0 [] [.mk nk nop nas nks, .mk kk ko ka kn]) (by simp only [Net.wt, netsWt, List.length_nil] at hwt ⊢; omega) (by omega) (kl6 (.inl rfl) (by simp) (fun e => by omega) (by simp [r1, r2])) n (by omega) s; have e : netX (.mk 2 0 [] [.mk nk nop nas nks, .mk kk ko ka kn]) = .agg [iW 2, iW 0, .d (.l 0 []), .d (.l 0 [[iD nk, iD nop, .l 0 (argRows nas), .l 0 (netRows nks)], [iD kk, iD ko, .l 0 (argRows ka), .l 0 (netRows kn)]])] := by simp only [netX, netRows, Net.row, argRows, List.map_nil]; rfl
      rw [e] at this; exact this
     have fin : ∀ (st' : St) (n2 : Net), n2 = (Net.mk nk nop nas nks).join (.mk kk ko ka kn) → ∀ bc', 640 < bc' → st'.τ 2 = .w (.ptr 64 0) → st'.H 64 = .cells [iW 0, iW 0, .nil, .nil, .nil, .nil] → st'.τ 3 = .w (.ptr 640 0) →
      st'.H 640 = .cells [iW n2.kind, iW n2.op, asW n2.as, nsW n2.kids, .own bc' 0 (C.length + kc.length) (some (C.length + kc.length)), ksW ks] → st'.H bc' = .row none 2 (elRows C ++ elRows kc) 0 → bc' < st'.g → 640 < st'.g →
      ∃ k', k' < k ∧ SqEx R B k' st' := by
      intro st' n2 hn2 bc' hb' e1 e2 e3 e4 e5 e6 e7; obtain ⟨nk2, nop2, nas2, nks2⟩ := n2; simp only [Net.kind, Net.op, Net.as, Net.kids] at e4; refine ⟨armsWt ks, by omega, nk2, nop2, nas2, nks2, C ++ kc, ks, ksW ks, bc', some (C.length + kc.length), Nat.le_refl _, ?_, ?_, q5', ?_, e1, e2, e3, ?_, ?_, .inr hb', e6, e7, .inl rfl⟩
      · rw [hn2]; exact hsq
      · rw [hn2]; exact hjf.1
      · rw [hn2, k56]
        have := hjf.2; omega
      · rw [List.length_append]; exact ⟨_, _, e4, .inl ⟨rfl, rfl⟩⟩
      · rw [k32]; exact e5
     refine ⟨.normal, ?_⟩
     have hjoin : (Net.mk nk nop nas nks).join (.mk kk ko ka kn) = if Net.none (.mk nk nop nas nks) then .mk kk ko ka kn else if Net.none (.mk kk ko ka kn) then .mk nk nop nas nks else Net.norm (.mk 2 0 [] [.mk nk nop nas nks, .mk kk ko ka kn]) := rfl
     generalize hn1 : Net.none (.mk nk nop nas nks) = z1 at w hjoin hjn; generalize hn2 : Net.none (.mk kk ko ka kn) = z2 at wk hjoin hjn hcond; generalize hNN : Net.norm (.mk 2 0 [] [.mk nk nop nas nks, .mk kk ko ka kn]) = NN at hjoin hjn; obtain ⟨Nk, No, Na, Nn⟩ := NN; rcases hnet with ⟨rfl, rfl⟩ | ⟨rfl, rfl, rfl, rfl, rfl, rfl⟩
     · rcases hkw with rfl | ⟨rfl, hKB⟩
       · by_cases hC0 : C.length = 0
         · have hC0e : C = [] := List.eq_nil_of_length_eq_zero hC0
           subst hC0e; have rm0 : room kc.length 32 = true := by simpa using rm
           have wc0 := wc; simp only [List.length_nil, Nat.zero_add, k67, List.nil_append] at wc0; have tk0 := tk; simp only [List.length_nil, Nat.zero_add, k67, List.nil_append] at tk0; cases z1
           · cases z2
             · simp [-getElem?_pos, F146_B1, h2, hC, h3, hA, hB, b1, b2, b3, b4, b5, b6, b7, b8, w, wk, fgX, feX, fbX, fzX, fxX, rm, al, wc, tk, armRows, Arm.row, hjn, rm0, wc0, tk0]
               exact fin _ (.mk Nk No Na Nn) (by rw [hjoin]; rfl) (g + 1152 + 384 + 256 + 320 + 576 + 320) (by omega) (by simp [h2]) (by simp [hC, b2, b4, fgX, feX, fbX, fzX, fxX]) (by simp [h3]) (by simp [Net.kind, Net.op, Net.as, Net.kids, fgX, feX, fbX, fzX, fxX]) (by simp [fgX, feX, fbX, fzX, fxX]) (by simp only; omega) (by simp only; omega)
             · simp [-getElem?_pos, F146_B1, h2, hC, h3, hA, hB, b1, b2, b3, b4, b5, b6, b7, b8, w, wk, fgX, feX, fbX, fzX, fxX, rm, al, wc, tk, armRows, Arm.row, hjn, rm0, wc0, tk0]
               exact fin _ (.mk nk nop nas nks) (by rw [hjoin]; rfl) (g + 1152 + 384 + 256 + 320 + 320) (by omega) (by simp [h2]) (by simp [hC, b2, b4, fgX, feX, fbX, fzX, fxX]) (by simp [h3]) (by simp [Net.kind, Net.op, Net.as, Net.kids, fgX, feX, fbX, fzX, fxX]) (by simp [fgX, feX, fbX, fzX, fxX]) (by simp only; omega) (by simp only; omega)
           · simp [-getElem?_pos, F146_B1, h2, hC, h3, hA, hB, b1, b2, b3, b4, b5, b6, b7, b8, w, wk, fgX, feX, fbX, fzX, fxX, rm, al, wc, tk, armRows, Arm.row, hjn, rm0, wc0, tk0]
             exact fin _ (.mk kk ko ka kn) (by rw [hjoin]; rfl) (g + 1152 + 384 + 256 + 256 + 320) (by omega) (by simp [h2]) (by simp [hC, b2, b4, fgX, feX, fbX, fzX, fxX]) (by simp [h3]) (by simp [Net.kind, Net.op, Net.as, Net.kids, fgX, feX, fbX, fzX, fxX]) (by simp [fgX, feX, fbX, fzX, fxX]) (by simp only; omega) (by simp only; omega)
         · have hz2 : z2 = true := by rcases hcond with h | h; exact absurd h hC0; exact h
           subst hz2; have hCi : ((C.length : Int) = 0) = False := eq_false (by omega); have hCe : C ≠ [] := fun e => hC0 (by rw [e]; rfl)
           cases z1
           · simp [-getElem?_pos, F146_B1, h2, hC, h3, hA, hB, b1, b2, b3, b4, b5, b6, b7, b8, w, wk, fgX, feX, fbX, fzX, fxX, rm, al, wc, tk, armRows, Arm.row, hC0, hCi, hCe]
             exact fin _ (.mk nk nop nas nks) (by rw [hjoin]; rfl) (g + 1152 + 384 + 256 + 320 + 320) (by omega) (by simp [h2]) (by simp [hC, b2, b4, fgX, feX, fbX, fzX, fxX]) (by simp [h3]) (by simp [Net.kind, Net.op, Net.as, Net.kids, fgX, feX, fbX, fzX, fxX]) (by simp [fgX, feX, fbX, fzX, fxX]) (by simp only; omega) (by simp only; omega)
           · simp [-getElem?_pos, F146_B1, h2, hC, h3, hA, hB, b1, b2, b3, b4, b5, b6, b7, b8, w, wk, fgX, feX, fbX, fzX, fxX, rm, al, wc, tk, armRows, Arm.row, hC0, hCi, hCe]
             exact fin _ (.mk kk ko ka kn) (by rw [hjoin]; rfl) (g + 1152 + 384 + 256 + 256 + 320) (by omega) (by simp [h2]) (by simp [hC, b2, b4, fgX, feX, fbX, fzX, fxX]) (by simp [h3]) (by simp [Net.kind, Net.op, Net.as, Net.kids, fgX, feX, fbX, fzX, fxX]) (by simp [fgX, feX, fbX, fzX, fxX]) (by simp only; omega) (by simp only; omega)
       · by_cases hC0 : C.length = 0
         · have hC0e : C = [] := List.eq_nil_of_length_eq_zero hC0
           subst hC0e; have rm0 : room kc.length 32 = true := by simpa using rm
           have wc0 := wc; simp only [List.length_nil, Nat.zero_add, k67, List.nil_append] at wc0; have tk0 := tk; simp only [List.length_nil, Nat.zero_add, k67, List.nil_append] at tk0; cases z1
           · cases z2
             · simp [-getElem?_pos, F146_B1, h2, hC, h3, hA, hB, b1, b2, b3, b4, b5, b6, b7, b8, w, wk, fgX, feX, fbX, fzX, fxX, rm, al, wc, tk, armRows, Arm.row, hKB, hjn, rm0, wc0, tk0]
               exact fin _ (.mk Nk No Na Nn) (by rw [hjoin]; rfl) (g + 1152 + 384 + 256 + 320 + 576 + 320) (by omega) (by simp [h2]) (by simp [hC, b2, b4, fgX, feX, fbX, fzX, fxX]) (by simp [h3]) (by simp [Net.kind, Net.op, Net.as, Net.kids, fgX, feX, fbX, fzX, fxX]) (by simp [fgX, feX, fbX, fzX, fxX]) (by simp only; omega) (by simp only; omega)
             · simp [-getElem?_pos, F146_B1, h2, hC, h3, hA, hB, b1, b2, b3, b4, b5, b6, b7, b8, w, wk, fgX, feX, fbX, fzX, fxX, rm, al, wc, tk, armRows, Arm.row, hKB, hjn, rm0, wc0, tk0]
               exact fin _ (.mk nk nop nas nks) (by rw [hjoin]; rfl) (g + 1152 + 384 + 256 + 320 + 320) (by omega) (by simp [h2]) (by simp [hC, b2, b4, fgX, feX, fbX, fzX, fxX]) (by simp [h3]) (by simp [Net.kind, Net.op, Net.as, Net.kids, fgX, feX, fbX, fzX, fxX]) (by simp [fgX, feX, fbX, fzX, fxX]) (by simp only; omega) (by simp only; omega)
           · simp [-getElem?_pos, F146_B1, h2, hC, h3, hA, hB, b1, b2, b3, b4, b5, b6, b7, b8, w, wk, fgX, feX, fbX, fzX, fxX, rm, al, wc, tk, armRows, Arm.row, hKB, hjn, rm0, wc0, tk0]
             exact fin _ (.mk kk ko ka kn) (by rw [hjoin]; rfl) (g + 1152 + 384 + 256 + 256 + 320) (by omega) (by simp [h2]) (by simp [hC, b2, b4, fgX, feX, fbX, fzX, fxX]) (by simp [h3]) (by simp [Net.kind, Net.op, Net.as, Net.kids, fgX, feX, fbX, fzX, fxX]) (by simp [fgX, feX, fbX, fzX, fxX]) (by simp only; omega) (by simp only; omega)
         · have hz2 : z2 = true := by rcases hcond with h | h; exact absurd h hC0; exact h
           subst hz2; have hCi : ((C.length : Int) = 0) = False := eq_false (by omega); have hCe : C ≠ [] := fun e => hC0 (by rw [e]; rfl)
           cases z1
           · simp [-getElem?_pos, F146_B1, h2, hC, h3, hA, hB, b1, b2, b3, b4, b5, b6, b7, b8, w, wk, fgX, feX, fbX, fzX, fxX, rm, al, wc, tk, armRows, Arm.row, hKB, hC0, hCi, hCe]
             exact fin _ (.mk nk nop nas nks) (by rw [hjoin]; rfl) (g + 1152 + 384 + 256 + 320 + 320) (by omega) (by simp [h2]) (by simp [hC, b2, b4, fgX, feX, fbX, fzX, fxX]) (by simp [h3]) (by simp [Net.kind, Net.op, Net.as, Net.kids, fgX, feX, fbX, fzX, fxX]) (by simp [fgX, feX, fbX, fzX, fxX]) (by simp only; omega) (by simp only; omega)
           · simp [-getElem?_pos, F146_B1, h2, hC, h3, hA, hB, b1, b2, b3, b4, b5, b6, b7, b8, w, wk, fgX, feX, fbX, fzX, fxX, rm, al, wc, tk, armRows, Arm.row, hKB, hC0, hCi, hCe]
             exact fin _ (.mk kk ko ka kn) (by rw [hjoin]; rfl) (g + 1152 + 384 + 256 + 256 + 320) (by omega) (by simp [h2]) (by simp [hC, b2, b4, fgX, feX, fbX, fzX, fxX]) (by simp [h3]) (by simp [Net.kind, Net.op, Net.as, Net.kids, fgX, feX, fbX, fzX, fxX]) (by simp [fgX, feX, fbX, fzX, fxX]) (by simp only; omega) (by simp only; omega)
     · obtain rfl : z1 = true := by rw [← hn1]; exact ku0
       simp only [netX, asW, nsW, netRows, argRows, List.map_nil] at w; rcases hkw with rfl | ⟨rfl, hKB⟩
       · by_cases hC0 : C.length = 0
         · have hC0e : C = [] := List.eq_nil_of_length_eq_zero hC0
           subst hC0e; have rm0 : room kc.length 32 = true := by simpa using rm
           have wc0 := wc; simp only [List.length_nil, Nat.zero_add, k67, List.nil_append] at wc0; have tk0 := tk; simp only [List.length_nil, Nat.zero_add, k67, List.nil_append] at tk0; simp [-getElem?_pos, F146_B1, h2, hC, h3, hA, hB, b1, b2, b3, b4, b5, b6, b7, b8, w, wk, fgX, feX, fbX, fzX, fxX, rm, al, wc, tk, armRows, Arm.row, rm0, wc0, tk0]; exact fin _ (.mk kk ko ka kn) (by rw [hjoin]; rfl) (g + 1152 + 384 + 256 + 256 + 320) (by omega) (by simp [h2]) (by simp [hC, b2, b4, fgX, feX, fbX, fzX, fxX]) (by simp [h3]) (by simp [Net.kind, Net.op, Net.as, Net.kids, fgX, feX, fbX, fzX, fxX]) (by simp [fgX, feX, fbX, fzX, fxX]) (by simp only; omega) (by simp only; omega)
         · have hz2 : z2 = true := by rcases hcond with h | h; exact absurd h hC0; exact h
           subst hz2; have hCi : ((C.length : Int) = 0) = False := eq_false (by omega); have hCe : C ≠ [] := fun e => hC0 (by rw [e]; rfl)
           simp [-getElem?_pos, F146_B1, h2, hC, h3, hA, hB, b1, b2, b3, b4, b5, b6, b7, b8, w, wk, fgX, feX, fbX, fzX, fxX, rm, al, wc, tk, armRows, Arm.row, hC0, hCi, hCe]; exact fin _ (.mk kk ko ka kn) (by rw [hjoin]; rfl) (g + 1152 + 384 + 256 + 256 + 320) (by omega) (by simp [h2]) (by simp [hC, b2, b4, fgX, feX, fbX, fzX, fxX]) (by simp [h3]) (by simp [Net.kind, Net.op, Net.as, Net.kids, fgX, feX, fbX, fzX, fxX]) (by simp [fgX, feX, fbX, fzX, fxX]) (by simp only; omega) (by simp only; omega)
       · by_cases hC0 : C.length = 0
         · have hC0e : C = [] := List.eq_nil_of_length_eq_zero hC0
           subst hC0e; have rm0 : room kc.length 32 = true := by simpa using rm
           have wc0 := wc; simp only [List.length_nil, Nat.zero_add, k67, List.nil_append] at wc0; have tk0 := tk; simp only [List.length_nil, Nat.zero_add, k67, List.nil_append] at tk0; simp [-getElem?_pos, F146_B1, h2, hC, h3, hA, hB, b1, b2, b3, b4, b5, b6, b7, b8, w, wk, fgX, feX, fbX, fzX, fxX, rm, al, wc, tk, armRows, Arm.row, hKB, rm0, wc0, tk0]; exact fin _ (.mk kk ko ka kn) (by rw [hjoin]; rfl) (g + 1152 + 384 + 256 + 256 + 320) (by omega) (by simp [h2]) (by simp [hC, b2, b4, fgX, feX, fbX, fzX, fxX]) (by simp [h3]) (by simp [Net.kind, Net.op, Net.as, Net.kids, fgX, feX, fbX, fzX, fxX]) (by simp [fgX, feX, fbX, fzX, fxX]) (by simp only; omega) (by simp only; omega)
         · have hz2 : z2 = true := by rcases hcond with h | h; exact absurd h hC0; exact h
           subst hz2; have hCi : ((C.length : Int) = 0) = False := eq_false (by omega); have hCe : C ≠ [] := fun e => hC0 (by rw [e]; rfl)
           simp [-getElem?_pos, F146_B1, h2, hC, h3, hA, hB, b1, b2, b3, b4, b5, b6, b7, b8, w, wk, fgX, feX, fbX, fzX, fxX, rm, al, wc, tk, armRows, Arm.row, hKB, hC0, hCi, hCe]; exact fin _ (.mk kk ko ka kn) (by rw [hjoin]; rfl) (g + 1152 + 384 + 256 + 256 + 320) (by omega) (by simp [h2]) (by simp [hC, b2, b4, fgX, feX, fbX, fzX, fxX]) (by simp [h3]) (by simp [Net.kind, Net.op, Net.as, Net.kids, fgX, feX, fbX, fzX, fxX]) (by simp [fgX, feX, fbX, fzX, fxX]) (by simp only; omega) (by simp only; omega)
   · rw [if_neg hcond] at hsq
     simp only [not_or, Bool.not_eq_true] at hcond; obtain ⟨hC0, hz2⟩ := hcond; rw [hz2] at wk; have hCi : ((C.length : Int) = 0) = False := eq_false (by omega); have hCe : C ≠ [] := fun e => hC0 (by rw [e]; rfl)
     refine ⟨.exit 2, ?_⟩
     rcases hkw with rfl | ⟨rfl, hKB⟩
     · simp [-getElem?_pos, F146_B1, h2, hC, h3, hA, hB, b1, b2, b3, b4, b5, b6, b7, b8, w, wk, fgX, feX, fbX, fzX, fxX, armRows, Arm.row, hC0, hCi, hCe]
       exact ⟨nk, nop, nas, nks, C, _, _, bc, cap, ⟨hsq0, hfn, hKr, by simp only [armsWt, Arm.wt]; omega, by simp [h2], hC, by simp [h3], ⟨ca, ck, hA, hnet⟩, hB, hbc, by simp only; omega, by simp only; omega, .inl rfl⟩, hsq.symm⟩
     · simp [-getElem?_pos, F146_B1, h2, hC, h3, hA, hB, b1, b2, b3, b4, b5, b6, b7, b8, w, wk, fgX, feX, fbX, fzX, fxX, hKB, armRows, Arm.row, hC0, hCi, hCe]
       exact ⟨nk, nop, nas, nks, C, _, _, bc, cap, ⟨hsq0, hfn, hKr, by simp only [armsWt, Arm.wt]; omega, by simp [h2], hC, by simp [h3], ⟨ca, ck, hA, hnet⟩, hB, hbc, by simp only; omega, by simp only; omega, .inr ⟨rfl, hKB⟩⟩, hsq.symm⟩
 · have hKi : ((K.length : Int) = 1) = False := eq_false (by omega)
   have hfix : squeeze (.mk nk nop nas nks) C K = .mk (.mk nk nop nas nks) C K := by
    match K, hK1 with
    | [], _ => rw [squeeze]; simp
    | a :: b :: r, _ => rw [squeeze]; simp
   refine ⟨.exit 2, ?_⟩
   rcases hkw with rfl | ⟨rfl, hKB⟩
   · simp [-getElem?_pos, F146_B1, h2, hC, h3, hA, hB, hK1, hKi]
     exact ⟨nk, nop, nas, nks, C, K, _, bc, cap, ⟨hsq, hfn, hKr, hwt, by simp [h2], hC, by simp [h3], ⟨ca, ck, hA, hnet⟩, hB, hbc, by simp only; omega, by simp only; omega, .inl rfl⟩, by rw [← hsq, hfix]⟩
   · simp [-getElem?_pos, F146_B1, h2, hC, h3, hA, hB, hKB, hK1, hKi]
     exact ⟨nk, nop, nas, nks, C, K, _, bc, cap, ⟨hsq, hfn, hKr, hwt, by simp [h2], hC, by simp [h3], ⟨ca, ck, hA, hnet⟩, hB, hbc, by simp only; omega, by simp only; omega, .inr ⟨rfl, hKB⟩⟩, by rw [← hsq, hfix]⟩
theorem kt3 : ∀ (m : Nat) (a : Arm), a.wt ≤ m → m < 2 ^ 27 → ∀ b, a.wrong b = 0 → ∀ (n : Nat), 2 * m + 40 ≤ n → ∀ s, go n 146 [armX a] [] s = some ⟨armX a.norm, [], []⟩
 | 0, t, h, hm, b, hr, n, hn, s => by have := t.wt_pos; omega
 | m + 1, .mk (.mk k op as nks) cs ks, h, hm, b, hr, n, hn, s => by
  obtain ⟨n, rfl⟩ : ∃ k, n = k + 1 := ⟨n - 1, by omega⟩; obtain ⟨r1, r2, r3, r4, r5⟩ := k13 hr; have r5' := (k20 _).1 r5; have hlen := k19 ks; have hcl := k37 cs; have hwt := h; simp only [Arm.wt] at h; have hc : ∀ x ∈ ks, ∀ s, go n 146 [armX x] [] s = some ⟨armX x.norm, [], []⟩ := fun x hx s => kt3 m x (by have := k07 hx; omega) (by omega) false (r5' x hx) n (by omega) s
  have w1 := kd7 (n := n) (by omega) (.mk k op as nks); have w2 := kl2 (n := n) cs (by omega) (by omega); have hrm : room ks.length 112 = true := k08 (by omega) (by omega); have hkn := k86 ks r5'; have e0 : Arm.norm (.mk (.mk k op as nks) cs ks) = squeeze (if Net.none (.mk k op as nks) then .mk k op as nks else Net.norm (.mk k op as nks)) cs (armsNorm ks) := by simp [Arm.norm]
  rw [e0]; have key : ∀ (st2 : St) (nk nop : Int) (nas : List Arg) (nks2 : List Net) (ca ck : W), NetAt ca ck nk nop nas nks2 → NetFine (.mk nk nop nas nks2) → Net.wt (.mk nk nop nas nks2) ≤ Net.wt (.mk k op as nks) → st2.τ 2 = .w (.ptr 64 0) → st2.H 64 = .cells [iW 0, iW 0, .nil, .nil, .nil, .nil] → st2.τ 3 = .w (.ptr 640 0) →
   st2.H 640 = .cells [iW nk, iW nop, ca, ck, .own 256 0 cs.length (some cs.length), .own 512 0 ks.length (some ks.length)] → st2.H 256 = .row none 2 (elRows cs) 0 → st2.H 512 = .row none 6 (armRows (armsNorm ks)) 0 → 640 < st2.g →
   ∃ e st', execC (go n) mode GT false 91 n F146_L1 st2 = some (e, st') ∧ e ≠ .normal ∧ (e = .exit 2 ∧ SqFin (squeeze (.mk nk nop nas nks2) cs (armsNorm ks)) (m + 1) st') := by
   intro st2 nk nop nas nks2 ca ck hnet hf hw e1 e2 e3 e4 e5 e6 e7; have hl2 : (armsNorm ks).length = ks.length := by simp [k30]
   refine loop146_1 (squeeze (.mk nk nop nas nks2) cs (armsNorm ks)) (m + 1) (by omega) (by omega) st2 nk nop nas nks2 cs (armsNorm ks) (.own 512 0 ks.length (some ks.length)) 256 (some cs.length)
    ⟨rfl, hf, fun a ha => (hkn.1 a ha).1, by have := hkn.2.2; omega, e1, e2, e3, ⟨ca, ck, e4, hnet⟩, e5, .inl rfl, by omega, e7, .inr ⟨by rw [hl2], e6⟩⟩
  have close : ∀ (st' : St) (R : Arm), SqFin R (m + 1) st' → ∃ c0 c1 c2 c3 kw bc cap, st'.τ 2 = .w (.ptr 64 0) ∧ st'.H 64 = .cells [iW 0, iW 0, .nil, .nil, .nil, .nil] ∧ st'.τ 3 = .w (.ptr 640 0) ∧ ∃ C K, R = .mk (.mk c0 c1 c2 c3) C K ∧
   (∃ ca ck, st'.H 640 = .cells [iW c0, iW c1, ca, ck, .own bc 0 C.length cap, kw] ∧ NetAt ca ck c0 c1 c2 c3) ∧ st'.H bc = .row none 2 (elRows C) 0 ∧ (bc = 256 ∨ 640 < bc) ∧ (kw = ksW K ∨ (kw = .own 512 0 K.length (some K.length) ∧ st'.H 512 = .row none 6 (armRows K) 0)) := by
   rintro st' R ⟨nk, nop, nas, nks, C, K, kw, bc, cap, ⟨h1, h2, h3, h4, h5, h6, h7, h8, h9, h10, h11, h12, h13⟩, hR⟩; exact ⟨nk, nop, nas, nks, kw, bc, cap, h5, h6, h7, C, K, hR, h8, h9, h10, h13⟩
  cases hnn : Net.none (.mk k op as nks)
  · rw [hnn] at w1
    have hnr := kh8 r2 hnn; have w3 := kj6 (m + 1) (.mk k op as nks) (by omega) (by omega) hnr n (by omega); have hno := ko1 _ hnr; simp only [Bool.false_eq_true, if_false]; generalize Net.norm (.mk k op as nks) = N at w3 hno; obtain ⟨nk, nop, nas, nks2⟩ := N; have kf : NetFine (.mk nk nop nas nks2) := .inr hno.1; have kw := hno.2.2.2; simp [go_of FT_146 rfl, F146, w1, w2, w3, hrm]; generalize hst : St.mk _ _ _ _ = st
    obtain ⟨e, ⟨τ', H', g', s'⟩, hx, -, rfl, h2, hC, h3, hA, hD, hB, hgg⟩ := kE3 (n := n) ks hc (iW nk) (iW nop) (asW nas) (nsW nks2) cs (by omega) (by omega) st (by simp [← hst]) (by simp [← hst]) (by simp [← hst]) (by simp [← hst]) (by simp [← hst]) (by simp [← hst]) (by simp [← hst]) (by simp [← hst]) (by simp [← hst]) (by simp [← hst]); simp only at h2 hC h3 hA hD hB hgg; clear hst; simp [hx]; generalize hst2 : St.mk _ _ _ _ = st2
    obtain ⟨e, ⟨τ3, H3, g3, s3⟩, hx3, -, rfl, hf⟩ := key st2 nk nop nas nks2 (asW nas) (nsW nks2) (.inl ⟨rfl, rfl⟩) kf kw (by simp [← hst2, h2]) (by simp [← hst2, hC]) (by simp [← hst2, h3]) (by simp [← hst2, hA]) (by simp [← hst2, hD]) (by simp [← hst2, hB]) (by simp [← hst2]; try omega); obtain ⟨c0, c1, c2, c3, kw, bc, cap, k2, kC, k3, C, K, hR, ⟨ca, ck, kA, hnet⟩, kB, hbc, hkw⟩ := close _ _ hf; simp only at k2 kC k3 kA kB hkw; rw [hR]; have b1 : (640 = bc) = False := eq_false (by omega); have b2 : (64 = bc) = False := eq_false (by omega); have b3 : (bc = 640) = False := eq_false (by omega); have b4 : (bc = 64) = False := eq_false (by omega)
    have b5 : (512 = bc) = False := eq_false (by omega); have b6 : (bc = 512) = False := eq_false (by omega); rcases hnet with ⟨rfl, rfl⟩ | ⟨rfl, rfl, rfl, rfl, rfl, rfl⟩
    · rcases hkw with rfl | ⟨rfl, hKB⟩
      · simp [hx3, k2, kC, k3, kA, kB, b1, b2, b3, b4, b5, b6]
      · simp [hx3, k2, kC, k3, kA, kB, hKB, b1, b2, b3, b4, b5, b6]
    · rcases hkw with rfl | ⟨rfl, hKB⟩
      · simp [hx3, k2, kC, k3, kA, kB, b1, b2, b3, b4, b5, b6, argRows, netRows]
      · simp [hx3, k2, kC, k3, kA, kB, hKB, b1, b2, b3, b4, b5, b6, argRows, netRows]
  · rw [hnn] at w1
    have hno := Net.none_eq hnn; cases hno
    have kf : NetFine (.mk 0 0 [] []) := .inl hnn; simp only [if_true]; simp [go_of FT_146 rfl, F146, w1, w2, hrm]; generalize hst : St.mk _ _ _ _ = st; obtain ⟨e, ⟨τ', H', g', s'⟩, hx, -, rfl, h2, hC, h3, hA, hD, hB, hgg⟩ := kE3 (n := n) ks hc (iW 0) (iW 0) .nil .nil cs (by omega) (by omega) st (by simp [← hst]) (by simp [← hst]) (by simp [← hst]) (by simp [← hst]) (by simp [← hst]) (by simp [← hst]) (by simp [← hst]) (by simp [← hst]) (by simp [← hst]) (by simp [← hst]); simp only at h2 hC h3 hA hD hB hgg; clear hst; simp [hx]; generalize hst2 : St.mk _ _ _ _ = st2
    obtain ⟨e, ⟨τ3, H3, g3, s3⟩, hx3, -, rfl, hf⟩ := key st2 0 0 [] [] .nil .nil (.inr ⟨rfl, rfl, rfl, rfl, rfl, rfl⟩) kf (Nat.le_refl _) (by simp [← hst2, h2]) (by simp [← hst2, hC]) (by simp [← hst2, h3]) (by simp [← hst2, hA]) (by simp [← hst2, hD]) (by simp [← hst2, hB]) (by simp [← hst2]; try omega); obtain ⟨c0, c1, c2, c3, kw, bc, cap, k2, kC, k3, C, K, hR, ⟨ca, ck, kA, hnet⟩, kB, hbc, hkw⟩ := close _ _ hf; simp only at k2 kC k3 kA kB hkw; rw [hR]; have b1 : (640 = bc) = False := eq_false (by omega); have b2 : (64 = bc) = False := eq_false (by omega); have b3 : (bc = 640) = False := eq_false (by omega); have b4 : (bc = 64) = False := eq_false (by omega)
    have b5 : (512 = bc) = False := eq_false (by omega); have b6 : (bc = 512) = False := eq_false (by omega); rcases hnet with ⟨rfl, rfl⟩ | ⟨rfl, rfl, rfl, rfl, rfl, rfl⟩
    · rcases hkw with rfl | ⟨rfl, hKB⟩
      · simp [hx3, k2, kC, k3, kA, kB, b1, b2, b3, b4, b5, b6]
      · simp [hx3, k2, kC, k3, kA, kB, hKB, b1, b2, b3, b4, b5, b6]
    · rcases hkw with rfl | ⟨rfl, hKB⟩
      · simp [hx3, k2, kC, k3, kA, kB, b1, b2, b3, b4, b5, b6, argRows, netRows]
      · simp [hx3, k2, kC, k3, kA, kB, hKB, b1, b2, b3, b4, b5, b6, argRows, netRows]
@[simp] theorem argRows_nil : argRows [] = [] := rfl
@[simp] theorem netRows_nil : netRows [] = [] := by simp [netRows]
@[simp] theorem armRows_nil : armRows [] = [] := by simp [armRows]
theorem loop124_0 {n : Nat} (l : List Arm) (hc : ∀ x ∈ l, ∀ s, go n 146 [armX x] [] s = some ⟨armX x.norm, [], []⟩) (hn : l.length < n) (hl : l.length < 2 ^ 40) (st : St) (h3 : st.τ 3 = .w (.own 192 0 l.length (some l.length))) (hB : st.H 192 = .row none 6 (List.replicate l.length [iD 0, iD 0, .l 0 [], .l 0 [], .l 0 [], .l 0 []]) 0) (h9 : st.τ 9 = .w (ksW l)) (h10 : st.τ 10 = iV l.length) (h11 : st.τ 11 = iV 0) (hgg : 192 < st.g) :
 ∃ e st', execC (go n) mode GT false 23 n F124_L0 st = some (e, st') ∧ e ≠ .normal ∧ (e = .exit 0 ∧ st'.τ 3 = .w (.own 192 0 l.length (some l.length)) ∧ st'.H 192 = .row none 6 (armRows (armsNorm l)) 0) := by
 rw [F124_L0, k00]; refine k03 (fun k st => ∃ i, i + k = l.length ∧ st.τ 3 = .w (.own 192 0 l.length (some l.length)) ∧ st.H 192 = .row none 6 (armRows ((armsNorm l).take i) ++ List.replicate k [iD 0, iD 0, .l 0 [], .l 0 [], .l 0 [], .l 0 []]) 0 ∧ st.τ 9 = .w (ksW l) ∧ st.τ 10 = iV l.length ∧ st.τ 11 = iV i ∧ 192 < st.g) ?_ n l.length st hn ⟨0, by omega, h3, by simpa [armRows] using hB, h9, h10, by simpa using h11, hgg⟩
 rintro k ⟨τ, H, g, s⟩ ⟨i, hk, h3, hB, h9, h10, h11, hgg⟩; simp only at h3 hB h9 h10 h11 hgg; cases k with
 | zero =>
  have : i = l.length := by omega
  subst this; refine ⟨.exit 0, ?_⟩
  have hll : (armsNorm l).take l.length = armsNorm l := List.take_of_length_le (by simp [k30]); rw [hll] at hB; simp [F124_B0, h3, h9, h10, h11, hB]
 | succ k =>
  have hlt : i < l.length := by omega
  have hlt' := ltT hlt; have hg := List.getElem?_eq_getElem hlt; have hmem := List.getElem_mem hlt; have hw := k04 (i := i) (by omega); have hlT : (armRows ((armsNorm l).take i)).length = i := by simp [k30]; omega
  have hget := kb3 (k := k) hlT [iD 0, iD 0, .l 0 [], .l 0 [], .l 0 [], .l 0 []]; have hset := kb2 (k := k) hlT [iD 0, iD 0, .l 0 [], .l 0 [], .l 0 [], .l 0 []]; have w := hc _ hmem; have hgn : (armsNorm l)[i]? = some l[i].norm := by simp [k30, hlt]
  have hset := hset (Arm.row l[i].norm); rw [kg9 hgn] at hset; generalize l[i].norm = y at w hset; obtain ⟨k', op, as, nks, cs, ks, hx⟩ : ∃ k' op as nks cs ks, l[i] = .mk (.mk k' op as nks) cs ks := by
   cases hq : l[i] with | mk nn cs ks => cases nn; exact ⟨_, _, _, _, _, _, rfl⟩
  rw [hx] at hg w; have hb := k18 hg; obtain ⟨⟨yk, yo, ya, yn⟩, yc, ys⟩ := y; simp only [Arm.row] at hset; have fgX := far hgg; refine ⟨.normal, ?_⟩
  simp [-getElem?_pos, F124_B0, h3, h9, h10, h11, hB, hlt, hlt', hb, w, hw, hget, hset, fgX]; exact ⟨k, by omega, i + 1, by omega, by first | exact rfl | exact ⟨rfl, rfl⟩ | exact ⟨rfl, rfl, by omega⟩ | exact ⟨rfl, by omega⟩⟩
theorem kw3 (l : List Arm) (hm : armsWt l < 2 ^ 27) (hr : ∀ a ∈ l, a.wrong true = 0) (n : Nat) (hn : 2 * armsWt l + 41 ≤ n) (s : Sup) : go n 124 [.w (ksW l)] [] s = some ⟨.w (ksW (armsNorm l)), [], []⟩ := by
 obtain ⟨n, rfl⟩ : ∃ k, n = k + 1 := ⟨n - 1, by omega⟩; have hlen := k19 l; have hrm : room l.length 112 = true := k08 (by omega) (by omega); have hll : (armsNorm l).length = l.length := by simp [k30]
 have hc : ∀ x ∈ l, ∀ s, go n 146 [armX x] [] s = some ⟨armX x.norm, [], []⟩ := fun x hx s => kt3 (armsWt l) x (k07 hx) hm true (hr x hx) n (by omega) s
 simp [go_of FT_124 rfl, F124, hrm]; generalize hst : St.mk _ _ _ _ = st; obtain ⟨e, ⟨τ', H', g', s'⟩, hx, -, rfl, h3, hB⟩ := loop124_0 (n := n) l hc (by omega) (by omega) st (by simp [← hst]) (by simp [← hst]) (by simp [← hst]) (by simp [← hst]) (by simp [← hst]) (by simp [← hst]); simp only at h3 hB; have htk : List.take l.length (armRows (armsNorm l)) = armRows (armsNorm l) := by rw [← hll, kb0]
 simp [hx, h3, hB, hll, htk]
theorem run_NormMake (l : List Arm) (hm : armsWt l < 2 ^ 27) (n : Nat) (hn : 2 * armsWt l + 100 ≤ n) (s : Sup) : go n 108 [.w (ksW l)] [] s = some ⟨.w (ksW (if treeCode l = 0 then armsNorm l else [])), [], []⟩ := by
 obtain ⟨n, rfl⟩ : ∃ k, n = k + 1 := ⟨n - 1, by omega⟩; have w1 := kf8 l (by omega) n (by omega)
 by_cases h : treeCode l = 0
 · rw [decide_eq_true h] at w1
   have hr : ∀ a ∈ l, a.wrong true = 0 := by
    unfold treeCode at h; split at h
    · simp at h
    · exact (k78 l).1 h
   have w2 := kw3 l hm hr n (by omega); have hwt := (k86 l fun a ha => k95 (hr a ha)).2.2; have w3 := kp7 (armsWt l) (armsNorm l) hwt (by omega) n (by omega); rw [if_pos h]; simp [go_of FT_108 rfl, F108, w1, w2, w3]
 · rw [decide_eq_false h] at w1
   rw [if_neg h]; simp [go_of FT_108 rfl, F108, w1]
end Go.VM
