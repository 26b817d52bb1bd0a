/- The normal form of an arm, reckoned. Conditions: none. -/
import Derived.Test.YtfpkfcfiihfopaaGreatDoorVQ10

namespace Go.VM
set_option linter.unusedSimpArgs false
set_option linter.unusedVariables false
set_option maxHeartbeats 16000000
theorem join_fine {a b : Net} (ha : NetFine a) (hb : NetFine b) : NetFine (a.join b) ∧ (a.join b).wt ≤ a.wt + b.wt + 1 := by
 unfold Net.join
 by_cases h1 : a.none = true
 · rw [if_pos h1]; exact ⟨hb, by omega⟩
 · rw [if_neg h1]
   by_cases h2 : b.none = true
   · rw [if_pos h2]; exact ⟨ha, by omega⟩
   · rw [if_neg h2]
     have ra : a.wrong = 0 := by rcases ha with h | h; exact absurd h h1; exact h
     have rb : b.wrong = 0 := by rcases hb with h | h; exact absurd h h2; exact h
     have hr : Net.wrong (.mk 2 0 [] [a, b]) = 0 := right_mk (.inl rfl) (by simp) (fun e => by omega) (by simp [ra, rb]); obtain ⟨k1, _, _, k4⟩ := norm_ok _ hr; simp only [Net.wt, netsWt, List.length_nil] at k4; exact ⟨.inr k1, by omega⟩
theorem fine_right {n : Net} (h : NetFine n) (hn : n.none = false) : n.wrong = 0 := by
 rcases h with h | h
 · rw [hn] at h; cases h
 · exact h
theorem len_of2 (l : List El) : ∀ x ∈ elRows l, x.length = 2 := fun x hx => by
 simp only [elRows, List.mem_map] at hx; obtain ⟨a, _, rfl⟩ := hx
 rfl
def NetAt (ca ck : W) (nk nop : Int) (nas : List Arg) (nks : List Net) : Prop := (ca = asW nas ∧ ck = nsW nks) ∨ (ca = .nil ∧ ck = .nil ∧ nk = 0 ∧ nop = 0 ∧ nas = [] ∧ nks = [])
@[simp] theorem elRows_nil : elRows [] = [] := rfl
def SqInv (R : Arm) (B : Nat) (st : St) (nk nop : Int) (nas : List Arg) (nks : List Net) (C : List El) (K : List Arm) (kw : W) (bc : Nat) (cap : Option Nat) : Prop :=
 squeeze (.mk nk nop nas nks) C K = R ∧ NetFine (.mk nk nop nas nks) ∧ (∀ a ∈ K, a.wrong false = 0) ∧ Net.wt (.mk nk nop nas nks) + elsWt C + armsWt K ≤ B ∧ st.τ 2 = .w (.ptr 64 0) ∧ st.H 64 = .cells [iW 0, iW 0, .nil, .nil, .nil, .nil] ∧ st.τ 3 = .w (.ptr 640 0) ∧
  (∃ ca ck, st.H 640 = .cells [iW nk, iW nop, ca, ck, .own bc 0 C.length cap, kw] ∧ NetAt ca ck nk nop nas nks) ∧ st.H bc = .row none 2 (elRows C) 0 ∧ (bc = 256 ∨ 640 < bc) ∧ bc < st.g ∧ 640 < st.g ∧ (kw = ksW K ∨ (kw = .own 512 0 K.length (some K.length) ∧ st.H 512 = .row none 6 (armRows K) 0))
def SqEx (R : Arm) (B k : Nat) (st : St) : Prop := ∃ nk nop nas nks C K kw bc cap, armsWt K ≤ k ∧ SqInv R B st nk nop nas nks C K kw bc cap
def SqFin (R : Arm) (B : Nat) (st : St) : Prop := ∃ nk nop nas nks C K kw bc cap, SqInv R B st nk nop nas nks C K kw bc cap ∧ R = .mk (.mk nk nop nas nks) C K
theorem loop146_1 {n : Nat} (R : Arm) (B : Nat) (hB30 : B < 2 ^ 28) (hn : B + 20 ≤ n) (st : St) (nk nop : Int) (nas : List Arg) (nks : List Net) (C : List El) (K : List Arm) (kw : W) (bc : Nat) (cap : Option Nat) (hI : SqInv R B st nk nop nas nks C K kw bc cap) :
 ∃ e st', execC (go n) mode GT false 91 n F146_L1 st = some (e, st') ∧ e ≠ .normal ∧ (e = .exit 2 ∧ SqFin R B st') := by
 rw [F146_L1, execC_loop]; refine iter_rule (fun k st => SqEx R B k st) ?_ n (armsWt K) st (by have := hI.2.2.2.1; omega) ⟨nk, nop, nas, nks, C, K, kw, bc, cap, Nat.le_refl _, hI⟩
 clear hI; rintro k ⟨τ, H, g, s⟩ ⟨nk, nop, nas, nks, C, K, kw, bc, cap, hk, hsq, hfn, hKr, hwt, h2, hC, h3, ⟨ca, ck, hA, hnet⟩, hB, hbc, hbg, hgg, hkw⟩; simp only at h2 hC h3 hA hB hbg hgg hkw; have fgX := far hgg; have feX := far (show 512 < g by omega); have fbX := far hbg; have fzX := far (show 64 < g by omega); have fxX := far (show 256 < g by omega); have b1 : (640 = bc) = False := eq_false (by omega); have b2 : (64 = bc) = False := eq_false (by omega); have b3 : (bc = 640) = False := eq_false (by omega); have b4 : (bc = 64) = False := eq_false (by omega); have b5 : (512 = bc) = False := eq_false (by omega); have b6 : (bc = 512) = False := eq_false (by omega)
 have b7 : (256 < g) = True := eq_true (by omega); have b8 : (512 < g) = True := eq_true (by omega); have w := run_none (n := n) (by omega) (.mk nk nop nas nks)
 by_cases hK1 : K.length = 1
 · obtain ⟨kid, rfl⟩ : ∃ x, K = [x] := by
    match K, hK1 with
    | [x], _ => exact ⟨x, rfl⟩
   obtain ⟨⟨kk, ko, ka, kn⟩, kc, ks⟩ := kid; have hkid := hKr _ (List.mem_singleton.2 rfl); obtain ⟨q1, q2, q3, q4, q5⟩ := arm_right hkid; have q5' := (armsWrong_all _).1 q5; have wk := run_none (n := n) (by omega) (.mk kk ko ka kn); have hcl := elsWt_len C; have hkl := elsWt_len kc; have hks := armsWt_len ks; simp only [armsWt, Arm.wt] at hwt hk; have hjf := join_fine hfn q2; have hsq0 := hsq; rw [squeeze] at hsq
   by_cases hcond : C.length = 0 ∨ Net.none (.mk kk ko ka kn) = true
   · rw [if_pos hcond] at hsq
     have rm : room (C.length + kc.length) 32 = true := room_of (by omega) (by omega); have al := eq_true (len_of2 kc); have wc := run_cloneE (n := n) (by omega) (C ++ kc) (by simp; omega); simp only [csW, elRows_append, List.length_append] at wc; have tk : List.take (C.length + kc.length) (elRows C ++ elRows kc) = elRows C ++ elRows kc := by rw [List.take_of_length_le (by simp)]
     have hjn : Net.none (.mk nk nop nas nks) = false → Net.none (.mk kk ko ka kn) = false → ∀ s, go n 120 [.agg [iW 2, iW 0, .d (.l 0 []), .d (.l 0 [[iD nk, iD nop, .l 0 (argRows nas), .l 0 (netRows nks)], [iD kk, iD ko, .l 0 (argRows ka), .l 0 (netRows kn)]])]] [] s = some ⟨netX (Net.norm (.mk 2 0 [] [.mk nk nop nas nks, .mk kk ko ka kn])), [], []⟩ := fun e1 e2 s => by
      have r1 := fine_right hfn e1; have r2 := fine_right q2 e2; have := run_netNorm (B + 2) (.mk 2 0 [] [.mk nk nop nas nks, .mk kk ko ka kn]) (by simp only [Net.wt, netsWt, List.length_nil] at hwt ⊢; omega) (by omega) (right_mk (.inl rfl) (by simp) (fun e => by omega) (by simp [r1, r2])) n (by omega) s; have e : netX (.mk 2 0 [] [.mk nk nop nas nks, .mk kk ko ka kn]) = .agg [iW 2, iW 0, .d (.l 0 []), .d (.l 0 [[iD nk, iD nop, .l 0 (argRows nas), .l 0 (netRows nks)], [iD kk, iD ko, .l 0 (argRows ka), .l 0 (netRows kn)]])] := by simp only [netX, netRows, Net.row, argRows, List.map_nil]; rfl
      rw [e] at this; exact this
     have fin : ∀ (st' : St) (n2 : Net), n2 = (Net.mk nk nop nas nks).join (.mk kk ko ka kn) → ∀ bc', 640 < bc' → st'.τ 2 = .w (.ptr 64 0) → st'.H 64 = .cells [iW 0, iW 0, .nil, .nil, .nil, .nil] → st'.τ 3 = .w (.ptr 640 0) →
      st'.H 640 = .cells [iW n2.kind, iW n2.op, asW n2.as, nsW n2.kids, .own bc' 0 (C.length + kc.length) (some (C.length + kc.length)), ksW ks] → st'.H bc' = .row none 2 (elRows C ++ elRows kc) 0 → bc' < st'.g → 640 < st'.g →
      ∃ k', k' < k ∧ SqEx R B k' st' := by
      intro st' n2 hn2 bc' hb' e1 e2 e3 e4 e5 e6 e7; obtain ⟨nk2, nop2, nas2, nks2⟩ := n2; simp only [Net.kind, Net.op, Net.as, Net.kids] at e4; refine ⟨armsWt ks, by omega, nk2, nop2, nas2, nks2, C ++ kc, ks, ksW ks, bc', some (C.length + kc.length), Nat.le_refl _, ?_, ?_, q5', ?_, e1, e2, e3, ?_, ?_, .inr hb', e6, e7, .inl rfl⟩
      · rw [hn2]; exact hsq
      · rw [hn2]; exact hjf.1
      · rw [hn2, elsWt_append]
        have := hjf.2; omega
      · rw [List.length_append]; exact ⟨_, _, e4, .inl ⟨rfl, rfl⟩⟩
      · rw [elRows_append]; exact e5
     refine ⟨.normal, ?_⟩
     have hjoin : (Net.mk nk nop nas nks).join (.mk kk ko ka kn) = if Net.none (.mk nk nop nas nks) then .mk kk ko ka kn else if Net.none (.mk kk ko ka kn) then .mk nk nop nas nks else Net.norm (.mk 2 0 [] [.mk nk nop nas nks, .mk kk ko ka kn]) := rfl
     generalize hn1 : Net.none (.mk nk nop nas nks) = z1 at w hjoin hjn; generalize hn2 : Net.none (.mk kk ko ka kn) = z2 at wk hjoin hjn hcond; generalize hNN : Net.norm (.mk 2 0 [] [.mk nk nop nas nks, .mk kk ko ka kn]) = NN at hjoin hjn; obtain ⟨Nk, No, Na, Nn⟩ := NN; rcases hnet with ⟨rfl, rfl⟩ | ⟨rfl, rfl, rfl, rfl, rfl, rfl⟩
     · rcases hkw with rfl | ⟨rfl, hKB⟩
       · by_cases hC0 : C.length = 0
         · have hC0e : C = [] := List.eq_nil_of_length_eq_zero hC0
           subst hC0e; have rm0 : room kc.length 32 = true := by simpa using rm
           have wc0 := wc; simp only [List.length_nil, Nat.zero_add, elRows_nil, List.nil_append] at wc0; have tk0 := tk; simp only [List.length_nil, Nat.zero_add, elRows_nil, List.nil_append] at tk0; cases z1
           · cases z2
             · simp [-getElem?_pos, F146_B1, h2, hC, h3, hA, hB, b1, b2, b3, b4, b5, b6, b7, b8, w, wk, fgX, feX, fbX, fzX, fxX, rm, al, wc, tk, armRows, Arm.row, hjn, rm0, wc0, tk0]
               exact fin _ (.mk Nk No Na Nn) (by rw [hjoin]; rfl) (g + 1152 + 384 + 256 + 320 + 576 + 320) (by omega) (by simp [h2]) (by simp [hC, b2, b4, fgX, feX, fbX, fzX, fxX]) (by simp [h3]) (by simp [Net.kind, Net.op, Net.as, Net.kids, fgX, feX, fbX, fzX, fxX]) (by simp [fgX, feX, fbX, fzX, fxX]) (by simp only; omega) (by simp only; omega)
             · simp [-getElem?_pos, F146_B1, h2, hC, h3, hA, hB, b1, b2, b3, b4, b5, b6, b7, b8, w, wk, fgX, feX, fbX, fzX, fxX, rm, al, wc, tk, armRows, Arm.row, hjn, rm0, wc0, tk0]
               exact fin _ (.mk nk nop nas nks) (by rw [hjoin]; rfl) (g + 1152 + 384 + 256 + 320 + 320) (by omega) (by simp [h2]) (by simp [hC, b2, b4, fgX, feX, fbX, fzX, fxX]) (by simp [h3]) (by simp [Net.kind, Net.op, Net.as, Net.kids, fgX, feX, fbX, fzX, fxX]) (by simp [fgX, feX, fbX, fzX, fxX]) (by simp only; omega) (by simp only; omega)
           · simp [-getElem?_pos, F146_B1, h2, hC, h3, hA, hB, b1, b2, b3, b4, b5, b6, b7, b8, w, wk, fgX, feX, fbX, fzX, fxX, rm, al, wc, tk, armRows, Arm.row, hjn, rm0, wc0, tk0]
             exact fin _ (.mk kk ko ka kn) (by rw [hjoin]; rfl) (g + 1152 + 384 + 256 + 256 + 320) (by omega) (by simp [h2]) (by simp [hC, b2, b4, fgX, feX, fbX, fzX, fxX]) (by simp [h3]) (by simp [Net.kind, Net.op, Net.as, Net.kids, fgX, feX, fbX, fzX, fxX]) (by simp [fgX, feX, fbX, fzX, fxX]) (by simp only; omega) (by simp only; omega)
         · have hz2 : z2 = true := by rcases hcond with h | h; exact absurd h hC0; exact h
           subst hz2; have hCi : ((C.length : Int) = 0) = False := eq_false (by omega); have hCe : C ≠ [] := fun e => hC0 (by rw [e]; rfl)
           cases z1
           · simp [-getElem?_pos, F146_B1, h2, hC, h3, hA, hB, b1, b2, b3, b4, b5, b6, b7, b8, w, wk, fgX, feX, fbX, fzX, fxX, rm, al, wc, tk, armRows, Arm.row, hC0, hCi, hCe]
             exact fin _ (.mk nk nop nas nks) (by rw [hjoin]; rfl) (g + 1152 + 384 + 256 + 320 + 320) (by omega) (by simp [h2]) (by simp [hC, b2, b4, fgX, feX, fbX, fzX, fxX]) (by simp [h3]) (by simp [Net.kind, Net.op, Net.as, Net.kids, fgX, feX, fbX, fzX, fxX]) (by simp [fgX, feX, fbX, fzX, fxX]) (by simp only; omega) (by simp only; omega)
           · simp [-getElem?_pos, F146_B1, h2, hC, h3, hA, hB, b1, b2, b3, b4, b5, b6, b7, b8, w, wk, fgX, feX, fbX, fzX, fxX, rm, al, wc, tk, armRows, Arm.row, hC0, hCi, hCe]
             exact fin _ (.mk kk ko ka kn) (by rw [hjoin]; rfl) (g + 1152 + 384 + 256 + 256 + 320) (by omega) (by simp [h2]) (by simp [hC, b2, b4, fgX, feX, fbX, fzX, fxX]) (by simp [h3]) (by simp [Net.kind, Net.op, Net.as, Net.kids, fgX, feX, fbX, fzX, fxX]) (by simp [fgX, feX, fbX, fzX, fxX]) (by simp only; omega) (by simp only; omega)
       · by_cases hC0 : C.length = 0
         · have hC0e : C = [] := List.eq_nil_of_length_eq_zero hC0
           subst hC0e; have rm0 : room kc.length 32 = true := by simpa using rm
           have wc0 := wc; simp only [List.length_nil, Nat.zero_add, elRows_nil, List.nil_append] at wc0; have tk0 := tk; simp only [List.length_nil, Nat.zero_add, elRows_nil, List.nil_append] at tk0; cases z1
           · cases z2
             · simp [-getElem?_pos, F146_B1, h2, hC, h3, hA, hB, b1, b2, b3, b4, b5, b6, b7, b8, w, wk, fgX, feX, fbX, fzX, fxX, rm, al, wc, tk, armRows, Arm.row, hKB, hjn, rm0, wc0, tk0]
               exact fin _ (.mk Nk No Na Nn) (by rw [hjoin]; rfl) (g + 1152 + 384 + 256 + 320 + 576 + 320) (by omega) (by simp [h2]) (by simp [hC, b2, b4, fgX, feX, fbX, fzX, fxX]) (by simp [h3]) (by simp [Net.kind, Net.op, Net.as, Net.kids, fgX, feX, fbX, fzX, fxX]) (by simp [fgX, feX, fbX, fzX, fxX]) (by simp only; omega) (by simp only; omega)
             · simp [-getElem?_pos, F146_B1, h2, hC, h3, hA, hB, b1, b2, b3, b4, b5, b6, b7, b8, w, wk, fgX, feX, fbX, fzX, fxX, rm, al, wc, tk, armRows, Arm.row, hKB, hjn, rm0, wc0, tk0]
               exact fin _ (.mk nk nop nas nks) (by rw [hjoin]; rfl) (g + 1152 + 384 + 256 + 320 + 320) (by omega) (by simp [h2]) (by simp [hC, b2, b4, fgX, feX, fbX, fzX, fxX]) (by simp [h3]) (by simp [Net.kind, Net.op, Net.as, Net.kids, fgX, feX, fbX, fzX, fxX]) (by simp [fgX, feX, fbX, fzX, fxX]) (by simp only; omega) (by simp only; omega)
           · simp [-getElem?_pos, F146_B1, h2, hC, h3, hA, hB, b1, b2, b3, b4, b5, b6, b7, b8, w, wk, fgX, feX, fbX, fzX, fxX, rm, al, wc, tk, armRows, Arm.row, hKB, hjn, rm0, wc0, tk0]
             exact fin _ (.mk kk ko ka kn) (by rw [hjoin]; rfl) (g + 1152 + 384 + 256 + 256 + 320) (by omega) (by simp [h2]) (by simp [hC, b2, b4, fgX, feX, fbX, fzX, fxX]) (by simp [h3]) (by simp [Net.kind, Net.op, Net.as, Net.kids, fgX, feX, fbX, fzX, fxX]) (by simp [fgX, feX, fbX, fzX, fxX]) (by simp only; omega) (by simp only; omega)
         · have hz2 : z2 = true := by rcases hcond with h | h; exact absurd h hC0; exact h
           subst hz2; have hCi : ((C.length : Int) = 0) = False := eq_false (by omega); have hCe : C ≠ [] := fun e => hC0 (by rw [e]; rfl)
           cases z1
           · simp [-getElem?_pos, F146_B1, h2, hC, h3, hA, hB, b1, b2, b3, b4, b5, b6, b7, b8, w, wk, fgX, feX, fbX, fzX, fxX, rm, al, wc, tk, armRows, Arm.row, hKB, hC0, hCi, hCe]
             exact fin _ (.mk nk nop nas nks) (by rw [hjoin]; rfl) (g + 1152 + 384 + 256 + 320 + 320) (by omega) (by simp [h2]) (by simp [hC, b2, b4, fgX, feX, fbX, fzX, fxX]) (by simp [h3]) (by simp [Net.kind, Net.op, Net.as, Net.kids, fgX, feX, fbX, fzX, fxX]) (by simp [fgX, feX, fbX, fzX, fxX]) (by simp only; omega) (by simp only; omega)
           · simp [-getElem?_pos, F146_B1, h2, hC, h3, hA, hB, b1, b2, b3, b4, b5, b6, b7, b8, w, wk, fgX, feX, fbX, fzX, fxX, rm, al, wc, tk, armRows, Arm.row, hKB, hC0, hCi, hCe]
             exact fin _ (.mk kk ko ka kn) (by rw [hjoin]; rfl) (g + 1152 + 384 + 256 + 256 + 320) (by omega) (by simp [h2]) (by simp [hC, b2, b4, fgX, feX, fbX, fzX, fxX]) (by simp [h3]) (by simp [Net.kind, Net.op, Net.as, Net.kids, fgX, feX, fbX, fzX, fxX]) (by simp [fgX, feX, fbX, fzX, fxX]) (by simp only; omega) (by simp only; omega)
     · obtain rfl : z1 = true := by rw [← hn1]; exact none_none
       simp only [netX, asW, nsW, netRows, argRows, List.map_nil] at w; rcases hkw with rfl | ⟨rfl, hKB⟩
       · by_cases hC0 : C.length = 0
         · have hC0e : C = [] := List.eq_nil_of_length_eq_zero hC0
           subst hC0e; have rm0 : room kc.length 32 = true := by simpa using rm
           have wc0 := wc; simp only [List.length_nil, Nat.zero_add, elRows_nil, List.nil_append] at wc0; have tk0 := tk; simp only [List.length_nil, Nat.zero_add, elRows_nil, List.nil_append] at tk0; simp [-getElem?_pos, F146_B1, h2, hC, h3, hA, hB, b1, b2, b3, b4, b5, b6, b7, b8, w, wk, fgX, feX, fbX, fzX, fxX, rm, al, wc, tk, armRows, Arm.row, rm0, wc0, tk0]; exact fin _ (.mk kk ko ka kn) (by rw [hjoin]; rfl) (g + 1152 + 384 + 256 + 256 + 320) (by omega) (by simp [h2]) (by simp [hC, b2, b4, fgX, feX, fbX, fzX, fxX]) (by simp [h3]) (by simp [Net.kind, Net.op, Net.as, Net.kids, fgX, feX, fbX, fzX, fxX]) (by simp [fgX, feX, fbX, fzX, fxX]) (by simp only; omega) (by simp only; omega)
         · have hz2 : z2 = true := by rcases hcond with h | h; exact absurd h hC0; exact h
           subst hz2; have hCi : ((C.length : Int) = 0) = False := eq_false (by omega); have hCe : C ≠ [] := fun e => hC0 (by rw [e]; rfl)
           simp [-getElem?_pos, F146_B1, h2, hC, h3, hA, hB, b1, b2, b3, b4, b5, b6, b7, b8, w, wk, fgX, feX, fbX, fzX, fxX, rm, al, wc, tk, armRows, Arm.row, hC0, hCi, hCe]; exact fin _ (.mk kk ko ka kn) (by rw [hjoin]; rfl) (g + 1152 + 384 + 256 + 256 + 320) (by omega) (by simp [h2]) (by simp [hC, b2, b4, fgX, feX, fbX, fzX, fxX]) (by simp [h3]) (by simp [Net.kind, Net.op, Net.as, Net.kids, fgX, feX, fbX, fzX, fxX]) (by simp [fgX, feX, fbX, fzX, fxX]) (by simp only; omega) (by simp only; omega)
       · by_cases hC0 : C.length = 0
         · have hC0e : C = [] := List.eq_nil_of_length_eq_zero hC0
           subst hC0e; have rm0 : room kc.length 32 = true := by simpa using rm
           have wc0 := wc; simp only [List.length_nil, Nat.zero_add, elRows_nil, List.nil_append] at wc0; have tk0 := tk; simp only [List.length_nil, Nat.zero_add, elRows_nil, List.nil_append] at tk0; simp [-getElem?_pos, F146_B1, h2, hC, h3, hA, hB, b1, b2, b3, b4, b5, b6, b7, b8, w, wk, fgX, feX, fbX, fzX, fxX, rm, al, wc, tk, armRows, Arm.row, hKB, rm0, wc0, tk0]; exact fin _ (.mk kk ko ka kn) (by rw [hjoin]; rfl) (g + 1152 + 384 + 256 + 256 + 320) (by omega) (by simp [h2]) (by simp [hC, b2, b4, fgX, feX, fbX, fzX, fxX]) (by simp [h3]) (by simp [Net.kind, Net.op, Net.as, Net.kids, fgX, feX, fbX, fzX, fxX]) (by simp [fgX, feX, fbX, fzX, fxX]) (by simp only; omega) (by simp only; omega)
         · have hz2 : z2 = true := by rcases hcond with h | h; exact absurd h hC0; exact h
           subst hz2; have hCi : ((C.length : Int) = 0) = False := eq_false (by omega); have hCe : C ≠ [] := fun e => hC0 (by rw [e]; rfl)
           simp [-getElem?_pos, F146_B1, h2, hC, h3, hA, hB, b1, b2, b3, b4, b5, b6, b7, b8, w, wk, fgX, feX, fbX, fzX, fxX, rm, al, wc, tk, armRows, Arm.row, hKB, hC0, hCi, hCe]; exact fin _ (.mk kk ko ka kn) (by rw [hjoin]; rfl) (g + 1152 + 384 + 256 + 256 + 320) (by omega) (by simp [h2]) (by simp [hC, b2, b4, fgX, feX, fbX, fzX, fxX]) (by simp [h3]) (by simp [Net.kind, Net.op, Net.as, Net.kids, fgX, feX, fbX, fzX, fxX]) (by simp [fgX, feX, fbX, fzX, fxX]) (by simp only; omega) (by simp only; omega)
   · rw [if_neg hcond] at hsq
     simp only [not_or, Bool.not_eq_true] at hcond; obtain ⟨hC0, hz2⟩ := hcond; rw [hz2] at wk; have hCi : ((C.length : Int) = 0) = False := eq_false (by omega); have hCe : C ≠ [] := fun e => hC0 (by rw [e]; rfl)
     refine ⟨.exit 2, ?_⟩
     rcases hkw with rfl | ⟨rfl, hKB⟩
     · simp [-getElem?_pos, F146_B1, h2, hC, h3, hA, hB, b1, b2, b3, b4, b5, b6, b7, b8, w, wk, fgX, feX, fbX, fzX, fxX, armRows, Arm.row, hC0, hCi, hCe]
       exact ⟨nk, nop, nas, nks, C, _, _, bc, cap, ⟨hsq0, hfn, hKr, by simp only [armsWt, Arm.wt]; omega, by simp [h2], hC, by simp [h3], ⟨ca, ck, hA, hnet⟩, hB, hbc, by simp only; omega, by simp only; omega, .inl rfl⟩, hsq.symm⟩
     · simp [-getElem?_pos, F146_B1, h2, hC, h3, hA, hB, b1, b2, b3, b4, b5, b6, b7, b8, w, wk, fgX, feX, fbX, fzX, fxX, hKB, armRows, Arm.row, hC0, hCi, hCe]
       exact ⟨nk, nop, nas, nks, C, _, _, bc, cap, ⟨hsq0, hfn, hKr, by simp only [armsWt, Arm.wt]; omega, by simp [h2], hC, by simp [h3], ⟨ca, ck, hA, hnet⟩, hB, hbc, by simp only; omega, by simp only; omega, .inr ⟨rfl, hKB⟩⟩, hsq.symm⟩
 · have hKi : ((K.length : Int) = 1) = False := eq_false (by omega)
   have hfix : squeeze (.mk nk nop nas nks) C K = .mk (.mk nk nop nas nks) C K := by
    match K, hK1 with
    | [], _ => rw [squeeze]; simp
    | a :: b :: r, _ => rw [squeeze]; simp
   refine ⟨.exit 2, ?_⟩
   rcases hkw with rfl | ⟨rfl, hKB⟩
   · simp [-getElem?_pos, F146_B1, h2, hC, h3, hA, hB, hK1, hKi]
     exact ⟨nk, nop, nas, nks, C, K, _, bc, cap, ⟨hsq, hfn, hKr, hwt, by simp [h2], hC, by simp [h3], ⟨ca, ck, hA, hnet⟩, hB, hbc, by simp only; omega, by simp only; omega, .inl rfl⟩, by rw [← hsq, hfix]⟩
   · simp [-getElem?_pos, F146_B1, h2, hC, h3, hA, hB, hKB, hK1, hKi]
     exact ⟨nk, nop, nas, nks, C, K, _, bc, cap, ⟨hsq, hfn, hKr, hwt, by simp [h2], hC, by simp [h3], ⟨ca, ck, hA, hnet⟩, hB, hbc, by simp only; omega, by simp only; omega, .inr ⟨rfl, hKB⟩⟩, by rw [← hsq, hfix]⟩
end Go.VM
