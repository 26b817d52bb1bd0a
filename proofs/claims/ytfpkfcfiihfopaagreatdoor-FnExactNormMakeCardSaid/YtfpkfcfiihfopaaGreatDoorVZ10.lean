/- The normal form of arms, as the document has it: squeezed. Conditions: none. -/
import Derived.Test.YtfpkfcfiihfopaaGreatDoorVZ7H
import Derived.Test.YtfpkfcfiihfopaaGreatDoorVY8

namespace Go.VM
set_option linter.unusedSimpArgs false
set_option linter.unusedVariables false
set_option maxHeartbeats 16000000
def KAt (H : Nat → Box) (g bc : Nat) (kw : W) (K : List Arm) : Prop := kw = ksW K ∨ (kw = .nil ∧ K = []) ∨ ∃ bk, bk ≠ 64 ∧ bk ≠ 384 ∧ bk ≠ bc ∧ bk < g ∧ kw = .own bk 0 K.length none ∧ H bk = .row none 6 (armRows K) 0
def SqS (R : Arm) (B : Nat) (st : St) (nk nop : Int) (nas : List Arg) (nks : List Net) (C : List El) (K : List Arm) : Prop :=
 squeeze (.mk nk nop nas nks) C K = R ∧ NetFine (.mk nk nop nas nks) ∧ (∀ a ∈ K, a.wrong false = 0) ∧ Net.wt (.mk nk nop nas nks) + elsWt C + armsWt K ≤ B ∧ st.τ 2 = .w (.ptr 64 0) ∧ st.H 64 = .cells [iW 0, iW 0, .nil, .nil, .nil, .nil] ∧ st.τ 3 = .w (.ptr 384 0) ∧ 384 < st.g ∧
  ∃ ca ck bc cap kw, st.H 384 = .cells [iW nk, iW nop, ca, ck, .own bc 0 C.length cap, kw] ∧ NetAt ca ck nk nop nas nks ∧ st.H bc = .row none 2 (elRows C) 0 ∧ bc ≠ 64 ∧ bc ≠ 384 ∧ bc < st.g ∧ KAt st.H st.g bc kw K
def SqSEx (R : Arm) (B k : Nat) (st : St) : Prop := ∃ nk nop nas nks C K, armsWt K ≤ k ∧ SqS R B st nk nop nas nks C K
def SqSFin (R : Arm) (B : Nat) (st : St) : Prop := ∃ nk nop nas nks C K, SqS R B st nk nop nas nks C K ∧ R = .mk (.mk nk nop nas nks) C K
theorem loop211_1 {n : Nat} (R : Arm) (B : Nat) (hB30 : B < 2 ^ 27) (hn : 2 * B + 100 ≤ n) (st : St) (k0 : Nat) (hk0 : k0 < n) (hI : SqSEx R B k0 st) :
 ∃ e st', execC (go n) mode GT false 74 n F211_L1 st = some (e, st') ∧ e ≠ .normal ∧ (e = .exit 2 ∧ SqSFin R B st') := by
 rw [F211_L1, execC_loop]; refine iter_rule (fun k st => SqSEx R B k st) ?_ n k0 st hk0 hI
 clear hI; rintro k ⟨τ, H, g, s⟩ ⟨nk, nop, nas, nks, C, K, hk, hsq, hfn, hKr, hwt, h2, hC, h3, hgg, ca, ck, bc, cap, kw, hA, hnet, hB, hb64, hb384, hbg, hkw⟩; simp only at h2 hC h3 hA hB hbg hgg hkw; have fgX := far (show 384 < g by omega); have fzX := far (show 64 < g by omega); have fbX := far hbg; have b1 : (384 = bc) = False := eq_false (fun e => hb384 e.symm); have b2 : (64 = bc) = False := eq_false (fun e => hb64 e.symm); have b3 : (bc = 384) = False := eq_false hb384; have b4 : (bc = 64) = False := eq_false hb64; have w := run_noneS (n := n) (by omega) (.mk nk nop nas nks)
 by_cases hK1 : K.length = 1
 · obtain ⟨kid, rfl⟩ : ∃ x, K = [x] := by
    match K, hK1 with
    | [x], _ => exact ⟨x, rfl⟩
   obtain ⟨⟨kk, ko, ka, kn⟩, kc, ks⟩ := kid; have hkid := hKr _ (List.mem_singleton.2 rfl); obtain ⟨q1, q2, q3, q4, q5⟩ := arm_right hkid; have q5' := (armsWrong_all _).1 q5; have hcl := elsWt_len C; have hkl := elsWt_len kc; simp only [armsWt, Arm.wt] at hwt hk; obtain ⟨m, rfl⟩ : ∃ m, n = m + 1 := ⟨n - 1, by omega⟩; have wk := run_noneS (n := m + 1) (by omega) (.mk kk ko ka kn); have wj := run_l9Join (n := m) (.mk nk nop nas nks) (.mk kk ko ka kn) hfn q2 (by omega) (by omega); have hjf := join_fine hfn q2; have hsq0 := hsq; rw [squeeze] at hsq
   by_cases hcond : C.length = 0 ∨ Net.none (.mk kk ko ka kn) = true
   · rw [if_pos hcond] at hsq
     have rm : room (C.length + kc.length) 32 = true := room_of (by omega) (by omega); have al := eq_true (len_of2 kc); have tk : List.take C.length (elRows C) = elRows C := take_elRows C; refine ⟨.normal, ?_⟩
     generalize hJ : (Net.mk nk nop nas nks).join (.mk kk ko ka kn) = J at wj hsq hjf; obtain ⟨jk, jo, ja, jks⟩ := J; have done : ∀ st' : St, st'.τ 2 = .w (.ptr 64 0) → st'.H 64 = .cells [iW 0, iW 0, .nil, .nil, .nil, .nil] → st'.τ 3 = .w (.ptr 384 0) → 384 < st'.g → ∀ bc' cap', st'.H 384 = .cells [iW jk, iW jo, asW ja, nsW jks, .own bc' 0 (C.length + kc.length) cap', ksW ks] → st'.H bc' = .row none 2 (elRows C ++ elRows kc) 0 → bc' ≠ 64 → bc' ≠ 384 → bc' < st'.g → ∃ k', k' < k ∧ SqSEx R B k' st' := by
      intro st' e1 e2 e3 e4 bc' cap' e5 e6 e7 e8 e9; refine ⟨armsWt ks, by omega, jk, jo, ja, jks, C ++ kc, ks, Nat.le_refl _, hsq, hjf.1, q5', ?_, e1, e2, e3, e4, _, _, bc', cap', _, by rw [List.length_append]; exact e5, .inl ⟨rfl, rfl⟩, by rw [elRows_append]; exact e6, e7, e8, e9, .inl rfl⟩
      rw [elsWt_append]; have := hjf.2; omega
     have rm0 : room kc.length 32 = true := room_of (by omega) (by omega); have ar0 : argRows [] = [] := rfl; have nr0 : netRows [] = [] := by simp [netRows]
     have g64 : (64 < g) = True := eq_true (by omega); have hCC : C.length = 0 ∨ (¬ C.length = 0 ∧ Net.none (.mk kk ko ka kn) = true) := by
      rcases hcond with h | h
      · exact .inl h
      · by_cases h0 : C.length = 0
        · exact .inl h0
        · exact .inr ⟨h0, h⟩
     rcases hnet with ⟨rfl, rfl⟩ | ⟨rfl, rfl, rfl, rfl, rfl, rfl⟩
     · rcases hkw with rfl | ⟨_, h⟩ | ⟨bk, k1, k2, k3, k4, rfl, k5⟩
       · rcases hCC with hC0 | ⟨hC0, hz2⟩
         · have hC0i : ((C.length : Int) = 0) = True := eq_true (by omega)
           simp [-getElem?_pos, F211_B1, h2, hC, h3, hA, hB, wj, al, rm, rm0, hC0, hC0i, armRows, Arm.row, g64, b1, b2, b3, b4, fgX, fzX, fbX]; exact done _ (by simp [h2]) (by simp [hC, b1, b2, b3, b4, fgX, fzX, fbX]) (by simp [h3]) (by simp only; omega) (g + 1152 + 384 + 448 + 256) none (by simp [hC0, show C = [] from List.eq_nil_of_length_eq_zero hC0, b1, b2, b3, b4, fgX, fzX, fbX]) (by simp [hC0, show C = [] from List.eq_nil_of_length_eq_zero hC0, b1, b2, b3, b4, fgX, fzX, fbX]) (by omega) (by omega) (by simp only; omega)
         · rw [hz2] at wk
           have hC0i : ((C.length : Int) = 0) = False := eq_false (by omega); have hCe : C ≠ [] := fun e => hC0 (by rw [e]; rfl)
           simp [-getElem?_pos, F211_B1, h2, hC, h3, hA, hB, wj, wk, al, rm, rm0, hC0, hC0i, hCe, armRows, Arm.row, g64, b1, b2, b3, b4, fgX, fzX, fbX]; exact done _ (by simp [h2]) (by simp [hC, b1, b2, b3, b4, fgX, fzX, fbX]) (by simp [h3]) (by simp only; omega) (g + 1152 + 384 + 448 + 256) none (by simp [hC0, b1, b2, b3, b4, fgX, fzX, fbX]) (by simp [hC0, b1, b2, b3, b4, fgX, fzX, fbX]) (by omega) (by omega) (by simp only; omega)
       · cases h
       · have d1 : (384 = bk) = False := eq_false (fun e => k2 e.symm)
         have d2 : (bk = 384) = False := eq_false k2; have d3 : (64 = bk) = False := eq_false (fun e => k1 e.symm); have d4 : (bk = bc) = False := eq_false k3; have d5 : (bc = bk) = False := eq_false (fun e => k3 e.symm); rcases hCC with hC0 | ⟨hC0, hz2⟩
         · have hC0i : ((C.length : Int) = 0) = True := eq_true (by omega)
           simp [-getElem?_pos, F211_B1, h2, hC, h3, hA, hB, k5, d1, d2, d3, d4, d5, wj, al, rm, rm0, hC0, hC0i, armRows, Arm.row, g64, b1, b2, b3, b4, fgX, fzX, fbX]; exact done _ (by simp [h2]) (by simp [hC, b1, b2, b3, b4, fgX, fzX, fbX]) (by simp [h3]) (by simp only; omega) (g + 1152 + 384 + 448 + 256) none (by simp [hC0, show C = [] from List.eq_nil_of_length_eq_zero hC0, b1, b2, b3, b4, fgX, fzX, fbX]) (by simp [hC0, show C = [] from List.eq_nil_of_length_eq_zero hC0, b1, b2, b3, b4, fgX, fzX, fbX]) (by omega) (by omega) (by simp only; omega)
         · rw [hz2] at wk
           have hC0i : ((C.length : Int) = 0) = False := eq_false (by omega); have hCe : C ≠ [] := fun e => hC0 (by rw [e]; rfl)
           simp [-getElem?_pos, F211_B1, h2, hC, h3, hA, hB, k5, d1, d2, d3, d4, d5, wj, wk, al, rm, rm0, hC0, hC0i, hCe, armRows, Arm.row, g64, b1, b2, b3, b4, fgX, fzX, fbX]; exact done _ (by simp [h2]) (by simp [hC, b1, b2, b3, b4, fgX, fzX, fbX]) (by simp [h3]) (by simp only; omega) (g + 1152 + 384 + 448 + 256) none (by simp [hC0, b1, b2, b3, b4, fgX, fzX, fbX]) (by simp [hC0, b1, b2, b3, b4, fgX, fzX, fbX]) (by omega) (by omega) (by simp only; omega)
     · simp only [netX, asW, nsW, ar0, nr0] at wj
       rcases hkw with rfl | ⟨_, h⟩ | ⟨bk, k1, k2, k3, k4, rfl, k5⟩
       · rcases hCC with hC0 | ⟨hC0, hz2⟩
         · have hC0i : ((C.length : Int) = 0) = True := eq_true (by omega)
           simp [-getElem?_pos, F211_B1, h2, hC, h3, hA, hB, wj, al, rm, rm0, hC0, hC0i, armRows, Arm.row, g64, b1, b2, b3, b4, fgX, fzX, fbX]; exact done _ (by simp [h2]) (by simp [hC, b1, b2, b3, b4, fgX, fzX, fbX]) (by simp [h3]) (by simp only; omega) (g + 1152 + 384 + 448 + 256) none (by simp [hC0, show C = [] from List.eq_nil_of_length_eq_zero hC0, b1, b2, b3, b4, fgX, fzX, fbX]) (by simp [hC0, show C = [] from List.eq_nil_of_length_eq_zero hC0, b1, b2, b3, b4, fgX, fzX, fbX]) (by omega) (by omega) (by simp only; omega)
         · rw [hz2] at wk
           have hC0i : ((C.length : Int) = 0) = False := eq_false (by omega); have hCe : C ≠ [] := fun e => hC0 (by rw [e]; rfl)
           simp [-getElem?_pos, F211_B1, h2, hC, h3, hA, hB, wj, wk, al, rm, rm0, hC0, hC0i, hCe, armRows, Arm.row, g64, b1, b2, b3, b4, fgX, fzX, fbX]; exact done _ (by simp [h2]) (by simp [hC, b1, b2, b3, b4, fgX, fzX, fbX]) (by simp [h3]) (by simp only; omega) (g + 1152 + 384 + 448 + 256) none (by simp [hC0, b1, b2, b3, b4, fgX, fzX, fbX]) (by simp [hC0, b1, b2, b3, b4, fgX, fzX, fbX]) (by omega) (by omega) (by simp only; omega)
       · cases h
       · have d1 : (384 = bk) = False := eq_false (fun e => k2 e.symm)
         have d2 : (bk = 384) = False := eq_false k2; have d3 : (64 = bk) = False := eq_false (fun e => k1 e.symm); have d4 : (bk = bc) = False := eq_false k3; have d5 : (bc = bk) = False := eq_false (fun e => k3 e.symm); rcases hCC with hC0 | ⟨hC0, hz2⟩
         · have hC0i : ((C.length : Int) = 0) = True := eq_true (by omega)
           simp [-getElem?_pos, F211_B1, h2, hC, h3, hA, hB, k5, d1, d2, d3, d4, d5, wj, al, rm, rm0, hC0, hC0i, armRows, Arm.row, g64, b1, b2, b3, b4, fgX, fzX, fbX]; exact done _ (by simp [h2]) (by simp [hC, b1, b2, b3, b4, fgX, fzX, fbX]) (by simp [h3]) (by simp only; omega) (g + 1152 + 384 + 448 + 256) none (by simp [hC0, show C = [] from List.eq_nil_of_length_eq_zero hC0, b1, b2, b3, b4, fgX, fzX, fbX]) (by simp [hC0, show C = [] from List.eq_nil_of_length_eq_zero hC0, b1, b2, b3, b4, fgX, fzX, fbX]) (by omega) (by omega) (by simp only; omega)
         · rw [hz2] at wk
           have hC0i : ((C.length : Int) = 0) = False := eq_false (by omega); have hCe : C ≠ [] := fun e => hC0 (by rw [e]; rfl)
           simp [-getElem?_pos, F211_B1, h2, hC, h3, hA, hB, k5, d1, d2, d3, d4, d5, wj, wk, al, rm, rm0, hC0, hC0i, hCe, armRows, Arm.row, g64, b1, b2, b3, b4, fgX, fzX, fbX]; exact done _ (by simp [h2]) (by simp [hC, b1, b2, b3, b4, fgX, fzX, fbX]) (by simp [h3]) (by simp only; omega) (g + 1152 + 384 + 448 + 256) none (by simp [hC0, b1, b2, b3, b4, fgX, fzX, fbX]) (by simp [hC0, b1, b2, b3, b4, fgX, fzX, fbX]) (by omega) (by omega) (by simp only; omega)
   · rw [if_neg hcond] at hsq
     simp only [not_or, Bool.not_eq_true] at hcond; obtain ⟨hC0, hz2⟩ := hcond; rw [hz2] at wk; have hCi : ((C.length : Int) = 0) = False := eq_false (by omega); have hCe : C ≠ [] := fun e => hC0 (by rw [e]; rfl)
     refine ⟨.exit 2, ?_⟩
     rcases hkw with rfl | ⟨_, h⟩ | ⟨bk, k1, k2, k3, k4, rfl, k5⟩
     · simp [-getElem?_pos, F211_B1, h2, hC, h3, hA, hB, wk, armRows, Arm.row, hC0, hCi, hCe]
       exact ⟨nk, nop, nas, nks, C, _, ⟨hsq0, hfn, hKr, by simp only [armsWt, Arm.wt]; omega, by simp [h2], hC, by simp [h3], by simp only; omega, ca, ck, bc, cap, _, hA, hnet, hB, hb64, hb384, by simp only; omega, .inl rfl⟩, hsq.symm⟩
     · cases h
     · have d1 : (384 = bk) = False := eq_false (fun e => k2 e.symm)
       have d2 : (bk = 384) = False := eq_false k2; simp [-getElem?_pos, F211_B1, h2, hC, h3, hA, hB, k5, d1, d2, wk, armRows, Arm.row, hC0, hCi, hCe]; exact ⟨nk, nop, nas, nks, C, _, ⟨hsq0, hfn, hKr, by simp only [armsWt, Arm.wt]; omega, by simp [h2], hC, by simp [h3], by simp only; omega, ca, ck, bc, cap, _, hA, hnet, hB, hb64, hb384, by simp only; omega, .inr (.inr ⟨bk, k1, k2, k3, by simp only; omega, rfl, k5⟩)⟩, hsq.symm⟩
 · have hKi : ((K.length : Int) = 1) = False := eq_false (by omega)
   have hfix : squeeze (.mk nk nop nas nks) C K = .mk (.mk nk nop nas nks) C K := by
    match K, hK1 with
    | [], _ => rw [squeeze]; simp
    | a :: b :: r, _ => rw [squeeze]; simp
   refine ⟨.exit 2, ?_⟩
   rcases hkw with rfl | ⟨rfl, rfl⟩ | ⟨bk, k1, k2, k3, k4, rfl, k5⟩
   · simp [-getElem?_pos, F211_B1, h2, hC, h3, hA, hB, hK1, hKi]
     exact ⟨nk, nop, nas, nks, C, K, ⟨hsq, hfn, hKr, hwt, by simp [h2], hC, by simp [h3], by simp only; omega, ca, ck, bc, cap, _, hA, hnet, hB, hb64, hb384, by simp only; omega, .inl rfl⟩, by rw [← hsq, hfix]⟩
   · simp [-getElem?_pos, F211_B1, h2, hC, h3, hA, hB]
     exact ⟨nk, nop, nas, nks, C, [], ⟨hsq, hfn, hKr, hwt, by simp [h2], hC, by simp [h3], by simp only; omega, ca, ck, bc, cap, _, hA, hnet, hB, hb64, hb384, by simp only; omega, .inr (.inl ⟨rfl, rfl⟩)⟩, by rw [← hsq, hfix]⟩
   · simp [-getElem?_pos, F211_B1, h2, hC, h3, hA, hB, k5, hK1, hKi]
     exact ⟨nk, nop, nas, nks, C, K, ⟨hsq, hfn, hKr, hwt, by simp [h2], hC, by simp [h3], by simp only; omega, ca, ck, bc, cap, _, hA, hnet, hB, hb64, hb384, by simp only; omega, .inr (.inr ⟨bk, k1, k2, k3, by simp only; omega, rfl, k5⟩)⟩, by rw [← hsq, hfix]⟩
end Go.VM
