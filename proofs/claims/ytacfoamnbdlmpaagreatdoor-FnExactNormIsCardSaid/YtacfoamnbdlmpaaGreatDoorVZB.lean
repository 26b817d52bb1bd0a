/- The normal form of arms, as the document has it: squeezed. Conditions: none. -/
import Derived.Test.YtacfoamnbdlmpaaGreatDoorVZA
import Derived.Test.YtacfoamnbdlmpaaGreatDoorVQC

namespace Go.VM
set_option linter.unusedSimpArgs false
set_option linter.unusedVariables false
set_option maxHeartbeats 16000000

def KAt (H : Nat → Box) (g bc : Nat) (kw : W) (K : List Arm) : Prop := kw = ksW K ∨ (kw = .nil ∧ K = []) ∨ ∃ bk, bk ≠ 64 ∧ bk ≠ 384 ∧ bk ≠ bc ∧ bk < g ∧ kw = .own bk 0 K.length none ∧ H bk = .row none 6 (armRows K) 0
def SqS (R : Arm) (B : Nat) (st : St) (nk nop : Int) (nas : List Arg) (nks : List Net) (C : List El) (K : List Arm) : Prop :=
  squeeze (.mk nk nop nas nks) C K = R ∧ NetFine (.mk nk nop nas nks) ∧ (∀ a ∈ K, a.wrong false = 0) ∧ Net.wt (.mk nk nop nas nks) + elsWt C + armsWt K ≤ B ∧ st.τ 2 = .w (.ptr 64 0) ∧ st.H 64 = .cells [iW 0, iW 0, .nil, .nil, .nil, .nil] ∧ st.τ 3 = .w (.ptr 384 0) ∧ 384 < st.g ∧
    ∃ ca ck bc cap kw, st.H 384 = .cells [iW nk, iW nop, ca, ck, .own bc 0 C.length cap, kw] ∧ NetAt ca ck nk nop nas nks ∧ st.H bc = .row none 2 (elRows C) 0 ∧ bc ≠ 64 ∧ bc ≠ 384 ∧ bc < st.g ∧ KAt st.H st.g bc kw K
def SqSEx (R : Arm) (B k : Nat) (st : St) : Prop := ∃ nk nop nas nks C K, armsWt K ≤ k ∧ SqS R B st nk nop nas nks C K
def SqSFin (R : Arm) (B : Nat) (st : St) : Prop := ∃ nk nop nas nks C K, SqS R B st nk nop nas nks C K ∧ R = .mk (.mk nk nop nas nks) C K

theorem loop211_1 {n : Nat} (R : Arm) (B : Nat) (hB30 : B < 2 ^ 27) (hn : 2 * B + 100 ≤ n) (st : St) (k0 : Nat) (hk0 : k0 < n) (hI : SqSEx R B k0 st) :
    ∃ e st', execC (go n) mode GT false 74 n F211_L1 st = some (e, st') ∧ e ≠ .normal ∧ (e = .exit 2 ∧ SqSFin R B st') := by
  rw [F211_L1, execC_loop]
  refine iter_rule (fun k st => SqSEx R B k st) ?_ n k0 st hk0 hI
  clear hI
  rintro k ⟨τ, H, g, s⟩ ⟨nk, nop, nas, nks, C, K, hk, hsq, hfn, hKr, hwt, h2, hC, h3, hgg, ca, ck, bc, cap, kw, hA, hnet, hB, hb64, hb384, hbg, hkw⟩
  simp only at h2 hC h3 hA hB hbg hgg hkw
  have fgX := far (show 384 < g by omega)
  have fzX := far (show 64 < g by omega)
  have fbX := far hbg
  have b1 : (384 = bc) = False := eq_false (fun e => hb384 e.symm)
  have b2 : (64 = bc) = False := eq_false (fun e => hb64 e.symm)
  have b3 : (bc = 384) = False := eq_false hb384
  have b4 : (bc = 64) = False := eq_false hb64
  have w := run_noneS (n := n) (by omega) (.mk nk nop nas nks)
  by_cases hK1 : K.length = 1
  · obtain ⟨kid, rfl⟩ : ∃ x, K = [x] := by
      match K, hK1 with
      | [x], _ => exact ⟨x, rfl⟩
    obtain ⟨⟨kk, ko, ka, kn⟩, kc, ks⟩ := kid
    have hkid := hKr _ (List.mem_singleton.2 rfl)
    obtain ⟨q1, q2, q3, q4, q5⟩ := arm_right hkid
    have q5' := (armsWrong_all _).1 q5
    have hcl := elsWt_len C
    have hkl := elsWt_len kc
    simp only [armsWt, Arm.wt] at hwt hk
    obtain ⟨m, rfl⟩ : ∃ m, n = m + 1 := ⟨n - 1, by omega⟩
    have wk := run_noneS (n := m + 1) (by omega) (.mk kk ko ka kn)
    have wj := run_l9Join (n := m) (.mk nk nop nas nks) (.mk kk ko ka kn) hfn q2 (by omega) (by omega)
    have hjf := join_fine hfn q2
    have hsq0 := hsq
    rw [squeeze] at hsq
    by_cases hcond : C.length = 0 ∨ Net.none (.mk kk ko ka kn) = true
    · rw [if_pos hcond] at hsq
      have rm : room (C.length + kc.length) 32 = true := room_of (by omega) (by omega)
      have al := eq_true (len_of2 kc)
      have tk : List.take C.length (elRows C) = elRows C := take_elRows C
      refine ⟨.normal, ?_⟩
      generalize hJ : (Net.mk nk nop nas nks).join (.mk kk ko ka kn) = J at wj hsq hjf
      obtain ⟨jk, jo, ja, jks⟩ := J
      have done : ∀ st' : St, st'.τ 2 = .w (.ptr 64 0) → st'.H 64 = .cells [iW 0, iW 0, .nil, .nil, .nil, .nil] → st'.τ 3 = .w (.ptr 384 0) → 384 < st'.g → ∀ bc' cap', st'.H 384 = .cells [iW jk, iW jo, asW ja, nsW jks, .own bc' 0 (C.length + kc.length) cap', ksW ks] → st'.H bc' = .row none 2 (elRows C ++ elRows kc) 0 → bc' ≠ 64 → bc' ≠ 384 → bc' < st'.g → ∃ k', k' < k ∧ SqSEx R B k' st' := by
        intro st' e1 e2 e3 e4 bc' cap' e5 e6 e7 e8 e9
        refine ⟨armsWt ks, by omega, jk, jo, ja, jks, C ++ kc, ks, Nat.le_refl _, hsq, hjf.1, q5', ?_, e1, e2, e3, e4, _, _, bc', cap', _, by rw [List.length_append]; exact e5, .inl ⟨rfl, rfl⟩, by rw [elRows_append]; exact e6, e7, e8, e9, .inl rfl⟩
        rw [elsWt_append]
        have := hjf.2
        omega
      have rm0 : room kc.length 32 = true := room_of (by omega) (by omega)
      have ar0 : argRows [] = [] := rfl
      have nr0 : netRows [] = [] := by simp [netRows]
      have g64 : (64 < g) = True := eq_true (by omega)
      have hCC : C.length = 0 ∨ (¬ C.length = 0 ∧ Net.none (.mk kk ko ka kn) = true) := by
        rcases hcond with h | h
        · exact .inl h
        · by_cases h0 : C.length = 0
          · exact .inl h0
          · exact .inr ⟨h0, h⟩
      rcases hnet with ⟨rfl, rfl⟩ | ⟨rfl, rfl, rfl, rfl, rfl, rfl⟩
      · rcases hkw with rfl | ⟨_, h⟩ | ⟨bk, k1, k2, k3, k4, rfl, k5⟩
        · rcases hCC with hC0 | ⟨hC0, hz2⟩
          · have hC0i : ((C.length : Int) = 0) = True := eq_true (by omega)
            simp [-getElem?_pos, F211_B1, h2, hC, h3, hA, hB, wj, al, rm, rm0, hC0, hC0i, armRows, Arm.row, g64, b1, b2, b3, b4, fgX, fzX, fbX]
            exact done _ (by simp [h2]) (by simp [hC, b1, b2, b3, b4, fgX, fzX, fbX]) (by simp [h3]) (by simp only; omega) (g + 1152 + 384 + 448 + 256) none (by simp [hC0, show C = [] from List.eq_nil_of_length_eq_zero hC0, b1, b2, b3, b4, fgX, fzX, fbX]) (by simp [hC0, show C = [] from List.eq_nil_of_length_eq_zero hC0, b1, b2, b3, b4, fgX, fzX, fbX]) (by omega) (by omega) (by simp only; omega)
          · rw [hz2] at wk
            have hC0i : ((C.length : Int) = 0) = False := eq_false (by omega)
            have hCe : C ≠ [] := fun e => hC0 (by rw [e]; rfl)
            simp [-getElem?_pos, F211_B1, h2, hC, h3, hA, hB, wj, wk, al, rm, rm0, hC0, hC0i, hCe, armRows, Arm.row, g64, b1, b2, b3, b4, fgX, fzX, fbX]
            exact done _ (by simp [h2]) (by simp [hC, b1, b2, b3, b4, fgX, fzX, fbX]) (by simp [h3]) (by simp only; omega) (g + 1152 + 384 + 448 + 256) none (by simp [hC0, b1, b2, b3, b4, fgX, fzX, fbX]) (by simp [hC0, b1, b2, b3, b4, fgX, fzX, fbX]) (by omega) (by omega) (by simp only; omega)
        · cases h
        · have d1 : (384 = bk) = False := eq_false (fun e => k2 e.symm)
          have d2 : (bk = 384) = False := eq_false k2
          have d3 : (64 = bk) = False := eq_false (fun e => k1 e.symm)
          have d4 : (bk = bc) = False := eq_false k3
          have d5 : (bc = bk) = False := eq_false (fun e => k3 e.symm)
          rcases hCC with hC0 | ⟨hC0, hz2⟩
          · have hC0i : ((C.length : Int) = 0) = True := eq_true (by omega)
            simp [-getElem?_pos, F211_B1, h2, hC, h3, hA, hB, k5, d1, d2, d3, d4, d5, wj, al, rm, rm0, hC0, hC0i, armRows, Arm.row, g64, b1, b2, b3, b4, fgX, fzX, fbX]
            exact done _ (by simp [h2]) (by simp [hC, b1, b2, b3, b4, fgX, fzX, fbX]) (by simp [h3]) (by simp only; omega) (g + 1152 + 384 + 448 + 256) none (by simp [hC0, show C = [] from List.eq_nil_of_length_eq_zero hC0, b1, b2, b3, b4, fgX, fzX, fbX]) (by simp [hC0, show C = [] from List.eq_nil_of_length_eq_zero hC0, b1, b2, b3, b4, fgX, fzX, fbX]) (by omega) (by omega) (by simp only; omega)
          · rw [hz2] at wk
            have hC0i : ((C.length : Int) = 0) = False := eq_false (by omega)
            have hCe : C ≠ [] := fun e => hC0 (by rw [e]; rfl)
            simp [-getElem?_pos, F211_B1, h2, hC, h3, hA, hB, k5, d1, d2, d3, d4, d5, wj, wk, al, rm, rm0, hC0, hC0i, hCe, armRows, Arm.row, g64, b1, b2, b3, b4, fgX, fzX, fbX]
            exact done _ (by simp [h2]) (by simp [hC, b1, b2, b3, b4, fgX, fzX, fbX]) (by simp [h3]) (by simp only; omega) (g + 1152 + 384 + 448 + 256) none (by simp [hC0, b1, b2, b3, b4, fgX, fzX, fbX]) (by simp [hC0, b1, b2, b3, b4, fgX, fzX, fbX]) (by omega) (by omega) (by simp only; omega)
      · simp only [netX, asW, nsW, ar0, nr0] at wj
        rcases hkw with rfl | ⟨_, h⟩ | ⟨bk, k1, k2, k3, k4, rfl, k5⟩
        · rcases hCC with hC0 | ⟨hC0, hz2⟩
          · have hC0i : ((C.length : Int) = 0) = True := eq_true (by omega)
            simp [-getElem?_pos, F211_B1, h2, hC, h3, hA, hB, wj, al, rm, rm0, hC0, hC0i, armRows, Arm.row, g64, b1, b2, b3, b4, fgX, fzX, fbX]
            exact done _ (by simp [h2]) (by simp [hC, b1, b2, b3, b4, fgX, fzX, fbX]) (by simp [h3]) (by simp only; omega) (g + 1152 + 384 + 448 + 256) none (by simp [hC0, show C = [] from List.eq_nil_of_length_eq_zero hC0, b1, b2, b3, b4, fgX, fzX, fbX]) (by simp [hC0, show C = [] from List.eq_nil_of_length_eq_zero hC0, b1, b2, b3, b4, fgX, fzX, fbX]) (by omega) (by omega) (by simp only; omega)
          · rw [hz2] at wk
            have hC0i : ((C.length : Int) = 0) = False := eq_false (by omega)
            have hCe : C ≠ [] := fun e => hC0 (by rw [e]; rfl)
            simp [-getElem?_pos, F211_B1, h2, hC, h3, hA, hB, wj, wk, al, rm, rm0, hC0, hC0i, hCe, armRows, Arm.row, g64, b1, b2, b3, b4, fgX, fzX, fbX]
            exact done _ (by simp [h2]) (by simp [hC, b1, b2, b3, b4, fgX, fzX, fbX]) (by simp [h3]) (by simp only; omega) (g + 1152 + 384 + 448 + 256) none (by simp [hC0, b1, b2, b3, b4, fgX, fzX, fbX]) (by simp [hC0, b1, b2, b3, b4, fgX, fzX, fbX]) (by omega) (by omega) (by simp only; omega)
        · cases h
        · have d1 : (384 = bk) = False := eq_false (fun e => k2 e.symm)
          have d2 : (bk = 384) = False := eq_false k2
          have d3 : (64 = bk) = False := eq_false (fun e => k1 e.symm)
          have d4 : (bk = bc) = False := eq_false k3
          have d5 : (bc = bk) = False := eq_false (fun e => k3 e.symm)
          rcases hCC with hC0 | ⟨hC0, hz2⟩
          · have hC0i : ((C.length : Int) = 0) = True := eq_true (by omega)
            simp [-getElem?_pos, F211_B1, h2, hC, h3, hA, hB, k5, d1, d2, d3, d4, d5, wj, al, rm, rm0, hC0, hC0i, armRows, Arm.row, g64, b1, b2, b3, b4, fgX, fzX, fbX]
            exact done _ (by simp [h2]) (by simp [hC, b1, b2, b3, b4, fgX, fzX, fbX]) (by simp [h3]) (by simp only; omega) (g + 1152 + 384 + 448 + 256) none (by simp [hC0, show C = [] from List.eq_nil_of_length_eq_zero hC0, b1, b2, b3, b4, fgX, fzX, fbX]) (by simp [hC0, show C = [] from List.eq_nil_of_length_eq_zero hC0, b1, b2, b3, b4, fgX, fzX, fbX]) (by omega) (by omega) (by simp only; omega)
          · rw [hz2] at wk
            have hC0i : ((C.length : Int) = 0) = False := eq_false (by omega)
            have hCe : C ≠ [] := fun e => hC0 (by rw [e]; rfl)
            simp [-getElem?_pos, F211_B1, h2, hC, h3, hA, hB, k5, d1, d2, d3, d4, d5, wj, wk, al, rm, rm0, hC0, hC0i, hCe, armRows, Arm.row, g64, b1, b2, b3, b4, fgX, fzX, fbX]
            exact done _ (by simp [h2]) (by simp [hC, b1, b2, b3, b4, fgX, fzX, fbX]) (by simp [h3]) (by simp only; omega) (g + 1152 + 384 + 448 + 256) none (by simp [hC0, b1, b2, b3, b4, fgX, fzX, fbX]) (by simp [hC0, b1, b2, b3, b4, fgX, fzX, fbX]) (by omega) (by omega) (by simp only; omega)
    · rw [if_neg hcond] at hsq
      simp only [not_or, Bool.not_eq_true] at hcond
      obtain ⟨hC0, hz2⟩ := hcond
      rw [hz2] at wk
      have hCi : ((C.length : Int) = 0) = False := eq_false (by omega)
      have hCe : C ≠ [] := fun e => hC0 (by rw [e]; rfl)
      refine ⟨.exit 2, ?_⟩
      rcases hkw with rfl | ⟨_, h⟩ | ⟨bk, k1, k2, k3, k4, rfl, k5⟩
      · simp [-getElem?_pos, F211_B1, h2, hC, h3, hA, hB, wk, armRows, Arm.row, hC0, hCi, hCe]
        exact ⟨nk, nop, nas, nks, C, _, ⟨hsq0, hfn, hKr, by simp only [armsWt, Arm.wt]; omega, by simp [h2], hC, by simp [h3], by simp only; omega, ca, ck, bc, cap, _, hA, hnet, hB, hb64, hb384, by simp only; omega, .inl rfl⟩, hsq.symm⟩
      · cases h
      · have d1 : (384 = bk) = False := eq_false (fun e => k2 e.symm)
        have d2 : (bk = 384) = False := eq_false k2
        simp [-getElem?_pos, F211_B1, h2, hC, h3, hA, hB, k5, d1, d2, wk, armRows, Arm.row, hC0, hCi, hCe]
        exact ⟨nk, nop, nas, nks, C, _, ⟨hsq0, hfn, hKr, by simp only [armsWt, Arm.wt]; omega, by simp [h2], hC, by simp [h3], by simp only; omega, ca, ck, bc, cap, _, hA, hnet, hB, hb64, hb384, by simp only; omega, .inr (.inr ⟨bk, k1, k2, k3, by simp only; omega, rfl, k5⟩)⟩, hsq.symm⟩
  · have hKi : ((K.length : Int) = 1) = False := eq_false (by omega)
    have hfix : squeeze (.mk nk nop nas nks) C K = .mk (.mk nk nop nas nks) C K := by
      match K, hK1 with
      | [], _ => rw [squeeze]; simp
      | a :: b :: r, _ => rw [squeeze]; simp
    refine ⟨.exit 2, ?_⟩
    rcases hkw with rfl | ⟨rfl, rfl⟩ | ⟨bk, k1, k2, k3, k4, rfl, k5⟩
    · simp [-getElem?_pos, F211_B1, h2, hC, h3, hA, hB, hK1, hKi]
      exact ⟨nk, nop, nas, nks, C, K, ⟨hsq, hfn, hKr, hwt, by simp [h2], hC, by simp [h3], by simp only; omega, ca, ck, bc, cap, _, hA, hnet, hB, hb64, hb384, by simp only; omega, .inl rfl⟩, by rw [← hsq, hfix]⟩
    · simp [-getElem?_pos, F211_B1, h2, hC, h3, hA, hB]
      exact ⟨nk, nop, nas, nks, C, [], ⟨hsq, hfn, hKr, hwt, by simp [h2], hC, by simp [h3], by simp only; omega, ca, ck, bc, cap, _, hA, hnet, hB, hb64, hb384, by simp only; omega, .inr (.inl ⟨rfl, rfl⟩)⟩, by rw [← hsq, hfix]⟩
    · simp [-getElem?_pos, F211_B1, h2, hC, h3, hA, hB, k5, hK1, hKi]
      exact ⟨nk, nop, nas, nks, C, K, ⟨hsq, hfn, hKr, hwt, by simp [h2], hC, by simp [h3], by simp only; omega, ca, ck, bc, cap, _, hA, hnet, hB, hb64, hb384, by simp only; omega, .inr (.inr ⟨bk, k1, k2, k3, by simp only; omega, rfl, k5⟩)⟩, by rw [← hsq, hfix]⟩

end Go.VM

/- The normal form of an arm, as the document has it: it is the plain one. Conditions: none. -/
namespace Go.VM
set_option linter.unusedSimpArgs false
set_option linter.unusedVariables false
set_option maxHeartbeats 16000000

theorem run_l9Arm : ∀ (m : Nat) (a : Arm), a.wt ≤ m → m < 2 ^ 26 → ∀ b, a.wrong b = 0 → ∀ (n : Nat), 4 * m + 200 ≤ n → ∀ s, go n 211 [armX a] [] s = some ⟨armX a.norm, [], []⟩
  | 0, t, h, hm, b, hr, n, hn, s => by have := t.wt_pos; omega
  | m + 1, .mk (.mk k op as nks) cs ks, h, hm, b, hr, n, hn, s => by
    obtain ⟨n, rfl⟩ : ∃ k, n = k + 1 := ⟨n - 1, by omega⟩
    obtain ⟨r1, r2, r3, r4, r5⟩ := arm_right hr
    have r5' := (armsWrong_all _).1 r5
    have hlen := armsWt_len ks
    have hcl := elsWt_len cs
    have hwt := h
    simp only [Arm.wt] at h
    have hc : ∀ x ∈ ks, ∀ s, go n 211 [armX x] [] s = some ⟨armX x.norm, [], []⟩ := fun x hx s => run_l9Arm m x (by have := armsWt_mem hx; omega) (by omega) false (r5' x hx) n (by omega) s
    have w1 := run_noneS (n := n) (by omega) (.mk k op as nks)
    have w2 := run_l9Coils (n := n - 1) cs (by omega) (by omega)
    rw [show n - 1 + 1 = n by omega] at w2
    have hkn := arms_norm_ok ks r5'
    have e0 : Arm.norm (.mk (.mk k op as nks) cs ks) = squeeze (if Net.none (.mk k op as nks) then .mk k op as nks else Net.norm (.mk k op as nks)) cs (armsNorm ks) := by simp [Arm.norm]
    rw [e0]
    have key : ∀ (st2 : St) (nk nop : Int) (nas : List Arg) (nks2 : List Net) (ca ck kw : W), NetAt ca ck nk nop nas nks2 → NetFine (.mk nk nop nas nks2) → Net.wt (.mk nk nop nas nks2) ≤ Net.wt (.mk k op as nks) → st2.τ 2 = .w (.ptr 64 0) → st2.H 64 = .cells [iW 0, iW 0, .nil, .nil, .nil, .nil] → st2.τ 3 = .w (.ptr 384 0) →
        st2.H 384 = .cells [iW nk, iW nop, ca, ck, .own 256 0 cs.length (eCap cs), kw] → st2.H 256 = .row none 2 (elRows cs) 0 → 384 < st2.g → ASlot st2.H st2.g 384 256 kw (armsNorm ks) →
        ∃ e st', execC (go n) mode GT false 74 n F211_L1 st2 = some (e, st') ∧ e ≠ .normal ∧ (e = .exit 2 ∧ SqSFin (squeeze (.mk nk nop nas nks2) cs (armsNorm ks)) (m + 1) st') := by
      intro st2 nk nop nas nks2 ca ck kw hnet hf hw e1 e2 e3 e4 e5 e6 e7
      refine loop211_1 (squeeze (.mk nk nop nas nks2) cs (armsNorm ks)) (m + 1) (by omega) (by omega) st2 (armsWt (armsNorm ks)) (by have := hkn.2.2; omega)
        ⟨nk, nop, nas, nks2, cs, armsNorm ks, Nat.le_refl _, rfl, hf, fun a ha => (hkn.1 a ha).1, by have := hkn.2.2; omega, e1, e2, e3, e6, ca, ck, 256, eCap cs, kw, e4, hnet, e5, by omega, by omega, by omega, ?_⟩
      rcases e7 with ⟨f1, f2⟩ | ⟨bx, f1, f2, f3, f4, f5, f6⟩
      · exact .inr (.inl ⟨f2, f1⟩)
      · exact .inr (.inr ⟨bx, by omega, by omega, f2, f4, f5, f6⟩)

    cases hnn : Net.none (.mk k op as nks)
    · rw [hnn] at w1
      have hnr := fine_right r2 hnn
      have w3 := run_l9Net (m + 1) (.mk k op as nks) (by omega) (by omega) hnr n (by omega)
      have hno := norm_ok _ hnr
      simp only [Bool.false_eq_true, if_false]
      generalize Net.norm (.mk k op as nks) = N at w3 hno
      obtain ⟨nk, nop, nas, nks2⟩ := N
      have kf : NetFine (.mk nk nop nas nks2) := .inr hno.1
      have kw := hno.2.2.2
      simp [go_of FT_211 rfl, F211, w1, w2, w3]
      generalize hst : St.mk _ _ _ _ = st
      obtain ⟨e, ⟨τ', H', g', s'⟩, hx, -, rfl, h2, h3, hC, hD, hbc, hgg, cw, hB, hcw⟩ := loop211_0 (n := n) ks (iW nk) (iW nop) (asW nas) (nsW nks2) (.own 256 0 cs.length (eCap cs)) _ (.cells [iW 0, iW 0, .nil, .nil, .nil, .nil]) (.row none 2 (elRows cs) 0) (iW k) (iW op) (asW as) (nsW nks) (csW cs) 64 384 256 (by omega) (by omega) (by omega) rfl hc (by omega) (by omega) st (by simp [← hst]) (by simp [← hst]) (by simp [← hst]) (by simp [← hst]) (by simp [← hst]) (by simp [← hst]) (by simp [← hst]) (by simp [← hst]) (by simp [← hst]) (by simp [← hst])
      simp only at h2 h3 hC hD hbc hgg hB hcw
      clear hst
      simp [hx]
      generalize hst2 : St.mk _ _ _ _ = st2
      obtain ⟨e, ⟨τ3, H3, g3, s3⟩, hx3, -, rfl, hf⟩ := key st2 nk nop nas nks2 (asW nas) (nsW nks2) cw (.inl ⟨rfl, rfl⟩) kf kw (by simp [← hst2, h2]) (by simp [← hst2, hC]) (by simp [← hst2, h3]) (by simp [← hst2, hB]) (by simp [← hst2, hD]) (by simp [← hst2]; try omega) (by subst hst2; exact hcw)
      obtain ⟨c0, c1, c2, c3, C, K, ⟨k1, k2', k3', k4, k5, kC, k7, k8, ca, ck, bc, cap, kw', kA, hnet, kB, q1, q2, q3, hkw⟩, hR⟩ := hf
      simp only at k5 kC k7 k8 kA kB hkw q3
      rw [hR]
      have b1 : (384 = bc) = False := eq_false (fun e => q2 e.symm)
      have b2 : (64 = bc) = False := eq_false (fun e => q1 e.symm)
      have b3 : (bc = 384) = False := eq_false q2
      have b4 : (bc = 64) = False := eq_false q1
      rcases hnet with ⟨rfl, rfl⟩ | ⟨rfl, rfl, rfl, rfl, rfl, rfl⟩
      · rcases hkw with rfl | ⟨rfl, rfl⟩ | ⟨bk, d1, d2, d3, d4, rfl, hKB⟩
        · simp [hx3, k5, kC, k7, kA, kB, b1, b2, b3, b4]
        · simp [hx3, k5, kC, k7, kA, kB, b1, b2, b3, b4, armRows]
        · have d5 : (384 = bk) = False := eq_false (fun e => d2 e.symm)
          have d6 : (bk = 384) = False := eq_false d2
          have d7 : (64 = bk) = False := eq_false (fun e => d1 e.symm)
          have d8 : (bk = 64) = False := eq_false d1
          have d9 : (bk = bc) = False := eq_false d3
          have d10 : (bc = bk) = False := eq_false (fun e => d3 e.symm)
          simp [hx3, k5, kC, k7, kA, kB, hKB, b1, b2, b3, b4, d5, d6, d7, d8, d9, d10]
      · rcases hkw with rfl | ⟨rfl, rfl⟩ | ⟨bk, d1, d2, d3, d4, rfl, hKB⟩
        · simp [hx3, k5, kC, k7, kA, kB, b1, b2, b3, b4, argRows, netRows]
        · simp [hx3, k5, kC, k7, kA, kB, b1, b2, b3, b4, argRows, netRows, armRows]
        · have d5 : (384 = bk) = False := eq_false (fun e => d2 e.symm)
          have d6 : (bk = 384) = False := eq_false d2
          have d7 : (64 = bk) = False := eq_false (fun e => d1 e.symm)
          have d8 : (bk = 64) = False := eq_false d1
          have d9 : (bk = bc) = False := eq_false d3
          have d10 : (bc = bk) = False := eq_false (fun e => d3 e.symm)
          simp [hx3, k5, kC, k7, kA, kB, hKB, b1, b2, b3, b4, d5, d6, d7, d8, d9, d10, argRows, netRows]

    · rw [hnn] at w1
      have hno := Net.none_eq hnn
      have kf : NetFine (.mk 0 0 [] []) := .inl (by decide)
      have e1 : squeeze (.mk k op as nks) cs (armsNorm ks) = squeeze (.mk 0 0 [] []) cs (armsNorm ks) := by rw [hno]
      simp only [if_true]
      rw [e1]
      simp [go_of FT_211 rfl, F211, w1, w2]
      generalize hst : St.mk _ _ _ _ = st
      obtain ⟨e, ⟨τ', H', g', s'⟩, hx, -, rfl, h2, h3, hC, hD, hbc, hgg, cw, hB, hcw⟩ := loop211_0 (n := n) ks (iW 0) (iW 0) .nil .nil (.own 256 0 cs.length (eCap cs)) _ (.cells [iW 0, iW 0, .nil, .nil, .nil, .nil]) (.row none 2 (elRows cs) 0) (iW k) (iW op) (asW as) (nsW nks) (csW cs) 64 384 256 (by omega) (by omega) (by omega) rfl hc (by omega) (by omega) st (by simp [← hst]) (by simp [← hst]) (by simp [← hst]) (by simp [← hst]) (by simp [← hst]) (by simp [← hst]) (by simp [← hst]) (by simp [← hst]) (by simp [← hst]) (by simp [← hst])
      simp only at h2 h3 hC hD hbc hgg hB hcw
      clear hst
      simp [hx]
      generalize hst2 : St.mk _ _ _ _ = st2
      obtain ⟨e, ⟨τ3, H3, g3, s3⟩, hx3, -, rfl, hf⟩ := key st2 0 0 [] [] .nil .nil cw (.inr ⟨rfl, rfl, rfl, rfl, rfl, rfl⟩) kf (by rw [hno]; exact Nat.le_refl _) (by simp [← hst2, h2]) (by simp [← hst2, hC]) (by simp [← hst2, h3]) (by simp [← hst2, hB]) (by simp [← hst2, hD]) (by simp [← hst2]; try omega) (by subst hst2; exact hcw)
      obtain ⟨c0, c1, c2, c3, C, K, ⟨k1, k2', k3', k4, k5, kC, k7, k8, ca, ck, bc, cap, kw', kA, hnet, kB, q1, q2, q3, hkw⟩, hR⟩ := hf
      simp only at k5 kC k7 k8 kA kB hkw q3
      rw [hR]
      have b1 : (384 = bc) = False := eq_false (fun e => q2 e.symm)
      have b2 : (64 = bc) = False := eq_false (fun e => q1 e.symm)
      have b3 : (bc = 384) = False := eq_false q2
      have b4 : (bc = 64) = False := eq_false q1
      rcases hnet with ⟨rfl, rfl⟩ | ⟨rfl, rfl, rfl, rfl, rfl, rfl⟩
      · rcases hkw with rfl | ⟨rfl, rfl⟩ | ⟨bk, d1, d2, d3, d4, rfl, hKB⟩
        · simp [hx3, k5, kC, k7, kA, kB, b1, b2, b3, b4]
        · simp [hx3, k5, kC, k7, kA, kB, b1, b2, b3, b4, armRows]
        · have d5 : (384 = bk) = False := eq_false (fun e => d2 e.symm)
          have d6 : (bk = 384) = False := eq_false d2
          have d7 : (64 = bk) = False := eq_false (fun e => d1 e.symm)
          have d8 : (bk = 64) = False := eq_false d1
          have d9 : (bk = bc) = False := eq_false d3
          have d10 : (bc = bk) = False := eq_false (fun e => d3 e.symm)
          simp [hx3, k5, kC, k7, kA, kB, hKB, b1, b2, b3, b4, d5, d6, d7, d8, d9, d10]
      · rcases hkw with rfl | ⟨rfl, rfl⟩ | ⟨bk, d1, d2, d3, d4, rfl, hKB⟩
        · simp [hx3, k5, kC, k7, kA, kB, b1, b2, b3, b4, argRows, netRows]
        · simp [hx3, k5, kC, k7, kA, kB, b1, b2, b3, b4, argRows, netRows, armRows]
        · have d5 : (384 = bk) = False := eq_false (fun e => d2 e.symm)
          have d6 : (bk = 384) = False := eq_false d2
          have d7 : (64 = bk) = False := eq_false (fun e => d1 e.symm)
          have d8 : (bk = 64) = False := eq_false d1
          have d9 : (bk = bc) = False := eq_false d3
          have d10 : (bc = bk) = False := eq_false (fun e => d3 e.symm)
          simp [hx3, k5, kC, k7, kA, kB, hKB, b1, b2, b3, b4, d5, d6, d7, d8, d9, d10, argRows, netRows]

end Go.VM
