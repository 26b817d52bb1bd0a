/- Ladders brought to normal form, reckoned. Conditions: none. -/
import Derived.Test.YtcjdokngpmnkjaaDoorVQ11

namespace Go.VM
set_option linter.unusedSimpArgs false
set_option linter.unusedVariables false
set_option maxHeartbeats 16000000

theorem run_armNorm : ∀ (m : Nat) (a : Arm), a.wt ≤ m → m < 2 ^ 27 → ∀ b, a.wrong b = 0 → ∀ (n : Nat), 2 * m + 40 ≤ n → ∀ s, go n 146 [armX a] [] s = some ⟨armX a.norm, [], []⟩
  | 0, t, h, hm, b, hr, n, hn, s => by have := t.wt_pos; omega
  | m + 1, .mk (.mk k op as nks) cs ks, h, hm, b, hr, n, hn, s => by
    obtain ⟨n, rfl⟩ : ∃ k, n = k + 1 := ⟨n - 1, by omega⟩
    obtain ⟨r1, r2, r3, r4, r5⟩ := arm_right hr
    have r5' := (armsWrong_all _).1 r5
    have hlen := armsWt_len ks
    have hcl := elsWt_len cs
    have hwt := h
    simp only [Arm.wt] at h
    have hc : ∀ x ∈ ks, ∀ s, go n 146 [armX x] [] s = some ⟨armX x.norm, [], []⟩ := fun x hx s => run_armNorm m x (by have := armsWt_mem hx; omega) (by omega) false (r5' x hx) n (by omega) s
    have w1 := run_none (n := n) (by omega) (.mk k op as nks)
    have w2 := run_copyElems (n := n) cs (by omega) (by omega)
    have hrm : room ks.length 112 = true := room_of (by omega) (by omega)
    have hkn := arms_norm_ok ks r5'
    have e0 : Arm.norm (.mk (.mk k op as nks) cs ks) = squeeze (if Net.none (.mk k op as nks) then .mk k op as nks else Net.norm (.mk k op as nks)) cs (armsNorm ks) := by simp [Arm.norm]
    rw [e0]
    have key : ∀ (st2 : St) (nk nop : Int) (nas : List Arg) (nks2 : List Net) (ca ck : W), NetAt ca ck nk nop nas nks2 → NetFine (.mk nk nop nas nks2) → Net.wt (.mk nk nop nas nks2) ≤ Net.wt (.mk k op as nks) → st2.τ 2 = .w (.ptr 64 0) → st2.H 64 = .cells [iW 0, iW 0, .nil, .nil, .nil, .nil] → st2.τ 3 = .w (.ptr 640 0) →
        st2.H 640 = .cells [iW nk, iW nop, ca, ck, .own 256 0 cs.length (some cs.length), .own 512 0 ks.length (some ks.length)] → st2.H 256 = .row none 2 (elRows cs) 0 → st2.H 512 = .row none 6 (armRows (armsNorm ks)) 0 → 640 < st2.g →
        ∃ e st', execC (go n) mode GT false 91 n F146_L1 st2 = some (e, st') ∧ e ≠ .normal ∧ (e = .exit 2 ∧ SqFin (squeeze (.mk nk nop nas nks2) cs (armsNorm ks)) (m + 1) st') := by
      intro st2 nk nop nas nks2 ca ck hnet hf hw e1 e2 e3 e4 e5 e6 e7
      have hl2 : (armsNorm ks).length = ks.length := by simp [armsNorm_map]
      refine loop146_1 (squeeze (.mk nk nop nas nks2) cs (armsNorm ks)) (m + 1) (by omega) (by omega) st2 nk nop nas nks2 cs (armsNorm ks) (.own 512 0 ks.length (some ks.length)) 256 (some cs.length)
        ⟨rfl, hf, fun a ha => (hkn.1 a ha).1, by have := hkn.2.2; omega, e1, e2, e3, ⟨ca, ck, e4, hnet⟩, e5, .inl rfl, by omega, e7, .inr ⟨by rw [hl2], e6⟩⟩
    have close : ∀ (st' : St) (R : Arm), SqFin R (m + 1) st' → ∃ c0 c1 c2 c3 kw bc cap, st'.τ 2 = .w (.ptr 64 0) ∧ st'.H 64 = .cells [iW 0, iW 0, .nil, .nil, .nil, .nil] ∧ st'.τ 3 = .w (.ptr 640 0) ∧ ∃ C K, R = .mk (.mk c0 c1 c2 c3) C K ∧
        (∃ ca ck, st'.H 640 = .cells [iW c0, iW c1, ca, ck, .own bc 0 C.length cap, kw] ∧ NetAt ca ck c0 c1 c2 c3) ∧ st'.H bc = .row none 2 (elRows C) 0 ∧ (bc = 256 ∨ 640 < bc) ∧ (kw = ksW K ∨ (kw = .own 512 0 K.length (some K.length) ∧ st'.H 512 = .row none 6 (armRows K) 0)) := by
      rintro st' R ⟨nk, nop, nas, nks, C, K, kw, bc, cap, ⟨h1, h2, h3, h4, h5, h6, h7, h8, h9, h10, h11, h12, h13⟩, hR⟩
      exact ⟨nk, nop, nas, nks, kw, bc, cap, h5, h6, h7, C, K, hR, h8, h9, h10, h13⟩
    cases hnn : Net.none (.mk k op as nks)
    · rw [hnn] at w1
      have hnr := fine_right r2 hnn
      have w3 := run_netNorm (m + 1) (.mk k op as nks) (by omega) (by omega) hnr n (by omega)
      have hno := norm_ok _ hnr
      simp only [Bool.false_eq_true, if_false]
      generalize Net.norm (.mk k op as nks) = N at w3 hno
      obtain ⟨nk, nop, nas, nks2⟩ := N
      have kf : NetFine (.mk nk nop nas nks2) := .inr hno.1
      have kw := hno.2.2.2
      simp [go_of FT_146 rfl, F146, w1, w2, w3, hrm]
      generalize hst : St.mk _ _ _ _ = st
      obtain ⟨e, ⟨τ', H', g', s'⟩, hx, -, rfl, h2, hC, h3, hA, hD, hB, hgg⟩ := loop146_0 (n := n) ks hc (iW nk) (iW nop) (asW nas) (nsW nks2) cs (by omega) (by omega) st (by simp [← hst]) (by simp [← hst]) (by simp [← hst]) (by simp [← hst]) (by simp [← hst]) (by simp [← hst]) (by simp [← hst]) (by simp [← hst]) (by simp [← hst]) (by simp [← hst])
      simp only at h2 hC h3 hA hD hB hgg
      clear hst
      simp [hx]
      generalize hst2 : St.mk _ _ _ _ = st2
      obtain ⟨e, ⟨τ3, H3, g3, s3⟩, hx3, -, rfl, hf⟩ := key st2 nk nop nas nks2 (asW nas) (nsW nks2) (.inl ⟨rfl, rfl⟩) kf kw (by simp [← hst2, h2]) (by simp [← hst2, hC]) (by simp [← hst2, h3]) (by simp [← hst2, hA]) (by simp [← hst2, hD]) (by simp [← hst2, hB]) (by simp [← hst2]; try omega)
      obtain ⟨c0, c1, c2, c3, kw, bc, cap, k2, kC, k3, C, K, hR, ⟨ca, ck, kA, hnet⟩, kB, hbc, hkw⟩ := close _ _ hf
      simp only at k2 kC k3 kA kB hkw
      rw [hR]
      have b1 : (640 = bc) = False := eq_false (by omega)
      have b2 : (64 = bc) = False := eq_false (by omega)
      have b3 : (bc = 640) = False := eq_false (by omega)
      have b4 : (bc = 64) = False := eq_false (by omega)
      have b5 : (512 = bc) = False := eq_false (by omega)
      have b6 : (bc = 512) = False := eq_false (by omega)
      rcases hnet with ⟨rfl, rfl⟩ | ⟨rfl, rfl, rfl, rfl, rfl, rfl⟩
      · rcases hkw with rfl | ⟨rfl, hKB⟩
        · simp [hx3, k2, kC, k3, kA, kB, b1, b2, b3, b4, b5, b6]
        · simp [hx3, k2, kC, k3, kA, kB, hKB, b1, b2, b3, b4, b5, b6]
      · rcases hkw with rfl | ⟨rfl, hKB⟩
        · simp [hx3, k2, kC, k3, kA, kB, b1, b2, b3, b4, b5, b6, argRows, netRows]
        · simp [hx3, k2, kC, k3, kA, kB, hKB, b1, b2, b3, b4, b5, b6, argRows, netRows]
    · rw [hnn] at w1
      have hno := Net.none_eq hnn
      cases hno
      have kf : NetFine (.mk 0 0 [] []) := .inl hnn
      simp only [if_true]
      simp [go_of FT_146 rfl, F146, w1, w2, hrm]
      generalize hst : St.mk _ _ _ _ = st
      obtain ⟨e, ⟨τ', H', g', s'⟩, hx, -, rfl, h2, hC, h3, hA, hD, hB, hgg⟩ := loop146_0 (n := n) ks hc (iW 0) (iW 0) .nil .nil cs (by omega) (by omega) st (by simp [← hst]) (by simp [← hst]) (by simp [← hst]) (by simp [← hst]) (by simp [← hst]) (by simp [← hst]) (by simp [← hst]) (by simp [← hst]) (by simp [← hst]) (by simp [← hst])
      simp only at h2 hC h3 hA hD hB hgg
      clear hst
      simp [hx]
      generalize hst2 : St.mk _ _ _ _ = st2
      obtain ⟨e, ⟨τ3, H3, g3, s3⟩, hx3, -, rfl, hf⟩ := key st2 0 0 [] [] .nil .nil (.inr ⟨rfl, rfl, rfl, rfl, rfl, rfl⟩) kf (Nat.le_refl _) (by simp [← hst2, h2]) (by simp [← hst2, hC]) (by simp [← hst2, h3]) (by simp [← hst2, hA]) (by simp [← hst2, hD]) (by simp [← hst2, hB]) (by simp [← hst2]; try omega)
      obtain ⟨c0, c1, c2, c3, kw, bc, cap, k2, kC, k3, C, K, hR, ⟨ca, ck, kA, hnet⟩, kB, hbc, hkw⟩ := close _ _ hf
      simp only at k2 kC k3 kA kB hkw
      rw [hR]
      have b1 : (640 = bc) = False := eq_false (by omega)
      have b2 : (64 = bc) = False := eq_false (by omega)
      have b3 : (bc = 640) = False := eq_false (by omega)
      have b4 : (bc = 64) = False := eq_false (by omega)
      have b5 : (512 = bc) = False := eq_false (by omega)
      have b6 : (bc = 512) = False := eq_false (by omega)
      rcases hnet with ⟨rfl, rfl⟩ | ⟨rfl, rfl, rfl, rfl, rfl, rfl⟩
      · rcases hkw with rfl | ⟨rfl, hKB⟩
        · simp [hx3, k2, kC, k3, kA, kB, b1, b2, b3, b4, b5, b6]
        · simp [hx3, k2, kC, k3, kA, kB, hKB, b1, b2, b3, b4, b5, b6]
      · rcases hkw with rfl | ⟨rfl, hKB⟩
        · simp [hx3, k2, kC, k3, kA, kB, b1, b2, b3, b4, b5, b6, argRows, netRows]
        · simp [hx3, k2, kC, k3, kA, kB, hKB, b1, b2, b3, b4, b5, b6, argRows, netRows]
end Go.VM
