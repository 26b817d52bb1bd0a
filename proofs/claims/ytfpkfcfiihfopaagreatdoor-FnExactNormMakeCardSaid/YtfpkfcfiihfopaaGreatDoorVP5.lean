/- The normal form of an arm, as the document has it: it is the plain one. Conditions: none. -/
import Derived.Test.YtfpkfcfiihfopaaGreatDoorVZ10
import Derived.Test.YtfpkfcfiihfopaaGreatDoorVY8
import Derived.Test.YtfpkfcfiihfopaaGreatDoorVS2

namespace Go.VM
set_option linter.unusedSimpArgs false
set_option linter.unusedVariables false
set_option maxHeartbeats 16000000
theorem run_l9Arm : ∀ (m : Nat) (a : Arm), a.wt ≤ m → m < 2 ^ 26 → ∀ b, a.wrong b = 0 → ∀ (n : Nat), 4 * m + 200 ≤ n → ∀ s, go n 211 [armX a] [] s = some ⟨armX a.norm, [], []⟩
 | 0, t, h, hm, b, hr, n, hn, s => by have := t.wt_pos; omega
 | m + 1, .mk (.mk k op as nks) cs ks, h, hm, b, hr, n, hn, s => by
  obtain ⟨n, rfl⟩ : ∃ k, n = k + 1 := ⟨n - 1, by omega⟩; obtain ⟨r1, r2, r3, r4, r5⟩ := arm_right hr; have r5' := (armsWrong_all _).1 r5; have hlen := armsWt_len ks; have hcl := elsWt_len cs; have hwt := h; simp only [Arm.wt] at h; have hc : ∀ x ∈ ks, ∀ s, go n 211 [armX x] [] s = some ⟨armX x.norm, [], []⟩ := fun x hx s => run_l9Arm m x (by have := armsWt_mem hx; omega) (by omega) false (r5' x hx) n (by omega) s
  have w1 := run_noneS (n := n) (by omega) (.mk k op as nks); have w2 := run_l9Coils (n := n - 1) cs (by omega) (by omega); rw [show n - 1 + 1 = n by omega] at w2; have hkn := arms_norm_ok ks r5'; have e0 : Arm.norm (.mk (.mk k op as nks) cs ks) = squeeze (if Net.none (.mk k op as nks) then .mk k op as nks else Net.norm (.mk k op as nks)) cs (armsNorm ks) := by simp [Arm.norm]
  rw [e0]; have key : ∀ (st2 : St) (nk nop : Int) (nas : List Arg) (nks2 : List Net) (ca ck kw : W), NetAt ca ck nk nop nas nks2 → NetFine (.mk nk nop nas nks2) → Net.wt (.mk nk nop nas nks2) ≤ Net.wt (.mk k op as nks) → st2.τ 2 = .w (.ptr 64 0) → st2.H 64 = .cells [iW 0, iW 0, .nil, .nil, .nil, .nil] → st2.τ 3 = .w (.ptr 384 0) →
   st2.H 384 = .cells [iW nk, iW nop, ca, ck, .own 256 0 cs.length (eCap cs), kw] → st2.H 256 = .row none 2 (elRows cs) 0 → 384 < st2.g → ASlot st2.H st2.g 384 256 kw (armsNorm ks) →
   ∃ e st', execC (go n) mode GT false 74 n F211_L1 st2 = some (e, st') ∧ e ≠ .normal ∧ (e = .exit 2 ∧ SqSFin (squeeze (.mk nk nop nas nks2) cs (armsNorm ks)) (m + 1) st') := by
   intro st2 nk nop nas nks2 ca ck kw hnet hf hw e1 e2 e3 e4 e5 e6 e7; refine loop211_1 (squeeze (.mk nk nop nas nks2) cs (armsNorm ks)) (m + 1) (by omega) (by omega) st2 (armsWt (armsNorm ks)) (by have := hkn.2.2; omega)
    ⟨nk, nop, nas, nks2, cs, armsNorm ks, Nat.le_refl _, rfl, hf, fun a ha => (hkn.1 a ha).1, by have := hkn.2.2; omega, e1, e2, e3, e6, ca, ck, 256, eCap cs, kw, e4, hnet, e5, by omega, by omega, by omega, ?_⟩
   rcases e7 with ⟨f1, f2⟩ | ⟨bx, f1, f2, f3, f4, f5, f6⟩
   · exact .inr (.inl ⟨f2, f1⟩)
   · exact .inr (.inr ⟨bx, by omega, by omega, f2, f4, f5, f6⟩)
  cases hnn : Net.none (.mk k op as nks)
  · rw [hnn] at w1
    have hnr := fine_right r2 hnn; have w3 := run_l9Net (m + 1) (.mk k op as nks) (by omega) (by omega) hnr n (by omega); have hno := norm_ok _ hnr; simp only [Bool.false_eq_true, if_false]; generalize Net.norm (.mk k op as nks) = N at w3 hno; obtain ⟨nk, nop, nas, nks2⟩ := N; have kf : NetFine (.mk nk nop nas nks2) := .inr hno.1; have kw := hno.2.2.2; simp [go_of FT_211 rfl, F211, w1, w2, w3]; generalize hst : St.mk _ _ _ _ = st
    obtain ⟨e, ⟨τ', H', g', s'⟩, hx, -, rfl, h2, h3, hC, hD, hbc, hgg, cw, hB, hcw⟩ := loop211_0 (n := n) ks (iW nk) (iW nop) (asW nas) (nsW nks2) (.own 256 0 cs.length (eCap cs)) _ (.cells [iW 0, iW 0, .nil, .nil, .nil, .nil]) (.row none 2 (elRows cs) 0) (iW k) (iW op) (asW as) (nsW nks) (csW cs) 64 384 256 (by omega) (by omega) (by omega) rfl hc (by omega) (by omega) st (by simp [← hst]) (by simp [← hst]) (by simp [← hst]) (by simp [← hst]) (by simp [← hst]) (by simp [← hst]) (by simp [← hst]) (by simp [← hst]) (by simp [← hst]) (by simp [← hst]); simp only at h2 h3 hC hD hbc hgg hB hcw; clear hst; simp [hx]; generalize hst2 : St.mk _ _ _ _ = st2
    obtain ⟨e, ⟨τ3, H3, g3, s3⟩, hx3, -, rfl, hf⟩ := key st2 nk nop nas nks2 (asW nas) (nsW nks2) cw (.inl ⟨rfl, rfl⟩) kf kw (by simp [← hst2, h2]) (by simp [← hst2, hC]) (by simp [← hst2, h3]) (by simp [← hst2, hB]) (by simp [← hst2, hD]) (by simp [← hst2]; try omega) (by subst hst2; exact hcw); obtain ⟨c0, c1, c2, c3, C, K, ⟨k1, k2', k3', k4, k5, kC, k7, k8, ca, ck, bc, cap, kw', kA, hnet, kB, q1, q2, q3, hkw⟩, hR⟩ := hf; simp only at k5 kC k7 k8 kA kB hkw q3; rw [hR]; have b1 : (384 = bc) = False := eq_false (fun e => q2 e.symm); have b2 : (64 = bc) = False := eq_false (fun e => q1 e.symm); have b3 : (bc = 384) = False := eq_false q2; have b4 : (bc = 64) = False := eq_false q1
    rcases hnet with ⟨rfl, rfl⟩ | ⟨rfl, rfl, rfl, rfl, rfl, rfl⟩
    · rcases hkw with rfl | ⟨rfl, rfl⟩ | ⟨bk, d1, d2, d3, d4, rfl, hKB⟩
      · simp [hx3, k5, kC, k7, kA, kB, b1, b2, b3, b4]
      · simp [hx3, k5, kC, k7, kA, kB, b1, b2, b3, b4, armRows]
      · have d5 : (384 = bk) = False := eq_false (fun e => d2 e.symm)
        have d6 : (bk = 384) = False := eq_false d2; have d7 : (64 = bk) = False := eq_false (fun e => d1 e.symm); have d8 : (bk = 64) = False := eq_false d1; have d9 : (bk = bc) = False := eq_false d3; have d10 : (bc = bk) = False := eq_false (fun e => d3 e.symm); simp [hx3, k5, kC, k7, kA, kB, hKB, b1, b2, b3, b4, d5, d6, d7, d8, d9, d10]
    · rcases hkw with rfl | ⟨rfl, rfl⟩ | ⟨bk, d1, d2, d3, d4, rfl, hKB⟩
      · simp [hx3, k5, kC, k7, kA, kB, b1, b2, b3, b4, argRows, netRows]
      · simp [hx3, k5, kC, k7, kA, kB, b1, b2, b3, b4, argRows, netRows, armRows]
      · have d5 : (384 = bk) = False := eq_false (fun e => d2 e.symm)
        have d6 : (bk = 384) = False := eq_false d2; have d7 : (64 = bk) = False := eq_false (fun e => d1 e.symm); have d8 : (bk = 64) = False := eq_false d1; have d9 : (bk = bc) = False := eq_false d3; have d10 : (bc = bk) = False := eq_false (fun e => d3 e.symm); simp [hx3, k5, kC, k7, kA, kB, hKB, b1, b2, b3, b4, d5, d6, d7, d8, d9, d10, argRows, netRows]
  · rw [hnn] at w1
    have hno := Net.none_eq hnn; have kf : NetFine (.mk 0 0 [] []) := .inl (by decide); have e1 : squeeze (.mk k op as nks) cs (armsNorm ks) = squeeze (.mk 0 0 [] []) cs (armsNorm ks) := by rw [hno]
    simp only [if_true]; rw [e1]; simp [go_of FT_211 rfl, F211, w1, w2]; generalize hst : St.mk _ _ _ _ = st; obtain ⟨e, ⟨τ', H', g', s'⟩, hx, -, rfl, h2, h3, hC, hD, hbc, hgg, cw, hB, hcw⟩ := loop211_0 (n := n) ks (iW 0) (iW 0) .nil .nil (.own 256 0 cs.length (eCap cs)) _ (.cells [iW 0, iW 0, .nil, .nil, .nil, .nil]) (.row none 2 (elRows cs) 0) (iW k) (iW op) (asW as) (nsW nks) (csW cs) 64 384 256 (by omega) (by omega) (by omega) rfl hc (by omega) (by omega) st (by simp [← hst]) (by simp [← hst]) (by simp [← hst]) (by simp [← hst]) (by simp [← hst]) (by simp [← hst]) (by simp [← hst]) (by simp [← hst]) (by simp [← hst]) (by simp [← hst]); simp only at h2 h3 hC hD hbc hgg hB hcw; clear hst
    simp [hx]; generalize hst2 : St.mk _ _ _ _ = st2; obtain ⟨e, ⟨τ3, H3, g3, s3⟩, hx3, -, rfl, hf⟩ := key st2 0 0 [] [] .nil .nil cw (.inr ⟨rfl, rfl, rfl, rfl, rfl, rfl⟩) kf (by rw [hno]; exact Nat.le_refl _) (by simp [← hst2, h2]) (by simp [← hst2, hC]) (by simp [← hst2, h3]) (by simp [← hst2, hB]) (by simp [← hst2, hD]) (by simp [← hst2]; try omega) (by subst hst2; exact hcw); obtain ⟨c0, c1, c2, c3, C, K, ⟨k1, k2', k3', k4, k5, kC, k7, k8, ca, ck, bc, cap, kw', kA, hnet, kB, q1, q2, q3, hkw⟩, hR⟩ := hf; simp only at k5 kC k7 k8 kA kB hkw q3; rw [hR]; have b1 : (384 = bc) = False := eq_false (fun e => q2 e.symm); have b2 : (64 = bc) = False := eq_false (fun e => q1 e.symm)
    have b3 : (bc = 384) = False := eq_false q2; have b4 : (bc = 64) = False := eq_false q1; rcases hnet with ⟨rfl, rfl⟩ | ⟨rfl, rfl, rfl, rfl, rfl, rfl⟩
    · rcases hkw with rfl | ⟨rfl, rfl⟩ | ⟨bk, d1, d2, d3, d4, rfl, hKB⟩
      · simp [hx3, k5, kC, k7, kA, kB, b1, b2, b3, b4]
      · simp [hx3, k5, kC, k7, kA, kB, b1, b2, b3, b4, armRows]
      · have d5 : (384 = bk) = False := eq_false (fun e => d2 e.symm)
        have d6 : (bk = 384) = False := eq_false d2; have d7 : (64 = bk) = False := eq_false (fun e => d1 e.symm); have d8 : (bk = 64) = False := eq_false d1; have d9 : (bk = bc) = False := eq_false d3; have d10 : (bc = bk) = False := eq_false (fun e => d3 e.symm); simp [hx3, k5, kC, k7, kA, kB, hKB, b1, b2, b3, b4, d5, d6, d7, d8, d9, d10]
    · rcases hkw with rfl | ⟨rfl, rfl⟩ | ⟨bk, d1, d2, d3, d4, rfl, hKB⟩
      · simp [hx3, k5, kC, k7, kA, kB, b1, b2, b3, b4, argRows, netRows]
      · simp [hx3, k5, kC, k7, kA, kB, b1, b2, b3, b4, argRows, netRows, armRows]
      · have d5 : (384 = bk) = False := eq_false (fun e => d2 e.symm)
        have d6 : (bk = 384) = False := eq_false d2; have d7 : (64 = bk) = False := eq_false (fun e => d1 e.symm); have d8 : (bk = 64) = False := eq_false d1; have d9 : (bk = bc) = False := eq_false d3; have d10 : (bc = bk) = False := eq_false (fun e => d3 e.symm); simp [hx3, k5, kC, k7, kA, kB, hKB, b1, b2, b3, b4, d5, d6, d7, d8, d9, d10, argRows, netRows]
end Go.VM
