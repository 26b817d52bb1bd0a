/- Ladders brought to normal form, reckoned. Conditions: none. -/
import Derived.Test.YtfpkfcfiihfopaaGreatDoorVQ11
import Derived.Test.YtfpkfcfiihfopaaGreatDoorVQ10

namespace Go.VM
set_option linter.unusedSimpArgs false
set_option linter.unusedVariables false
set_option maxHeartbeats 16000000
theorem run_armNorm : ∀ (m : Nat) (a : Arm), a.wt ≤ m → m < 2 ^ 27 → ∀ b, a.wrong b = 0 → ∀ (n : Nat), 2 * m + 40 ≤ n → ∀ s, go n 146 [armX a] [] s = some ⟨armX a.norm, [], []⟩
 | 0, t, h, hm, b, hr, n, hn, s => by have := t.wt_pos; omega
 | m + 1, .mk (.mk k op as nks) cs ks, h, hm, b, hr, n, hn, s => by
  obtain ⟨n, rfl⟩ : ∃ k, n = k + 1 := ⟨n - 1, by omega⟩; obtain ⟨r1, r2, r3, r4, r5⟩ := arm_right hr; have r5' := (armsWrong_all _).1 r5; have hlen := armsWt_len ks; have hcl := elsWt_len cs; have hwt := h; simp only [Arm.wt] at h; have hc : ∀ x ∈ ks, ∀ s, go n 146 [armX x] [] s = some ⟨armX x.norm, [], []⟩ := fun x hx s => run_armNorm m x (by have := armsWt_mem hx; omega) (by omega) false (r5' x hx) n (by omega) s
  have w1 := run_none (n := n) (by omega) (.mk k op as nks); have w2 := run_copyElems (n := n) cs (by omega) (by omega); have hrm : room ks.length 112 = true := room_of (by omega) (by omega); have hkn := arms_norm_ok ks r5'; have e0 : Arm.norm (.mk (.mk k op as nks) cs ks) = squeeze (if Net.none (.mk k op as nks) then .mk k op as nks else Net.norm (.mk k op as nks)) cs (armsNorm ks) := by simp [Arm.norm]
  rw [e0]; have key : ∀ (st2 : St) (nk nop : Int) (nas : List Arg) (nks2 : List Net) (ca ck : W), NetAt ca ck nk nop nas nks2 → NetFine (.mk nk nop nas nks2) → Net.wt (.mk nk nop nas nks2) ≤ Net.wt (.mk k op as nks) → st2.τ 2 = .w (.ptr 64 0) → st2.H 64 = .cells [iW 0, iW 0, .nil, .nil, .nil, .nil] → st2.τ 3 = .w (.ptr 640 0) →
   st2.H 640 = .cells [iW nk, iW nop, ca, ck, .own 256 0 cs.length (some cs.length), .own 512 0 ks.length (some ks.length)] → st2.H 256 = .row none 2 (elRows cs) 0 → st2.H 512 = .row none 6 (armRows (armsNorm ks)) 0 → 640 < st2.g →
   ∃ e st', execC (go n) mode GT false 91 n F146_L1 st2 = some (e, st') ∧ e ≠ .normal ∧ (e = .exit 2 ∧ SqFin (squeeze (.mk nk nop nas nks2) cs (armsNorm ks)) (m + 1) st') := by
   intro st2 nk nop nas nks2 ca ck hnet hf hw e1 e2 e3 e4 e5 e6 e7; have hl2 : (armsNorm ks).length = ks.length := by simp [armsNorm_map]
   refine loop146_1 (squeeze (.mk nk nop nas nks2) cs (armsNorm ks)) (m + 1) (by omega) (by omega) st2 nk nop nas nks2 cs (armsNorm ks) (.own 512 0 ks.length (some ks.length)) 256 (some cs.length)
    ⟨rfl, hf, fun a ha => (hkn.1 a ha).1, by have := hkn.2.2; omega, e1, e2, e3, ⟨ca, ck, e4, hnet⟩, e5, .inl rfl, by omega, e7, .inr ⟨by rw [hl2], e6⟩⟩
  have close : ∀ (st' : St) (R : Arm), SqFin R (m + 1) st' → ∃ c0 c1 c2 c3 kw bc cap, st'.τ 2 = .w (.ptr 64 0) ∧ st'.H 64 = .cells [iW 0, iW 0, .nil, .nil, .nil, .nil] ∧ st'.τ 3 = .w (.ptr 640 0) ∧ ∃ C K, R = .mk (.mk c0 c1 c2 c3) C K ∧
   (∃ ca ck, st'.H 640 = .cells [iW c0, iW c1, ca, ck, .own bc 0 C.length cap, kw] ∧ NetAt ca ck c0 c1 c2 c3) ∧ st'.H bc = .row none 2 (elRows C) 0 ∧ (bc = 256 ∨ 640 < bc) ∧ (kw = ksW K ∨ (kw = .own 512 0 K.length (some K.length) ∧ st'.H 512 = .row none 6 (armRows K) 0)) := by
   rintro st' R ⟨nk, nop, nas, nks, C, K, kw, bc, cap, ⟨h1, h2, h3, h4, h5, h6, h7, h8, h9, h10, h11, h12, h13⟩, hR⟩; exact ⟨nk, nop, nas, nks, kw, bc, cap, h5, h6, h7, C, K, hR, h8, h9, h10, h13⟩
  cases hnn : Net.none (.mk k op as nks)
  · rw [hnn] at w1
    have hnr := fine_right r2 hnn; have w3 := run_netNorm (m + 1) (.mk k op as nks) (by omega) (by omega) hnr n (by omega); have hno := norm_ok _ hnr; simp only [Bool.false_eq_true, if_false]; generalize Net.norm (.mk k op as nks) = N at w3 hno; obtain ⟨nk, nop, nas, nks2⟩ := N; have kf : NetFine (.mk nk nop nas nks2) := .inr hno.1; have kw := hno.2.2.2; simp [go_of FT_146 rfl, F146, w1, w2, w3, hrm]; generalize hst : St.mk _ _ _ _ = st
    obtain ⟨e, ⟨τ', H', g', s'⟩, hx, -, rfl, h2, hC, h3, hA, hD, hB, hgg⟩ := loop146_0 (n := n) ks hc (iW nk) (iW nop) (asW nas) (nsW nks2) cs (by omega) (by omega) st (by simp [← hst]) (by simp [← hst]) (by simp [← hst]) (by simp [← hst]) (by simp [← hst]) (by simp [← hst]) (by simp [← hst]) (by simp [← hst]) (by simp [← hst]) (by simp [← hst]); simp only at h2 hC h3 hA hD hB hgg; clear hst; simp [hx]; generalize hst2 : St.mk _ _ _ _ = st2
    obtain ⟨e, ⟨τ3, H3, g3, s3⟩, hx3, -, rfl, hf⟩ := key st2 nk nop nas nks2 (asW nas) (nsW nks2) (.inl ⟨rfl, rfl⟩) kf kw (by simp [← hst2, h2]) (by simp [← hst2, hC]) (by simp [← hst2, h3]) (by simp [← hst2, hA]) (by simp [← hst2, hD]) (by simp [← hst2, hB]) (by simp [← hst2]; try omega); obtain ⟨c0, c1, c2, c3, kw, bc, cap, k2, kC, k3, C, K, hR, ⟨ca, ck, kA, hnet⟩, kB, hbc, hkw⟩ := close _ _ hf; simp only at k2 kC k3 kA kB hkw; rw [hR]; have b1 : (640 = bc) = False := eq_false (by omega); have b2 : (64 = bc) = False := eq_false (by omega); have b3 : (bc = 640) = False := eq_false (by omega); have b4 : (bc = 64) = False := eq_false (by omega)
    have b5 : (512 = bc) = False := eq_false (by omega); have b6 : (bc = 512) = False := eq_false (by omega); rcases hnet with ⟨rfl, rfl⟩ | ⟨rfl, rfl, rfl, rfl, rfl, rfl⟩
    · rcases hkw with rfl | ⟨rfl, hKB⟩
      · simp [hx3, k2, kC, k3, kA, kB, b1, b2, b3, b4, b5, b6]
      · simp [hx3, k2, kC, k3, kA, kB, hKB, b1, b2, b3, b4, b5, b6]
    · rcases hkw with rfl | ⟨rfl, hKB⟩
      · simp [hx3, k2, kC, k3, kA, kB, b1, b2, b3, b4, b5, b6, argRows, netRows]
      · simp [hx3, k2, kC, k3, kA, kB, hKB, b1, b2, b3, b4, b5, b6, argRows, netRows]
  · rw [hnn] at w1
    have hno := Net.none_eq hnn; cases hno
    have kf : NetFine (.mk 0 0 [] []) := .inl hnn; simp only [if_true]; simp [go_of FT_146 rfl, F146, w1, w2, hrm]; generalize hst : St.mk _ _ _ _ = st; obtain ⟨e, ⟨τ', H', g', s'⟩, hx, -, rfl, h2, hC, h3, hA, hD, hB, hgg⟩ := loop146_0 (n := n) ks hc (iW 0) (iW 0) .nil .nil cs (by omega) (by omega) st (by simp [← hst]) (by simp [← hst]) (by simp [← hst]) (by simp [← hst]) (by simp [← hst]) (by simp [← hst]) (by simp [← hst]) (by simp [← hst]) (by simp [← hst]) (by simp [← hst]); simp only at h2 hC h3 hA hD hB hgg; clear hst; simp [hx]; generalize hst2 : St.mk _ _ _ _ = st2
    obtain ⟨e, ⟨τ3, H3, g3, s3⟩, hx3, -, rfl, hf⟩ := key st2 0 0 [] [] .nil .nil (.inr ⟨rfl, rfl, rfl, rfl, rfl, rfl⟩) kf (Nat.le_refl _) (by simp [← hst2, h2]) (by simp [← hst2, hC]) (by simp [← hst2, h3]) (by simp [← hst2, hA]) (by simp [← hst2, hD]) (by simp [← hst2, hB]) (by simp [← hst2]; try omega); obtain ⟨c0, c1, c2, c3, kw, bc, cap, k2, kC, k3, C, K, hR, ⟨ca, ck, kA, hnet⟩, kB, hbc, hkw⟩ := close _ _ hf; simp only at k2 kC k3 kA kB hkw; rw [hR]; have b1 : (640 = bc) = False := eq_false (by omega); have b2 : (64 = bc) = False := eq_false (by omega); have b3 : (bc = 640) = False := eq_false (by omega); have b4 : (bc = 64) = False := eq_false (by omega)
    have b5 : (512 = bc) = False := eq_false (by omega); have b6 : (bc = 512) = False := eq_false (by omega); rcases hnet with ⟨rfl, rfl⟩ | ⟨rfl, rfl, rfl, rfl, rfl, rfl⟩
    · rcases hkw with rfl | ⟨rfl, hKB⟩
      · simp [hx3, k2, kC, k3, kA, kB, b1, b2, b3, b4, b5, b6]
      · simp [hx3, k2, kC, k3, kA, kB, hKB, b1, b2, b3, b4, b5, b6]
    · rcases hkw with rfl | ⟨rfl, hKB⟩
      · simp [hx3, k2, kC, k3, kA, kB, b1, b2, b3, b4, b5, b6, argRows, netRows]
      · simp [hx3, k2, kC, k3, kA, kB, hKB, b1, b2, b3, b4, b5, b6, argRows, netRows]
@[simp] theorem argRows_nil : argRows [] = [] := rfl
@[simp] theorem netRows_nil : netRows [] = [] := by simp [netRows]
@[simp] theorem armRows_nil : armRows [] = [] := by simp [armRows]
theorem loop124_0 {n : Nat} (l : List Arm) (hc : ∀ x ∈ l, ∀ s, go n 146 [armX x] [] s = some ⟨armX x.norm, [], []⟩) (hn : l.length < n) (hl : l.length < 2 ^ 40) (st : St) (h3 : st.τ 3 = .w (.own 192 0 l.length (some l.length))) (hB : st.H 192 = .row none 6 (List.replicate l.length [iD 0, iD 0, .l 0 [], .l 0 [], .l 0 [], .l 0 []]) 0) (h9 : st.τ 9 = .w (ksW l)) (h10 : st.τ 10 = iV l.length) (h11 : st.τ 11 = iV 0) (hgg : 192 < st.g) :
 ∃ e st', execC (go n) mode GT false 23 n F124_L0 st = some (e, st') ∧ e ≠ .normal ∧ (e = .exit 0 ∧ st'.τ 3 = .w (.own 192 0 l.length (some l.length)) ∧ st'.H 192 = .row none 6 (armRows (armsNorm l)) 0) := by
 rw [F124_L0, execC_loop]; refine iter_rule (fun k st => ∃ i, i + k = l.length ∧ st.τ 3 = .w (.own 192 0 l.length (some l.length)) ∧ st.H 192 = .row none 6 (armRows ((armsNorm l).take i) ++ List.replicate k [iD 0, iD 0, .l 0 [], .l 0 [], .l 0 [], .l 0 []]) 0 ∧ st.τ 9 = .w (ksW l) ∧ st.τ 10 = iV l.length ∧ st.τ 11 = iV i ∧ 192 < st.g) ?_ n l.length st hn ⟨0, by omega, h3, by simpa [armRows] using hB, h9, h10, by simpa using h11, hgg⟩
 rintro k ⟨τ, H, g, s⟩ ⟨i, hk, h3, hB, h9, h10, h11, hgg⟩; simp only at h3 hB h9 h10 h11 hgg; cases k with
 | zero =>
  have : i = l.length := by omega
  subst this; refine ⟨.exit 0, ?_⟩
  have hll : (armsNorm l).take l.length = armsNorm l := List.take_of_length_le (by simp [armsNorm_map]); rw [hll] at hB; simp [F124_B0, h3, h9, h10, h11, hB]
 | succ k =>
  have hlt : i < l.length := by omega
  have hlt' := ltT hlt; have hg := List.getElem?_eq_getElem hlt; have hmem := List.getElem_mem hlt; have hw := wrap_succ (i := i) (by omega); have hlT : (armRows ((armsNorm l).take i)).length = i := by simp [armsNorm_map]; omega
  have hget := fill_get (k := k) hlT [iD 0, iD 0, .l 0 [], .l 0 [], .l 0 [], .l 0 []]; have hset := fill_set (k := k) hlT [iD 0, iD 0, .l 0 [], .l 0 [], .l 0 [], .l 0 []]; have w := hc _ hmem; have hgn : (armsNorm l)[i]? = some l[i].norm := by simp [armsNorm_map, hlt]
  have hset := hset (Arm.row l[i].norm); rw [armRows_take hgn] at hset; generalize l[i].norm = y at w hset; obtain ⟨k', op, as, nks, cs, ks, hx⟩ : ∃ k' op as nks cs ks, l[i] = .mk (.mk k' op as nks) cs ks := by
   cases hq : l[i] with | mk nn cs ks => cases nn; exact ⟨_, _, _, _, _, _, rfl⟩
  rw [hx] at hg w; have hb := armRows_get hg; obtain ⟨⟨yk, yo, ya, yn⟩, yc, ys⟩ := y; simp only [Arm.row] at hset; have fgX := far hgg; refine ⟨.normal, ?_⟩
  simp [-getElem?_pos, F124_B0, h3, h9, h10, h11, hB, hlt, hlt', hb, w, hw, hget, hset, fgX]; exact ⟨k, by omega, i + 1, by omega, by first | exact rfl | exact ⟨rfl, rfl⟩ | exact ⟨rfl, rfl, by omega⟩ | exact ⟨rfl, by omega⟩⟩
theorem run_normed (l : List Arm) (hm : armsWt l < 2 ^ 27) (hr : ∀ a ∈ l, a.wrong true = 0) (n : Nat) (hn : 2 * armsWt l + 41 ≤ n) (s : Sup) : go n 124 [.w (ksW l)] [] s = some ⟨.w (ksW (armsNorm l)), [], []⟩ := by
 obtain ⟨n, rfl⟩ : ∃ k, n = k + 1 := ⟨n - 1, by omega⟩; have hlen := armsWt_len l; have hrm : room l.length 112 = true := room_of (by omega) (by omega); have hll : (armsNorm l).length = l.length := by simp [armsNorm_map]
 have hc : ∀ x ∈ l, ∀ s, go n 146 [armX x] [] s = some ⟨armX x.norm, [], []⟩ := fun x hx s => run_armNorm (armsWt l) x (armsWt_mem hx) hm true (hr x hx) n (by omega) s
 simp [go_of FT_124 rfl, F124, hrm]; generalize hst : St.mk _ _ _ _ = st; obtain ⟨e, ⟨τ', H', g', s'⟩, hx, -, rfl, h3, hB⟩ := loop124_0 (n := n) l hc (by omega) (by omega) st (by simp [← hst]) (by simp [← hst]) (by simp [← hst]) (by simp [← hst]) (by simp [← hst]) (by simp [← hst]); simp only at h3 hB; have htk : List.take l.length (armRows (armsNorm l)) = armRows (armsNorm l) := by rw [← hll, take_armRows]
 simp [hx, h3, hB, hll, htk]
theorem mx (a b : Nat) : (if (a : Int) < (b : Int) then (b : Int) else (a : Int)) = ((max a b : Nat) : Int) := by split <;> omega
def AccI (τ : Nat → V) (H : Nat → Box) (g t : Nat) (L : List Ins) (p q : Nat) : Prop := (L = [] ∧ τ t = .w .nil) ∨ ∃ b, b ≠ p ∧ b ≠ q ∧ b < g ∧ τ t = .w (.own b 0 L.length none) ∧ H b = .row none 3 (insRows L) 0
theorem AccI.keep {τ τ' : Nat → V} {H H' : Nat → Box} {g g' t p q : Nat} {L : List Ins} (h : AccI τ H g t L p q) (e : τ' t = τ t) (eH : H' = H) (hg : g ≤ g') : AccI τ' H' g' t L p q := by
 subst eH; rcases h with ⟨h1, h2⟩ | ⟨b, h2, h3, h4, h5, h6⟩
 · exact .inl ⟨h1, e.trans h2⟩
 · exact .inr ⟨b, h2, h3, by omega, e.trans h5, h6⟩
theorem AccI.mk {τ : Nat → V} {H : Nat → Box} {g t n b p q : Nat} {L : List Ins} (h2 : τ t = .w (.own b 0 n none)) (hp : b ≠ p) (hq : b ≠ q) (h1 : b < g) (hn : n = L.length) (h3 : H b = .row none 3 (insRows L) 0) : AccI τ H g t L p q :=
 .inr ⟨b, hp, hq, h1, by rw [h2, hn], h3⟩
def AccPost (st st' : St) (N : Nat) (A0 : Box) (q : Nat) (Q : Box) (L' : List Ins) : Prop := (∀ t, t < N → t ≠ 3 → t ≠ 9 → st'.τ t = st.τ t) ∧ st'.H 0 = A0 ∧ st'.H q = Q ∧ st.g ≤ st'.g ∧ AccI st'.τ st'.H st'.g 3 L' 0 q
theorem AccPost.refl {st : St} {N : Nat} {A0 : Box} {q : Nat} {Q : Box} {L : List Ins} (hA : st.H 0 = A0) (hQ : st.H q = Q) (h : AccI st.τ st.H st.g 3 L 0 q) : AccPost st st N A0 q Q L := ⟨fun _ _ _ _ => rfl, hA, hQ, Nat.le_refl _, h⟩
end Go.VM
