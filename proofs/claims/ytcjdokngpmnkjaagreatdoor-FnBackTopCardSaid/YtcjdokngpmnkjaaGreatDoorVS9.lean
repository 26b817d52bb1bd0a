/- Draws: arms spoilt. Conditions: none. -/
import Derived.Test.YtcjdokngpmnkjaaGreatDoorVS4
import Derived.Test.YtcjdokngpmnkjaaGreatDoorVQ13
import Derived.Test.YtcjdokngpmnkjaaGreatDoorVM33

namespace Go.VM
set_option linter.unusedSimpArgs false
set_option linter.unusedVariables false
set_option maxHeartbeats 16000000
theorem kK8 (l : List Arm) : ∀ x ∈ armRows l, x.length = 6 := fun x hx => by
 rw [k48] at hx; obtain ⟨a, _, rfl⟩ := List.mem_map.1 hx; obtain ⟨⟨_, _, _, _⟩, _, _⟩ := a
 rfl
theorem kk7 (l : List Arm) (i : Nat) (k op : Int) (as : List Arg) (nks : List Net) (cs : List El) (ks : List Arm) : (armRows l).set i [iD k, iD op, .l 0 (argRows as), .l 0 (netRows nks), .l 0 (elRows cs), .l 0 (armRows ks)] = armRows (l.set i (.mk (.mk k op as nks) cs ks)) := by
 rw [k48 l, k48 (l.set i (.mk (.mk k op as nks) cs ks)), List.map_set]; simp only [Arm.row]
theorem ki0 : ∀ (l : List Arm) (i : Nat) (x y : Arm), l[i]? = some x → armsWt (l.set i y) + x.wt = armsWt l + y.wt
 | [], i, x, y, h => by simp at h
 | a :: r, 0, x, y, h => by simp at h; subst h; simp [armsWt]; omega
 | a :: r, i + 1, x, y, h => by
  have := ki0 r i x y (by simpa using h); simp only [List.set_cons_succ, armsWt]; omega
theorem kF2 (e : El) : elsWt [e] = 1 + e.as.length := by simp [elsWt, El.wt]
theorem kv7 : armsWt [.mk (.mk 0 0 [] []) [] []] = 2 := by simp [armsWt, Arm.wt, Net.wt, netsWt, elsWt]
theorem km7 {b : List Int} (hb : RD b) : ∀ (m : Nat) (t : Arm), t.wt ≤ m → m ≤ 2 ^ 20 → ∀ (n : Nat), m + 40 ≤ n → ∀ p, p + 200 * m < 2 ^ 34 → ∃ (t' : Arm) (q : Nat), t'.wt ≤ t.wt + 10 ∧ q ≤ p + 200 * m ∧ ∀ s, go n 179 [pV, armX t] [rB b p] s = some ⟨armX t', [rB b q], []⟩
 | 0, t, h, hm, n, hn, p, hp => by have := t.wt_pos; omega
 | m + 1, .mk (.mk nk no na nks) cs ks, h, hm, n, hn, p, hp => by
  obtain ⟨n, rfl⟩ : ∃ k, n = k + 1 := ⟨n - 1, by omega⟩; have hlk := k19 ks; have hlc := k37 cs; simp only [Arm.wt] at h; have al6 := eq_true (kK8 ks); have al2 := eq_true (kA3 cs); have rm6 : room ks.length 112 = true := k08 (by omega) (by omega); have rm6b : room (ks.length + 1) 112 = true := k08 (by omega) (by omega); have rm2 : room cs.length 32 = true := k08 (by omega) (by omega); have rm2b : room (cs.length + 1) 32 = true := k08 (by omega) (by omega); have tk6 : ∀ x : List D, List.take (ks.length + 1) (armRows ks ++ [x]) = armRows ks ++ [x] := fun x => by rw [List.take_of_length_le (by simp)]
  have tk2 : ∀ x : List D, List.take (cs.length + 1) (elRows cs ++ [x]) = elRows cs ++ [x] := fun x => by rw [List.take_of_length_le (by simp)]
  have here : ∀ q0, q0 ≤ p + 1 → ∃ (v : Int) (q1 : Nat) (t' : Arm) (q : Nat), t'.wt ≤ (Arm.mk (.mk nk no na nks) cs ks).wt + 10 ∧ q ≤ p + 200 * (m + 1) ∧ (∀ s, go n 67 [pV, iV 6] [rB b q0] s = some ⟨iV v, [rB b q1], []⟩) ∧
   ((v = 0 ∧ t' = .mk (.mk 0 0 [] []) cs ks ∧ q = q1) ∨
    (v = 1 ∧ ∃ u, (∀ s, go n 67 [pV, iV 2] [rB b q1] s = some ⟨iV u, [rB b q], []⟩) ∧ ((u = 0 ∧ t' = .mk (.mk nk no na nks) [] []) ∨ (u ≠ 0 ∧ t' = .mk (.mk nk no na nks) [] ks))) ∨
    (v = 2 ∧ ∃ eo ea, t' = .mk (.mk nk no na nks) (cs ++ [⟨eo, ea⟩]) ks ∧ ∀ s, go n 134 [pV] [rB b q1] s = some ⟨.agg [iW eo, asW ea], [rB b q], []⟩) ∨
    (v = 3 ∧ ∃ co ca q2 eo ea, t' = .mk (.mk nk no na nks) (cs ++ [⟨eo, ea⟩]) ks ∧ (∀ s, go n 135 [pV] [rB b q1] s = some ⟨.agg [iW co, asW ca], [rB b q2], []⟩) ∧ ∀ s, go n 136 [pV, .agg [iW co, asW ca]] [rB b q2] s = some ⟨.agg [iW eo, asW ea], [rB b q], []⟩) ∨
    (v = 4 ∧ t' = .mk (.mk nk no na nks) cs (ks ++ [.mk (.mk 0 0 [] []) [] []]) ∧ q = q1) ∨
    (v ≠ 0 ∧ v ≠ 1 ∧ v ≠ 2 ∧ v ≠ 3 ∧ v ≠ 4 ∧ ∃ uk uo ua uks, t' = .mk (.mk uk uo ua uks) cs ks ∧ ∀ s, go n 116 [pV, .agg [iW nk, iW no, asW na, nsW nks]] [rB b q1] s = some ⟨.agg [iW uk, iW uo, asW ua, nsW uks], [rB b q], []⟩)) := by
   intro q0 hq0; obtain ⟨v, q1, h1, h2, h3, w⟩ := k06 hb 6 q0 (by omega) n (by omega); have hnp := Net.wt_pos (.mk nk no na nks)
   by_cases c0 : v = 0
   · exact ⟨v, q1, _, q1, by simp only [Arm.wt, Net.wt, netsWt, List.length_nil]; omega, by omega, w, .inl ⟨c0, rfl, rfl⟩⟩
   by_cases c1 : v = 1
   · obtain ⟨u, q2, u1, u2, u3, w2⟩ := k06 hb 2 q1 (by omega) n (by omega)
     by_cases hu : u = 0
     · exact ⟨v, q1, .mk (.mk nk no na nks) [] [], q2, by simp only [Arm.wt, elsWt, armsWt]; omega, by omega, w, .inr (.inl ⟨c1, u, w2, .inl ⟨hu, rfl⟩⟩)⟩
     · exact ⟨v, q1, .mk (.mk nk no na nks) [] ks, q2, by simp only [Arm.wt, elsWt]; omega, by omega, w, .inr (.inl ⟨c1, u, w2, .inr ⟨hu, rfl⟩⟩)⟩
   by_cases c2 : v = 2
   · obtain ⟨⟨eo, ea⟩, q2, g1, g2, w2⟩ := k41 hb q1 (by omega) n (by omega)
     simp only at g1; exact ⟨v, q1, _, q2, by simp only [Arm.wt, k56, kF2]; omega, by omega, w, .inr (.inr (.inl ⟨c2, eo, ea, rfl, w2⟩))⟩
   by_cases c3 : v = 3
   · obtain ⟨⟨co, ca⟩, q2, g1, g2, w2⟩ := k57 hb q1 (by omega) n (by omega)
     simp only at g1; obtain ⟨⟨eo, ea⟩, q3, g3, g4, w3⟩ := kx9 hb ⟨co, ca⟩ (by simp only; omega) q2 (by omega) n (by omega); simp only at g3; exact ⟨v, q1, _, q3, by simp only [Arm.wt, k56, kF2]; omega, by omega, w, .inr (.inr (.inr (.inl ⟨c3, co, ca, q2, eo, ea, rfl, w2, w3⟩)))⟩
   by_cases c4 : v = 4
   · exact ⟨v, q1, _, q1, by simp only [Arm.wt, k94, kv7]; omega, by omega, w, .inr (.inr (.inr (.inr (.inl ⟨c4, rfl, rfl⟩))))⟩
   · obtain ⟨⟨uk, uo, ua, uks⟩, q2, g1, g2, w2⟩ := km6 hb (Net.mk nk no na nks).wt (.mk nk no na nks) (Nat.le_refl _) (by omega) n (by omega) q1 (by omega)
     exact ⟨v, q1, .mk (.mk uk uo ua uks) cs ks, q2, by simp only [Arm.wt]; omega, by omega, w, .inr (.inr (.inr (.inr (.inr ⟨c0, c1, c2, c3, c4, uk, uo, ua, uks, rfl, w2⟩))))⟩
  by_cases hk : 0 < ks.length
  · have hki : ((0 : Int) < (ks.length : Int)) = True := eq_true (by omega)
    obtain ⟨u, q0, g1, g2, g3, w0⟩ := k06 hb 3 p (by omega) n (by omega)
    by_cases hu : 0 < u
    · have hu' := eq_true hu
      obtain ⟨v, q1, h1, h2, h3, w1⟩ := k06 hb ks.length q0 (by omega) n (by omega); have h2 := h2 (by omega); obtain ⟨j, rfl⟩ : ∃ j : Nat, v = j := ⟨v.toNat, by omega⟩; have hj : j < ks.length := by omega
      have hg := List.getElem?_eq_getElem hj; have hmem := k07 (List.getElem_mem hj); obtain ⟨t', q2, k1, k2, w2⟩ := km7 hb m ks[j] (by omega) (by omega) n (by omega) q1 (by omega); have hset := ki0 ks j ks[j] t' hg; obtain ⟨xk, xo, xa, xks, xcs, xkk, hx⟩ : ∃ k' op as ks' cs' kk, ks[j] = .mk (.mk k' op as ks') cs' kk := by
       cases hq : ks[j] with | mk nn cs ks => cases nn; exact ⟨_, _, _, _, _, _, rfl⟩
      rw [hx] at hg w2; have hb1 := k18 hg; obtain ⟨⟨yk, yo, ya, yks⟩, ycs, ykk⟩ := t'; have hs := kk7 ks j yk yo ya yks ycs ykk; refine ⟨.mk (.mk nk no na nks) cs (ks.set j (.mk (.mk yk yo ya yks) ycs ykk)), q2, by simp only [Arm.wt]; omega, by omega, fun s => ?_⟩
      have tk := kb0 (ks.set j (.mk (.mk yk yo ya yks) ycs ykk)); simp only [List.length_set] at tk; simp [-getElem?_pos, go_of FT_179 rfl, F179, w0, w1, w2, hki, hk, hu', al6, rm6, hj, hb1, hs, tk, List.replicate]
    · have hu' := eq_false hu
      obtain ⟨v, q1, t', q, e1, e2, w, hcase⟩ := here q0 g3; refine ⟨t', q, e1, e2, fun s => ?_⟩
      rcases hcase with ⟨rfl, rfl, rfl⟩ | ⟨rfl, u2, w2, hcu⟩ | ⟨rfl, eo, ea, rfl, w2⟩ | ⟨rfl, co, ca, q2, eo, ea, rfl, w2, w3⟩ | ⟨rfl, rfl, rfl⟩ | ⟨c0, c1, c2, c3, c4, uk, uo, ua, uks, rfl, w2⟩
      · simp [go_of FT_179 rfl, F179, w0, w, hki, hk, hu', List.replicate]
      · rcases hcu with ⟨rfl, rfl⟩ | ⟨hcu, rfl⟩
        · simp [go_of FT_179 rfl, F179, w0, w, w2, hki, hk, hu', List.replicate, armRows, elRows]
        · simp [go_of FT_179 rfl, F179, w0, w, w2, hcu, hki, hk, hu', List.replicate, elRows]
      · simp [go_of FT_179 rfl, F179, w0, w, w2, hki, hk, hu', al2, rm2, rm2b, tk2, List.replicate, k32]
        try simp [elRows, El.row]
      · simp [go_of FT_179 rfl, F179, w0, w, w2, w3, hki, hk, hu', al2, rm2, rm2b, tk2, List.replicate, k32]
        try simp [elRows, El.row]
      · simp [go_of FT_179 rfl, F179, w0, w, hki, hk, hu', al6, rm6, rm6b, tk6, List.replicate, k28]
        try simp [armRows, Arm.row, argRows, netRows, elRows]
      · simp [go_of FT_179 rfl, F179, w0, w, w2, c0, c1, c2, c3, c4, hki, hk, hu', List.replicate]
  · have hki : ((0 : Int) < (ks.length : Int)) = False := eq_false (by omega)
    have hke : ks = [] := List.eq_nil_of_length_eq_zero (by omega); obtain ⟨v, q1, t', q, e1, e2, w, hcase⟩ := here p (by omega); subst hke; have rm0 : room 0 112 = true := by decide
    have rm1 : room 1 112 = true := by decide
    have ark : armRows [] = [] := by simp [armRows]
    refine ⟨t', q, e1, e2, fun s => ?_⟩
    rcases hcase with ⟨rfl, rfl, rfl⟩ | ⟨rfl, u2, w2, hcu⟩ | ⟨rfl, eo, ea, rfl, w2⟩ | ⟨rfl, co, ca, q2, eo, ea, rfl, w2, w3⟩ | ⟨rfl, rfl, rfl⟩ | ⟨c0, c1, c2, c3, c4, uk, uo, ua, uks, rfl, w2⟩
    · simp [go_of FT_179 rfl, F179, w, rm0, rm1, ark, List.replicate]
    · rcases hcu with ⟨rfl, rfl⟩ | ⟨hcu, rfl⟩
      · simp [go_of FT_179 rfl, F179, w, w2, rm0, rm1, ark, List.replicate, elRows]
      · simp [go_of FT_179 rfl, F179, w, w2, hcu, rm0, rm1, ark, List.replicate, elRows]
    · simp [go_of FT_179 rfl, F179, w, w2, rm0, rm1, ark, al2, rm2, rm2b, tk2, List.replicate, k32]
      try simp [elRows, El.row]
    · simp [go_of FT_179 rfl, F179, w, w2, w3, rm0, rm1, ark, al2, rm2, rm2b, tk2, List.replicate, k32]
      try simp [elRows, El.row]
    · simp [go_of FT_179 rfl, F179, w, rm0, rm1, ark, List.replicate, k28]
      try simp [armRows, Arm.row, argRows, netRows, elRows]
    · simp [go_of FT_179 rfl, F179, w, w2, c0, c1, c2, c3, c4, rm0, rm1, ark, List.replicate]
theorem kz9 (n : Nat) (args : List V) (bs : List Box) (s : Sup) : runF (callS n) modeS GT n 152 F152 args bs s = if args.length ≤ F152.ntmps then
 behindF (execC (callS n) modeS GT false F152.ntmps n F152.code ⟨nth (.tup []) args, nth .dead bs, bs.length, s⟩) (endF (modeS 152).stamp (modeS 152).move bs.length F152.res)
 else none := kK5 _ _ _ _ _ _ _ _ _
theorem kB0 {n f : Nat} (h : brIds.contains f = false) (args : List V) (bs : List Box) (s : Sup) : callS n f args bs s = go n f args bs s := by
 unfold callS lend; simp only [h]; rfl
theorem callS_br {n f : Nat} (h : brIds.contains f = true) (args : List V) (bs : List Box) (s : Sup) : callS n f args bs s = bnd2 (frzA false (fun k => s (2 * k)) ⟨nth .dead bs, 0, []⟩ args) fun args' _ => brwCall (go n) f bs s args' := by
 unfold callS lend; simp only [h, if_true]; exact brw_at _ _ _ _ _
inductive FillR (b : List Int) (n : Nat) : Nat → Nat → Nat → Nat → Prop
 | stop {len p q : Nat} {v : Int} (w : ∀ s, go n 67 [pV, iV 2] [rB b p] s = some ⟨iV v, [rB b q], []⟩) (h : ¬ (len : Int) < 40 + v) (hv : 0 ≤ v ∧ v < 2) : FillR b n len p 0 q
 | more {len p j q r : Nat} {v : Int} (w : ∀ s, go n 67 [pV, iV 2] [rB b p] s = some ⟨iV v, [rB b q], []⟩) (h : (len : Int) < 40 + v) (hv : 0 ≤ v ∧ v < 2) (k : FillR b n (len + 1) q j r) : FillR b n len p (j + 1) r
theorem FillR.have {b : List Int} (hb : RD b) {n : Nat} (hn : 2 ≤ n) : ∀ (fuel len p : Nat), 42 ≤ len + fuel → p + fuel < 2 ^ 38 → ∃ j q, FillR b n len p j q ∧ j ≤ fuel ∧ q ≤ p + fuel + 1
 | 0, len, p, h, hp => by
  obtain ⟨v, q, h1, h2, h3, w⟩ := k06 hb 2 p (by omega) n (by omega); have h2 := h2 (by omega); exact ⟨0, q, .stop w (by omega) ⟨h1, h2⟩, by omega, by omega⟩
 | fuel + 1, len, p, h, hp => by
  obtain ⟨v, q, h1, h2, h3, w⟩ := k06 hb 2 p (by omega) n (by omega); have h2 := h2 (by omega)
  by_cases c : (len : Int) < 40 + v
  · obtain ⟨j, r, k1, k2, k3⟩ := FillR.have hb hn fuel (len + 1) q (by omega) (by omega)
    exact ⟨j + 1, r, .more w c ⟨h1, h2⟩ k1, by omega, by omega⟩
  · exact ⟨0, q, .stop w c ⟨h1, h2⟩, by omega, by omega⟩
def Fill (H : Nat → Box) (g b6 bc : Nat) (v : V) (ks : List Arm) (one : El) : Prop := ∃ bx o m, bx ≠ 0 ∧ bx ≠ b6 ∧ bx ≠ bc ∧ bx < g ∧ v = .w (.own bx 0 ks.length none) ∧ H bx = .row none 6 (armRows ks) 0 ∧ H bc = .row o 2 [[iD one.op, .l 0 (argRows one.as)]] m ∧ (o = none ∨ o = some 0)
theorem loop152_0 {b : List Int} {n : Nat} (eo co : Int) (ea ca : List Arg) (L : List Arm) (hL : L.length ≤ 2 ^ 20) (j r b6 bc : Nat) (h6c : b6 ≠ bc) (h60 : b6 ≠ 0) (hc0 : bc ≠ 0) (hj : j ≤ 1000) (hn : j < n) (st : St) (p : Nat) (hS : FillR b n L.length p j r)
 (h0 : st.τ 0 = pV) (h6 : st.τ 6 = .w (.ptr b6 0)) (hA : st.H 0 = rB b p) (hg : 0 < st.g) (hg6 : b6 < st.g) (hgc : bc < st.g) (hB : st.H b6 = .cells [iW 1, iW eo, asW ea, .nil, .own bc 0 1 (some 1), .nil]) (h5 : Fill st.H st.g b6 bc (st.τ 5) L ⟨co, ca⟩) :
 ∃ e st', execC (callS n) modeS GT false 95 n F152_L0 st = some (e, st') ∧ e ≠ .normal ∧ (e = .exit 1 ∧ st'.H 0 = rB b r ∧ Fill st'.H st'.g b6 bc (st'.τ 5) (L ++ List.replicate j (.mk (.mk 1 eo ea []) [⟨co, ca⟩] [])) ⟨co, ca⟩) := by
 rw [F152_L0, k00]; refine k03 (fun k st => ∃ i q, i + k = j ∧ FillR b n (L.length + i) q k r ∧ st.τ 0 = pV ∧ st.τ 6 = .w (.ptr b6 0) ∧ st.H 0 = rB b q ∧ 0 < st.g ∧ b6 < st.g ∧ bc < st.g ∧ st.H b6 = .cells [iW 1, iW eo, asW ea, .nil, .own bc 0 1 (some 1), .nil] ∧ Fill st.H st.g b6 bc (st.τ 5) (L ++ List.replicate i (.mk (.mk 1 eo ea []) [⟨co, ca⟩] [])) ⟨co, ca⟩) ?_ n j st hn
  ⟨0, p, by omega, hS, h0, h6, hA, hg, hg6, hgc, hB, by simpa using h5⟩
 clear h0 h6 hA hg hg6 hgc hB h5 hS; rintro k ⟨τ, H, g, s⟩ ⟨i, q, hk, hS, h0, h6, hA, hg, hg6, hgc, hB, bx, o, m, hx0, hx6, hxc, hxg, h5, hX, hC, ho⟩; simp only at h0 h5 h6 hA hg hg6 hgc hB hxg hX hC; have hlen : (L ++ List.replicate i (Arm.mk (.mk 1 eo ea []) [⟨co, ca⟩] [])).length = L.length + i := by simp
 rw [hlen] at h5; cases hS with
 | @stop _ _ q2 v w hlt hv =>
  have wc : ∀ s, callS n 67 [pV, iV 2] [rB b q] s = some ⟨iV v, [rB b r], []⟩ := fun s => (kB0 rfl _ _ _).trans (w s)
  have hi : i = j := by omega
  subst hi; have hwr : IntKind.wrap .i64 (40 + v) = 40 + v := k29 (by omega) (by omega); have hlt' : (((L.length + i : Nat) : Int) < 40 + v) = False := eq_false hlt; have fzX := far (show 0 < g by omega); have b5 : (bx = 0) = False := eq_false hx0; have b6' : (b6 = 0) = False := eq_false h60; have bc' : (bc = 0) = False := eq_false hc0; refine ⟨.exit 1, ?_⟩
  simp [-getElem?_pos, -Int.natCast_add, -List.length_append, F152_B0, modeS, brIds, h0, h5, h6, hA, wc, hwr, hlt', b5, b6', bc', fzX]; exact ⟨bx, o, m, hx0, hx6, hxc, by omega, by rw [hlen], by simpa [b5] using hX, by simpa [bc'] using hC, ho⟩
 | @more _ _ j' q2 _ v w hlt hv hS2 =>
  have wc : ∀ s, callS n 67 [pV, iV 2] [rB b q] s = some ⟨iV v, [rB b q2], []⟩ := fun s => (kB0 rfl _ _ _).trans (w s)
  have hwr : IntKind.wrap .i64 (40 + v) = 40 + v := k29 (by omega) (by omega); have hlt' : (((L.length + i : Nat) : Int) < 40 + v) = True := eq_true hlt; have fzX := far (show 0 < g by omega); have faX := far hg6; have fcX := far hgc; have fbX := far hxg; have b1 : (bx = 0) = False := eq_false hx0; have b2 : (0 = bx) = False := eq_false (fun e => hx0 e.symm); have b3 : (b6 = 0) = False := eq_false h60; have b4 : (0 = b6) = False := eq_false (fun e => h60 e.symm); have b5 : (bc = 0) = False := eq_false hc0; have b6' : (0 = bc) = False := eq_false (fun e => hc0 e.symm); have b7 : (b6 = bc) = False := eq_false h6c; have b8 : (bc = b6) = False := eq_false (fun e => h6c e.symm)
  have b9 : (bx = b6) = False := eq_false hx6; have b10 : (b6 = bx) = False := eq_false (fun e => hx6 e.symm); have b11 : (bx = bc) = False := eq_false hxc; have b12 : (bc = bx) = False := eq_false (fun e => hxc e.symm); have rm : room (L.length + i + 1) 112 = true := k08 (by omega) (by omega); have hl2 : (armRows (L ++ List.replicate i (Arm.mk (.mk 1 eo ea []) [⟨co, ca⟩] []))).length = L.length + i := by rw [k15, hlen]
  have hcat : L ++ List.replicate (i + 1) (Arm.mk (.mk 1 eo ea []) [⟨co, ca⟩] []) = (L ++ List.replicate i (Arm.mk (.mk 1 eo ea []) [⟨co, ca⟩] [])) ++ [Arm.mk (.mk 1 eo ea []) [⟨co, ca⟩] []] := by rw [List.replicate_succ', List.append_assoc]
  have tk : List.take (L.length + i) (armRows (L ++ List.replicate i (Arm.mk (.mk 1 eo ea []) [⟨co, ca⟩] []))) = armRows (L ++ List.replicate i (Arm.mk (.mk 1 eo ea []) [⟨co, ca⟩] [])) := List.take_of_length_le (by rw [hl2]; omega); generalize hks : L ++ List.replicate i (Arm.mk (.mk 1 eo ea []) [⟨co, ca⟩] []) = ks at hlen hX hl2 hcat tk; refine ⟨.normal, ?_⟩
  rcases ho with rfl | rfl
  all_goals
   simp [-getElem?_pos, -Int.natCast_add, -List.length_append, F152_B0, modeS, brIds, h0, h5, h6, hA, hB, hX, hC, wc, hwr, hlt', rm, hl2, tk, b1, b2, b3, b4, b5, b6', b7, b8, b9, b10, b11, b12, fzX, faX, fcX, fbX]; refine ⟨j', by omega, i + 1, by omega, q2, hS2, rfl, by omega, by omega, g + 384 + 192, some 0, max m 1, by omega, by omega, by omega, by omega, ?_, ?_, ?_, .inr rfl⟩
   · rw [hcat, List.length_append, hlen]; rfl
   · rw [hcat, k28]; simp [armRows, Arm.row, elRows, El.row, netRows]
   · simp [b5, b12, fcX]
def Coils (H : Nat → Box) (g ba : Nat) (v : V) (cs : List El) : Prop := ∃ bx, bx ≠ 0 ∧ bx ≠ ba ∧ bx ≠ 193 ∧ bx < g ∧ v = .w (.own bx 0 cs.length none) ∧ H bx = .row none 2 (elRows cs) 0
theorem loop152_1 {n : Nat} (u5 u7 : V) (X0 X1 : Box) (ba : Nat) (hba : ba ≠ 0) (hbb : ba ≠ 193) (N : Nat) (need : Int) (hN : (N : Int) = need ∨ (need ≤ 0 ∧ N = 0)) (hN2 : N ≤ 1000) (co : Int) (ca : List Arg) (cs : List El) (hcs : cs.length ≤ 2 ^ 20) (hn : N < n) (st : St)
 (h0 : st.τ 0 = pV) (h5 : st.τ 5 = u5) (h7 : st.τ 7 = u7) (h8 : st.τ 8 = iV need) (h10 : st.τ 10 = .w (.ptr ba 0)) (h11 : st.τ 11 = iV 0) (hA : st.H 0 = X0) (hX : st.H 193 = X1) (hB : st.H ba = .cells [iW co, asW ca]) (hg : 193 < st.g) (hga : ba < st.g) (h9 : Coils st.H st.g ba (st.τ 9) cs) :
 ∃ e st', execC (callS n) modeS GT false 95 n F152_L1 st = some (e, st') ∧ e ≠ .normal ∧ (e = .exit 3 ∧ st'.τ 0 = pV ∧ st'.τ 5 = u5 ∧ st'.τ 7 = u7 ∧ st'.H 0 = X0 ∧ st'.H 193 = X1 ∧ 193 < st'.g ∧ Coils st'.H st'.g ba (st'.τ 9) (cs ++ List.replicate N ⟨co, ca⟩)) := by
 rw [F152_L1, k00]; refine k03 (fun k st => ∃ i, i + k = N ∧ st.τ 0 = pV ∧ st.τ 5 = u5 ∧ st.τ 7 = u7 ∧ st.τ 8 = iV need ∧ st.τ 10 = .w (.ptr ba 0) ∧ st.τ 11 = iV i ∧ st.H 0 = X0 ∧ st.H 193 = X1 ∧ st.H ba = .cells [iW co, asW ca] ∧ 193 < st.g ∧ ba < st.g ∧ Coils st.H st.g ba (st.τ 9) (cs ++ List.replicate i ⟨co, ca⟩)) ?_ n N st hn
  ⟨0, by omega, h0, h5, h7, h8, h10, by simpa using h11, hA, hX, hB, hg, hga, by simpa using h9⟩
 clear h0 h5 h7 h8 h10 h11 hA hX hB hg hga h9; rintro k ⟨τ, H, g, s⟩ ⟨i, hk, h0, h5, h7, h8, h10, h11, hA, hX, hB, hg, hga, bx, hx0, hxa, hx1, hxg, h9, hC⟩; simp only at h0 h5 h7 h8 h9 h10 h11 hA hX hB hg hga hxg hC; have hlen : (cs ++ List.replicate i (⟨co, ca⟩ : El)).length = cs.length + i := by simp
 rw [hlen] at h9; cases k with
 | zero =>
  have hi : i = N := by omega
  subst hi; have hlt : (((i : Nat) : Int) < need) = False := eq_false (by omega); refine ⟨.exit 3, ?_⟩
  simp [-getElem?_pos, -Int.natCast_add, -List.length_append, F152_B1, h0, h5, h7, h8, h9, h10, h11, hA, hX, hlt]; exact ⟨by omega, bx, hx0, hxa, hx1, by omega, by rw [hlen], hC⟩
 | succ k =>
  have hlt : (((i : Nat) : Int) < need) = True := eq_true (by omega); have hw := k04 (i := i) (by omega); have fzX := far (show 193 < g by omega); have fyX := far (show 0 < g by omega); have faX := far hga; have fbX := far hxg; have b1 : (bx = 0) = False := eq_false hx0; have b2 : (0 = bx) = False := eq_false (fun e => hx0 e.symm); have b3 : (bx = ba) = False := eq_false hxa; have b4 : (ba = bx) = False := eq_false (fun e => hxa e.symm); have b5 : (bx = 193) = False := eq_false hx1; have b6 : (193 = bx) = False := eq_false (fun e => hx1 e.symm); have rm : room (cs.length + i + 1) 32 = true := k08 (by omega) (by omega)
  have hl2 : (elRows (cs ++ List.replicate i (⟨co, ca⟩ : El))).length = cs.length + i := by rw [k21, hlen]
  have hcat : cs ++ List.replicate (i + 1) (⟨co, ca⟩ : El) = (cs ++ List.replicate i ⟨co, ca⟩) ++ [⟨co, ca⟩] := by rw [List.replicate_succ', List.append_assoc]
  have tk : List.take (cs.length + i) (elRows (cs ++ List.replicate i (⟨co, ca⟩ : El))) = elRows (cs ++ List.replicate i ⟨co, ca⟩) := List.take_of_length_le (by rw [hl2]; omega); generalize hks : cs ++ List.replicate i (⟨co, ca⟩ : El) = ks at hlen hC hl2 hcat tk; refine ⟨.normal, ?_⟩
  simp [-getElem?_pos, -Int.natCast_add, -List.length_append, F152_B1, modeS, brIds, h0, h5, h7, h8, h9, h10, h11, hA, hX, hB, hC, hlt, hw, rm, hl2, tk, b1, b2, b3, b4, b5, b6, fzX, fyX, faX, fbX]; refine ⟨k, by omega, i + 1, by omega, rfl, by omega, g + 192 + 192, by omega, by omega, by omega, by omega, ?_, ?_⟩
  · rw [hcat, List.length_append, hlen]; rfl
  · rw [hcat, k32]; simp [elRows, El.row]
theorem ky5 (a : Arm) : ∀ j, armsWt (List.replicate j a) = j * a.wt
 | 0 => by simp [armsWt]
 | j + 1 => by rw [List.replicate_succ, armsWt, ky5 a j, Nat.add_mul]; omega
theorem kF1 (a : El) : ∀ j, elsWt (List.replicate j a) = j * a.wt
 | 0 => by simp [elsWt]
 | j + 1 => by rw [List.replicate_succ, elsWt, kF1 a j, Nat.add_mul]; omega
theorem draw_SpoilL {b : List Int} (hb : RD b) (l : List Arm) (hl : armsWt l ≤ 20000) (n : Nat) (hn : 60000 ≤ n) (p : Nat) (hp : p < 2 ^ 30) :
 ∃ (l' : List Arm) (q : Nat), armsWt l' ≤ armsWt l + 2000 ∧ q ≤ p + 2 ^ 23 ∧ ∀ s, runF (callS n) modeS GT n 152 F152 [pV, .w (ksW l)] [rB b p] s = some ⟨.w (ksW l'), [rB b q], []⟩ := by
 have lift : ∀ {f : Nat} {args : List V} {bs : List Box} {r : Res}, brIds.contains f = false → (∀ s, go n f args bs s = some r) → ∀ s, callS n f args bs s = some r := fun hf w s => (kB0 hf _ _ _).trans (w s)
 have hlen := k19 l; have rm0 : room 0 112 = true := by decide
 have rm1 : room 1 112 = true := by decide
 by_cases hnil : l = []
 · subst hnil
   refine ⟨[.mk (.mk 0 0 [] []) [] []], p, by rw [kv7]; omega, by omega, fun s => ?_⟩
   simp [kz9, F152, modeS, brIds, armRows, Arm.row, argRows, netRows, elRows, rm0, rm1]
 have hpos : 0 < l.length := List.length_pos_iff.2 hnil; have h0 : (l.length = 0) = False := eq_false (by omega); have h0b : ((l.length : Int) == 0) = false := by simpa using hnil
 have al6 := eq_true (kK8 l); have rm6 : room l.length 112 = true := k08 (by omega) (by omega); obtain ⟨v, q1, v1, v2, v3, w1⟩ := k06 hb 10 p (by omega) n (by omega); have w1 := lift rfl w1
 by_cases c0 : v = 0
 · obtain ⟨⟨eo, ea⟩, q2, g1, g2, w2⟩ := k41 hb q1 (by omega) n (by omega)
   obtain ⟨⟨co, ca⟩, q3, g3, g4, w3⟩ := k57 hb q2 (by omega) n (by omega); have w2 := lift rfl w2; have w3 := lift rfl w3; simp only at g1 g3; obtain ⟨j, r, hS, hj, hr⟩ := FillR.have (n := n) hb (by omega) 42 l.length q3 (by omega) (by omega); refine ⟨l ++ List.replicate j (.mk (.mk 1 eo ea []) [⟨co, ca⟩] []), r, ?_, by omega, fun s => ?_⟩
   · rw [k94, ky5]
     have e1 : (Arm.mk (.mk 1 eo ea []) [⟨co, ca⟩] []).wt ≤ 8 := by simp only [Arm.wt, Net.wt, netsWt, elsWt, El.wt, armsWt]; omega
     have := Nat.mul_le_mul hj e1; omega
   subst c0; simp [kz9, F152, modeS, brIds, h0, h0b, al6, rm6, w1, w2, w3]; generalize hst : St.mk _ _ _ _ = st; obtain ⟨e1, ⟨τ1, H1, g1, s1⟩, hx1, -, rfl, fA, bx, o, m, hx0, hx6, hxc, hxg, f5, fX, fC, ho⟩ := loop152_0 (n := n) eo co ea ca l (by omega) j r 1217 1089 (by decide) (by decide) (by decide) (by omega) (by omega) st q3 hS (by simp [← hst]) (by simp [← hst]) (by simp [← hst]) (by simp [← hst]) (by simp [← hst]) (by simp [← hst]) (by simp [← hst]) (by subst hst; exact ⟨193, none, 0, by decide, by decide, by decide, by simp, by simp, by simp, by simp, .inl rfl⟩); simp only at fA hxg f5 fX; clear hst
   generalize l ++ List.replicate j (Arm.mk (.mk 1 eo ea []) [⟨co, ca⟩] []) = L at f5 fX ⊢; have b1 : (bx = 0) = False := eq_false hx0; have b2 : (0 = bx) = False := eq_false (fun e => hx0 e.symm); simp [hx1, fA, f5, fX, b1, b2]
 by_cases c1 : v = 1
 · obtain ⟨u, q2, u1, u2, u3, w2⟩ := k06 hb l.length q1 (by omega) n (by omega)
   have u2 := u2 (by omega); obtain ⟨j, rfl⟩ : ∃ j : Nat, u = j := ⟨u.toNat, by omega⟩; have hj : j < l.length := by omega
   have hz := k47 l; obtain ⟨x, q3, x1, x2, x3, w3⟩ := k06 hb 2 q2 (by omega) n (by omega); have x2 := x2 (by omega); obtain ⟨⟨co, ca⟩, q4, g3, g4, w5⟩ := k57 hb q3 (by omega) n (by omega); simp only at g3; have w2 := lift rfl w2; have w3 := lift rfl w3; have w5 := lift rfl w5; have w4 := fun s => kd8 l (by omega) n (by omega) s
   have c107 := fun args bs s => callS_br (n := n) (f := 107) rfl args bs s
   have hg := List.getElem?_eq_getElem hj; have hmem := k07 (List.getElem_mem hj); obtain ⟨xk, xo, xa, xks, xcs, xkk, hx⟩ : ∃ k' op as ks' cs' kk, l[j] = .mk (.mk k' op as ks') cs' kk := by
    cases hq : l[j] with | mk nn cs ks => cases nn; exact ⟨_, _, _, _, _, _, rfl⟩
   rw [hx] at hg hmem; have hb1 := k18 hg; simp only [Arm.wt] at hmem; have hcl := k37 xcs; have al2 := eq_true (kA3 xcs); have rm2 : room xcs.length 32 = true := k08 (by omega) (by omega); have hwr : IntKind.wrap .i64 (400 - (armsSize l : Int)) = 400 - (armsSize l : Int) := k29 (by omega) (by omega); have hwr2 : IntKind.wrap .i64 (400 - (armsSize l : Int) + x) = 400 - (armsSize l : Int) + x := k29 (by omega) (by omega); obtain ⟨N, hN, hN2⟩ : ∃ N : Nat, ((N : Int) = 400 - (armsSize l : Int) + x ∨ (400 - (armsSize l : Int) + x ≤ 0 ∧ N = 0)) ∧ N ≤ 401 := ⟨(400 - (armsSize l : Int) + x).toNat, by omega, by omega⟩
   have hset := ki0 l j _ (.mk (.mk xk xo xa xks) (xcs ++ List.replicate N ⟨co, ca⟩) xkk) hg; have hs := kk7 l j xk xo xa xks (xcs ++ List.replicate N ⟨co, ca⟩) xkk; refine ⟨l.set j (.mk (.mk xk xo xa xks) (xcs ++ List.replicate N ⟨co, ca⟩) xkk), q4, ?_, by omega, fun s => ?_⟩
   · simp only [Arm.wt, k56, kF1, El.wt] at hset
     have := Nat.mul_le_mul hN2 (show 1 + ca.length ≤ 4 by omega); omega
   subst c1; simp [-getElem?_pos, kz9, F152, modeS, brIds, h0, h0b, al6, rm6, al2, rm2, w1, w2, w3, c107, brwCall, brwEnd, V.flat, W.flat, w4, w5, hj, hb1, hwr, hwr2]; generalize hst : St.mk _ _ _ _ = st
   obtain ⟨e1, ⟨τ1, H1, g1, s1⟩, hx1, -, rfl, f0, f5, f7, fA, fX, fg, bx, hx0, hxa, hxb, hxg, f9, fC⟩ := loop152_1 (n := n) (.w (.own 193 0 l.length none)) (iV j) (rB b q4) (.row none 6 (armRows l) 0) 2305 (by decide) (by decide) N _ hN (by omega) co ca xcs (by omega) (by omega) st (by simp [← hst]) (by simp [← hst]) (by simp [← hst]) (by simp [← hst]) (by simp [← hst]) (by simp [← hst]) (by simp [← hst]) (by simp [← hst]) (by simp [← hst]) (by simp [← hst]) (by simp [← hst]) (by subst hst; exact ⟨2049, by decide, by decide, by decide, by simp, by simp, by simp⟩); simp only at f0 f5 f7 fA fX fg hxg f9 fC; clear hst; generalize xcs ++ List.replicate N (⟨co, ca⟩ : El) = C at f9 fC hs ⊢
   have b1 : (bx = 0) = False := eq_false hx0; have b2 : (0 = bx) = False := eq_false (fun e => hx0 e.symm); have b3 : (bx = 193) = False := eq_false hxb; have b4 : (193 = bx) = False := eq_false (fun e => hxb e.symm); have tk := kb0 (l.set j (.mk (.mk xk xo xa xks) C xkk)); simp only [List.length_set] at tk; simp [-getElem?_pos, hx1, f0, f5, f7, fA, fX, f9, fC, hj, hb1, hs, tk, b1, b2, b3, b4]
 · obtain ⟨u, q2, u1, u2, u3, w2⟩ := k06 hb l.length q1 (by omega) n (by omega)
   have u2 := u2 (by omega); obtain ⟨j, rfl⟩ : ∃ j : Nat, u = j := ⟨u.toNat, by omega⟩; have hj : j < l.length := by omega
   have hg := List.getElem?_eq_getElem hj; have hmem := k07 (List.getElem_mem hj); obtain ⟨t', q3, k1, k2, w3⟩ := km7 hb 20000 l[j] (by omega) (by omega) n (by omega) q2 (by omega); have hset := ki0 l j l[j] t' hg; obtain ⟨xk, xo, xa, xks, xcs, xkk, hx⟩ : ∃ k' op as ks' cs' kk, l[j] = .mk (.mk k' op as ks') cs' kk := by
    cases hq : l[j] with | mk nn cs ks => cases nn; exact ⟨_, _, _, _, _, _, rfl⟩
   rw [hx] at hg w3; have w2 := lift rfl w2; have w3 := lift rfl w3; have hb1 := k18 hg; obtain ⟨⟨yk, yo, ya, yks⟩, ycs, ykk⟩ := t'; have hs := kk7 l j yk yo ya yks ycs ykk; refine ⟨l.set j (.mk (.mk yk yo ya yks) ycs ykk), q3, by omega, by omega, fun s => ?_⟩
   have tk := kb0 (l.set j (.mk (.mk yk yo ya yks) ycs ykk)); simp only [List.length_set] at tk; simp [-getElem?_pos, kz9, F152, modeS, brIds, h0, h0b, c0, c1, al6, rm6, w1, w2, w3, hj, hb1, hs, tk]
end Go.VM
