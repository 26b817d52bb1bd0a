/- Draws: arms spoilt. Conditions: none. -/
import Derived.Test.YtcjdokngpmnkjaaGreatDoorVS4
import Derived.Test.YtcjdokngpmnkjaaGreatDoorVQ11

namespace Go.VM
set_option linter.unusedSimpArgs false
set_option linter.unusedVariables false
set_option maxHeartbeats 16000000
theorem len_of6 (l : List Arm) : ∀ x ∈ armRows l, x.length = 6 := fun x hx => by
 rw [armRows_map] at hx
 obtain ⟨a, _, rfl⟩ := List.mem_map.1 hx
 obtain ⟨⟨_, _, _, _⟩, _, _⟩ := a
 rfl
theorem armRows_set (l : List Arm) (i : Nat) (k op : Int) (as : List Arg) (nks : List Net) (cs : List El) (ks : List Arm) : (armRows l).set i [iD k, iD op, .l 0 (argRows as), .l 0 (netRows nks), .l 0 (elRows cs), .l 0 (armRows ks)] = armRows (l.set i (.mk (.mk k op as nks) cs ks)) := by
 rw [armRows_map l, armRows_map (l.set i (.mk (.mk k op as nks) cs ks)), List.map_set]; simp only [Arm.row]
theorem armsWt_set : ∀ (l : List Arm) (i : Nat) (x y : Arm), l[i]? = some x → armsWt (l.set i y) + x.wt = armsWt l + y.wt
 | [], i, x, y, h => by simp at h
 | a :: r, 0, x, y, h => by simp at h; subst h; simp [armsWt]; omega
 | a :: r, i + 1, x, y, h => by
  have := armsWt_set r i x y (by simpa using h)
  simp only [List.set_cons_succ, armsWt]; omega
theorem elsWt_one (e : El) : elsWt [e] = 1 + e.as.length := by simp [elsWt, El.wt]
theorem zeroArm_wt : armsWt [.mk (.mk 0 0 [] []) [] []] = 2 := by simp [armsWt, Arm.wt, Net.wt, netsWt, elsWt]
theorem draw_SpoilArm {b : List Int} (hb : RD b) : ∀ (m : Nat) (t : Arm), t.wt ≤ m → m ≤ 2 ^ 20 → ∀ (n : Nat), m + 40 ≤ n → ∀ p, p + 200 * m < 2 ^ 34 → ∃ (t' : Arm) (q : Nat), t'.wt ≤ t.wt + 10 ∧ q ≤ p + 200 * m ∧ ∀ s, go n 179 [pV, armX t] [rB b p] s = some ⟨armX t', [rB b q], []⟩
 | 0, t, h, hm, n, hn, p, hp => by have := t.wt_pos; omega
 | m + 1, .mk (.mk nk no na nks) cs ks, h, hm, n, hn, p, hp => by
  obtain ⟨n, rfl⟩ : ∃ k, n = k + 1 := ⟨n - 1, by omega⟩
  have hlk := armsWt_len ks
  have hlc := elsWt_len cs
  simp only [Arm.wt] at h
  have al6 := eq_true (len_of6 ks)
  have al2 := eq_true (len_of2 cs)
  have rm6 : room ks.length 112 = true := room_of (by omega) (by omega)
  have rm6b : room (ks.length + 1) 112 = true := room_of (by omega) (by omega)
  have rm2 : room cs.length 32 = true := room_of (by omega) (by omega)
  have rm2b : room (cs.length + 1) 32 = true := room_of (by omega) (by omega)
  have tk6 : ∀ x : List D, List.take (ks.length + 1) (armRows ks ++ [x]) = armRows ks ++ [x] := fun x => by rw [List.take_of_length_le (by simp)]
  have tk2 : ∀ x : List D, List.take (cs.length + 1) (elRows cs ++ [x]) = elRows cs ++ [x] := fun x => by rw [List.take_of_length_le (by simp)]
  -- what is spoilt here
  have here : ∀ q0, q0 ≤ p + 1 → ∃ (v : Int) (q1 : Nat) (t' : Arm) (q : Nat), t'.wt ≤ (Arm.mk (.mk nk no na nks) cs ks).wt + 10 ∧ q ≤ p + 200 * (m + 1) ∧ (∀ s, go n 67 [pV, iV 6] [rB b q0] s = some ⟨iV v, [rB b q1], []⟩) ∧
   ((v = 0 ∧ t' = .mk (.mk 0 0 [] []) cs ks ∧ q = q1) ∨
    (v = 1 ∧ ∃ u, (∀ s, go n 67 [pV, iV 2] [rB b q1] s = some ⟨iV u, [rB b q], []⟩) ∧ ((u = 0 ∧ t' = .mk (.mk nk no na nks) [] []) ∨ (u ≠ 0 ∧ t' = .mk (.mk nk no na nks) [] ks))) ∨
    (v = 2 ∧ ∃ eo ea, t' = .mk (.mk nk no na nks) (cs ++ [⟨eo, ea⟩]) ks ∧ ∀ s, go n 134 [pV] [rB b q1] s = some ⟨.agg [iW eo, asW ea], [rB b q], []⟩) ∨
    (v = 3 ∧ ∃ co ca q2 eo ea, t' = .mk (.mk nk no na nks) (cs ++ [⟨eo, ea⟩]) ks ∧ (∀ s, go n 135 [pV] [rB b q1] s = some ⟨.agg [iW co, asW ca], [rB b q2], []⟩) ∧ ∀ s, go n 136 [pV, .agg [iW co, asW ca]] [rB b q2] s = some ⟨.agg [iW eo, asW ea], [rB b q], []⟩) ∨
    (v = 4 ∧ t' = .mk (.mk nk no na nks) cs (ks ++ [.mk (.mk 0 0 [] []) [] []]) ∧ q = q1) ∨
    (v ≠ 0 ∧ v ≠ 1 ∧ v ≠ 2 ∧ v ≠ 3 ∧ v ≠ 4 ∧ ∃ uk uo ua uks, t' = .mk (.mk uk uo ua uks) cs ks ∧ ∀ s, go n 116 [pV, .agg [iW nk, iW no, asW na, nsW nks]] [rB b q1] s = some ⟨.agg [iW uk, iW uo, asW ua, nsW uks], [rB b q], []⟩)) := by
   intro q0 hq0
   obtain ⟨v, q1, h1, h2, h3, w⟩ := draw_pick hb 6 q0 (by omega) n (by omega)
   have hnp := Net.wt_pos (.mk nk no na nks)
   by_cases c0 : v = 0
   · exact ⟨v, q1, _, q1, by simp only [Arm.wt, Net.wt, netsWt, List.length_nil]; omega, by omega, w, .inl ⟨c0, rfl, rfl⟩⟩
   by_cases c1 : v = 1
   · obtain ⟨u, q2, u1, u2, u3, w2⟩ := draw_pick hb 2 q1 (by omega) n (by omega)
     by_cases hu : u = 0
     · exact ⟨v, q1, .mk (.mk nk no na nks) [] [], q2, by simp only [Arm.wt, elsWt, armsWt]; omega, by omega, w, .inr (.inl ⟨c1, u, w2, .inl ⟨hu, rfl⟩⟩)⟩
     · exact ⟨v, q1, .mk (.mk nk no na nks) [] ks, q2, by simp only [Arm.wt, elsWt]; omega, by omega, w, .inr (.inl ⟨c1, u, w2, .inr ⟨hu, rfl⟩⟩)⟩
   by_cases c2 : v = 2
   · obtain ⟨⟨eo, ea⟩, q2, g1, g2, w2⟩ := draw_Contact hb q1 (by omega) n (by omega)
     simp only at g1
     exact ⟨v, q1, _, q2, by simp only [Arm.wt, elsWt_append, elsWt_one]; omega, by omega, w, .inr (.inr (.inl ⟨c2, eo, ea, rfl, w2⟩))⟩
   by_cases c3 : v = 3
   · obtain ⟨⟨co, ca⟩, q2, g1, g2, w2⟩ := draw_Coil hb q1 (by omega) n (by omega)
     simp only at g1
     obtain ⟨⟨eo, ea⟩, q3, g3, g4, w3⟩ := draw_Spoil hb ⟨co, ca⟩ (by simp only; omega) q2 (by omega) n (by omega)
     simp only at g3
     exact ⟨v, q1, _, q3, by simp only [Arm.wt, elsWt_append, elsWt_one]; omega, by omega, w, .inr (.inr (.inr (.inl ⟨c3, co, ca, q2, eo, ea, rfl, w2, w3⟩)))⟩
   by_cases c4 : v = 4
   · exact ⟨v, q1, _, q1, by simp only [Arm.wt, armsWt_append, zeroArm_wt]; omega, by omega, w, .inr (.inr (.inr (.inr (.inl ⟨c4, rfl, rfl⟩))))⟩
   · obtain ⟨⟨uk, uo, ua, uks⟩, q2, g1, g2, w2⟩ := draw_SpoilNet hb (Net.mk nk no na nks).wt (.mk nk no na nks) (Nat.le_refl _) (by omega) n (by omega) q1 (by omega)
     exact ⟨v, q1, .mk (.mk uk uo ua uks) cs ks, q2, by simp only [Arm.wt]; omega, by omega, w, .inr (.inr (.inr (.inr (.inr ⟨c0, c1, c2, c3, c4, uk, uo, ua, uks, rfl, w2⟩))))⟩
  by_cases hk : 0 < ks.length
  · have hki : ((0 : Int) < (ks.length : Int)) = True := eq_true (by omega)
    obtain ⟨u, q0, g1, g2, g3, w0⟩ := draw_pick hb 3 p (by omega) n (by omega)
    by_cases hu : 0 < u
    · have hu' := eq_true hu
      obtain ⟨v, q1, h1, h2, h3, w1⟩ := draw_pick hb ks.length q0 (by omega) n (by omega)
      have h2 := h2 (by omega)
      obtain ⟨j, rfl⟩ : ∃ j : Nat, v = j := ⟨v.toNat, by omega⟩
      have hj : j < ks.length := by omega
      have hg := List.getElem?_eq_getElem hj
      have hmem := armsWt_mem (List.getElem_mem hj)
      obtain ⟨t', q2, k1, k2, w2⟩ := draw_SpoilArm hb m ks[j] (by omega) (by omega) n (by omega) q1 (by omega)
      have hset := armsWt_set ks j ks[j] t' hg
      obtain ⟨xk, xo, xa, xks, xcs, xkk, hx⟩ : ∃ k' op as ks' cs' kk, ks[j] = .mk (.mk k' op as ks') cs' kk := by
       cases hq : ks[j] with | mk nn cs ks => cases nn; exact ⟨_, _, _, _, _, _, rfl⟩
      rw [hx] at hg w2
      have hb1 := armRows_get hg
      obtain ⟨⟨yk, yo, ya, yks⟩, ycs, ykk⟩ := t'
      have hs := armRows_set ks j yk yo ya yks ycs ykk
      refine ⟨.mk (.mk nk no na nks) cs (ks.set j (.mk (.mk yk yo ya yks) ycs ykk)), q2, by simp only [Arm.wt]; omega, by omega, fun s => ?_⟩
      have tk := take_armRows (ks.set j (.mk (.mk yk yo ya yks) ycs ykk))
      simp only [List.length_set] at tk
      simp [-getElem?_pos, go_of FT_179 rfl, F179, w0, w1, w2, hki, hk, hu', al6, rm6, hj, hb1, hs, tk, List.replicate]
    · have hu' := eq_false hu
      obtain ⟨v, q1, t', q, e1, e2, w, hcase⟩ := here q0 g3
      refine ⟨t', q, e1, e2, fun s => ?_⟩
      rcases hcase with ⟨rfl, rfl, rfl⟩ | ⟨rfl, u2, w2, hcu⟩ | ⟨rfl, eo, ea, rfl, w2⟩ | ⟨rfl, co, ca, q2, eo, ea, rfl, w2, w3⟩ | ⟨rfl, rfl, rfl⟩ | ⟨c0, c1, c2, c3, c4, uk, uo, ua, uks, rfl, w2⟩
      · simp [go_of FT_179 rfl, F179, w0, w, hki, hk, hu', List.replicate]
      · rcases hcu with ⟨rfl, rfl⟩ | ⟨hcu, rfl⟩
        · simp [go_of FT_179 rfl, F179, w0, w, w2, hki, hk, hu', List.replicate, armRows, elRows]
        · simp [go_of FT_179 rfl, F179, w0, w, w2, hcu, hki, hk, hu', List.replicate, elRows]
      · simp [go_of FT_179 rfl, F179, w0, w, w2, hki, hk, hu', al2, rm2, rm2b, tk2, List.replicate, elRows_append]
        try simp [elRows, El.row]
      · simp [go_of FT_179 rfl, F179, w0, w, w2, w3, hki, hk, hu', al2, rm2, rm2b, tk2, List.replicate, elRows_append]
        try simp [elRows, El.row]
      · simp [go_of FT_179 rfl, F179, w0, w, hki, hk, hu', al6, rm6, rm6b, tk6, List.replicate, armRows_append]
        try simp [armRows, Arm.row, argRows, netRows, elRows]
      · simp [go_of FT_179 rfl, F179, w0, w, w2, c0, c1, c2, c3, c4, hki, hk, hu', List.replicate]
  · have hki : ((0 : Int) < (ks.length : Int)) = False := eq_false (by omega)
    have hke : ks = [] := List.eq_nil_of_length_eq_zero (by omega)
    obtain ⟨v, q1, t', q, e1, e2, w, hcase⟩ := here p (by omega)
    subst hke
    have rm0 : room 0 112 = true := by decide
    have rm1 : room 1 112 = true := by decide
    have ark : armRows [] = [] := by simp [armRows]
    refine ⟨t', q, e1, e2, fun s => ?_⟩
    rcases hcase with ⟨rfl, rfl, rfl⟩ | ⟨rfl, u2, w2, hcu⟩ | ⟨rfl, eo, ea, rfl, w2⟩ | ⟨rfl, co, ca, q2, eo, ea, rfl, w2, w3⟩ | ⟨rfl, rfl, rfl⟩ | ⟨c0, c1, c2, c3, c4, uk, uo, ua, uks, rfl, w2⟩
    · simp [go_of FT_179 rfl, F179, w, rm0, rm1, ark, List.replicate]
    · rcases hcu with ⟨rfl, rfl⟩ | ⟨hcu, rfl⟩
      · simp [go_of FT_179 rfl, F179, w, w2, rm0, rm1, ark, List.replicate, elRows]
      · simp [go_of FT_179 rfl, F179, w, w2, hcu, rm0, rm1, ark, List.replicate, elRows]
    · simp [go_of FT_179 rfl, F179, w, w2, rm0, rm1, ark, al2, rm2, rm2b, tk2, List.replicate, elRows_append]
      try simp [elRows, El.row]
    · simp [go_of FT_179 rfl, F179, w, w2, w3, rm0, rm1, ark, al2, rm2, rm2b, tk2, List.replicate, elRows_append]
      try simp [elRows, El.row]
    · simp [go_of FT_179 rfl, F179, w, rm0, rm1, ark, List.replicate, armRows_append]
      try simp [armRows, Arm.row, argRows, netRows, elRows]
    · simp [go_of FT_179 rfl, F179, w, w2, c0, c1, c2, c3, c4, rm0, rm1, ark, List.replicate]
end Go.VM
