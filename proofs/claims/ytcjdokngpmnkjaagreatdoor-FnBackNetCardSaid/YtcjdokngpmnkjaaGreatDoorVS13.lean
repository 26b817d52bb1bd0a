/- Draws: a list that is spoilt. Conditions: none. -/
import Derived.Test.YtcjdokngpmnkjaaGreatDoorVS12

namespace Go.VM
set_option linter.unusedSimpArgs false
set_option linter.unusedVariables false
set_option maxHeartbeats 16000000
def SpR (b : List Int) (n : Nat) (p : Nat) (L L' : List Ins) (q : Nat) : Prop := ∀ s, go n 314 [pV, .w (isW L)] [rB b p] s = some ⟨.w (isW L'), [rB b q], []⟩
theorem insRows_set (l : List Ins) (i : Nat) (x : Ins) : (insRows l).set i x.row = insRows (l.set i x) := by simp [insRows, List.map_set]
theorem insRows_take' (l : List Ins) (k : Nat) : List.take k (insRows l) = insRows (l.take k) := by simp [insRows, List.map_take]
theorem insRows_drop' (l : List Ins) (k : Nat) : List.drop k (insRows l) = insRows (l.drop k) := by simp [insRows, List.map_drop]
inductive PickUp (b : List Int) (n : Nat) : Nat → Nat → Nat → Nat → Prop
 | stop {m p q : Nat} {v : Int} : 0 ≤ v → v < 2 → (∀ s, go n 67 [pV, iV 2] [rB b p] s = some ⟨iV v, [rB b q], []⟩) → ¬ ((m : Int) < 1000 + v) → PickUp b n m p m q
 | more {m p q m' q' : Nat} {v : Int} : 0 ≤ v → v < 2 → (∀ s, go n 67 [pV, iV 2] [rB b p] s = some ⟨iV v, [rB b q], []⟩) → (m : Int) < 1000 + v → PickUp b n (m + 1) q m' q' → PickUp b n m p m' q'
theorem PickUp.le {b : List Int} {n m p m' q' : Nat} (h : PickUp b n m p m' q') : m ≤ m' := by
 induction h with
 | stop => exact Nat.le_refl _
 | more _ _ _ _ _ ih => omega
theorem PickUp.have {b : List Int} (hb : RD b) (n : Nat) (hn : 1 ≤ n) : ∀ (k m p : Nat), 1001 ≤ m + k → p + k + 1 < 2 ^ 38 → ∃ m' q', m ≤ m' ∧ m' ≤ max m 1001 ∧ q' ≤ p + k + 1 ∧ PickUp b n m p m' q'
 | k, m, p, hk, hp => by
  obtain ⟨v, q, v1, v2, v3, w⟩ := draw_pick hb 2 p (by omega) n hn; have v2 := v2 (by omega)
  by_cases h : (m : Int) < 1000 + v
  · match k with
    | 0 => omega
    | k + 1 =>
     obtain ⟨m', q', h1, h2, h3, h4⟩ := PickUp.have hb n hn k (m + 1) q (by omega) (by omega); exact ⟨m', q', by omega, by omega, by omega, .more v1 v2 w h h4⟩
  · exact ⟨m, q, Nat.le_refl _, by omega, by omega, .stop v1 v2 w h⟩
theorem loop314 {b : List Int} {n : Nat} (x : Ins) (hn : 1100 ≤ n) (L : List Ins) (hL : L.length ≤ 2000) (m' : Nat) (hm' : m' ≤ max L.length 1001) (p q' : Nat) (hP : PickUp b n L.length p m' q') (st : St)
 (h0 : st.τ 0 = pV) (h5 : ∃ bx, st.τ 5 = .w (.own bx 0 L.length none) ∧ 0 < bx ∧ bx < 2113 ∧ st.H bx = .row none 3 (insRows L) 0 ∧ bx < st.g) (h7 : st.τ 7 = .w (.ptr 2113 0)) (hA : st.H 0 = rB b p)
 (hC : st.H 2113 = .cells [iW x.c, iW x.e.op, asW x.e.as]) (hg : 2113 < st.g) :
 ∃ e st', execC (go n) mode GT false 130 n F314_L0 st = some (e, st') ∧ e ≠ .normal ∧ (e = .exit 1 ∧ ∃ bx, st'.τ 5 = .w (.own bx 0 m' none) ∧ 0 < bx ∧ st'.H 0 = rB b q' ∧ st'.H bx = .row none 3 (insRows (L ++ List.replicate (m' - L.length) x)) 0) := by
 rw [F314_L0, execC_loop]; refine iter_rule (fun k st => ∃ (M : List Ins) (r bx : Nat), M ++ List.replicate (m' - M.length) x = L ++ List.replicate (m' - L.length) x ∧ m' - M.length = k ∧ M.length ≤ 2000 + 1001 ∧ PickUp b n M.length r m' q' ∧ st.τ 0 = pV ∧ st.τ 5 = .w (.own bx 0 M.length none) ∧ 0 < bx ∧ bx ≠ 2113 ∧ bx < st.g ∧ st.H bx = .row none 3 (insRows M) 0 ∧
  st.τ 7 = .w (.ptr 2113 0) ∧ st.H 0 = rB b r ∧ st.H 2113 = .cells [iW x.c, iW x.e.op, asW x.e.as] ∧ 2113 < st.g) ?_ n (m' - L.length) st ?_ ?_
 · clear h0 h5 h7 hA hC hg hP
   rintro k ⟨τ, H, g, s⟩ ⟨M, r, bx, hM, hk, hlen, hP, h0, h5, hb1, hb2, hb3, hB, h7, hA, hC, hg⟩; simp only at h0 h5 h7 hA hC hg hB hb3; have fgX := far hg; have fbX := far hb3; have fzX := far (show 0 < g by omega); have b1 : (bx = 2113) = False := eq_false hb2; have b2 : (2113 = bx) = False := eq_false (Ne.symm hb2); have b3 : (bx = 0) = False := eq_false (by omega); have b4 : (0 = bx) = False := eq_false (by omega); have tkM := take_insRows M; have al := eq_true (insRow_all M); cases hP with
   | @stop _ _ _ v v1 v2 w hc =>
    have hwv : IntKind.wrap .i64 (1000 + v) = 1000 + v := wrap_id (by omega) (by omega); have hcF := eq_false hc; refine ⟨.exit 1, ?_⟩
    simp [F314_B0, h0, h5, h7, hA, w, hwv, hcF, b1, b2, b3, b4, fgX, fbX, fzX, hB]; refine ⟨by omega, ?_⟩
    rw [← hM]; simp
   | @more _ _ q2 _ _ v v1 v2 w hc hP2 =>
    have hwv : IntKind.wrap .i64 (1000 + v) = 1000 + v := wrap_id (by omega) (by omega); have hcT := eq_true hc; have hle := hP2.le; have rm1 : room 1 40 = true := by decide
    have rmM : room (M.length + 1) 40 = true := room_of (by omega) (by omega); have e1 : m' - M.length = (m' - (M.length + 1)) + 1 := by omega
    refine ⟨.normal, ?_⟩
    simp [-getElem?_pos, F314_B0, h0, h5, h7, hA, hC, w, hwv, hcT, b1, b2, b3, b4, fgX, fbX, fzX, hB, rm1, rmM, tkM, al, insRows_length]; have hML : (M ++ [x]).length = M.length + 1 := by simp
    refine ⟨m' - (M.length + 1), by omega, M ++ [x], ?_, by rw [hML], by rw [hML]; omega, q2, by rw [hML]; exact hP2, g + 384 + 192, ⟨rfl, hML.symm⟩, by omega, by omega, by omega, ?_, rfl, by omega⟩
    · rw [← hM, hML, e1, List.replicate_succ]; simp
    · rw [if_pos rfl, insRows_append]; simp [insRows, Ins.row]
 · omega
 · obtain ⟨bx, k1, k2, k3, k4, k5⟩ := h5
   exact ⟨L, p, bx, rfl, rfl, by omega, hP, h0, k1, k2, by omega, k5, k4, h7, hA, hC, hg⟩
theorem spoil_list {b : List Int} (hb : RD b) (L : List Ins) (k0 : Nat) (hL : L.length ≤ 2000) (hA : ∀ x ∈ L, x.e.as.length ≤ k0) (hk : 4 ≤ k0) (hk0 : k0 ≤ 100) (p : Nat) (hp : p < 2 ^ 33) (n : Nat) (hn : 3000 ≤ n) :
 ∃ (L' : List Ins) (q : Nat), L'.length ≤ 2001 ∧ (∀ x ∈ L', x.e.as.length ≤ k0 + 1) ∧ q ≤ p + 3000 ∧ SpR b n p L L' q := by
 obtain ⟨n, rfl⟩ : ∃ k, n = k + 1 := ⟨n - 1, by omega⟩; have al := eq_true (insRow_all L); have tkL := take_insRows L; have rmL : room L.length 40 = true := room_of (by omega) (by omega); have rmL1 : room (L.length + 1) 40 = true := room_of (by omega) (by omega); have rm1 : room 1 40 = true := by decide
 have rm0 : room 0 40 = true := by decide
 by_cases h0 : L = []
 · subst h0
   obtain ⟨⟨ic, io, ia⟩, q1, g1, g2, w1⟩ := draw_Inst hb p (by omega) n (by omega); simp only at g1; refine ⟨[⟨ic, ⟨io, ia⟩⟩], q1, by simp, fun x hx => by rw [List.mem_singleton.1 hx]; simp only; omega, by omega, fun s => ?_⟩
   simp [go_of FT_314 rfl, F314, w1, insRows, Ins.row, rm1, rm0]
 have hlen : 0 < L.length := List.length_pos_iff.2 h0; have hl0 : ((L.length : Int) = 0) = False := eq_false (by omega); have hl0' : (L.length = 0) = False := eq_false (by omega); obtain ⟨kk, q1, k1, k2, k3, w1⟩ := draw_pick hb (L.length : Int) p (by omega) n (by omega); have k2 := k2 (by omega); obtain ⟨K, rfl, hK⟩ : ∃ K : Nat, kk = K ∧ K < L.length := ⟨kk.toNat, by omega, by omega⟩; obtain ⟨v, q2, v1, v2, v3, w2⟩ := draw_pick hb 9 q1 (by omega) n (by omega); have hget := List.getElem?_eq_getElem hK; have hmem := List.getElem_mem hK; have hKa := hA _ hmem; generalize hx : L[K] = x at hget hmem hKa
 have hrow : (insRows L)[K]? = some [iD x.c, iD x.e.op, .l 0 (argRows x.e.as)] := insRows_get hget; have hKi : ((K : Int) < (L.length : Int)) = True := eq_true (by omega); have hKl : (K < L.length) = True := eq_true hK; have hKle : (K ≤ L.length) = True := eq_true (by omega); have hw := wrap_succ (i := K) (by omega); have hK1 : (0 ≤ (K : Int) + 1) = True := eq_true (by omega); have hK2 : ((K : Int) + 1 ≤ (L.length : Int)) = True := eq_true (by omega); have q3 : (K + 1 + (L.length - (K + 1)) ≤ L.length) = True := eq_true (by omega); have q4 : (K + (L.length - K) ≤ L.length) = True := eq_true (by omega)
 have dr : List.take (L.length - (K + 1)) (List.drop (K + 1) (insRows L)) = insRows (L.drop (K + 1)) := by rw [insRows_drop']; exact List.take_of_length_le (by simp [insRows_length])
 have dr2 : List.take (L.length - K) (List.drop K (insRows L)) = insRows (L.drop K) := by rw [insRows_drop']; exact List.take_of_length_le (by simp [insRows_length])
 have tkK := insRows_take' L K; have lnK : (L.take K).length = K := by rw [List.length_take]; omega
 have tkK2 : List.take K (insRows (L.take K)) = insRows (L.take K) := List.take_of_length_le (by rw [insRows_length]; omega); have alT := eq_true (insRow_all (L.take K)); have alD := eq_true (insRow_all (L.drop (K + 1))); have alD2 := eq_true (insRow_all (L.drop K))
 by_cases c0 : v = 0
 · subst c0
   refine ⟨L.take K ++ L.drop (K + 1), q2, by simp; omega, fun y hy => ?_, by omega, fun s => ?_⟩
   · rcases List.mem_append.1 hy with h | h
     · have := hA y (List.mem_of_mem_take h); omega
     · have := hA y (List.mem_of_mem_drop h); omega
   · have rmA : room (K + (L.length - (K + 1))) 40 = true := room_of (by omega) (by omega)
     simp [-getElem?_pos, go_of FT_314 rfl, F314, w1, w2, insRows_length, al, tkL, rmL, hl0, hl0', hKi, hKl, hKle, hw, h0, hK1, hK2, rmA, q3, dr, tkK, tkK2, lnK, alT, alD, List.length_drop]; rw [← insRows_append]; exact List.take_of_length_le (by simp [insRows_length]; omega)
 by_cases c1 : v = 1
 · subst c1
   obtain ⟨⟨ic, io, ia⟩, q3, g1, g2, w3⟩ := draw_Inst hb q2 (by omega) n (by omega); simp only at g1; refine ⟨L.take K ++ (⟨ic, ⟨io, ia⟩⟩ :: L.drop K), q3, by simp; omega, fun y hy => ?_, by omega, fun s => ?_⟩
   · rcases List.mem_append.1 hy with h | h
     · have := hA y (List.mem_of_mem_take h); omega
     · rcases List.mem_cons.1 h with rfl | h
       · simp only; omega
       · have := hA y (List.mem_of_mem_drop h); omega
   · have rmA : room K 40 = true := room_of (by omega) (by omega)
     have rmB : room (K + 1) 40 = true := room_of (by omega) (by omega); have rmC : room (K + 1 + (L.length - K)) 40 = true := room_of (by omega) (by omega); simp [-getElem?_pos, go_of FT_314 rfl, F314, w1, w2, w3, insRows_length, al, tkL, rmL, hl0, hl0', hKi, hKl, hKle, hw, h0, hK1, hK2, rmA, rmB, rmC, dr2, tkK, tkK2, lnK, alT, alD2]; have e1 : insRows (List.take K L) ++ [[D.s (Value.int IntKind.i64 ic), D.s (Value.int IntKind.i64 io), D.l 0 (argRows ia)]] = insRows (List.take K L ++ [⟨ic, ⟨io, ia⟩⟩]) := by rw [insRows_append]; rfl
     rw [e1, List.take_of_length_le (by simp [insRows_length]; omega), List.take_of_length_le (by simp [insRows_length]; omega), ← insRows_append]; simp
 by_cases c2 : v = 2
 · subst c2
   obtain ⟨⟨ic, io, ia⟩, q3, g1, g2, w3⟩ := draw_Inst hb q2 (by omega) n (by omega); simp only at g1; refine ⟨L.set K ⟨ic, ⟨io, ia⟩⟩, q3, by simp; omega, fun y hy => ?_, by omega, fun s => ?_⟩
   · rcases List.mem_or_eq_of_mem_set hy with h | rfl
     · have := hA y h; omega
     · simp only; omega
   · simp [-getElem?_pos, go_of FT_314 rfl, F314, w1, w2, w3, insRows_length, al, tkL, rmL, hl0, hl0', hKi, hKl, hKle, hw, h0, hK1, hK2, hrow]
     rw [show [D.s (Value.int IntKind.i64 ic), D.s (Value.int IntKind.i64 io), D.l 0 (argRows ia)] = Ins.row ⟨ic, ⟨io, ia⟩⟩ from rfl, insRows_set]; exact List.take_of_length_le (by simp [insRows_length])
 by_cases c3 : v = 3
 · subst c3
   obtain ⟨u, q3, u1, u2, u3, w3⟩ := draw_pick hb 14 q2 (by omega) n (by omega); have u2 := u2 (by omega); have hwu : IntKind.wrap .i64 (u - 1) = u - 1 := wrap_id (by omega) (by omega); refine ⟨L.set K ⟨u - 1, x.e⟩, q3, by simp; omega, fun y hy => ?_, by omega, fun s => ?_⟩
   · rcases List.mem_or_eq_of_mem_set hy with h | rfl
     · have := hA y h; omega
     · simp only; omega
   · simp [-getElem?_pos, go_of FT_314 rfl, F314, w1, w2, w3, insRows_length, al, tkL, rmL, hl0, hl0', hKi, hKl, hKle, hw, h0, hK1, hK2, hrow, hwu]
     rw [show [D.s (Value.int IntKind.i64 (u - 1)), D.s (Value.int IntKind.i64 x.e.op), D.l 0 (argRows x.e.as)] = Ins.row ⟨u - 1, x.e⟩ from rfl, insRows_set]; exact List.take_of_length_le (by simp [insRows_length])
 by_cases c4 : v = 4
 · subst c4
   obtain ⟨⟨eo, ea⟩, q3, g1, g2, w3⟩ := draw_Spoil hb x.e (by omega) q2 (by omega) n (by omega); simp only at g1; refine ⟨L.set K ⟨x.c, ⟨eo, ea⟩⟩, q3, by simp; omega, fun y hy => ?_, by omega, fun s => ?_⟩
   · rcases List.mem_or_eq_of_mem_set hy with h | rfl
     · have := hA y h; omega
     · simp only; omega
   · simp [-getElem?_pos, go_of FT_314 rfl, F314, w1, w2, w3, insRows_length, al, tkL, rmL, hl0, hl0', hKi, hKl, hKle, hw, h0, hK1, hK2, hrow]
     rw [show [D.s (Value.int IntKind.i64 x.c), D.s (Value.int IntKind.i64 eo), D.l 0 (argRows ea)] = Ins.row ⟨x.c, ⟨eo, ea⟩⟩ from rfl, insRows_set]; exact List.take_of_length_le (by simp [insRows_length])
 by_cases c5 : v = 5
 · subst c5
   refine ⟨L.take K, q2, by simp; omega, fun y hy => ?_, by omega, fun s => ?_⟩
   · have := hA y (List.mem_of_mem_take hy); omega
   · simp [-getElem?_pos, go_of FT_314 rfl, F314, w1, w2, insRows_length, al, tkL, rmL, hl0, hl0', hKi, hKl, hKle, hw, h0, hK1, hK2, hrow, tkK]
 by_cases c7 : v = 7
 · subst c7
   obtain ⟨jj, q3, u1, u2, u3, w3⟩ := draw_pick hb (L.length : Int) q2 (by omega) n (by omega); have u2 := u2 (by omega); obtain ⟨J, rfl, hJ⟩ : ∃ J : Nat, jj = J ∧ J < L.length := ⟨jj.toNat, by omega, by omega⟩; have hgetJ := List.getElem?_eq_getElem hJ; have hmemJ := List.getElem_mem hJ; have hJa := hA _ hmemJ; generalize hy : L[J] = y at hgetJ hmemJ hJa; have hrowJ : (insRows L)[J]? = some [iD y.c, iD y.e.op, .l 0 (argRows y.e.as)] := insRows_get hgetJ; have hset : (insRows L).set K [iD y.c, iD y.e.op, .l 0 (argRows y.e.as)] = insRows (L.set K y) := insRows_set L K y
   have hset2 : (insRows (L.set K y)).set J [iD x.c, iD x.e.op, .l 0 (argRows x.e.as)] = insRows ((L.set K y).set J x) := insRows_set (L.set K y) J x; have hgetJ2 : (L.set K y)[J]? = some y := by
    rw [List.getElem?_set]; split
    · subst_vars; simp [hJ]
    · exact hgetJ
   have hrowJ2 : (insRows (L.set K y))[J]? = some [iD y.c, iD y.e.op, .l 0 (argRows y.e.as)] := insRows_get hgetJ2; have hJi : ((J : Int) < (L.length : Int)) = True := eq_true (by omega); have hJl : (J < L.length) = True := eq_true hJ; refine ⟨(L.set K y).set J x, q3, by simp; omega, fun z hz => ?_, by omega, fun s => ?_⟩
   · rcases List.mem_or_eq_of_mem_set hz with h | rfl
     · rcases List.mem_or_eq_of_mem_set h with h | rfl
       · have := hA z h; omega
       · omega
     · omega
   · simp [-getElem?_pos, go_of FT_314 rfl, F314, w1, w2, w3, insRows_length, al, tkL, rmL, hl0, hl0', hKi, hKl, hKle, hw, h0, hK1, hK2, hrow, hrowJ, hJi, hJl, hset, hset2, hrowJ2]
     exact List.take_of_length_le (by simp [insRows_length])
 by_cases c6 : v = 6
 · subst c6
   obtain ⟨m', q3, u1, u2, u3, hP⟩ := PickUp.have hb n (by omega) 1001 L.length q2 (by omega) (by omega); refine ⟨L ++ List.replicate (m' - L.length) x, q3, by simp; omega, fun y hy => ?_, by omega, fun s => ?_⟩
   · rcases List.mem_append.1 hy with h | h
     · have := hA y h; omega
     · rw [(List.mem_replicate.1 h).2]; omega
   · simp [-getElem?_pos, go_of FT_314 rfl, F314, w1, w2, insRows_length, al, tkL, rmL, hl0, hl0', hKi, hKl, hKle, hw, h0, hK1, hK2, hrow]
     generalize hst : St.mk _ _ _ _ = st; obtain ⟨e, ⟨τ', H', g', s'⟩, hx, -, rfl, bx, e5, ex, eA, eB⟩ := loop314 x (by omega) L (by omega) m' (by omega) q2 q3 hP st (by simp [← hst]) ⟨193, by simp [← hst], by omega, by omega, by simp [← hst], by simp [← hst]⟩ (by simp [← hst]) (by simp [← hst]) (by simp [← hst]) (by simp [← hst]); simp only at e5 eA eB; have b0 : (bx = 0) = False := eq_false (by omega); have b1 : (0 = bx) = False := eq_false (by omega); have b2 : m' = L.length + (m' - L.length) := by omega
     have tk := take_insRows (L ++ List.replicate (m' - L.length) x); have tk : List.take m' (insRows (L ++ List.replicate (m' - L.length) x)) = insRows (L ++ List.replicate (m' - L.length) x) := by
      rw [List.length_append, List.length_replicate, ← b2] at tk; exact tk
     have hle : (m' ≤ (insRows (L ++ List.replicate (m' - L.length) x)).length) = True := eq_true (by rw [insRows_length]; simp; omega); simp [hx, e5, eA, eB, b0, b1, tk, hle]
 · obtain ⟨⟨eo, ea⟩, q3, g1, g2, w3⟩ := draw_El4 hb q2 (by omega) n (by omega)
   simp only at g1; refine ⟨L.set K ⟨x.c, ⟨eo, ea⟩⟩, q3, by simp; omega, fun y hy => ?_, by omega, fun s => ?_⟩
   · rcases List.mem_or_eq_of_mem_set hy with h | rfl
     · have := hA y h; omega
     · simp only; omega
   · simp [-getElem?_pos, go_of FT_314 rfl, F314, w1, w2, w3, insRows_length, al, tkL, rmL, hl0, hl0', hKi, hKl, hKle, hw, h0, hK1, hK2, hrow, c0, c1, c2, c3, c4, c5, c6, c7]
     rw [show [D.s (Value.int IntKind.i64 x.c), D.s (Value.int IntKind.i64 eo), D.l 0 (argRows ea)] = Ins.row ⟨x.c, ⟨eo, ea⟩⟩ from rfl, insRows_set]; exact List.take_of_length_le (by simp [insRows_length])
end Go.VM
