/- Draws: a list of a net, or what looks like one. Conditions: none. -/
import Derived.Test.YtcjdokngpmnkjaaGreatDoorVS13

namespace Go.VM
set_option linter.unusedSimpArgs false
set_option linter.unusedVariables false
set_option maxHeartbeats 16000000
def InsR (b : List Int) (n : Nat) (p : Nat) (i : Ins) (q : Nat) : Prop := ∀ s, go n 313 [pV] [rB b p] s = some ⟨insX i, [rB b q], []⟩
def P8R (b : List Int) (n : Nat) (p : Nat) (v : Int) (q : Nat) : Prop := ∀ s, go n 67 [pV, iV 8] [rB b p] s = some ⟨iV v, [rB b q], []⟩
inductive Gath (b : List Int) (n : Nat) : Nat → List Ins → Nat → List Ins → Nat → Prop
 | nil {L p} : Gath b n 0 L p L p
 | keep {k L p q L' q' i} : InsR b n p i q → i.c < 7 → Gath b n k (L ++ [i]) q L' q' → Gath b n (k + 1) L p L' q'
 | pick {k L p q r L' q' i} : InsR b n p i q → ¬ i.c < 7 → P8R b n q 0 r → Gath b n k (L ++ [i]) r L' q' → Gath b n (k + 1) L p L' q'
 | drop {k L p q r L' q' i v} : InsR b n p i q → ¬ i.c < 7 → P8R b n q v r → v ≠ 0 → Gath b n k L r L' q' → Gath b n (k + 1) L p L' q'
theorem Gath.have {b : List Int} (hb : RD b) (n : Nat) (hn : 100 ≤ n) : ∀ (k : Nat) (L : List Ins) (p : Nat), p + 70 * k < 2 ^ 34 → (∀ x ∈ L, x.e.as.length ≤ 3) →
 ∃ L' q', Gath b n k L p L' q' ∧ L'.length ≤ L.length + k ∧ (∀ x ∈ L', x.e.as.length ≤ 3) ∧ q' ≤ p + 70 * k
 | 0, L, p, hp, hA => ⟨L, p, .nil, by omega, hA, by omega⟩
 | k + 1, L, p, hp, hA => by
  obtain ⟨i, q, g1, g2, w⟩ := draw_Inst hb p (by omega) n hn; have hA1 : ∀ x ∈ L ++ [i], x.e.as.length ≤ 3 := fun x hx => by
   rcases List.mem_append.1 hx with h | h
   · exact hA x h
   · rw [List.mem_singleton.1 h]; exact g1
  by_cases c : i.c < 7
  · obtain ⟨L', q', h1, h2, h3, h4⟩ := Gath.have hb n hn k (L ++ [i]) q (by omega) hA1
    exact ⟨L', q', .keep w c h1, by simp at h2; omega, h3, by omega⟩
  · obtain ⟨v, r, v1, v2, v3, w2⟩ := draw_pick hb 8 q (by omega) n (by omega)
    by_cases c2 : v = 0
    · subst c2
      obtain ⟨L', q', h1, h2, h3, h4⟩ := Gath.have hb n hn k (L ++ [i]) r (by omega) hA1; exact ⟨L', q', .pick w c w2 h1, by simp at h2; omega, h3, by omega⟩
    · obtain ⟨L', q', h1, h2, h3, h4⟩ := Gath.have hb n hn k L r (by omega) hA
      exact ⟨L', q', .drop w c w2 c2 h1, by omega, h3, by omega⟩
theorem loop286_0 {b : List Int} {n : Nat} (N : Nat) (L : List Ins) (hn : 200 ≤ n) (hN : N ≤ 100) (p : Nat) (L' : List Ins) (q' : Nat) (hG : Gath b n N [] p L' q') (rd : Nat) (st : St)
 (h3 : st.τ 3 = .w (.ptr rd 0)) (h4 : ∃ bx, st.τ 4 = .w (.own bx 0 0 (some 0)) ∧ bx ≠ rd ∧ st.H bx = .row none 3 [] 0 ∧ bx < st.g) (h5 : st.τ 5 = iV N) (hA : st.H rd = rB b p) (hg : rd < st.g) (hr0 : 0 < rd) :
 ∃ e st', execC (go n) mode GT false 65 n F286_L0 st = some (e, st') ∧ e ≠ .normal ∧ (e = .exit 0 ∧ ∃ bx c, st'.τ 4 = .w (.own bx 0 L'.length c) ∧ st'.H bx = .row none 3 (insRows L') 0) := by
 rw [F286_L0, execC_loop]; refine iter_rule (fun k st => ∃ (M : List Ins) (r bx : Nat) (c : Option Nat), Gath b n k M r L' q' ∧ M.length + k ≤ 1000 ∧ st.τ 3 = .w (.ptr rd 0) ∧ st.τ 4 = .w (.own bx 0 M.length c) ∧ bx ≠ rd ∧ st.H bx = .row none 3 (insRows M) 0 ∧ bx < st.g ∧ st.τ 5 = iV k ∧ st.H rd = rB b r ∧ rd < st.g) ?_ n N st (by omega) ?_
 · clear h3 h4 h5 hA hg hG
   rintro k ⟨τ, H, g, s⟩ ⟨M, r, bx, c, hG, hlen, h3, h4, hb2, hB, hb3, h5, hA, hg⟩; simp only at h3 h4 hB hb3 h5 hA hg; have fgX := far hg; have fbX := far hb3; have b1 : (bx = rd) = False := eq_false hb2; have b2 : (rd = bx) = False := eq_false (Ne.symm hb2); have tkM := take_insRows M; have al := eq_true (insRow_all M); have rm1 : room 1 40 = true := by decide
   have rmM : room (M.length + 1) 40 = true := room_of (by omega) (by omega); cases hG with
   | nil =>
    refine ⟨.exit 0, ?_⟩
    simp [F286_B0, h3, h4, h5, hA, b1, b2, fgX, fbX, hB]
   | @keep k _ _ q _ _ i w hc hG =>
    obtain ⟨ic, io, ia⟩ := i; have w : ∀ s, _ := w; simp only at hc; refine ⟨.normal, ?_⟩
    simp [-getElem?_pos, F286_B0, h3, h4, h5, hA, w, b1, b2, fgX, fbX, hB, rm1, rmM, tkM, al, insRows_length, hc]; have hML : (M ++ [Ins.mk ic ⟨io, ia⟩]).length = M.length + 1 := by simp
    refine ⟨k, by omega, M ++ [Ins.mk ic ⟨io, ia⟩], q, hG, by rw [hML]; omega, g + 128 + 256 + 512 + 192, ⟨rfl, hML.symm⟩, by omega, ?_, by omega, wrap_id (by omega) (by omega), rfl, by omega⟩
    rw [if_pos rfl, insRows_append]; simp [insRows, Ins.row]
   | @pick k _ _ q r2 _ _ i w hc w2 hG =>
    obtain ⟨ic, io, ia⟩ := i; have w : ∀ s, _ := w; have w2 : ∀ s, _ := w2; simp only at hc; refine ⟨.normal, ?_⟩
    simp [-getElem?_pos, F286_B0, h3, h4, h5, hA, w, w2, b1, b2, fgX, fbX, hB, rm1, rmM, tkM, al, insRows_length, hc]; have hML : (M ++ [Ins.mk ic ⟨io, ia⟩]).length = M.length + 1 := by simp
    refine ⟨k, by omega, M ++ [Ins.mk ic ⟨io, ia⟩], r2, hG, by rw [hML]; omega, g + 128 + 256 + 512 + 192, ⟨rfl, hML.symm⟩, by omega, ?_, by omega, wrap_id (by omega) (by omega), rfl, by omega⟩
    rw [if_pos rfl, insRows_append]; simp [insRows, Ins.row]
   | @drop k _ _ q r2 _ _ i v w hc w2 hv hG =>
    obtain ⟨ic, io, ia⟩ := i; have w : ∀ s, _ := w; have w2 : ∀ s, _ := w2; simp only at hc; refine ⟨.normal, ?_⟩
    simp [-getElem?_pos, F286_B0, h3, h4, h5, hA, w, w2, b1, b2, fgX, fbX, hB, rm1, rmM, tkM, al, insRows_length, hc, hv]; exact ⟨k, by omega, M, r2, hG, by omega, bx, ⟨rfl, rfl⟩, hb2, by simp [b1, fbX, hB], by omega, wrap_id (by omega) (by omega), rfl, by omega⟩
 · obtain ⟨bx, k1, k2, k3, k4⟩ := h4
   exact ⟨[], p, bx, some 0, hG, by simp; omega, h3, by simpa using k1, k2, by simpa [insRows] using k3, k4, h5, hA, hg⟩
def contF : List El → List Ins
 | [] => []
 | e :: r => ⟨IntKind.wrap .i64 (2 + ((r.length + 1 : Nat) : Int).tmod 2), e⟩ :: contF r
theorem contF_len : ∀ l, (contF l).length = l.length
 | [] => rfl
 | e :: r => by simp [contF, contF_len r]
theorem contF_args : ∀ l : List El, (∀ e ∈ l, e.as.length ≤ 2) → ∀ x ∈ contF l, x.e.as.length ≤ 2
 | [], _, x, hx => by simp [contF] at hx
 | e :: r, h, x, hx => by
  rcases List.mem_cons.1 hx with rfl | hx
  · exact h e (List.mem_cons_self ..)
  · exact contF_args r (fun y hy => h y (List.mem_cons_of_mem _ hy)) x hx
theorem loop286_1 {b : List Int} {n : Nat} (es : List El) (L : List Ins) (hn : 1000 ≤ n) (hN : es.length ≤ 500) (hL : L.length ≤ 2000) (p q' : Nat) (hS : Seq (ContR b n) p es q') (rd : Nat) (st : St)
 (h3 : st.τ 3 = .w (.ptr rd 0)) (h4 : ∃ bx c, st.τ 4 = .w (.own bx 0 L.length c) ∧ bx ≠ rd ∧ st.H bx = .row none 3 (insRows L) 0 ∧ bx < st.g) (h7 : st.τ 7 = iV es.length) (hA : st.H rd = rB b p) (hg : rd < st.g) :
 ∃ e st', execC (go n) mode GT false 65 n F286_L1 st = some (e, st') ∧ e ≠ .normal ∧ (e = .exit 2 ∧ ∃ bx c, st'.τ 3 = .w (.ptr rd 0) ∧ st'.τ 4 = .w (.own bx 0 (L ++ contF es).length c) ∧ bx ≠ rd ∧ bx < st'.g ∧ st'.H bx = .row none 3 (insRows (L ++ contF es)) 0 ∧ st'.H rd = rB b q') := by
 rw [F286_L1, execC_loop]; refine iter_rule (fun k st => ∃ (M : List Ins) (rest : List El) (r bx : Nat) (c : Option Nat), M ++ contF rest = L ++ contF es ∧ rest.length = k ∧ M.length + k ≤ 2500 ∧ Seq (ContR b n) r rest q' ∧ st.τ 3 = .w (.ptr rd 0) ∧ st.τ 4 = .w (.own bx 0 M.length c) ∧ bx ≠ rd ∧ st.H bx = .row none 3 (insRows M) 0 ∧ bx < st.g ∧ st.τ 7 = iV k ∧ st.H rd = rB b r ∧ rd < st.g) ?_ n es.length st (by omega) ?_
 · clear h3 h4 h7 hA hg hS
   rintro k ⟨τ, H, g, s⟩ ⟨M, rest, r, bx, c, hM, hk, hlen, hS, h3, h4, hb2, hB, hb3, h7, hA, hg⟩; simp only at h3 h4 hB hb3 h7 hA hg; have fgX := far hg; have fbX := far hb3; have b1 : (bx = rd) = False := eq_false hb2; have b2 : (rd = bx) = False := eq_false (Ne.symm hb2); have tkM := take_insRows M; have al := eq_true (insRow_all M); have rm1 : room 1 40 = true := by decide
   have rmM : room (M.length + 1) 40 = true := room_of (by omega) (by omega); cases hS with
   | nil =>
    simp only [List.length_nil] at hk; subst hk; refine ⟨.exit 2, ?_⟩
    simp only [contF, List.append_nil] at hM; simp [F286_B1, h3, h4, h7, hA, b1, b2, fgX, fbX, hB, ← hM, hb2]; omega
   | @cons _ q2 _ e rest2 w hS2 =>
    have w : ∀ s, _ := w; obtain ⟨eo, ea⟩ := e; simp only [List.length_cons] at hk; subst hk; have ewr : ∃ v, IntKind.wrap .i64 (2 + ((rest2.length + 1 : Nat) : Int).tmod 2) = v := ⟨_, rfl⟩; obtain ⟨v, ewr⟩ := ewr; have hM2 : (M ++ [Ins.mk v ⟨eo, ea⟩]) ++ contF rest2 = L ++ contF es := by
     rw [← hM]; simp [contF, ewr]; exact ewr.symm
    simp only [Int.natCast_add, Int.natCast_one] at ewr; refine ⟨.normal, ?_⟩
    simp [-getElem?_pos, F286_B1, h3, h4, h7, hA, w, b1, b2, fgX, fbX, hB, rm1, rmM, tkM, al, insRows_length, ewr]; have hML : (M ++ [Ins.mk v ⟨eo, ea⟩]).length = M.length + 1 := by simp
    refine ⟨rest2.length, by omega, M ++ [Ins.mk v ⟨eo, ea⟩], rest2, hM2, rfl, by rw [hML]; omega, q2, hS2, g + 128 + 512, ⟨rfl, hML.symm⟩, by omega, ?_, by omega, wrap_id (by omega) (by omega), rfl, by omega⟩
    rw [if_pos rfl, insRows_append]; simp [insRows, Ins.row]
 · obtain ⟨bx, c, k1, k2, k3, k4⟩ := h4
   exact ⟨L, es, p, bx, c, rfl, rfl, by omega, hS, h3, k1, k2, k3, k4, h7, hA, hg⟩
mutual
theorem begins_len2 : ∀ t : Net, t.begins.length + 1 ≤ 2 * t.wt
 | .mk k op as [] => by simp only [Net.begins, Net.wt, List.length_singleton]; omega
 | .mk k op as (x :: r) => by
  have h1 := begins_len2 x; have h2 := taken_len2 k r; simp only [Net.begins, Net.wt, netsWt]; split
  · simp only [List.length_append, List.length_singleton]; omega
  · simp only [List.length_append]; omega
theorem taken_len2 : ∀ (k : Int) (l : List Net), (netsTaken k l).length ≤ 2 * netsWt l
 | k, [] => by simp [netsTaken]
 | k, x :: r => by
  have h1 := begins_len2 x; have h2 := taken_len2 k r; simp only [netsTaken, List.length_append, netsWt, Net.taken]; split
  · simp only [List.length_singleton]; omega
  · simp only [List.length_append, List.length_singleton]; omega
end
theorem shp_one {x : Net} (h : x.shp = true) (hk : x.kind = 1) : x.as.length ≤ 4 := by
 obtain ⟨k, op, as, ks⟩ := x; cases ks with
 | nil => exact (shp_leaf h).2
 | cons y r => have := (shp_kids h).1; simp only [Net.kind] at hk; omega
mutual
theorem shp_args : ∀ t : Net, t.shp = true → ∀ i ∈ t.begins, i.e.as.length ≤ 4
 | .mk k op as [], h, i, hi => by
  simp only [Net.begins, List.mem_singleton] at hi; subst hi; exact (shp_leaf h).2
 | .mk k op as (x :: r), h, i, hi => by
  obtain ⟨_, h1, h2, _⟩ := shp_kids h; simp only [Net.begins] at hi; rcases List.mem_append.1 hi with hi | hi
  · exact shp_args x h1 i hi
  · split at hi
    · rw [List.mem_singleton.1 hi]; simp [Ins.bare]
    · exact shp_taken k r h2 i hi
theorem shp_taken : ∀ (k : Int) (l : List Net), (∀ y ∈ l, y.shp = true) → ∀ i ∈ netsTaken k l, i.e.as.length ≤ 4
 | k, [], h, i, hi => by simp [netsTaken] at hi
 | k, x :: r, h, i, hi => by
  have h1 := h x (List.mem_cons_self ..); simp only [netsTaken] at hi; rcases List.mem_append.1 hi with hi | hi
  · split at hi
    · rename_i hk
      rw [List.mem_singleton.1 hi]; exact shp_one h1 hk
    · rcases List.mem_append.1 hi with hi | hi
      · exact shp_args x h1 i hi
      · rw [List.mem_singleton.1 hi]; simp [Ins.bare]
  · exact shp_taken k r (fun y hy => h y (List.mem_cons_of_mem _ hy)) i hi
end
theorem draw_DrawBackNet {b : List Int} (hl : b.length < 2 ^ 40) (hb : ∀ x ∈ b, 0 ≤ x ∧ x < 256) (n : Nat) (hn : 400000 ≤ n) :
 ∃ L : List Ins, L.length ≤ 3000 ∧ (∀ x ∈ L, x.e.as.length ≤ 10) ∧ ∀ s, go n 286 [.w (bW 0 b)] [] s = some ⟨.w (isW L), [], []⟩ := by
 obtain ⟨n, rfl⟩ : ∃ k, n = k + 1 := ⟨n - 1, by omega⟩; obtain ⟨b2, hb2, w0⟩ := draw_open hl hb n (by omega); obtain ⟨v, q1, v1, v2, v3, w1⟩ := draw_pick hb2 4 0 (by omega) n (by omega); have w1 : ∀ s, go n 67 [pV, iV 4] [.cells [.d (.l 0 (byt b2)), .d (.s (.int .i64 0))]] s = some ⟨iV v, [rB b2 q1], []⟩ := w1
 by_cases c0 : v = 0
 · subst c0
   obtain ⟨u, q2, u1, u2, u3, w2⟩ := draw_pick hb2 12 q1 (by omega) n (by omega); have u2 := u2 (by omega); obtain ⟨U, rfl⟩ : ∃ U : Nat, u = U := ⟨u.toNat, by omega⟩; have hwu : IntKind.wrap .i64 (1 + (U : Int)) = (U : Int) + 1 := by rw [wrap_id (by omega) (by omega)]; omega
   obtain ⟨L', q', h1, h2, h3, h4⟩ := Gath.have hb2 n (by omega) (U + 1) [] q2 (by omega) (by simp); simp only [List.length_nil] at h2; refine ⟨L', by omega, fun x hx => by have := h3 x hx; omega, fun s => ?_⟩
   simp [go_of FT_286 rfl, F286, w0, w1, w2, hwu]; generalize hst : St.mk _ _ _ _ = st; obtain ⟨e, ⟨τ', H', g', s'⟩, hx, -, rfl, bx, c, e4, eB⟩ := loop286_0 (U + 1) [] (by omega) (by omega) q2 L' q' h1 128 st (by simp [← hst]) ⟨256, by simp [← hst], by omega, by simp [← hst], by simp [← hst]⟩ (by simp [← hst]) (by simp [← hst]) (by simp [← hst]) (by omega); simp only at e4 eB; have tk := take_insRows L'; simp [hx, e4, eB, tk, insRows_length]
 obtain ⟨t, q2, t1, t2, w2⟩ := draw_NetS hb2 3 (by omega) n (by omega) q1 (by omega); have t3 := Net.of_ws t1 (by omega); have w2 : ∀ s, go n 115 [pV, iV 3] [rB b2 q1] s = some ⟨netX t, [rB b2 q2], []⟩ := w2; have w3 := run_l14NetW 256 t (by omega) (by omega) t3.2 n (by omega); have hLl : t.begins.length ≤ 1000 := by have := begins_len2 t; omega
 have hLa : ∀ x ∈ t.begins, x.e.as.length ≤ 4 := shp_args t t3.2; generalize t.begins = L at w3 hLl hLa; generalize t.capB = cb at w3; clear t1 t3; obtain ⟨tk0, to, ta, tks⟩ := t; have tk := take_insRows L; obtain ⟨u, q3, u1, u2, u3, w4⟩ := draw_pick hb2 8 q2 (by omega) n (by omega)
 by_cases c1 : u = 0
 · subst c1
   obtain ⟨N, q4, n1, n2, w5⟩ := draw_num hb2 [199, 200, 398, 399, 400] (by simp) q3 (by omega) n (by omega); simp only [lV, List.map_cons, List.map_nil] at w5; obtain ⟨N, rfl, hN⟩ : ∃ M : Nat, N = M ∧ M ≤ 400 := ⟨N.toNat, by simp at n1; omega, by simp at n1; omega⟩; obtain ⟨es, q5, k1, k2, k3, k4⟩ := Seq.have (R := ContR b2 n) (wt := fun e => e.as.length) (W := 2) (P := 24) (B := 2 ^ 36) (fun p hp => draw_Contact hb2 p hp n (by omega)) N q4 (by omega); subst k1; have cl := contF_len es; have ca := contF_args es k2; have tk2 := take_insRows (L ++ contF es); have hA2 : ∀ x ∈ L ++ contF es, x.e.as.length ≤ 4 := fun x hx => by
    rcases List.mem_append.1 hx with h | h
    · exact hLa x h
    · have := ca x h; omega
   have hl2 : (L ++ contF es).length ≤ 2000 := by rw [List.length_append]; omega
   obtain ⟨u, q6, u4, u5, u6, w6⟩ := draw_pick hb2 8 q5 (by omega) n (by omega)
   by_cases c2 : u = 0
   · subst c2
     obtain ⟨L', q7, s1, s2, s3, w7⟩ := spoil_list hb2 (L ++ contF es) 4 hl2 hA2 (by omega) (by omega) q6 (by omega) n (by omega); have w7 : ∀ s, _ := w7; refine ⟨L', by omega, fun x hx => by have := s2 x hx; omega, fun s => ?_⟩
     simp [go_of FT_286 rfl, F286, w0, w1, w2, w3, w4, w5, c0]; generalize hst : St.mk _ _ _ _ = st; obtain ⟨e, ⟨τ', H', g', s'⟩, hx, -, rfl, bx, c, e3, e4, eb, eg, eB, eA⟩ := loop286_1 es L (by omega) (by omega) (by omega) q4 q5 k4 128 st (by simp [← hst]) ⟨704, cb, by simp [← hst], by omega, by simp [← hst], by simp [← hst]⟩ (by simp [← hst]) (by simp [← hst]) (by simp [← hst]); simp only at e3 e4 eg eB eA; have b1 : (bx = 128) = False := eq_false eb; have b2 : (128 = bx) = False := eq_false (Ne.symm eb); have fbX := far eg; have hli : ((L ++ contF es).length ≤ (insRows (L ++ contF es)).length) = True := eq_true (by rw [insRows_length]; omega); generalize L ++ contF es = L2 at *
     simp [hx, e3, e4, eB, eA, b1, b2, fbX, w6, w7, tk2, hli, insRows_length]
   · refine ⟨L ++ contF es, by omega, fun x hx => by have := hA2 x hx; omega, fun s => ?_⟩
     simp [go_of FT_286 rfl, F286, w0, w1, w2, w3, w4, w5, c0]; generalize hst : St.mk _ _ _ _ = st; obtain ⟨e, ⟨τ', H', g', s'⟩, hx, -, rfl, bx, c, e3, e4, eb, eg, eB, eA⟩ := loop286_1 es L (by omega) (by omega) (by omega) q4 q5 k4 128 st (by simp [← hst]) ⟨704, cb, by simp [← hst], by omega, by simp [← hst], by simp [← hst]⟩ (by simp [← hst]) (by simp [← hst]) (by simp [← hst]); simp only at e3 e4 eg eB eA; have b1 : (bx = 128) = False := eq_false eb; have b2 : (128 = bx) = False := eq_false (Ne.symm eb); have fbX := far eg; have hli : ((L ++ contF es).length ≤ (insRows (L ++ contF es)).length) = True := eq_true (by rw [insRows_length]; omega); generalize L ++ contF es = L2 at *
     simp [hx, e3, e4, eB, eA, b1, b2, fbX, w6, c2, tk2, hli, insRows_length]
 · obtain ⟨u2, q6, u4, u5, u6, w6⟩ := draw_pick hb2 8 q3 (by omega) n (by omega)
   by_cases c2 : u2 = 0
   · subst c2
     obtain ⟨L', q7, s1, s2, s3, w7⟩ := spoil_list hb2 L 4 (by omega) hLa (by omega) (by omega) q6 (by omega) n (by omega); have w7 : ∀ s, _ := w7; refine ⟨L', by omega, fun x hx => by have := s2 x hx; omega, fun s => ?_⟩
     simp [go_of FT_286 rfl, F286, w0, w1, w2, w3, w4, w6, w7, c0, c1, tk, insRows_length]
   · refine ⟨L, by omega, fun x hx => by have := hLa x hx; omega, fun s => ?_⟩
     simp [go_of FT_286 rfl, F286, w0, w1, w2, w3, w4, w6, c0, c1, c2, tk, insRows_length]
end Go.VM
