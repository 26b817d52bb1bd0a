/- Draws: ladders. Conditions: none. -/
import Derived.Test.YtcjdokngpmnkjaaGreatDoorVS9
import Derived.Test.YtcjdokngpmnkjaaGreatDoorVS7
import Derived.Test.YtcjdokngpmnkjaaGreatDoorVS3
import Derived.Test.YtcjdokngpmnkjaaGreatDoorVY18
import Derived.Test.YtcjdokngpmnkjaaGreatDoorVM29

namespace Go.VM
set_option linter.unusedSimpArgs false
set_option linter.unusedVariables false
set_option maxHeartbeats 16000000
theorem draw_Spoil2 {b : List Int} (hb : RD b) (l : List Arm) (hl : armsWt l ≤ 20000) (n : Nat) (hn : 60001 ≤ n) (p : Nat) (hp : p < 2 ^ 30) :
 ∃ (l' : List Arm) (q : Nat), armsWt l' ≤ armsWt l + 2000 ∧ q ≤ p + 2 ^ 23 ∧ ∀ s, go n 152 [pV, .w (ksW l)] [rB b p] s = some ⟨.w (ksW l'), [rB b q], []⟩ := by
 obtain ⟨n, rfl⟩ : ∃ k, n = k + 1 := ⟨n - 1, by omega⟩
 obtain ⟨l', q, h1, h2, w⟩ := draw_SpoilL hb l hl n (by omega) p hp
 exact ⟨l', q, h1, h2, fun s => (go_sp FT_152 rfl rfl).trans (w s)⟩
theorem draw_LAny {b : List Int} (hb : RD b) (n : Nat) (hn : 70000 ≤ n) (p : Nat) (hp : p < 2 ^ 29) :
 ∃ (l : List Arm) (q : Nat), armsWt l ≤ 15000 ∧ q ≤ p + 2 ^ 24 ∧ ∀ s, go n 128 [pV] [rB b p] s = some ⟨.w (ksW l), [rB b q], []⟩ := by
 obtain ⟨n, rfl⟩ : ∃ k, n = k + 1 := ⟨n - 1, by omega⟩
 obtain ⟨l, q1, h1, h2, w1⟩ := draw_Ladder hb n (by omega) p (by omega)
 obtain ⟨v, q2, v1, v2, v3, w2⟩ := draw_pick hb 16 q1 (by omega) n (by omega)
 by_cases c : v = 0
 · obtain ⟨l', q3, k1, k2, w3⟩ := draw_Spoil2 hb l (by omega) n (by omega) q2 (by omega)
   refine ⟨l', q3, by omega, by omega, fun s => ?_⟩
   subst c
   simp [go_of FT_128 rfl, F128, w1, w2, w3]
 · refine ⟨l, q2, by omega, by omega, fun s => ?_⟩
   simp [go_of FT_128 rfl, F128, w1, w2, c]
theorem normOf_code {l : List Arm} (h : treeCode l = 0) : treeCode (normOf l) = 0 := by
 unfold normOf; rw [if_pos h]; exact treeCode_norm h
theorem downCode_of {L : List Arm} (h : treeCode L = 0) (h1 : bitsOf (normOf L) ≤ 16) (h2 : forksOf (normOf L) ≤ 8) : downCode L = 0 := by
 unfold downCode; rw [if_pos h, if_neg (by omega)]
theorem plain_short {l : List Arm} (h : treeCode l = 0) : (plainOf l).length ≤ 800 := by
 have h1 := len_plainOf l (treeCode_right h)
 unfold treeCode at h
 split at h
 · cases h
 · omega
theorem armRow_all (l : List Arm) : ∀ x ∈ armRows l, x.length = 6 := fun x hx => by
 rw [armRows_map] at hx
 simp only [List.mem_map] at hx
 obtain ⟨⟨⟨k, op, as, ks⟩, cs, kk⟩, -, rfl⟩ := hx
 rfl
theorem elRows_one (e : El) : elRows [e] = [[iD e.op, .l 0 (argRows e.as)]] := by simp [elRows, El.row]
theorem draw_l14Deep {b : List Int} (hb : RD b) (n : Nat) (hn : 70001 ≤ n) (p : Nat) (hp : p < 2 ^ 28) :
    ∃ (l : List Arm) (q : Nat), armsWt l ≤ 15000 ∧ ∀ s, go n 307 [pV] [rB b p] s = some ⟨.w (ksW l), [rB b q], []⟩ := by
  obtain ⟨n, rfl⟩ : ∃ k, n = k + 1 := ⟨n - 1, by omega⟩
  obtain ⟨v, q1, h1, h2, h3, w1⟩ := draw_pick hb 6 p (by omega) n (by omega)
  have rm1 : room 1 112 = true := by decide
  by_cases c0 : v = 0
  · obtain ⟨u, q2, hu, k2, w2⟩ := draw_num hb [15, 16, 17] (by simp) q1 (by omega) n (by omega)
    simp only [lV, List.map_cons, List.map_nil] at w2
    have hu2 : u = 15 ∨ u = 16 ∨ u = 17 := by simpa using hu
    obtain ⟨N, rfl, hN1, hN2⟩ : ∃ N : Nat, u = N ∧ 1 ≤ N ∧ N ≤ 30 := ⟨u.toNat, by omega, by omega, by omega⟩
    obtain ⟨t, q3, k3, k4, w3⟩ := draw_Stair hb N hN1 (by omega) n (by omega) q2 (by omega)
    obtain ⟨⟨co, ca⟩, q4, k5, k6, w4⟩ := draw_Coil hb q3 (by omega) n (by omega)
    simp only at k5
    refine ⟨[.mk t [⟨co, ca⟩] []], q4, by simp only [armsWt, Arm.wt, elsWt, El.wt]; omega, fun s => ?_⟩
    obtain ⟨tk, to, ta, tks⟩ := t
    subst c0
    simp [go_of FT_307 rfl, F307, w1, w2, w3, w4, rm1, armRows, Arm.row, elRows, El.row, List.replicate]
  by_cases c1 : v = 1
  · obtain ⟨u, q2, hu, k2, w2⟩ := draw_num hb [7, 8, 9] (by simp) q1 (by omega) n (by omega)
    simp only [lV, List.map_cons, List.map_nil] at w2
    have hu2 : u = 7 ∨ u = 8 ∨ u = 9 := by simpa using hu
    obtain ⟨N, rfl, hN1, hN2⟩ : ∃ N : Nat, u = N ∧ 1 ≤ N ∧ N ≤ 12 := ⟨u.toNat, by omega, by omega, by omega⟩
    obtain ⟨t, q3, k3, k4, w3⟩ := draw_Forks hb N (by omega) n (by omega) q2 (by omega)
    refine ⟨[t], q3, by simp only [armsWt]; omega, fun s => ?_⟩
    have hok := (w3 s).1
    have w3 := fun s => (w3 s).2
    obtain ⟨⟨tk, to, ta, tks⟩, tcs, tkk⟩ := t
    obtain ⟨rfl, ⟨hc1, rfl⟩ | ⟨rfl, hk2⟩⟩ := hok
    · have tkE : List.take 1 (elRows tcs) = elRows tcs := List.take_of_length_le (by rw [elRows_length]; omega)
      subst c1
      simp [go_of FT_307 rfl, F307, w1, w2, w3, forkV, forkB, tkE, hc1, rm1, armRows, Arm.row, List.replicate]
    · have tkA : List.take 2 (armRows tkk) = armRows tkk := List.take_of_length_le (by rw [armRows_length]; omega)
      have hkn : tkk ≠ [] := fun e => by rw [e] at hk2; cases hk2
      subst c1
      simp [go_of FT_307 rfl, F307, w1, w2, w3, forkV, forkB, tkA, hk2, hkn, rm1, armRows, Arm.row, List.replicate]
  by_cases c2 : v = 2
  · obtain ⟨u, q2, u1, u2, u3, w2⟩ := draw_pick hb 4 q1 (by omega) n (by omega)
    have u2 := u2 (by omega)
    obtain ⟨M, rfl, hM⟩ : ∃ M : Nat, u = M ∧ M ≤ 4 := ⟨u.toNat, by omega, by omega⟩
    obtain ⟨f, q3, k3, k4, w3⟩ := draw_Forks hb M (by omega) n (by omega) q2 (by omega)
    obtain ⟨x, q4, hx, k5, w4⟩ := draw_num hb [14, 15, 16, 17] (by simp) q3 (by omega) n (by omega)
    simp only [lV, List.map_cons, List.map_nil] at w4
    have hx2 : x = 14 ∨ x = 15 ∨ x = 16 ∨ x = 17 := by simpa using hx
    obtain ⟨N, rfl, hN1, hN2⟩ : ∃ N : Nat, x = N ∧ 1 ≤ N ∧ N ≤ 30 := ⟨x.toNat, by omega, by omega, by omega⟩
    obtain ⟨t, q5, k6, k7, w5⟩ := draw_Stair hb N hN1 (by omega) n (by omega) q4 (by omega)
    obtain ⟨⟨co, ca⟩, q6, k8, k9, w6⟩ := draw_Coil hb q5 (by omega) n (by omega)
    simp only at k8
    obtain ⟨⟨fk, fo, fa, fks⟩, fcs, fkk⟩ := f
    have hlen := armsWt_len fkk
    have hap := armsWt_append fkk [.mk t [⟨co, ca⟩] []]
    simp only [Arm.wt] at k3
    refine ⟨[.mk (.mk fk fo fa fks) fcs (fkk ++ [.mk t [⟨co, ca⟩] []])], q6, by simp only [armsWt, Arm.wt, elsWt, El.wt] at hap ⊢; omega, fun s => ?_⟩
    have hok := (w3 s).1
    have w3 := fun s => (w3 s).2
    obtain ⟨tk, to, ta, tks⟩ := t
    subst c2
    obtain ⟨rfl, ⟨hc1, rfl⟩ | ⟨rfl, hk2⟩⟩ := hok
    · have tkE : List.take 1 (elRows fcs) = elRows fcs := List.take_of_length_le (by rw [elRows_length]; omega)
      simp [go_of FT_307 rfl, F307, w1, w2, w3, w4, w5, w6, forkV, forkB, tkE, hc1, rm1, armRows, Arm.row, elRows_one, List.replicate]
    · have tkA : List.take 2 (armRows fkk) = armRows fkk := List.take_of_length_le (by rw [armRows_length]; omega)
      have hkn : fkk ≠ [] := fun e => by rw [e] at hk2; cases hk2
      have rm3 : room 3 112 = true := by decide
      have al := eq_true (armRow_all fkk)
      simp [go_of FT_307 rfl, F307, w1, w2, w3, w4, w5, w6, forkV, forkB, tkA, hk2, hkn, rm1, rm3, al, armRows, armRows_append, Arm.row, elRows_one, List.replicate]
      exact List.take_of_length_le (by simp [hk2])
  · obtain ⟨l, q, g1, g2, w2⟩ := draw_LAny hb n (by omega) q1 (by omega)
    exact ⟨l, q, g1, fun s => by simp [go_of FT_307 rfl, F307, w1, w2, c0, c1, c2]⟩
theorem draw_DrawWayBits {b : List Int} (hl : b.length < 2 ^ 40) (hb : ∀ x ∈ b, 0 ≤ x ∧ x < 256) (n : Nat) (hn : 80000 ≤ n) : ∃ l : List Arm, armsWt l ≤ 15000 ∧ ∀ s, go n 280 [.w (bW 0 b)] [] s = some ⟨.w (ksW l), [], []⟩ := by
  obtain ⟨n, rfl⟩ : ∃ k, n = k + 1 := ⟨n - 1, by omega⟩
  obtain ⟨b2, hR, w0⟩ := draw_open hl hb n (by omega)
  obtain ⟨l, q, g1, w1⟩ := draw_l14Deep hR n (by omega) 0 (by omega)
  have w1 : ∀ s, go n 307 [pV] [.cells [.d (.l 0 (byt b2)), .d (.s (.int .i64 0))]] s = some ⟨.w (ksW l), [rB b2 q], []⟩ := w1
  exact ⟨l, g1, fun s => by simp [go_of FT_280 rfl, F280, w0, w1]⟩
theorem loop281_0 {n : Nat} (L M : List Ins) (j : Nat) (c1 o1 c2 o2 : Int) (l m : List Arg) (hL : L[j]? = some ⟨c1, ⟨o1, l⟩⟩) (hM : M[j]? = some ⟨c2, ⟨o2, m⟩⟩) (hlm : l.length = m.length) (hn : l.length < n) (hl : l.length < 2 ^ 40) (st : St) (h0 : st.τ 0 = .w (isW L)) (h1 : st.τ 1 = .w (isW M)) (h5 : st.τ 5 = iV j) (h6 : st.τ 6 = iV 0) :
 ∃ e st', execC (go n) mode GT false 91 n F281_L0 st = some (e, st') ∧ e ≠ .normal ∧ ((e = .exit 2 ∧ l = m ∧ st'.τ 0 = .w (isW L) ∧ st'.τ 1 = .w (isW M) ∧ st'.τ 5 = iV j) ∨ (e = .ret ∧ l ≠ m ∧ st'.τ 4 = sV (.bool false))) := by
 rw [F281_L0, execC_loop]
 refine iter_rule (fun k st => ∃ i, i + k = l.length ∧ l.take i = m.take i ∧ st.τ 0 = .w (isW L) ∧ st.τ 1 = .w (isW M) ∧ st.τ 5 = iV j ∧ st.τ 6 = iV i) ?_ n l.length st hn ⟨0, by omega, by simp, h0, h1, h5, by simpa using h6⟩
 rintro k ⟨τ, H, g, s⟩ ⟨i, hk, ht, h0, h1, h5, h6⟩
 simp only at ht h0 h1 h5 h6
 have q1 := insRows_get hL
 have q2 := insRows_get hM
 cases k with
 | zero =>
  have : i = l.length := by omega
  subst this
  refine ⟨.exit 2, ?_⟩
  have hlm2 : l = m := by rw [List.take_length, hlm, List.take_length] at ht; exact ht
  simp [-getElem?_pos, F281_B0, h0, h1, h5, h6, q1, hlm2]
 | succ k =>
  have hlt : i < l.length := by omega
  have hlt' : ((i : Int) < (l.length : Int)) = True := eq_true (by omega)
  have hg := List.getElem?_eq_getElem hlt
  have hmem := List.getElem_mem hlt
  have hw := wrap_succ (i := i) (by omega)
  have hltm : i < m.length := by omega
  have hgm := List.getElem?_eq_getElem hltm
  have hb := argRows_get hg
  have hbm := argRows_get hgm
  by_cases he : l[i] = m[i]
  · refine ⟨.normal, ?_⟩
    have he1 : l[i].k = m[i].k := by rw [he]
    have he2 : l[i].n = m[i].n := by rw [he]
    have he3 : l[i].p = m[i].p := by rw [he]
    simp [-getElem?_pos, F281_B0, h0, h1, h5, h6, q1, q2, hlt, hlt', hltm, hb, hbm, he1, he2, he3, hw]
    exact ⟨k, by omega, i + 1, by omega, take_eq ht hg (by rw [hgm, he]), rfl⟩
  · refine ⟨.ret, ?_⟩
    have hne : ((l[i].k == m[i].k) && ((l[i].n == m[i].n) && (l[i].p == m[i].p))) = false := by
     rw [Bool.eq_false_iff]
     intro h
     simp only [Bool.and_eq_true, beq_iff_eq] at h
     refine he ?_
     generalize l[i] = x at h ⊢
     generalize m[i] = y at h ⊢
     cases x; cases y
     simp only at h
     rw [h.1, h.2.1, h.2.2]
    have hlm3 : l ≠ m := by intro e; subst e; exact he rfl
    simp [-getElem?_pos, F281_B0, h0, h1, h5, h6, q1, q2, hlt, hlt', hltm, hb, hbm, hne, hlm3]
theorem loop281_1 {n : Nat} (l m : List Ins) (k0 : Nat) (hlm : l.length = m.length) (ha : ∀ x ∈ l, x.e.as.length ≤ k0) (hk0 : k0 < n) (hk1 : k0 < 2 ^ 30) (hn : l.length < n) (hl : l.length < 2 ^ 40) (st : St) (h0 : st.τ 0 = .w (isW l)) (h1 : st.τ 1 = .w (isW m)) (h5 : st.τ 5 = iV 0) :
 ∃ e st', execC (go n) mode GT false 91 n F281_L1 st = some (e, st') ∧ e ≠ .normal ∧ ((e = .exit 0 ∧ l = m) ∨ (e = .ret ∧ l ≠ m ∧ st'.τ 4 = sV (.bool false))) := by
 rw [F281_L1, execC_loop]
 refine iter_rule (fun k st => ∃ i, i + k = l.length ∧ l.take i = m.take i ∧ st.τ 0 = .w (isW l) ∧ st.τ 1 = .w (isW m) ∧ st.τ 5 = iV i) ?_ n l.length st hn ⟨0, by omega, by simp, h0, h1, by simpa using h5⟩
 rintro k ⟨τ, H, g, s⟩ ⟨i, hk, ht, h0, h1, h5⟩
 simp only at ht h0 h1 h5
 cases k with
 | zero =>
  have : i = l.length := by omega
  subst this
  refine ⟨.exit 0, ?_⟩
  have hlm2 : l = m := by rw [List.take_length, hlm, List.take_length] at ht; exact ht
  simp [-getElem?_pos, F281_B1, h0, h1, h5, insRows_length, hlm2]
 | succ k =>
  have hlt : i < l.length := by omega
  have hlt' : ((i : Int) < (l.length : Int)) = True := eq_true (by omega)
  have hg := List.getElem?_eq_getElem hlt
  have hmem := List.getElem_mem hlt
  have hw := wrap_succ (i := i) (by omega)
  have hltm : i < m.length := by omega
  have hgm := List.getElem?_eq_getElem hltm
  have hor : l[i] = m[i] ∨ l[i] ≠ m[i] := Classical.em _
  have hal := ha _ hmem
  have hdiff : l[i] ≠ m[i] → l ≠ m := fun h e => by subst e; exact h rfl
  have htake : l[i] = m[i] → l.take (i + 1) = m.take (i + 1) := fun h => take_eq ht hg (by rw [hgm, h])
  obtain ⟨c1, o1, a1, hx⟩ : ∃ c o a, l[i] = (⟨c, ⟨o, a⟩⟩ : Ins) := ⟨_, _, _, rfl⟩
  obtain ⟨c2, o2, a2, hy⟩ : ∃ c o a, m[i] = (⟨c, ⟨o, a⟩⟩ : Ins) := ⟨_, _, _, rfl⟩
  rw [hx, hy] at hdiff htake
  rw [hx] at hg hal
  rw [hy] at hgm
  simp only at hal
  have q1 := insRows_get hg
  have q2 := insRows_get hgm
  by_cases e1 : c1 = c2
  · by_cases e2 : o1 = o2
    · by_cases e3 : a1.length = a2.length
      · have e3i : ((a1.length : Int) = a2.length) = True := eq_true (by omega)
        subst e1 e2
        have go1 : ∀ st : St, st.τ 0 = .w (isW l) → st.τ 1 = .w (isW m) → st.τ 5 = iV i → st.τ 6 = iV 0 → _ := fun st f0 f1 f5 f6 => loop281_0 (n := n) l m i c1 o1 c1 o1 a1 a2 hg hgm e3 (by omega) (by omega) st f0 f1 f5 f6
        simp [-getElem?_pos, F281_B1, h0, h1, h5, q1, q2, hlt, hlt', hltm, insRows_length, e3, e3i]
        generalize hst : St.mk _ _ _ _ = st2
        obtain ⟨e, ⟨τ', H', g', s'⟩, hx, -, ⟨rfl, h, f0, f1, f5⟩ | ⟨rfl, h, f4⟩⟩ := go1 st2 (by simp [← hst, h0]) (by simp [← hst, h1]) (by simp [← hst, h5]) (by simp [← hst])
        · simp only at f0 f1 f5
          subst h
          clear hst
          refine ⟨.normal, ?_⟩
          simp [-getElem?_pos, hx, f5, hw]
          exact ⟨k, by omega, i + 1, by omega, htake rfl, by simp [f0, f1]⟩
        · simp only at f4
          clear hst
          have : l ≠ m := hdiff (fun e => h (by cases e; rfl))
          refine ⟨.ret, ?_⟩
          simp [-getElem?_pos, hx, f4, this]
      · have e3i : ((a1.length : Int) = a2.length) = False := eq_false (by omega)
        have : l ≠ m := hdiff (fun e => e3 (by cases e; rfl))
        refine ⟨.ret, ?_⟩
        simp [-getElem?_pos, F281_B1, h0, h1, h5, q1, q2, hlt, hlt', hltm, insRows_length, e1, e2, e3, e3i, this]
    · have : l ≠ m := hdiff (fun e => e2 (by cases e; rfl))
      refine ⟨.ret, ?_⟩
      simp [-getElem?_pos, F281_B1, h0, h1, h5, q1, q2, hlt, hlt', hltm, insRows_length, e1, e2, this]
  · have : l ≠ m := hdiff (fun e => e1 (by cases e; rfl))
    refine ⟨.ret, ?_⟩
    simp [-getElem?_pos, F281_B1, h0, h1, h5, q1, q2, hlt, hlt', hltm, insRows_length, e1, this]
theorem run_ListSameS (a b : List Ins) (k : Nat) (h1 : ∀ x ∈ a, x.e.as.length ≤ k) (n : Nat) (hn : a.length + k + 6 ≤ n) (hk : k < 2 ^ 30) (hl : a.length < 2 ^ 40) (s : Sup) : go n 281 [.w (isW a), .w (isW b)] [] s = some ⟨bV (eqB a b), [], []⟩ := by
 obtain ⟨n, rfl⟩ : ∃ k, n = k + 1 := ⟨n - 1, by omega⟩
 by_cases h2 : a.length = b.length
 · have h2i : ((a.length : Int) = b.length) = True := eq_true (by omega)
   simp [go_of FT_281 rfl, F281, insRows_length, h2, h2i]
   generalize hst : St.mk _ _ _ _ = st
   obtain ⟨e, ⟨τ', H', g', s'⟩, hx, -, ⟨rfl, h⟩ | ⟨rfl, h, h4⟩⟩ := loop281_1 (n := n) a b k h2 h1 (by omega) hk (by omega) hl st (by simp [← hst]) (by simp [← hst]) (by simp [← hst])
   · rw [eqB_true h]
     simp [hx]
   · simp only at h4
     rw [eqB_false h]
     simp [hx, h4]
 · have h2i : ((a.length : Int) = b.length) = False := eq_false (by omega)
   rw [eqB_false (fun e => h2 (by rw [e]))]
   simp [go_of FT_281 rfl, F281, insRows_length, h2, h2i]
theorem ir0 : insRows [] = [] := rfl
theorem run_lawWayTop (st : Nat) (l : List Int) (n : Nat) (hn : 150000 ≤ n) (L : List Arm) (hL : armsWt L ≤ 15000)
    (hd : ¬ 1048576 < l.length → ∀ s, go n 280 [.w (bW st l)] [] s = some ⟨.w (ksW L), [], []⟩) (s : Sup) :
    go (n + 1) 264 [.w (bW st l)] [] s = some ⟨bV true, [], []⟩ := by
  by_cases hl : 1048576 < l.length
  · have hli : ((1048576 : Int) < (l.length : Int)) = True := eq_true (by omega)
    simp [go_of FT_264 rfl, F264, hl, hli]
  have hli : ((1048576 : Int) < (l.length : Int)) = False := eq_false (by omega)
  have hd := hd hl
  have w1 := run_WayDown L (by omega) n (by omega)
  have w2 := run_WayDownS L (by omega) n (by omega)
  have w3 := run_WayPlain L (by omega) n (by omega)
  have w4 := run_WayPlainS L (by omega) n (by omega)
  have hwt := normOf_wt L
  have hlen : (plainOf (normOf L)).length ≤ 800 := by
    by_cases h : treeCode L = 0
    · exact plain_short (normOf_code h)
    · unfold normOf; rw [if_neg h]; simp [plainOf]
  have hargs : ∀ x ∈ plainOf (normOf L), x.e.as.length ≤ 15000 := fun x hx => by have := plain_args _ x hx; omega
  have w5 := run_ListSameS (plainOf (normOf L)) (plainOf (normOf L)) 15000 hargs n (by omega) (by omega) (by omega)
  rw [eqB_true rfl] at w5
  have w6 : ∀ s, go n 282 [.w (isW (plainOf (normOf L)))] [] s = some ⟨hX (peakOf (plainOf (normOf L))), [], []⟩ := fun s => by
    have := run_SurePeak (n := n - 1) (plainOf (normOf L)) (by omega) (by omega) s
    rwa [if_neg (by omega), show n - 1 + 1 = n by omega] at this
  rw [peak_plain _ (normOf_right L)] at w6
  have w7 := run_WayBits L (by omega) n (by omega)
  have w8 := run_WayForks L (by omega) n (by omega)
  obtain ⟨r, hr⟩ := Classical.skolem.1 fun s => run_TreeCheckS L (by omega) n (by omega) s
  have w9 := fun s => (hr s).2
  by_cases hc : treeCode L = 0
  · have hck := check_plain (normOf L) (normOf_right L) (by omega)
    have w10 : ∀ s, go n 284 [.w (isW (plainOf (normOf L)))] [] s = some ⟨faultX (checkL (plainOf (normOf L))).1 ((checkL (plainOf (normOf L))).2 : Nat), [], []⟩ := fun s => by
      have := run_SureCheck (n := n - 1) (plainOf (normOf L)) (fun x hx => by have := hargs x hx; omega) (by omega) (by omega) (by omega) s
      rwa [show n - 1 + 1 = n by omega] at this
    rw [hc] at w9
    by_cases hf : bitsOf (normOf L) ≤ 16 ∧ forksOf (normOf L) ≤ 8
    · have hdc := downCode_of hc hf.1 hf.2
      have e : downList L = plainOf (normOf L) := by unfold downList; rw [if_pos hdc]
      have w11 := run_ListSame (plainOf (normOf L)) (plainOf (normOf L)) 15000 hargs n (by omega) (by omega) (by omega)
      rw [eqB_true rfl] at w11
      rw [hck.2 hf.1 hf.2] at w10
      rw [hdc, e] at w1 w2
      have i1 : ((bitsOf (normOf L) : Int) ≤ 16) = True := eq_true (by omega)
      have i2 : ((forksOf (normOf L) : Int) ≤ 8) = True := eq_true (by omega)
      have i3 : (((plainOf (normOf L)).length : Int) ≤ 1000) = True := eq_true (by omega)
      generalize bitsOf (normOf L) = b at *
      generalize forksOf (normOf L) = f at *
      generalize plainOf (normOf L) = P at *
      simp [go_of FT_264 rfl, F264, hl, hli, hd, w1, w2, w3, w4, w5, w6, w7, w8, w9, w10, w11, i1, i2, i3, insRows_length]
    · have hdc : downCode L = 2 := by unfold downCode; rw [if_pos hc, if_pos (by omega)]
      have e : downList L = [] := by unfold downList; rw [if_neg (by omega)]
      have hp : (0 < (checkL (plainOf (normOf L))).1) = True := by
        have h1 := (checkL_nn (plainOf (normOf L))).1
        have h2 : (checkL (plainOf (normOf L))).1 ≠ 0 := fun h => hf (hck.1.1 h)
        exact eq_true (by omega)
      rw [hdc, e] at w1 w2
      generalize checkL (plainOf (normOf L)) = ck at *
      generalize plainOf (normOf L) = P at *
      by_cases hb : bitsOf (normOf L) ≤ 16
      · have i1 : ((bitsOf (normOf L) : Int) ≤ 16) = True := eq_true (by omega)
        have i2 : ((forksOf (normOf L) : Int) ≤ 8) = False := eq_false (by omega)
        generalize bitsOf (normOf L) = b at *
        generalize forksOf (normOf L) = f at *
        simp [go_of FT_264 rfl, F264, hl, hli, hd, w1, w2, w3, w4, w5, w6, w7, w8, w9, w10, i1, i2, hp, ir0]
      · have i1 : ((bitsOf (normOf L) : Int) ≤ 16) = False := eq_false (by omega)
        generalize bitsOf (normOf L) = b at *
        generalize forksOf (normOf L) = f at *
        simp [go_of FT_264 rfl, F264, hl, hli, hd, w1, w2, w3, w4, w5, w6, w7, w8, w9, w10, i1, hp, ir0]
  · have hcp : (0 : Int) < treeCode L := by have := treeCode_nn L; omega
    have hcpi := eq_true hcp
    have e1 : downCode L = 1 := by unfold downCode; rw [if_neg hc]
    have e2 : downList L = [] := by unfold downList; rw [if_neg (by omega)]
    have e3 : plainOf (normOf L) = [] := by unfold normOf; rw [if_neg hc]; rfl
    rw [e1, e2] at w1 w2
    rw [e3] at w3 w4 w5 w6
    generalize bitsOf (normOf L) = b at *
    generalize forksOf (normOf L) = f at *
    generalize treeCode L = c at w9 hcpi
    simp only [isW, insRows, List.map_nil] at w3 w4 w5 w6
    simp [go_of FT_264 rfl, F264, hl, hli, hd, w1, w2, w3, w4, w5, w6, w7, w8, w9, hcpi, insRows]
end Go.VM

/- The value machine: a package-level variable that holds a net without kids. Conditions: none. -/
namespace Go.VM
open Go.ChangeShapes Go.WideShapes Go.ChangeAt Go.RowKit
set_option linter.unusedVariables false
/-- The shape of the type of nets. -/
def netT (P : Program) (t : TypeId) : Bool :=
 P.cellsOf t == 4 && match P.underlying t with
 | some (.struct fs) => match fs.toList with
  | [f0, f1, f2] => f0.offset == 0 && f1.offset == 1 && f2.offset == 3 && P.cellsOf f0.type == 1 && P.cellsOf f1.type == 2 && P.cellsOf f2.type == 1 &&
   (match P.underlying f0.type with | some (.int .i64) => true | _ => false) && (match P.underlying f2.type with | some (.slice _) => true | _ => false) &&
   (match P.underlying f1.type with
    | some (.struct es) => match es.toList with
     | [e0, e1] => e0.offset == 0 && e1.offset == 1 && P.cellsOf e0.type == 1 && P.cellsOf e1.type == 1 && (match P.underlying e0.type with | some (.int .i64) => true | _ => false) && (match P.underlying e1.type with | some (.slice _) => true | _ => false)
     | _ => false
    | _ => false)
  | _ => false
 | _ => false
theorem intK {P : Program} {t : TypeId} (h : (match P.underlying t with | some (.int .i64) => true | _ => false) = true) : P.underlying t = some (.int .i64) := by
 split at h
 · assumption
 · cases h
theorem sliceK {P : Program} {t : TypeId} (h : (match P.underlying t with | some (.slice _) => true | _ => false) = true) : ∃ e, P.underlying t = some (.slice e) := by
 split at h
 · rename_i e he; exact ⟨e, he⟩
 · cases h
theorem list4' {α : Type} {l : List α} (h : l.length = 4) : ∃ a b c d, l = [a, b, c, d] := by
 match l, h with
 | [a, b, c, d], _ => exact ⟨a, b, c, d, rfl⟩
theorem net_trod {P : Program} {W : World} {t : TypeId} {fuel : Nat} {cs : List Value} {k op : Int} {p : List MemPlace} (ht : netT P t = true)
 (h : DataW.trod (fun _ => ()) P W 0 (fun _ => true) false fuel t cs = some (.agg [.lit (.int .i64 k), .agg [.lit (.int .i64 op), .nil], .nil], p)) :
 cs = [.int .i64 k, .int .i64 op, .slice none 0 0, .slice none 0 0] := by
 simp only [netT, Bool.and_eq_true, beq_iff_eq] at ht
 obtain ⟨hc, ht⟩ := ht
 split at ht
 · rename_i fs hfs
   split at ht
   · rename_i f0 f1 f2 hl
     have hfa : fs = #[f0, f1, f2] := by cases fs; simp only at hl; rw [hl]
     subst hfa
     simp only [Bool.and_eq_true, beq_iff_eq] at ht
     obtain ⟨⟨⟨⟨⟨⟨⟨⟨o0, o1⟩, o2⟩, c0⟩, c1⟩, c2⟩, k0⟩, k2⟩, k1⟩ := ht
     obtain ⟨xs, n, _, hx, hlen, hxl, hf⟩ := DataW.trod_struct hfs h
     rw [hc] at hlen
     obtain ⟨v0, v1, v2, v3, rfl⟩ := list4' hlen
     match xs, hxl with
     | [x0, x1, x2], _ =>
     simp only [Prod.mk.injEq, DataW.agg.injEq, List.map_cons, List.map_nil, List.cons.injEq, and_true] at hx
     obtain ⟨⟨y0, y1, y2⟩, _⟩ := hx
     have g0 := hf 0 f0 rfl
     have g1 := hf 1 f1 rfl
     have g2 := hf 2 f2 rfl
     rw [o0, c0] at g0
     rw [o1, c1] at g1
     rw [o2, c2] at g2
     simp only [List.drop_zero, List.drop_succ_cons, List.take_succ_cons, List.take_zero, List.getElem?_cons_zero, List.getElem?_cons_succ] at g0 g1 g2
     obtain ⟨m0, e0, q0, _⟩ := DataW.trod_int (intK k0) g0
     obtain ⟨s2, hs2⟩ := sliceK k2
     have r2 : v3 = .slice none 0 0 := by
      rcases DataW.trod_slice hs2 g2 with ⟨e2, _⟩ | ⟨a, len, cap, elems, rest, n', _, _, q, _⟩
      · simpa using e2
      · rw [q] at y2; cases y2
     split at k1
     · rename_i es hes
       split at k1
       · rename_i f3 f4 hl2
         have hea : es = #[f3, f4] := by cases es; simp only at hl2; rw [hl2]
         subst hea
         simp only [Bool.and_eq_true, beq_iff_eq] at k1
         obtain ⟨⟨⟨⟨⟨o3, o4⟩, c3⟩, c4⟩, k3⟩, k4⟩ := k1
         obtain ⟨ys, n2, _, hy, _, hyl, hg⟩ := DataW.trod_struct hes g1
         match ys, hyl with
         | [z0, z1], _ =>
         rw [hy] at y1
         simp only [DataW.agg.injEq, List.map_cons, List.map_nil, List.cons.injEq, and_true] at y1
         obtain ⟨w0, w1⟩ := y1
         have g3 := hg 0 f3 rfl
         have g4 := hg 1 f4 rfl
         rw [o3, c3] at g3
         rw [o4, c4] at g4
         simp only [List.drop_zero, List.drop_succ_cons, List.take_succ_cons, List.take_zero, List.getElem?_cons_zero, List.getElem?_cons_succ] at g3 g4
         obtain ⟨m3, e3, q3, _⟩ := DataW.trod_int (intK k3) g3
         obtain ⟨s4, hs4⟩ := sliceK k4
         have r4 : v2 = .slice none 0 0 := by
          rcases DataW.trod_slice hs4 g4 with ⟨e4, _⟩ | ⟨a, len, cap, elems, rest, n', _, _, q, _⟩
          · simpa using e4
          · rw [q] at w1; cases w1
         rw [q0] at y0
         rw [q3] at w0
         simp only [DataW.lit.injEq, Lit.int.injEq, true_and] at y0 w0
         simp only [List.cons.injEq, and_true] at e0 e3
         rw [e0, e3, r2, r4, y0, w0]
       · cases k1
     · cases k1
   · cases ht
 · cases ht
/-- What a listed net gives to the machine. -/
theorem laid_net {P : Program} {W : World} : ∀ {l : List (String × DataW Unit)} {ps : List MemPlace}, DataW.LaidVars P W l ps → ∀ {n : String} {k op : Int} {g : Nat} {t : TypeId},
 (n, DataW.agg [.lit (.int .i64 k), .agg [.lit (.int .i64 op), .nil], .nil]) ∈ l → P.globalNamed n = some g → (P.globals[g]?).map (·.type) = some t → netT P t = true →
 g < (ctx0 W).w.heap.size ∧ ∀ (j : Nat) (x : D), ([.s (.int .i64 k), .s (.int .i64 op), .l 0 [], .l 0 []] : List D)[j]? = some x → (ctx0 W).Im g j ∧ ∃ y, (ctx0 W).w.cell? ⟨g, j, none⟩ = some y ∧ (ctx0 W).rel y x
 | [], ps, h, n, k, op, g, t, hm, _, _, _ => by cases hm
 | (n', d') :: r, ps, h, n, k, op, g, t, hm, hg, ht, he => by
  obtain ⟨g', t', cs, fuel, p, q, k1, k2, k3, k4, k5, _⟩ := h
  rcases List.mem_cons.1 hm with e0 | hm
  · cases e0
    obtain rfl := Option.some.inj (k1.symm.trans hg)
    obtain rfl := Option.some.inj (k2.symm.trans ht)
    have hcs := net_trod he k4
    have hc := World.var?_cell k1 k3
    have hca : cs = #[.int .i64 k, .int .i64 op, .slice none 0 0, .slice none 0 0] := by cases cs; simpa using hcs
    subst hca
    have hsz : g' < W.heap.size := by
     have hc0 := hc 0
     rcases Nat.lt_or_ge g' W.heap.size with h' | h'
     · exact h'
     · simp [World.cell?, Array.getElem?_eq_none h'] at hc0
    refine ⟨hsz, fun j x hx => ?_⟩
    match j with
    | 0 => simp at hx; subst hx; exact ⟨hsz, _, (hc 0).trans rfl, .s _ rfl⟩
    | 1 => simp at hx; subst hx; exact ⟨hsz, _, (hc 1).trans rfl, .s _ rfl⟩
    | 2 => simp at hx; subst hx; exact ⟨hsz, _, (hc 2).trans rfl, .nil 0⟩
    | 3 => simp at hx; subst hx; exact ⟨hsz, _, (hc 3).trans rfl, .nil 0⟩
    | j + 4 => simp at hx
  · exact laid_net k5 hm hg ht he
end Go.VM
