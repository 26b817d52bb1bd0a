/- A store is played, its bytes one's own; lists of writes: copies, comparisons, marks. Conditions: none. -/
import Derived.Test.YthkednnfadhidaaVX2

namespace Go.VM
set_option linter.unusedSimpArgs false
set_option linter.unusedVariables false
set_option maxHeartbeats 8000000

theorem run_holdPlayM {n : Nat} (r : Rom) (hs : r.small) (sa sb sw : Nat) (l : List Wr) (k : Int) (hn : l.length + 8 ≤ n) (hl : l.length < 2 ^ 62) (s : Sup) :
    runMv (go n) mode (fun _ => none) n F12 [.agg (r.v sa sb), .w (wW sw l), .w (.d (.s (.int .i64 k)))] [] s = some ⟨.agg (romV (r.play l k).am (r.play l k).at_ (ownW 0 (r.play l k).ra.length (some (r.play l k).ra.length)) (r.play l k).bm (r.play l k).bt (ownW 1 (r.play l k).rb.length (some (r.play l k).rb.length))), [], [rowB (r.play l k).ra, rowB (r.play l k).rb]⟩ := by
  obtain ⟨n, rfl⟩ : ∃ m, n = m + 3 := ⟨n - 3, by omega⟩
  have C := fun s => run_copyOf (n := n + 3) (by omega) r.am r.at_ r.bm r.bt sa sb r.ra r.rb (room_b hs.1) (room_b hs.2) s
  have main : ∀ (m : Nat) (hm : (max 0 (min k (l.length : Int))).toNat = m), (l.take m).length = m → ∀ st : St, st.τ 7 = .w (.ptr 256 0) → st.τ 18 = .w (wW sw (l.take m)) → st.τ 19 = sV (.int .i64 (l.take m).length) → st.τ 20 = sV (.int .i64 0) →
      st.τ 6 = .w (.ptr 64 0) → 64 < st.g → st.H 64 = .cells (romV 0 0 .nil 0 0 .nil) → RomAt st.H st.g 256 r →
      behindF (andThen (inBlock 0 (execC (go (n + 3)) mode (fun _ => none) false 29 (n + 3) F12_L0 st))
        (execC (go (n + 3)) mode (fun _ => none) false 29 (n + 3) (.seq (.reg [⟨(some 27), .ld true 6 (.t 7), none⟩, ⟨(some 28), .call (.k (.w (.fn 54 []))) [(.t 27)], none⟩, ⟨none, .st 6 (.t 6) (.t 28), none⟩]) .ret)))
        (endF false true 0 [.cell 6 true 6]) = some ⟨.agg (romV (r.play l k).am (r.play l k).at_ (ownW 0 (r.play l k).ra.length (some (r.play l k).ra.length)) (r.play l k).bm (r.play l k).bt (ownW 1 (r.play l k).rb.length (some (r.play l k).rb.length))), [], [rowB (r.play l k).ra, rowB (r.play l k).rb]⟩ := by
    intro m hm hlm st h7 h18 h19 h20 h6 hq hQ hR
    obtain ⟨e, ⟨τ, H, g, q⟩, hx, -, rfl, h7, h6, hq, hQ, hR⟩ := loop12 (n := n + 1) sw (l.take m) (by simp; omega) (by omega) 256 64 r _ st h7 h18 h19 h20 h6 hq (by omega) hQ hR
    simp only at h7 h6 hq hQ hR
    have hp : (l.take m).foldl Rom.doW r = r.play l k := by unfold Rom.play; rw [hm]
    rw [hp] at hR
    obtain ⟨cs, hcs, hc6, hct⟩ := hR.cells
    obtain ⟨⟨v1, H1, t1, w1⟩, he, hv, hA, hB, hK⟩ := copy_call (n := n) (s := subS q 1) (hR.mono (g' := g + 64) (by omega)) (play_small hs l k) cs hcs
    simp only at hv hA hB hK
    subst hv
    have hQ' := hK 64 _ hQ (by omega)
    have e1 : (g + 64 = 64) = False := eq_false (by omega)
    have e2 : (g + 64 + 1 = 64) = False := eq_false (by omega)
    have e3 : (g = 0) = False := eq_false (by omega)
    have e4 : (g + 1 = 0) = False := eq_false (by omega)
    simp [-callV_at, hx, h7, h6, hcs, hc6, hct, he, hQ', hA, hB, e1, e2, e3, e4]
  have hall : ∀ m, ((wrs l).take m).all (fun x => x.length == 3) = true := fun m => by
    simp only [List.all_eq_true]
    intro x hx
    obtain ⟨w, -, rfl⟩ := List.mem_map.1 (List.mem_of_mem_take hx)
    rfl
  have hallp : (∀ x ∈ wrs l, x.length = 3) = True := wrs_all l
  have ht : ∀ m, (wrs l).take m = wrs (l.take m) := fun m => by simp [wrs, List.map_take]
  by_cases c1 : k ≤ 0
  · have hm : (max 0 (min k (l.length : Int))).toNat = 0 := by omega
    have M := main 0 hm (by simp)
    clear main
    by_cases c2 : (l.length : Int) < k
    · omega
    · have c2' := eq_false c2
      have c3 : (0 < k) = False := eq_false (by omega)
      simp [runMv_at, F12, C, c2', c3, hallp]
      generalize hst : St.mk _ _ _ _ = st
      exact M st (by simp [← hst]) (by simp [← hst, wrs]) (by simp [← hst, wrs]) (by simp [← hst]) (by simp [← hst]) (by simp [← hst]) (by simp [← hst])
        (by rw [← hst]; exact .oo 192 (some r.ra.length) 193 (some r.rb.length) (by simp) (by simp) (by simp) (by simp) (by simp) (by simp) (by simp) (by simp) (by simp))
  · have c3 : (0 < k) = True := eq_true (by omega)
    by_cases c2 : (l.length : Int) < k
    · have hm : (max 0 (min k (l.length : Int))).toNat = l.length := by omega
      have M := main l.length hm (by simp)
      clear main
      have c2' := eq_true c2
      rcases (by omega : (0 < l.length) ∨ l.length = 0) with c4 | c4
      · have c4' : (0 < l.length) = True := eq_true (by omega)
        simp [runMv_at, F12, C, c2', c3, c4', hallp]
        generalize hst : St.mk _ _ _ _ = st
        exact M st (by simp [← hst]) (by simp [← hst, List.take_length]) (by simp [← hst, List.take_length]) (by simp [← hst]) (by simp [← hst]) (by simp [← hst]) (by simp [← hst])
          (by rw [← hst]; exact .oo 192 (some r.ra.length) 193 (some r.rb.length) (by simp) (by simp) (by simp) (by simp) (by simp) (by simp) (by simp) (by simp) (by simp))
      · have c4' : l = [] := List.eq_nil_of_length_eq_zero c4
        subst c4'
        simp only [List.length_nil] at c2
        simp [runMv_at, F12, C, c3, wrs]
        generalize hst : St.mk _ _ _ _ = st
        exact M st (by simp [← hst]) (by simp [← hst, wrs]) (by simp [← hst, wrs]) (by simp [← hst]) (by simp [← hst]) (by simp [← hst]) (by simp [← hst])
          (by rw [← hst]; exact .oo 192 (some r.ra.length) 193 (some r.rb.length) (by simp) (by simp) (by simp) (by simp) (by simp) (by simp) (by simp) (by simp) (by simp))
    · obtain ⟨m, rfl⟩ : ∃ m : Nat, k = m := ⟨k.toNat, by omega⟩
      have hm : (max 0 (min (m : Int) (l.length : Int))).toNat = m := by omega
      have hml : m ≤ l.length := by omega
      have M := main m hm (by simp; omega)
      clear main
      have c2' := eq_false c2
      have c2'' : (l.length < m) = False := eq_false (by omega)
      have c4' : (0 < m) = True := eq_true (by omega)
      have hml' := eq_true hml
      have hmm : min m l.length = m := by omega
      simp [runMv_at, F12, C, c2', c2'', c3, c4', hml', hmm, hallp, ht]
      generalize hst : St.mk _ _ _ _ = st
      exact M st (by simp [← hst]) (by simp [← hst, ht, hmm]) (by simp [← hst, ht, hmm]) (by simp [← hst]) (by simp [← hst]) (by simp [← hst]) (by simp [← hst])
        (by rw [← hst]; exact .oo 192 (some r.ra.length) 193 (some r.rb.length) (by simp) (by simp) (by simp) (by simp) (by simp) (by simp) (by simp) (by simp) (by simp))


theorem run_szWrites {n : Nat} (hn : 1 ≤ n) (left : Int) (st : Nat) (l : List Wr) (s : Sup) :
    go n 44 [.w (wW st l), .w (.d (.s (.int .i64 left)))] [] s = some ⟨sV (.int .i64 (szB left l.length)), [], []⟩ := by
  obtain ⟨n, rfl⟩ : ∃ k, n = k + 1 := ⟨n - 1, by omega⟩
  unfold szB
  by_cases h : IntKind.wrap .i64 (left - l.length) < 0 <;> simp [go_of FT_44 rfl, F44, h]
theorem run_toWrite {n : Nat} (hn : 1 ≤ n) (w : Wr) (s : Sup) :
    go n 29 [.agg [.d (.s (.int .i64 w.k)), .d (.s (.int .i64 w.s)), u8W w.v]] [] s = some ⟨.agg [.d (.s (.int .i64 w.k)), .d (.s (.int .i64 w.s)), u8W w.v], [], []⟩ := by
  obtain ⟨n, rfl⟩ : ∃ k, n = k + 1 := ⟨n - 1, by omega⟩
  simp [go_of FT_29 rfl, F29]
theorem run_eqWrite {n : Nat} (hn : 1 ≤ n) (w : Wr) (s : Sup) :
    go n 86 [.agg [.d (.s (.int .i64 w.k)), .d (.s (.int .i64 w.s)), u8W w.v], .agg [.d (.s (.int .i64 w.k)), .d (.s (.int .i64 w.s)), u8W w.v]] [] s = some ⟨sV (.bool true), [], []⟩ := by
  obtain ⟨n, rfl⟩ : ∃ k, n = k + 1 := ⟨n - 1, by omega⟩
  simp [go_of FT_86 rfl, F86]
theorem wrs_at {l : List Wr} {i : Nat} {a : Wr} (h : l[i]? = some a) : (wrs l)[i]? = some [.s (.int .i64 a.k), .s (.int .i64 a.s), .s (.int .u8 a.v)] := by simp [wrs, Wr.row, h]

theorem loop45 {n : Nat} (hn1 : 2 ≤ n) (sw : Nat) (l : List Wr) (hn : l.length < n) (hl : l.length < 2 ^ 40) (B : Nat) (c : Option Nat) (st : St) (t0 : st.τ 0 = .w (wW sw l)) (t3 : st.τ 3 = .w (.own B 0 l.length c)) (t4 : st.τ 4 = sV (.int .i64 0))
    (hB : st.H B = .row none 3 (List.replicate l.length [.s (.int .i64 0), .s (.int .i64 0), .s (.int .u8 0)]) 0) (hBg : B < st.g) :
    ∃ e st', execC (go n) mode (fun _ => none) false 23 n F45_L0 st = some (e, st') ∧ e ≠ .normal ∧ (e = .exit 0 ∧ st'.τ 3 = .w (.own B 0 l.length c) ∧ st'.H B = .row none 3 (wrs l) 0) := by
  rw [F45_L0, execC_loop]
  refine iter_rule (fun k st => ∃ i, i + k = l.length ∧ st.τ 0 = .w (wW sw l) ∧ st.τ 3 = .w (.own B 0 l.length c) ∧ st.τ 4 = sV (.int .i64 i) ∧
    st.H B = .row none 3 (wrs (l.take i) ++ List.replicate k [.s (.int .i64 0), .s (.int .i64 0), .s (.int .u8 0)]) 0 ∧ B < st.g) ?_ n l.length st hn ⟨0, by omega, t0, t3, by simpa using t4, by simpa [wrs] using hB, hBg⟩
  rintro k ⟨τ, H, g, s⟩ ⟨i, hk, t0, t3, t4, hB, hBg⟩
  simp only at t0 t3 t4 hB hBg
  cases k with
  | zero =>
    have : i = l.length := by omega
    subst this
    refine ⟨.exit 0, ?_⟩
    simp [F45_B0, t0, t3, t4]
    simpa using hB
  | succ k =>
    have hlt : i < l.length := by omega
    have hlt' := eq_true hlt
    have hg := List.getElem?_eq_getElem hlt
    have hb := wrs_at hg
    have hw := wrap_succ (i := i) (by omega)
    generalize l[i] = w at hg hb
    have Q := fun s => run_toWrite (n := n) (by omega) w s
    have hA : (wrs (l.take i)).length = i := by simp; omega
    have hrow : (wrs (l.take i) ++ List.replicate (k + 1) [D.s (.int .i64 0), D.s (.int .i64 0), D.s (.int .u8 0)])[i]? = some [D.s (.int .i64 0), D.s (.int .i64 0), D.s (.int .u8 0)] := by
      rw [List.getElem?_append_right (by omega), hA, Nat.sub_self]; rfl
    have hset : (wrs (l.take i) ++ List.replicate (k + 1) [D.s (.int .i64 0), D.s (.int .i64 0), D.s (.int .u8 0)]).set i [D.s (.int .i64 w.k), D.s (.int .i64 w.s), D.s (.int .u8 w.v)] = wrs (l.take (i + 1)) ++ List.replicate k [D.s (.int .i64 0), D.s (.int .i64 0), D.s (.int .u8 0)] := by
      rw [List.set_append_right _ _ (by omega), hA, Nat.sub_self, List.take_add_one, hg]
      simp [wrs, Wr.row, List.replicate_succ]
    have e1 : ∀ k, (B = g + k) = False := fun k => eq_false (by omega)
    have hBk : ∀ k, (B < g + k) = True := fun k => eq_true (by omega)
    refine ⟨.normal, ?_⟩
    simp [-getElem?_pos, F45_B0, t0, t3, t4, hB, hlt', hb, hw, Q, hrow, hset, e1, hBk, Nat.add_assoc]
    exact ⟨k, by omega, i + 1, by omega, by omega, rfl⟩

theorem room_w {n : Nat} (h : n ≤ 2 ^ 21) : room n 24 = true := by simp [room]; omega
theorem run_toWrites {n : Nat} (sw : Nat) (l : List Wr) (hn : l.length + 3 ≤ n) (hl : l.length ≤ 2 ^ 21) (s : Sup) :
    go n 45 [.w (wW sw l)] [] s = some ⟨.w (.own 0 0 l.length (some l.length)), [], [.row none 3 (wrs l) 0]⟩ := by
  obtain ⟨n, rfl⟩ : ∃ k, n = k + 1 := ⟨n - 1, by omega⟩
  have hr := room_w hl
  simp [go_of FT_45 rfl, F45, hr]
  generalize hst : St.mk _ _ _ _ = st1
  obtain ⟨e, ⟨τ1, H1, g1, s1⟩, hx1, -, rfl, t3, hB⟩ := loop45 (n := n) (by omega) sw l (by omega) (by omega) 192 (some l.length) st1 (by simp [← hst]) (by simp [← hst]) (by simp [← hst]) (by simp [← hst]) (by simp [← hst])
  clear hst
  simp only at t3 hB
  simp [hx1, t3, hB]

theorem loop46 {n : Nat} (hn1 : 2 ≤ n) (s0 s1 : Nat) (l : List Wr) (hn : l.length < n) (hl : l.length < 2 ^ 40) (st : St) (t0 : st.τ 0 = .w (wW s0 l)) (t1 : st.τ 1 = .w (wW s1 l)) (t5 : st.τ 5 = sV (.int .i64 0)) :
    ∃ e st', execC (go n) mode (fun _ => none) false 27 n F46_L0 st = some (e, st') ∧ e ≠ .normal ∧ e = .exit 0 := by
  rw [F46_L0, execC_loop]
  refine iter_rule (fun k st => ∃ i, i + k = l.length ∧ st.τ 0 = .w (wW s0 l) ∧ st.τ 1 = .w (wW s1 l) ∧ st.τ 5 = sV (.int .i64 i)) ?_ n l.length st hn ⟨0, by omega, t0, t1, by simpa using t5⟩
  rintro k ⟨τ, H, g, s⟩ ⟨i, hk, t0, t1, t5⟩
  simp only at t0 t1 t5
  cases k with
  | zero =>
    have : i = l.length := by omega
    subst this
    refine ⟨.exit 0, ?_⟩
    simp [F46_B0, t0, t1, t5]
  | succ k =>
    have hlt : i < l.length := by omega
    have hlt' := eq_true hlt
    have hg := List.getElem?_eq_getElem hlt
    have hb := wrs_at hg
    have hw := wrap_succ (i := i) (by omega)
    generalize l[i] = w at hg hb
    have Q := fun s => run_eqWrite (n := n) (by omega) w s
    refine ⟨.normal, ?_⟩
    simp [-getElem?_pos, F46_B0, t0, t1, t5, hlt', hb, hw, Q]
    exact ⟨k, by omega, i + 1, by omega, by omega⟩
theorem run_eqWrites {n : Nat} (s0 s1 : Nat) (l : List Wr) (hn : l.length + 3 ≤ n) (hl : l.length < 2 ^ 40) (s : Sup) :
    go n 46 [.w (wW s0 l), .w (wW s1 l)] [] s = some ⟨sV (.bool true), [], []⟩ := by
  obtain ⟨n, rfl⟩ : ∃ k, n = k + 1 := ⟨n - 1, by omega⟩
  simp [go_of FT_46 rfl, F46]
  generalize hst : St.mk _ _ _ _ = st1
  obtain ⟨e, ⟨τ1, H1, g1, q1⟩, hx1, -, rfl⟩ := loop46 (n := n) (by omega) s0 s1 l (by omega) (by omega) st1 (by simp [← hst]) (by simp [← hst]) (by simp [← hst])
  clear hst
  simp [hx1]

def markW (k : Int) : Nat → List Wr
  | 0 => []
  | n + 1 => markW k n ++ [⟨k + 3 * n, k + 3 * n + 1, IntKind.wrap .u8 (k + 3 * n + 2)⟩]
@[simp] theorem markW_len (k : Int) (n : Nat) : (markW k n).length = n := by
  induction n with
  | zero => rfl
  | succ n ih => simp [markW, ih]

theorem loop47 {n : Nat} (l : List Wr) (hn : l.length < n) (hl : l.length < 2 ^ 38) (k0 : Nat) (hk0 : k0 < 2 ^ 38) (c : Option Nat) (st : St) (t0 : st.τ 0 = .w (.own 0 0 l.length c)) (t1 : st.τ 1 = sV (.int .i64 k0)) (t5 : st.τ 5 = sV (.int .i64 0)) (h0 : st.H 0 = .row none 3 (wrs l) 0) :
    ∃ e st', execC (goM n) modeI (fun _ => none) false 35 n F47_L0 st = some (e, st') ∧ e ≠ .normal ∧ (e = .exit 0 ∧ st'.τ 1 = sV (.int .i64 (k0 + 3 * l.length : Nat)) ∧ st'.H 0 = .row none 3 (wrs (markW k0 l.length)) 0) := by
  rw [F47_L0, execC_loop]
  refine iter_rule (fun k s1 => ∃ i, i + k = l.length ∧ s1.τ 0 = .w (.own 0 0 l.length c) ∧ s1.τ 1 = sV (.int .i64 (k0 + 3 * i : Nat)) ∧ s1.τ 5 = sV (.int .i64 i) ∧ s1.H 0 = .row none 3 (wrs (markW k0 i ++ l.drop i)) 0) ?_ n l.length st hn
    ⟨0, by omega, t0, by simpa using t1, by simpa using t5, by simpa [markW] using h0⟩
  rintro k ⟨τ, H, g, s⟩ ⟨i, hk, t0, t1, t5, h0⟩
  simp only at t0 t1 t5 h0
  cases k with
  | zero =>
    have : i = l.length := by omega
    subst this
    refine ⟨.exit 0, ?_⟩
    rw [List.drop_length, List.append_nil] at h0
    simp [F47_B0, t0, t1, t5]
    exact h0
  | succ k =>
    have hlt : i < l.length := by omega
    have hlt' := eq_true hlt
    have hg1 := List.getElem?_eq_getElem hlt
    have hdrop : l.drop i = l[i] :: l.drop (i + 1) := List.drop_eq_getElem_cons hlt
    generalize l[i] = w at hg1 hdrop
    have hA : (wrs (markW k0 i)).length = i := by simp
    have e1 : wrs (markW k0 i ++ w :: l.drop (i + 1)) = wrs (markW k0 i) ++ ([.s (.int .i64 w.k), .s (.int .i64 w.s), .s (.int .u8 w.v)] :: wrs (l.drop (i + 1))) := by simp [wrs, Wr.row]
    have hget : ∀ (a b c : D), (wrs (markW k0 i) ++ ([a, b, c] :: wrs (l.drop (i + 1))))[i]? = some [a, b, c] := fun a b c => by
      rw [List.getElem?_append_right (by omega), hA, Nat.sub_self]; rfl
    have hset : ∀ (a b c a' b' c' : D), (wrs (markW k0 i) ++ ([a, b, c] :: wrs (l.drop (i + 1)))).set i [a', b', c'] = wrs (markW k0 i) ++ ([a', b', c'] :: wrs (l.drop (i + 1))) := fun a b c a' b' c' => by
      rw [List.set_append_right _ _ (by omega), hA, Nat.sub_self]; rfl
    have hllen : (wrs (markW k0 i) ++ ([.s (.int .i64 w.k), .s (.int .i64 w.s), .s (.int .u8 w.v)] :: wrs (l.drop (i + 1)))).length = l.length := by simp; omega
    rw [hdrop, e1] at h0
    have hw := wrap_succ (i := i) (by omega)
    have hw1 := wrap_succ (i := k0 + 3 * i) (by omega)
    have hw2 := wrap_succ (i := k0 + 3 * i + 1) (by omega)
    have hw3 := wrap_succ (i := k0 + 3 * i + 2) (by omega)
    have hc1 : ((k0 + 3 * i : Nat) : Int) = (k0 : Int) + 3 * i := by omega
    have hc2 : ((k0 + 3 * i + 1 : Nat) : Int) = (k0 : Int) + 3 * i + 1 := by omega
    have hc3 : ((k0 + 3 * i + 2 : Nat) : Int) = (k0 : Int) + 3 * i + 2 := by omega
    have hc4 : ((k0 + 3 * i + 2 + 1 : Nat) : Int) = (k0 : Int) + 3 * i + 3 := by omega
    have hc5 : ((k0 + 3 * i + 1 + 1 : Nat) : Int) = (k0 : Int) + 3 * i + 2 := by omega
    rw [hc1] at t1 hw1
    rw [hc2] at hw1 hw2
    rw [hc5] at hw2
    rw [hc3, hc4] at hw3
    refine ⟨.normal, ?_⟩
    simp [-getElem?_pos, F47_B0, t0, t1, t5, h0, hlt', hget, hset, hw, hw1, hw2, hw3]
    exact ⟨k, by omega, i + 1, by omega, by omega, by omega, by simp [markW, wrs, Wr.row]⟩

theorem run_markWrites {n : Nat} (l : List Wr) (hn : l.length + 2 ≤ n) (hl : l.length < 2 ^ 38) (k0 : Nat) (hk0 : k0 < 2 ^ 38) (c : Option Nat) (s : Sup) :
    goM n 47 [.w (.own 0 0 l.length c), .w (.d (.s (.int .i64 k0)))] [.row none 3 (wrs l) 0] s = some ⟨sV (.int .i64 (k0 + 3 * l.length : Nat)), [.row none 3 (wrs (markW k0 l.length)) 0], []⟩ := by
  obtain ⟨n, rfl⟩ : ∃ k, n = k + 1 := ⟨n - 1, by omega⟩
  simp [goM_of FT_47, F47]
  generalize hst : St.mk _ _ _ _ = st1
  obtain ⟨e, ⟨τ1, H1, g1, s1⟩, hx1, -, rfl, t1, h0⟩ := loop47 (n := n) l (by omega) hl k0 hk0 c st1 (by simp [← hst]) (by simp [← hst]) (by simp [← hst]) (by simp [← hst])
  clear hst
  have hc : ((k0 + 3 * l.length : Nat) : Int) = (k0 : Int) + 3 * l.length := by omega
  rw [hc] at t1
  simp only at t1 h0
  simp [hx1, t1, h0, modeI]
@[simp] theorem cleanB_wrs (st : Option Nat) (l : List Wr) (ro : Nat) : cleanB (.row st 3 (wrs l) ro) = some (.row none 3 (wrs l) 0) := by
  simp [cleanB, wrs, Wr.row, D.flat]

end Go.VM
