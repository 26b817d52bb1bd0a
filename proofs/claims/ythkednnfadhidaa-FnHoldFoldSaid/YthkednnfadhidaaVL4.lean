/- A plan is carried out write by write: the law's run. Conditions: none. -/
import Derived.Test.YthkednnfadhidaaVL8

namespace Go.VM
set_option linter.unusedSimpArgs false
set_option linter.unusedVariables false
set_option maxHeartbeats 8000000

def S6 : List Int := [0, 1, 0, 1, 2, -1]
def B5 : List Int := [0, 1, 2, 165, 255]
def wrV (b : List Int) (p : Nat) : Wr := ⟨pickV b p 6, numV b (p + 1) S6, IntKind.wrap .u8 (numV b (p + 2) B5)⟩
def writesB (b : List Int) (p : Nat) : Nat → List Wr
  | 0 => []
  | k + 1 => writesB b p k ++ [wrV b (p + 3 * k)]
@[simp] theorem writesB_len (b : List Int) (p k : Nat) : (writesB b p k).length = k := by
  induction k with
  | zero => rfl
  | succ k ih => simp [writesB, ih]

theorem run_writeV {n : Nat} (hn : 4 ≤ n) (sc : Nat) (b : List Int) (hb : ∀ x ∈ b, 0 ≤ x ∧ x < 256) (hl : b.length ≤ 2 ^ 40) (p : Nat) (hp : p < 2 ^ 37) (s : Sup) :
    go n 68 [.w (.ptr 0 0)] [rdB sc b p] s = some ⟨.agg [.d (.s (.int .i64 (wrV b p).k)), .d (.s (.int .i64 (wrV b p).s)), u8W (wrV b p).v], [rdB sc b (p + 3 : Nat)], []⟩ := by
  obtain ⟨n, rfl⟩ : ∃ k, n = k + 1 := ⟨n - 1, by omega⟩
  have K := fun m s => run_pick (n := n) (by omega) sc b p (by omega) hl m s
  have v1 := numV_get hb (p := p + 1) (by omega) (L := S6) (by decide)
  have w1 := (pickV_ok hb (p := p + 1) (by omega) S6.length).1
  have v2 := numV_get hb (p := p + 2) (by omega) (L := B5) (by decide)
  have w2 := (pickV_ok hb (p := p + 2) (by omega) B5.length).1
  have N1 : ∀ st s, go n 96 [.w (.ptr 0 0), .w (.d (.l st [[.s (.int .i64 0)], [.s (.int .i64 1)], [.s (.int .i64 0)], [.s (.int .i64 1)], [.s (.int .i64 2)], [.s (.int .i64 (-1))]]))] [rdB sc b (p + 1 : Nat)] s = some ⟨sV (.int .i64 (numV b (p + 1) S6)), [rdB sc b (p + 2 : Nat)], []⟩ :=
    fun st s => run_num (n := n) (by omega) sc b (p + 1) (by omega) hl st S6 _ w1 v1 s
  have N2 : ∀ st s, go n 96 [.w (.ptr 0 0), .w (.d (.l st [[.s (.int .i64 0)], [.s (.int .i64 1)], [.s (.int .i64 2)], [.s (.int .i64 165)], [.s (.int .i64 255)]]))] [rdB sc b (p + 2 : Nat)] s = some ⟨sV (.int .i64 (numV b (p + 2) B5)), [rdB sc b (p + 3 : Nat)], []⟩ :=
    fun st s => run_num (n := n) (by omega) sc b (p + 2) (by omega) hl st B5 _ w2 v2 s
  simp only [Int.natCast_add, Int.cast_ofNat_Int] at N1 N2 K
  simp [go_of FT_68 rfl, F68, rowParts, K, N1, N2]
  simp [wrV]

theorem loop24 {n : Nat} (hn2 : 5 ≤ n) (sc : Nat) (b : List Int) (hb : ∀ x ∈ b, 0 ≤ x ∧ x < 256) (hl : b.length ≤ 2 ^ 40) (p k0 : Nat) (hp : p < 2 ^ 30) (hk0 : k0 ≤ 100) (hn : k0 < n) (st : St) (R : Nat) (t5 : st.τ 5 = .w (.ptr R 0)) (t8 : st.τ 8 = sV (.int .i64 k0)) (B : Nat) (c : Option Nat) (t7 : st.τ 7 = .w (.own B 0 0 c))
    (h0 : st.H R = rdB sc b p) (hB : st.H B = .row none 3 [] 0) (hg : B < st.g) (h0g : R < st.g) (hB0 : B ≠ R) (v6 v2 : V) (t6 : st.τ 6 = v6) (t2 : st.τ 2 = v2) (q1 q2 : Nat) (c1 c2 : List W) (hq1 : q1 < st.g) (hq2 : q2 < st.g) (hQ1 : st.H q1 = .cells c1) (hQ2 : st.H q2 = .cells c2) (hR1 : q1 ≠ R) (hR2 : q2 ≠ R) :
    ∃ e st', execC (go n) mode (fun _ => none) false 49 n F24_L0 st = some (e, st') ∧ e ≠ .normal ∧ (e = .exit 0 ∧ ∃ B c, st'.τ 5 = .w (.ptr R 0) ∧ st'.τ 6 = v6 ∧ st'.τ 2 = v2 ∧ st'.τ 7 = .w (.own B 0 k0 c) ∧ st'.H R = rdB sc b (p + 3 * k0 : Nat) ∧ st'.H B = .row none 3 (wrs (writesB b p k0)) 0 ∧ B < st'.g ∧ R < st'.g ∧ B ≠ R ∧
      q1 < st'.g ∧ q2 < st'.g ∧ st'.H q1 = .cells c1 ∧ st'.H q2 = .cells c2) := by
  rw [F24_L0, execC_loop]
  refine iter_rule (fun k s1 => ∃ (i B : Nat) (c : Option Nat), i + k = k0 ∧ s1.τ 5 = .w (.ptr R 0) ∧ s1.τ 6 = v6 ∧ s1.τ 2 = v2 ∧ s1.τ 8 = sV (.int .i64 k) ∧ s1.τ 7 = .w (.own B 0 i c) ∧ s1.H R = rdB sc b (p + 3 * i : Nat) ∧ s1.H B = .row none 3 (wrs (writesB b p i)) 0 ∧ B < s1.g ∧ R < s1.g ∧ B ≠ R ∧
      q1 < s1.g ∧ q2 < s1.g ∧ s1.H q1 = .cells c1 ∧ s1.H q2 = .cells c2) ?_ n k0 st hn
    ⟨0, B, c, by omega, t5, t6, t2, t8, t7, h0, hB, hg, h0g, hB0, hq1, hq2, hQ1, hQ2⟩
  rintro k ⟨τ, H, g, s⟩ ⟨i, B, c, hk, t5, t6, t2, t8, t7, h0, hB, hg, h0g, hB0, hq1, hq2, hQ1, hQ2⟩
  simp only at t5 t6 t2 t8 t7 h0 hB hg h0g hq1 hq2 hQ1 hQ2
  cases k with
  | zero =>
    have t8' : τ 8 = sV (.int .i64 0) := t8
    have : i = k0 := by omega
    subst this
    refine ⟨.exit 0, ?_⟩
    simp [F24_B0, t5, t6, t2, t8', t7]
    exact ⟨h0, hB, by omega, by omega, hB0, by omega, by omega, hQ1, hQ2⟩
  | succ k =>
    refine ⟨.normal, ?_⟩
    have N := fun s => run_writeV (n := n) (by omega) sc b hb hl (p + 3 * i) (by omega) s
    generalize hwr : wrV b (p + 3 * i) = w at N
    have hp3 : ((p + 3 * i + 3 : Nat) : Int) = ((p : Int) + 3 * i + 3) := by omega
    have hp4 : ((p + 3 * i : Nat) : Int) = ((p : Int) + 3 * i) := by omega
    rw [hp3, hp4] at N
    rw [hp4] at h0
    have hw : IntKind.wrap .i64 ((k : Int) + 1 - 1) = k := by rw [show (k : Int) + 1 - 1 = k from by omega]; exact wrap_id (by omega) (by omega)
    have hw' : IntKind.wrap .i64 (k : Int) = k := wrap_id (by omega) (by omega)
    have hk1 : (0 < (k : Int) + 1) = True := eq_true (by omega)
    have hroom : room (i + 1) 24 = true := room_24 (by omega)
    have hlen : (wrs (writesB b p i)).length = i := by simp
    have htk : List.take i (wrs (writesB b p i)) = wrs (writesB b p i) := List.take_of_length_le (by simp)
    have e1 : ∀ k, (B = g + k) = False := fun k => eq_false (by omega)
    have e2 : ∀ k, (g + k = B) = False := fun k => eq_false (by omega)
    have e3 : (B = R) = False := eq_false hB0
    have e4 : (R = B) = False := eq_false (Ne.symm hB0)
    have e5 : ∀ k, (R = g + k) = False := fun k => eq_false (by omega)
    have e6 : ∀ k, (g + k = R) = False := fun k => eq_false (by omega)
    have e7 : ∀ k, (q1 = g + k) = False := fun k => eq_false (by omega)
    have e8 : ∀ k, (q2 = g + k) = False := fun k => eq_false (by omega)
    have e9 : (q1 = R) = False := eq_false hR1
    have e10 : (q2 = R) = False := eq_false hR2
    have e11 : (q1 = B) = False := eq_false (fun e => by rw [e, hB] at hQ1; cases hQ1)
    have e12 : (q2 = B) = False := eq_false (fun e => by rw [e, hB] at hQ2; cases hQ2)
    simp [-getElem?_pos, Nat.add_assoc, F24_B0, t5, t6, t2, t8, t7, h0, hB, N, hw, hw', hk1, rowParts, hroom, hlen, htk, e1, e2, e3, e4, e5, e6, e7, e8, e9, e10, e11, e12, hQ1, hQ2]
    refine ⟨k, by omega, i + 1, by omega, rfl, g + 384, ⟨rfl, rfl⟩, by omega, ?_, by omega, by omega, by omega, by omega, by omega⟩
    rw [if_pos rfl]
    simp [writesB, hwr, wrs, Wr.row]


theorem run_holdDo {n : Nat} (hn : 10 ≤ n) (r : Rom) (hs : r.small) (sa sb : Nat) (w : Wr) (s : Sup) :
    go n 25 [.agg (r.v sa sb), .agg [.d (.s (.int .i64 w.k)), .d (.s (.int .i64 w.s)), u8W w.v]] [] s = some ⟨.agg ((r.doW w).v 0 0), [], []⟩ := by
  obtain ⟨n, rfl⟩ : ∃ k, n = k + 1 := ⟨n - 1, by omega⟩
  have Q : ∀ s, go n 12 [.agg (r.v sa sb), .w (.d (.l 0 [[.s (.int .i64 w.k), .s (.int .i64 w.s), .s (.int .u8 w.v)]])), .w (.d (.s (.int .i64 1)))] [] s = some ⟨.agg ((r.doW w).v 0 0), [], []⟩ :=
    fun s => run_holdPlay (n := n) r hs sa sb 0 [w] 1 (by simp; omega) (by simp) s
  simp [go_of FT_25 rfl, F25, rowParts, Q]

theorem loop4 {n : Nat} (hn : 20000 ≤ n) (w : List Wr) (hw4 : w.length ≤ 400) (k0 : Int) (sw : Nat) (r : Rom) (hsm : r.small) (X Q : Nat) (cs : List W) (st : St) (t6 : st.τ 6 = .w (.ptr X 0)) (t4 : st.τ 4 = .w (wW sw w)) (t5 : st.τ 5 = sV (.int .i64 k0)) (t7 : st.τ 7 = sV (.int .i64 0))
    (t3 : st.τ 3 = .w (.ptr Q 0)) (hX : st.H X = .cells (r.v 0 0)) (hXg : X < st.g) (hQ : st.H Q = .cells cs) (hQg : Q < st.g) (hQX : Q ≠ X) :
    ∃ e st', execC (go n) mode (fun _ => none) false 113 n F4_L0 st = some (e, st') ∧ e ≠ .normal ∧ (e = .exit 0 ∧ st'.τ 6 = .w (.ptr X 0) ∧ st'.τ 4 = .w (wW sw w) ∧ st'.τ 5 = sV (.int .i64 k0) ∧ st'.τ 3 = .w (.ptr Q 0) ∧ st'.H X = .cells ((r.play w k0).v 0 0) ∧ X < st'.g ∧ st'.H Q = .cells cs ∧ Q < st'.g) := by
  obtain ⟨m, hm⟩ : ∃ m, (max 0 (min k0 (w.length : Int))).toNat = m := ⟨_, rfl⟩
  have hml : m ≤ w.length := by omega
  rw [F4_L0, execC_loop]
  refine iter_rule (fun k s1 => ∃ i : Nat, i + k = m ∧ s1.τ 6 = .w (.ptr X 0) ∧ s1.τ 4 = .w (wW sw w) ∧ s1.τ 5 = sV (.int .i64 k0) ∧ s1.τ 7 = sV (.int .i64 i) ∧ s1.τ 3 = .w (.ptr Q 0) ∧ s1.H X = .cells (((w.take i).foldl Rom.doW r).v 0 0) ∧ X < s1.g ∧ s1.H Q = .cells cs ∧ Q < s1.g) ?_ n m st (by omega)
    ⟨0, by omega, t6, t4, t5, by simpa using t7, t3, by simpa using hX, hXg, hQ, hQg⟩
  rintro k ⟨τ, H, g, s⟩ ⟨i, hk, t6, t4, t5, t7, t3, hX, hXg, hQ, hQg⟩
  simp only at t6 t4 t5 t7 t3 hX hXg hQ hQg
  cases k with
  | zero =>
    have him : i = m := by omega
    subst him
    have hp : (w.take i).foldl Rom.doW r = r.play w k0 := by unfold Rom.play; rw [hm]
    rw [hp] at hX
    refine ⟨.exit 0, ?_⟩
    by_cases c1 : (i : Int) < k0
    · have c1' := eq_true c1
      have c2 : ((i : Int) < (w.length : Int)) = False := eq_false (by omega)
      simp [F4_B0, t6, t4, t5, t7, t3, c1', c2, hX, hQ]
      omega
    · have c1' := eq_false c1
      simp [F4_B0, t6, t4, t5, t7, t3, c1', hX, hQ]
      omega
  | succ k =>
    have hlt : i < w.length := by omega
    have hg := List.getElem?_eq_getElem hlt
    have hb := wrs_get hg
    have hw := wrap_succ (i := i) (by omega)
    have c1' : ((i : Int) < k0) = True := eq_true (by omega)
    have c2 : ((i : Int) < (w.length : Int)) = True := eq_true (by omega)
    generalize w[i] = w1 at hg hb
    have hstep : (w.take (i + 1)).foldl Rom.doW r = ((w.take i).foldl Rom.doW r).doW w1 := by rw [List.take_add_one, hg, List.foldl_append]; rfl
    have hsm1 : ((w.take i).foldl Rom.doW r).small := by
      have h1 := fold_a (w.take i) r
      have h2 := fold_b (w.take i) r
      exact ⟨Nat.le_trans h1 (by have := hsm.1; omega), Nat.le_trans h2 (by have := hsm.2; omega)⟩
    generalize (w.take i).foldl Rom.doW r = r1 at hX hstep hsm1
    have D := fun s => run_holdDo (n := n) (by omega) r1 hsm1 0 0 w1 s
    have hXk : ∀ k, (X < g + k) = True := fun k => eq_true (by omega)
    have hQk : ∀ k, (Q < g + k) = True := fun k => eq_true (by omega)
    have e1 : (Q = X) = False := eq_false hQX
    refine ⟨.normal, ?_⟩
    simp [-getElem?_pos, F4_B0, t6, t4, t5, t7, t3, c1', c2, hX, hQ, hb, hw, D, e1, hXk, hQk, Nat.add_assoc]
    refine ⟨k, by omega, i + 1, by omega, by omega, ?_⟩
    rw [hstep]
    exact ⟨rfl, rfl, rfl, rfl, rfl, rfl⟩

/-- A store, writes, and how many of them, drawn. -/
theorem run_drawHold (code : List Int) (hc : ∀ x ∈ code, 0 ≤ x ∧ x < 256) : ∃ (r : Rom) (w : List Wr) (k : Int), r.small ∧ w.length ≤ 20110 ∧
    ∀ (n sc : Nat) (s : Sup), 30010 ≤ n → go n 24 [.w (dW sc code)] [] s = some ⟨.tup [(true, r.v 0 0), (false, [wW 0 w]), (false, [.d (.s (.int .i64 k))])], [], []⟩ := by
  obtain ⟨hb, hl⟩ := take_ok hc
  have h1 := drawV_ok hb (p := 0) (by omega)
  have D := fun (n sc : Nat) s (hn0 : 30000 ≤ n) => run_draw1 (n := n) hn0 sc (code.take 2000) hb hl 0 (by omega) s
  obtain ⟨rp, hrp⟩ : ∃ d, drawV (code.take 2000) 0 = d := ⟨_, rfl⟩
  rw [hrp] at h1 D
  obtain ⟨r, p⟩ := rp
  simp only at h1 D
  have K1 := fun (n sc : Nat) m s (hn0 : 1 ≤ n) => run_pick (n := n) hn0 sc (code.take 2000) p (by omega) hl m s
  have K2 := fun (n sc : Nat) m s (hn0 : 1 ≤ n) => run_pick (n := n) hn0 sc (code.take 2000) (p + 1) (by omega) hl m s
  by_cases z : pickV (code.take 2000) p 3 = 0
  · have h12 := pickV_ok hb (p := p + 1) (by omega) 12
    obtain ⟨k, hk⟩ : ∃ k : Nat, pickV (code.take 2000) (p + 1 : Nat) 12 = k := ⟨(pickV (code.take 2000) (p + 1 : Nat) 12).toNat, by omega⟩
    have hk12 : k < 12 := by have := h12.2 (by omega); omega
    have K3 := fun (n sc : Nat) m s (hn0 : 1 ≤ n) => run_pick (n := n) hn0 sc (code.take 2000) (p + 2 + 3 * k) (by omega) hl m s
    refine ⟨r, writesB (code.take 2000) (p + 2) k, IntKind.wrap .i64 (pickV (code.take 2000) (p + 2 + 3 * k : Nat) 15 - 1), h1.1, by simp; omega, fun n sc s hn => ?_⟩
    obtain ⟨n, rfl⟩ : ∃ k, n = k + 2 := ⟨n - 2, by omega⟩
    have O := fun sc s => run_open (n := n + 1) (by omega) sc code s
    have D' := fun sc s => D n sc s (by omega)
    have K1' := fun sc m s => K1 (n + 1) sc m s (by omega)
    have K2' := fun sc m s => K2 (n + 1) sc m s (by omega)
    have K3' := fun sc m s => K3 (n + 1) sc m s (by omega)
    have hq1 : ((p + 1 : Nat) : Int) = (p : Int) + 1 := by omega
    have hq2 : ((p + 2 + 3 * k : Nat) : Int) = (p : Int) + 2 + 3 * k := by omega
    have hq3 : ((p + 1 + 1 : Nat) : Int) = (p : Int) + 2 := by omega
    have hq4 : ((p + 2 + 3 * k + 1 : Nat) : Int) = (p : Int) + 2 + 3 * k + 1 := by omega
    rw [hq1] at K1' hk
    rw [hq1, hq3] at K2'
    rw [hq2, hq4] at K3'
    rw [hq2]
    clear D K1 K2 K3
    simp only [Int.cast_ofNat_Int] at D'
    simp [go_of FT_24 rfl, F24, O, D', K1', z, K2', hk, rowParts]
    generalize hst : St.mk _ _ _ _ = st1
    obtain ⟨e, ⟨τ1, H1, g1, s1⟩, hx1, -, rfl, B, c, t5, t6, t2, t7, h0, hB, hBg, hRg, hBR, hq1g, hq2g, hQ1, hQ2⟩ := loop24 (n := n + 1) (by omega) sc (code.take 2000) hb hl (p + 2) k (by omega) (by omega) (by omega) st1 256 (by simp [← hst]) (by simp [← hst]) 832 (some 0) (by simp [← hst])
      (by simp [← hst]) (by simp [← hst]) (by simp [← hst]) (by simp [← hst]) (by omega) (.w (.ptr 512 0)) (.w (.ptr 0 0)) (by simp [← hst]) (by simp [← hst]) 512 0 (r.v 0 0) (romV 0 0 .nil 0 0 .nil) (by simp [← hst]) (by simp [← hst]) (by simp [← hst]) (by simp [← hst]) (by omega) (by omega)
    clear hst
    simp only at t5 t6 t2 t7 h0 hB hBg hRg hq1g hq2g hQ1 hQ2
    rw [hq2] at h0
    have htk : List.take k (wrs (writesB (code.take 2000) (p + 2) k)) = wrs (writesB (code.take 2000) (p + 2) k) := List.take_of_length_le (by simp)
    have e1 : (B = 256) = False := eq_false hBR
    have e2 : (256 = B) = False := eq_false (Ne.symm hBR)
    have e3 : (B = 0) = False := eq_false (fun e => by rw [e, hQ2] at hB; cases hB)
    have e4 : (0 = B) = False := eq_false (fun e => by rw [← e, hQ2] at hB; cases hB)
    have e5 : (B = 512) = False := eq_false (fun e => by rw [e, hQ1] at hB; cases hB)
    have hBk : ∀ k, (256 < g1 + k) = True := fun k => eq_true (by omega)
    have h0k : ∀ k, (0 < g1 + k) = True := fun k => eq_true (by omega)
    have h5k : ∀ k, (512 < g1 + k) = True := fun k => eq_true (by omega)
    have hkk : ∀ k, k ≤ 512 → (k < g1) = True := fun k hk => eq_true (by omega)
    simp [hx1, t5, t6, t2, t7, h0, hB, hQ1, hQ2, K3', e1, e2, e3, e4, e5, hBk, h0k, h5k, hkk, htk, Nat.add_assoc]
  · have h2 := dataV_ok hb (p := p + 1) (by omega)
    have E := fun (n sc : Nat) s (hn0 : 30 ≤ n) => run_data (n := n) hn0 sc (code.take 2000) hb hl (p + 1) (by omega) s
    obtain ⟨dp, hdp⟩ : ∃ d, dataV (code.take 2000) (p + 1) = d := ⟨_, rfl⟩
    rw [hdp] at h2 E
    obtain ⟨d, p'⟩ := dp
    simp only at h2 E
    have K3 := fun (n sc : Nat) m s (hn0 : 1 ≤ n) => run_pick (n := n) hn0 sc (code.take 2000) p' (by omega) hl m s
    have hwl : (if d.length ≤ 20100 then r.plan d else []).length ≤ 20110 := by
      split
      · have := plan_len r d; omega
      · simp
    have P := fun (n : Nat) sd s (hn0 : d.length + 4 ≤ n) => run_holdPlanS (n := n) r 0 0 sd d hn0 (by omega) s
    generalize (if d.length ≤ 20100 then r.plan d else []) = w at hwl P
    refine ⟨r, w, pickV (code.take 2000) p' (IntKind.wrap .i64 ((w.length : Int) + 2)), h1.1, hwl, fun n sc s hn => ?_⟩
    obtain ⟨n, rfl⟩ : ∃ k, n = k + 2 := ⟨n - 2, by omega⟩
    have O := fun sc s => run_open (n := n + 1) (by omega) sc code s
    have D' := fun sc s => D n sc s (by omega)
    have K1' := fun sc m s => K1 (n + 1) sc m s (by omega)
    have K3' := fun sc m s => K3 (n + 1) sc m s (by omega)
    have E' := fun sc s => E (n + 1) sc s (by omega)
    have P' := fun sd s => P (n + 1) sd s (by omega)
    have hq1 : ((p + 1 : Nat) : Int) = (p : Int) + 1 := by omega
    have hq4 : ((p' + 1 : Nat) : Int) = (p' : Int) + 1 := by omega
    rw [hq1] at K1'
    simp only [hq1] at E'
    rw [hq4] at K3'
    clear D K1 K2 K3 E P
    have z' := eq_false z
    simp only [Int.cast_ofNat_Int] at D'
    simp [go_of FT_24 rfl, F24, O, D', K1', z', E', P', K3']

theorem bytesOf_byt : ∀ l : List Int, ∃ x, bytesOf (byt l) = some x
  | [] => ⟨[], rfl⟩
  | a :: l => by
    obtain ⟨x, hx⟩ := bytesOf_byt l
    exact ⟨UInt8.ofNat a.toNat :: x, by rw [byt_cons]; simp only [bytesOf]; rw [hx]; rfl⟩

set_option maxRecDepth 10000 in
theorem run_lawHoldFold (code : List Int) (hc : ∀ x ∈ code, 0 ≤ x ∧ x < 256) (hl : code.length < 2 ^ 63) (sc : Nat) (s : Sup) :
    go 100000 4 [.w (dW sc code)] [] s = some ⟨sV (.bool true), [], []⟩ := by
  obtain ⟨n, hn⟩ : ∃ n, (100000 : Nat) = n + 1 := ⟨99999, rfl⟩
  rw [hn]
  have hn1 : 99999 ≤ n := by omega
  clear hn
  by_cases h : code.length ≤ 2 ^ 20
  · have h' : ((1048576 : Int) < code.length) = False := eq_false (by omega)
    obtain ⟨r, w, k, hsm, hwl, hD⟩ := run_drawHold code hc
    have D := fun sc s => hD n sc s (by omega)
    clear hD
    by_cases h4 : w.length ≤ 400
    · have h4' : ((400 : Int) < w.length) = False := eq_false (by omega)
      have P := fun sw s => run_holdPlay (n := n) r hsm 0 0 sw w k (by omega) (by omega) s
      have P2 := fun sw s => run_holdPlayS (n := n) r hsm 0 0 sw w k (by omega) (by omega) s
      simp [go_of FT_4 rfl, F4, h', D, h4']
      generalize hst : St.mk _ _ _ _ = st1
      obtain ⟨e, ⟨τ1, H1, g1, s1⟩, hx1, -, rfl, t6, t4, t5, t3, hX, hXg, hQ, hQg⟩ := loop4 (n := n) (by omega) w h4 k 0 r hsm 1152 640 (r.v 0 0) st1 (by simp [← hst]) (by simp [← hst]) (by simp [← hst]) (by simp [← hst]) (by simp [← hst]) (by simp [← hst]) (by simp [← hst]) (by simp [← hst]) (by simp [← hst]) (by omega)
      clear hst
      simp only at t6 t4 t5 t3 hX hXg hQ hQg
      generalize r.play w k = r' at P P2 hX
      obtain ⟨xa, hxa⟩ := bytesOf_byt r'.ra
      obtain ⟨xb, hxb⟩ := bytesOf_byt r'.rb
      have hkk : ∀ k, k ≤ 1152 → (k < g1) = True := fun k hk => eq_true (by omega)
      have hk2 : ∀ k, k ≤ 1152 → (k = g1) = False := fun k hk => eq_false (by omega)
      have hk3 : ∀ k, k ≤ 1152 → (g1 = k) = False := fun k hk => eq_false (by omega)
      have hk4 : ∀ k, k ≤ 1152 → (g1 ≤ k) = False := fun k hk => eq_false (by omega)
      have hk5 : ∀ j k, k ≤ 1152 → (k < g1 + j) = True := fun j k hk => eq_true (by omega)
      have hk6 : ∀ j k, k ≤ 1152 → (g1 + j ≤ k) = False := fun j k hk => eq_false (by omega)
      have hk7 : ∀ j k, k ≤ 1152 → (g1 + j = k) = False := fun j k hk => eq_false (by omega)
      have hk8 : ∀ j k, k ≤ 1152 → (k = g1 + j) = False := fun j k hk => eq_false (by omega)
      simp [hx1, t6, t4, t5, t3, hX, hQ, P, P2, hxa, hxb, hkk, hk2, hk3, hk4, hk5, hk6, hk7, hk8, Nat.add_assoc]
    · have h4' : ((400 : Int) < w.length) = True := eq_true (by omega)
      simp [go_of FT_4 rfl, F4, h', D, h4']
  · have h' : ((1048576 : Int) < code.length) = True := eq_true (by omega)
    simp [go_of FT_4 rfl, F4, h']

end Go.VM
