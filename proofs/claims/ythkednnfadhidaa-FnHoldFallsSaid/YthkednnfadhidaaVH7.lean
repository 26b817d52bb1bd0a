/- Power fails again and again: the law's run. Conditions: none. -/
import Derived.Test.YthkednnfadhidaaVH5
import Derived.Test.YthkednnfadhidaaVH6
namespace Go.VM
set_option linter.unusedSimpArgs false
set_option linter.unusedVariables false
set_option maxHeartbeats 4000000

def frzB (stamp : Bool) (s : Sup) (z : Fz) (b off len : Nat) (x : Box) : Option (W × Fz) := match x with
    | .row st sz rows ro =>
      if off + len ≤ rows.length then
        some (.d (.l (stampOf stamp s z.k st) ((rows.drop off).take len)),
          { H := upd z.H b (.row (some (stampOf stamp s z.k st)) sz rows (max ro (off + len))), k := z.k + 1, touch := z.touch ++ [b] })
      else none
    | _ => none
theorem frzB_row (stamp : Bool) (s : Sup) (z : Fz) (b off len : Nat) (st : Option Nat) (sz : Nat) (rows : List (List D)) (ro : Nat) : frzB stamp s z b off len (.row st sz rows ro) = if off + len ≤ rows.length then
        some (.d (.l (stampOf stamp s z.k st) ((rows.drop off).take len)),
          { H := upd z.H b (.row (some (stampOf stamp s z.k st)) sz rows (max ro (off + len))), k := z.k + 1, touch := z.touch ++ [b] })
      else none := (rfl)
theorem frzW_own (stamp : Bool) (s : Sup) (z : Fz) (b off len : Nat) (c : Option Nat) : frzW stamp s z (.own b off len c) = frzB stamp s z b off len (z.H b) := (rfl)
theorem frzW_nil (stamp : Bool) (s : Sup) (z : Fz) : frzW stamp s z .nil = some (.d (.l 0 []), z) := (rfl)
theorem frzW_ln (stamp : Bool) (s : Sup) (z : Fz) (st : Nat) (rows : List (List D)) : frzW stamp s z (.ln st rows) = some (.d (.l st rows), z) := (rfl)
theorem frzW_d (stamp : Bool) (s : Sup) (z : Fz) (d : D) : frzW stamp s z (.d d) = some (.d d, z) := (rfl)
theorem frzW_ptr (stamp : Bool) (s : Sup) (z : Fz) (b o : Nat) : frzW stamp s z (.ptr b o) = some (.ptr b o, z) := (rfl)
theorem names_own (b off len : Nat) (c : Option Nat) : W.names (.own b off len c) = [b] := (rfl)
theorem names_ptr (b off : Nat) : W.names (.ptr b off) = [b] := (rfl)
theorem names_d (d : D) : W.names (.d d) = [] := (rfl)
theorem at0 {α : Type} (a : α) (l : List α) : (a :: l)[0]? = some a := (rfl)
theorem names_nil : W.names .nil = [] := (rfl)

theorem run_whSame {n : Nat} (hn : 1 ≤ n) (s0 s1 : Nat) (l : List Int) (h : Bool) (s : Sup) :
    go n 14 [.w (dW s0 l), .w (.d (.s (.bool h))), .w (dW s1 l), .w (.d (.s (.bool h)))] [] s = some ⟨sV (.bool true), [], []⟩ := by
  obtain ⟨n, rfl⟩ : ∃ k, n = k + 1 := ⟨n - 1, by omega⟩
  have hb : ∀ l : List Int, ∃ x, bytesOf (byt l) = some x := by
    intro l
    induction l with
    | nil => exact ⟨[], rfl⟩
    | cons a l ih => obtain ⟨x, hx⟩ := ih; exact ⟨UInt8.ofNat a.toNat :: x, by rw [byt_cons]; simp only [bytesOf]; rw [hx]; rfl⟩
  obtain ⟨x, hx⟩ := hb l
  simp [go_of FT_14 rfl, F14, hx]

theorem wrap_u8 (x : Int) : 0 ≤ IntKind.wrap .u8 x ∧ IntKind.wrap .u8 x < 256 := by
  simp [IntKind.wrap, IntKind.bits, IntKind.signed]; omega

theorem loop1i {n : Nat} (code : List Int) (i : Nat) (c0 c1 : Int) (h0 : code[i]? = some c0) (h1 : code[i + 1]? = some c1) (hi : i < 2 ^ 61) (hc : 0 ≤ c0 ∧ c0 < 256) (hn : 9 < n) (sc : Nat) (b0 g0 : Nat) (cc : Option Nat) (st : St)
    (t0 : st.τ 0 = .w (dW sc code)) (t6 : st.τ 6 = sV (.int .i64 i)) (t7 : st.τ 7 = .w (ownW b0 0 cc)) (t8 : st.τ 8 = sV (.int .i64 0)) (hb : st.H b0 = rowB []) (hg : st.g = g0) (hb0 : b0 < g0) :
    ∃ e st', execC (go n) mode (fun _ => none) false 95 n F1_L0 st = some (e, st') ∧ e ≠ .normal ∧ (e = .exit 2 ∧ ∃ (data : List Int) (b : Nat) (c : Option Nat), st'.τ 7 = .w (ownW b data.length c) ∧ st'.H b = rowB data ∧ data.length ≤ 8 ∧ b < st'.g ∧ (b = b0 ∨ g0 ≤ b) ∧ g0 ≤ st'.g ∧
      st'.τ 0 = st.τ 0 ∧ st'.τ 2 = st.τ 2 ∧ st'.τ 3 = st.τ 3 ∧ st'.τ 4 = st.τ 4 ∧ st'.τ 5 = st.τ 5 ∧ st'.τ 6 = st.τ 6 ∧ ∀ m, m < g0 → m ≠ b0 → st'.H m = st.H m) := by
  rw [F1_L0, execC_loop]
  have hcw : IntKind.wrap .i64 c0 = c0 := wrap_id (by omega) (by omega)
  have hq : c0.tmod 9 = c0 % 9 := by rw [Int.tmod_eq_emod_of_nonneg (by omega)]
  refine iter_rule (fun k s1 => ∃ (data : List Int) (b : Nat) (c : Option Nat), data.length + k = (c0 % 9).toNat ∧ s1.τ 7 = .w (ownW b data.length c) ∧ s1.H b = rowB data ∧ b < s1.g ∧ (b = b0 ∨ g0 ≤ b) ∧ g0 ≤ s1.g ∧ s1.τ 8 = sV (.int .i64 data.length) ∧
      s1.τ 0 = st.τ 0 ∧ s1.τ 2 = st.τ 2 ∧ s1.τ 3 = st.τ 3 ∧ s1.τ 4 = st.τ 4 ∧ s1.τ 5 = st.τ 5 ∧ s1.τ 6 = st.τ 6 ∧ ∀ m, m < g0 → m ≠ b0 → s1.H m = st.H m) ?_ n (c0 % 9).toNat st (by omega)
      ⟨[], b0, cc, by simp, t7, hb, by omega, .inl rfl, by omega, t8, rfl, rfl, rfl, rfl, rfl, rfl, fun _ _ _ => rfl⟩
  rintro k ⟨τ, H, g, s⟩ ⟨data, b, c, hk, t7, hb, hbg, hbb, hgg, t8, a0, a2, a3, a4, a5, a6, hfr⟩
  simp only at t7 hb hbg hbb hgg t8 a0 a2 a3 a4 a5 a6 hfr
  rw [t0] at a0
  rw [t6] at a6
  have hbyt := byt_get h0
  have hbyt1 := byt_get h1
  have hw := wrap_succ (i := i) (by omega)
  have hlt := (List.getElem?_eq_some_iff.1 h1).1
  cases k with
  | zero =>
    refine ⟨.exit 2, ?_⟩
    have hlt : ((data.length : Int) < c0 % 9) = False := eq_false (by omega)
    simp [-getElem?_pos, F1_B0, t7, t8, a0, a6, hbyt, hcw, hq, hlt, a2, a3, a4, a5]
    exact ⟨data, b, ⟨by omega, rfl⟩, hb, by omega, by omega, hbb, by omega, by rw [t0], by rw [t6]; rfl, hfr⟩
  | succ k =>
    refine ⟨.normal, ?_⟩
    have hlt : ((data.length : Int) < c0 % 9) = True := eq_true (by omega)
    have hroom : room (data.length + 1) 1 = true := room_1 (by omega)
    have hwk := wrap_succ (i := data.length) (by omega)
    have e1 : ∀ k, (b = g + k) = False := fun k => eq_false (by omega)
    have e2 : ∀ k, (g + k = b) = False := fun k => eq_false (by omega)
    have e3 : ∀ k, (g + k ≤ b) = False := fun k => eq_false (by omega)
    have hi0 : (0 ≤ (i : Int) + 1) = True := eq_true (by omega)
    simp [-getElem?_pos, Nat.add_assoc, hi0, F1_B0, t7, t8, a0, a6, hbyt, hbyt1, hw, hwk, hcw, hq, hlt, a2, a3, a4, a5, hb, rowParts, hroom, e1, e2, e3, t0, t6]
    refine ⟨k, by omega, data ++ [IntKind.u8.wrap (IntKind.i64.wrap (c0 + IntKind.i64.wrap (↑data.length * IntKind.i64.wrap c1)))], by simp; omega, g + 1600, ⟨rfl, by simp⟩, by simp [byt_app, byt_cons], by omega, .inr (by omega), by omega, by simp, fun m m1 m2 => ?_⟩
    rw [if_neg (by omega), if_neg (by rcases hbb with h | h <;> omega), if_neg (by omega)]
    exact hfr m m1 m2


/-- A cell of a store's bytes: nil, or bytes laid down for good. -/
def Cl (x : W) (l : List Int) : Prop := (∀ (s : Sup) (z : Fz), frzW false s z x = some (dW 0 l, z)) ∧ x.names = []
theorem Cl.nil : Cl .nil [] := ⟨fun _ _ => rfl, rfl⟩
theorem Cl.d (l : List Int) : Cl (dW 0 l) l := ⟨fun _ _ => rfl, rfl⟩

theorem play_nat (r : Rom) (l : List Wr) (n : Nat) : r.play l n = (l.take n).foldl Rom.doW r := by
  unfold Rom.play
  by_cases h : n ≤ l.length
  · rw [show (max 0 (min (n : Int) (l.length : Int))).toNat = n from by omega]
  · rw [show (max 0 (min (n : Int) (l.length : Int))).toNat = l.length from by omega, List.take_length, List.take_of_length_le (by omega)]

theorem bytes_do {r : Rom} (h : r.bytes) {w : Wr} (hw : w.k = 2 → 0 ≤ w.v ∧ w.v < 256) : (r.doW w).bytes := by
  unfold Rom.doW
  by_cases h0 : w.s = 0
  · rw [if_pos h0]
    by_cases h2 : w.k = 2
    · rw [if_neg (by omega), if_pos h2]; exact ⟨hw h2, h.2⟩
    · repeat' split
      all_goals first | exact h | omega
  · rw [if_neg h0]
    by_cases h1 : w.s = 1
    · rw [if_pos h1]
      by_cases h2 : w.k = 2
      · rw [if_neg (by omega), if_pos h2]; exact ⟨h.1, hw h2⟩
      · repeat' split
        all_goals first | exact h | omega
    · rw [if_neg h1]; exact h
theorem bytes_fold : ∀ (l : List Wr) {r : Rom}, r.bytes → (∀ w ∈ l, w.k = 2 → 0 ≤ w.v ∧ w.v < 256) → (l.foldl Rom.doW r).bytes
  | [], r, h, hl => h
  | w :: l, r, h, hl => bytes_fold l (bytes_do h (hl w (List.mem_cons_self ..))) fun x hx => hl x (List.mem_cons_of_mem _ hx)
theorem turn_ok {r : Rom} (h : r.bytes) : 0 ≤ r.turn ∧ r.turn < 256 := by
  have n3 : ∀ t, 0 ≤ next3 t ∧ next3 t < 256 := fun t => by
    unfold next3
    have := wrap_u8 (t + 1)
    rw [Int.tmod_eq_emod_of_nonneg this.1]
    omega
  unfold Rom.turn
  repeat' split
  · exact n3 _
  · exact n3 _
  · omega
theorem plan_ok {r : Rom} (h : r.bytes) (data : List Int) : ∀ w ∈ r.plan data, w.k = 2 → 0 ≤ w.v ∧ w.v < 256 := by
  intro w hw
  have ht := turn_ok h
  simp only [Rom.plan, List.mem_append, List.mem_cons, List.mem_map, List.not_mem_nil, or_false] at hw
  rcases hw with ((((rfl | rfl) | ⟨x, -, rfl⟩) | (rfl | rfl)) | hw)
  all_goals first | (intro h2; simp at h2; done) | (intro _; exact ht) | skip
  split at hw
  · simp at hw; subst hw; intro h2; simp at h2
  · simp at hw
theorem plan_len (r : Rom) (data : List Int) : (r.plan data).length ≤ data.length + 5 := by
  simp only [Rom.plan, List.length_append, List.length_cons, List.length_nil, List.length_map]
  split <;> simp <;> omega

theorem loop1o {n : Nat} (code : List Int) (hc : ∀ x ∈ code, 0 ≤ x ∧ x < 256) (hl : code.length ≤ 2 ^ 20) (hn : 100 < n) (hn2 : code.length + 2 < n) (sc B : Nat) (st : St) (t0 : st.τ 0 = .w (dW sc code)) (t6 : st.τ 6 = sV (.int .i64 0)) (t3 : st.τ 3 = .w (.ptr B 0))
    (K : Nat) (ck : Option Nat) (t4 : st.τ 4 = .w (ownW K 0 ck)) (t5 : st.τ 5 = sV (.bool false)) (hB : st.H B = .cells (romV 0 0 .nil 0 0 .nil)) (hK : st.H K = rowB []) (hBg : B < st.g) (hKg : K < st.g) :
    ∃ e st', execC (go n) mode (fun _ => none) false 95 n F1_L1 st = some (e, st') ∧ e ≠ .normal ∧ e = .exit 0 := by
  rw [F1_L1, execC_loop]
  refine iter_rule (fun k s1 => ∃ (i : Nat) (r : Rom) (x y : W) (K : Nat) (ck : Option Nat) (kept : List Int) (have_ : Bool) (sk : Option Nat) (rk : Nat), i + k = code.length + 2 ∧ s1.τ 0 = .w (dW sc code) ∧ s1.τ 6 = sV (.int .i64 i) ∧ s1.τ 3 = .w (.ptr B 0) ∧ s1.τ 4 = .w (ownW K kept.length ck) ∧
    s1.τ 5 = sV (.bool have_) ∧ s1.H B = .cells (romV r.am r.at_ x r.bm r.bt y) ∧ Cl x r.ra ∧ Cl y r.rb ∧ s1.H K = .row sk 1 (byt kept) rk ∧ B < s1.g ∧ K < s1.g ∧ r.now = (kept, have_) ∧ r.bytes ∧ r.small) ?_ n (code.length + 2) st hn2
    ⟨0, ⟨0, 0, [], 0, 0, []⟩, .nil, .nil, K, ck, [], false, none, 0, by omega, t0, by simpa using t6, t3, t4, t5, hB, .nil, .nil, hK, hBg, hKg, by decide, ⟨⟨by decide, by decide⟩, by decide, by decide⟩, ⟨by decide, by decide⟩⟩
  rintro k ⟨τ, H, g, s⟩ ⟨i, r, x, y, K, ck, kept, have_, sk, rk, hk, t0, t6, t3, t4, t5, hB, hx, hy, hK, hBg, hKg, hnow, hby, hsm⟩
  simp only at t0 t6 t3 t4 t5 hB hK hBg hKg
  have hw := wrap_succ (i := i) (by omega)
  by_cases c1 : i + 1 < code.length ∧ i < 120
  · obtain ⟨c2, c3⟩ := c1
    have c2' : ((i : Int) + 1 < (code.length : Int)) = True := eq_true (by omega)
    have c3' : ((i : Int) < 120) = True := eq_true (by omega)
    have h0 := List.getElem?_eq_getElem (l := code) (i := i) (by omega)
    have h1 := List.getElem?_eq_getElem c2
    have hc0 := hc _ (List.getElem_mem (l := code) (n := i) (by omega))
    have hc1 := hc _ (List.getElem_mem c2)
    generalize code[i] = a0 at h0 hc0
    generalize code[i + 1] = a1 at h1 hc1
    have hbyt1 := byt_get h1
    refine ⟨.normal, ?_⟩
    simp [-getElem?_pos, Nat.add_assoc, F1_B1, t0, t6, hw, c2', c3', rowParts]
    generalize hst : St.mk _ _ _ _ = st1
    obtain ⟨e, ⟨τ1, H1, g1, s1⟩, hx1, -, rfl, data, b, c, d7, hb, hdl, hbg, hbb, hgg, q0, q2, q3, q4, q5, q6, hfr⟩ := loop1i (n := n) code i a0 a1 h0 h1 (by omega) hc0 (by omega) sc (g + 576) (g + 768) (some 0) st1
      (by simp [← hst, t0]) (by simp [← hst, t6]) (by simp [← hst]) (by simp [← hst]) (by simp [← hst]) (by simp [← hst]) (by omega)
    simp only at hfr d7 hb hbg hgg
    have f3 : τ1 3 = .w (.ptr B 0) := by simp only at q3; rw [q3, ← hst]; simp [t3]
    have f0 : τ1 0 = .w (dW sc code) := by simp only at q0; rw [q0, ← hst]; simp [t0]
    have f4 : τ1 4 = .w (ownW K kept.length ck) := by simp only at q4; rw [q4, ← hst]; simp [t4]
    have f5 : τ1 5 = sV (.bool have_) := by simp only at q5; rw [q5, ← hst]; simp [t5]
    have f6 : τ1 6 = sV (.int .i64 i) := by simp only at q6; rw [q6, ← hst]; simp [t6]
    have fB : H1 B = .cells (romV r.am r.at_ x r.bm r.bt y) := by
      rw [hfr B (by omega) (by omega), ← hst]
      have e : (B = g + 576) = False := eq_false (by omega)
      simp [e, hB]
    have fK : H1 K = .row sk 1 (byt kept) rk := by
      rw [hfr K (by omega) (by omega), ← hst]
      have e : (K = g + 576) = False := eq_false (by omega)
      simp [e, hK]
    clear hfr q0 q2 q3 q4 q5 q6 hst
    have hbB : (b = B) = False := eq_false (by rcases hbb with h | h <;> omega)
    have hBb : (B = b) = False := eq_false (by rcases hbb with h | h <;> omega)
    have hbK : (b = K) = False := eq_false (by rcases hbb with h | h <;> omega)
    have hKb : (K = b) = False := eq_false (by rcases hbb with h | h <;> omega)
    have hKB : K ≠ B := fun e => by rw [e, hB] at hK; cases hK
    have hKB' : (K = B) = False := eq_false hKB
    have hBK' : (B = K) = False := eq_false (Ne.symm hKB)
    have hx1' := hx.1
    have hx2' := hx.2
    have hy1' := hy.1
    have hy2' := hy.2
    have hdt : data.length ≤ 20100 := by omega
    have P := fun sd s => run_holdPlan (n := n) r 0 0 sd data (by omega) (by omega) s
    have hpl := plan_len r data
    have hmod : a1.tmod 18 = ((a1 % 18).toNat : Int) := by rw [Int.tmod_eq_emod_of_nonneg (by omega)]; omega
    have ha1 : IntKind.wrap .i64 a1 = a1 := wrap_id (by omega) (by omega)
    generalize (a1 % 18).toNat = nn at hmod
    have Q := fun sw s => run_holdPlay (n := n) r hsm 0 0 sw (r.plan data) nn (by omega) (by omega) s
    have hnow' := fall hby data hdt nn
    have hby' := bytes_fold ((r.plan data).take nn) hby (fun w hw => plan_ok hby data w (List.mem_of_mem_take hw))
    have hsm' := play_small hsm (r.plan data) nn
    rw [← play_nat] at hnow' hby'
    generalize r.play (r.plan data) nn = r' at hnow' hby' hsm' Q
    have N := fun s => run_holdNow (n := n) (by omega) r'.am r'.at_ r'.bm r'.bt 0 0 r'.ra r'.rb (room_b hsm'.1) (room_b hsm'.2) s
    have hw4 : IntKind.wrap .i64 ((data.length : Int) + 4) = data.length + 4 := wrap_id (by omega) (by omega)
    have hi0 : (0 ≤ (i : Int) + 1) = True := eq_true (by omega)
    have hw2 : IntKind.wrap .i64 ((i : Int) + 2) = i + 2 := wrap_id (by omega) (by omega)
    by_cases hc4 : data.length + 4 ≤ nn
    · rw [if_pos hc4] at hnow'
      have hc4' : ((data.length : Int) + 4 ≤ nn) = True := eq_true (by omega)
      have hN : holdNow r'.am r'.at_ r'.ra r'.bm r'.bt r'.rb = (data, true) := hnow'
      rw [hN] at N
      have W := fun sa s => run_whSame (n := n) (by omega) 0 sa data true s
      simp [-getElem?_pos, -frzW, -W.names, at0, frzB_row, frzW_own, frzW_nil, frzW_ln, frzW_d, frzW_ptr, names_own, names_ptr, names_d, names_nil, hx1, d7, hb, f0, f3, f4, f5, f6, fB, hbB, hBb, hx1', hx2', hy1', hy2', P, hdt, hw, hi0, hbyt1, ha1, hmod, Q, hw4, hc4', N, W, hw2]
      exact ⟨k - 2, by omega, i + 2, by omega, by omega, r', dW 0 r'.ra, dW 0 r'.rb, b, c, data, ⟨rfl, rfl, rfl⟩, ⟨rfl, rfl, rfl, rfl, rfl, rfl⟩, .d _, .d _, ⟨_, _, by rw [if_pos rfl]⟩, by omega, by omega, hnow', hby', hsm'⟩
    · rw [if_neg hc4, hnow] at hnow'
      have hc4' : ((data.length : Int) + 4 ≤ nn) = False := eq_false (by omega)
      have hN : holdNow r'.am r'.at_ r'.ra r'.bm r'.bt r'.rb = (kept, have_) := hnow'
      rw [hN] at N
      have W := fun sa s => run_whSame (n := n) (by omega) 0 sa kept have_ s
      simp [-getElem?_pos, -frzW, -W.names, at0, frzB_row, frzW_own, frzW_nil, frzW_ln, frzW_d, frzW_ptr, names_own, names_ptr, names_d, names_nil, hx1, d7, hb, f0, f3, f4, f5, f6, fB, hbB, hBb, hx1', hx2', hy1', hy2', P, hdt, hw, hi0, hbyt1, ha1, hmod, Q, hw4, hc4', N, W, hw2, fK, hbK, hKb, hKB', hBK']
      refine ⟨k - 2, by omega, i + 2, by omega, by omega, r', dW 0 r'.ra, dW 0 r'.rb, K, ck, kept, ⟨rfl, rfl, rfl⟩, ?_⟩
      cases have_
      · exact .inl ⟨rfl, ⟨rfl, rfl, rfl, rfl, rfl, rfl⟩, .d _, .d _, ⟨_, _, by rw [if_pos rfl]⟩, by omega, by omega, hnow', hby', hsm'⟩
      · exact .inr ⟨rfl, ⟨rfl, rfl, rfl, rfl, rfl, rfl⟩, .d _, .d _, ⟨_, _, by rw [if_pos rfl]⟩, by omega, by omega, hnow', hby', hsm'⟩
  · refine ⟨.exit 0, ?_⟩
    by_cases c2 : i + 1 < code.length
    · have c3 : ((i : Int) < 120) = False := eq_false (by omega)
      have c2' : ((i : Int) + 1 < (code.length : Int)) = True := eq_true (by omega)
      simp [F1_B1, t0, t6, hw, c2', c3]
    · have c2' : ((i : Int) + 1 < (code.length : Int)) = False := eq_false (by omega)
      simp [F1_B1, t0, t6, hw, c2']


theorem run_lawHoldFalls (code : List Int) (hc : ∀ x ∈ code, 0 ≤ x ∧ x < 256) (hl : code.length < 2 ^ 63) (sc : Nat) (s : Sup) :
    go (code.length + 200) 1 [.w (dW sc code)] [] s = some ⟨sV (.bool true), [], []⟩ := by
  by_cases h : code.length ≤ 2 ^ 20
  · have h' : ((1048576 : Int) < code.length) = False := eq_false (by omega)
    simp [go_of FT_1 rfl, F1, h', rowParts]
    generalize hst : St.mk _ _ _ _ = st1
    obtain ⟨e, ⟨τ1, H1, g1, s1⟩, hx1, -, rfl⟩ := loop1o (n := code.length + 199) code hc h (by omega) (by omega) sc 320 st1 (by simp [← hst]) (by simp [← hst]) (by simp [← hst]) 448 (some 0) (by simp [← hst]) (by simp [← hst])
      (by simp [← hst]) (by simp [← hst]) (by simp [← hst]) (by simp [← hst])
    clear hst
    simp [hx1]
  · have h' : ((1048576 : Int) < code.length) = True := eq_true (by omega)
    simp [go_of FT_1 rfl, F1, h']

end Go.VM
