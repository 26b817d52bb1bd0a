/- Draws: a number out of a code, reckoned. Conditions: none. -/
import Derived.Test.YthkednnfadhidaaVB1
import Derived.Test.YthkednnfadhidaaVD2
import Derived.Test.YthkednnfadhidaaVHA

namespace Go.VM
set_option linter.unusedSimpArgs false
set_option linter.unusedVariables false
set_option maxHeartbeats 4000000

abbrev w64 (x : Int) : Int := IntKind.wrap .i64 x
def atB (b : List Int) (e : Int) : Int := b.getD e.toNat 0
theorem atB_get {b : List Int} {e : Int} (h0 : 0 ≤ e) (h1 : e < b.length) : (byt b)[e.toNat]? = some [.s (.int .u8 (atB b e))] := by
  have : e.toNat < b.length := by omega
  simp [byt, atB, this]
theorem atB_ok {b : List Int} (hb : ∀ x ∈ b, 0 ≤ x ∧ x < 256) (e : Int) : 0 ≤ atB b e ∧ atB b e < 256 := by
  unfold atB
  by_cases h : e.toNat < b.length
  · have : b.getD e.toNat 0 = b[e.toNat] := by simp [h]
    rw [this]
    exact hb _ (List.getElem_mem h)
  · have : b.getD e.toNat 0 = 0 := by simp [List.getD_eq_getElem?_getD, List.getElem?_eq_none (by omega : b.length ≤ e.toNat)]
    rw [this]; omega

def pickX (a1 a2 p q : Int) : Int :=
  w64 (w64 (w64 (w64 (w64 a1 * 131) + w64 (w64 a2 * 1117)) + w64 (p * 29)) + w64 (w64 q * 53))
def xorX (x : Int) : Int := w64 ((BitVec.ofInt 64 x ^^^ BitVec.ofInt 64 (w64 (x.tdiv 64))).toNat : Nat)
def pickV (b : List Int) (p : Int) (n : Int) : Int :=
  if n < 1 ∨ b.length = 0 then 0 else if p < b.length then (w64 (atB b p)).tmod n else (xorX (pickX (atB b (p.tmod b.length)) (atB b ((p * 7 + 3).tmod b.length)) p (p.tdiv b.length))).tmod n

abbrev rdB (sc : Nat) (b : List Int) (p : Int) : Box := .cells [.d (.l sc (byt b)), .d (.s (.int .i64 p))]

theorem run_pick {n : Nat} (hn : 1 ≤ n) (sc : Nat) (b : List Int) (p : Nat) (hp : p < 2 ^ 40) (hl : b.length ≤ 2 ^ 40) (m : Int) (s : Sup) :
    go n 67 [.w (.ptr 0 0), .w (.d (.s (.int .i64 m)))] [rdB sc b p] s = some ⟨sV (.int .i64 (pickV b p m)), [rdB sc b (p + 1 : Nat)], []⟩ := by
  obtain ⟨n, rfl⟩ : ∃ k, n = k + 1 := ⟨n - 1, by omega⟩
  have w1 : IntKind.wrap .i64 ((p : Int) + 1) = p + 1 := wrap_id (by omega) (by omega)
  have w2 : IntKind.wrap .i64 (p : Int) = p := wrap_id (by omega) (by omega)
  unfold pickV
  by_cases c1 : m < 1
  · simp [go_of FT_67 rfl, F67, c1, w1]
  · by_cases c2 : b.length = 0
    · have c2' : b = [] := List.eq_nil_of_length_eq_zero c2
      simp [go_of FT_67 rfl, F67, c1, c2, c2', w1]
    · have c2' : b ≠ [] := fun e => c2 (by rw [e]; rfl)
      have c2i : ((b.length : Int) = 0) = False := eq_false (by omega)
      have c3 : (m = 0) = False := eq_false (by omega)
      rw [if_neg (by omega)]
      by_cases c4 : (p : Int) < b.length
      · have c4' : p < b.length := by omega
        have hg := atB_get (b := b) (e := p) (by omega) c4
        simp only [Int.toNat_natCast] at hg
        rw [if_pos c4]
        simp [-getElem?_pos, go_of FT_67 rfl, F67, c1, c2, c2', c2i, c3, c4', hg, w1, w2]
      · have c4' : (p < b.length) = False := eq_false (by omega)
        have c4i : ((p : Int) < b.length) = False := eq_false c4
        have wa : IntKind.wrap .i64 ((p : Int) * 7) = p * 7 := wrap_id (by omega) (by omega)
        have wb : IntKind.wrap .i64 ((p : Int) * 7 + 3) = p * 7 + 3 := wrap_id (by omega) (by omega)
        have m1 : (p : Int).tmod b.length = (p : Int) % b.length := Int.tmod_eq_emod_of_nonneg (by omega)
        have m2 : ((p : Int) * 7 + 3).tmod b.length = ((p : Int) * 7 + 3) % b.length := Int.tmod_eq_emod_of_nonneg (by omega)
        have k1 : 0 ≤ (p : Int).tmod b.length := by rw [m1]; exact Int.emod_nonneg _ (by omega)
        have k2 : 0 ≤ ((p : Int) * 7 + 3).tmod b.length := by rw [m2]; exact Int.emod_nonneg _ (by omega)
        have l1 : (p : Int).tmod b.length < b.length := by rw [m1]; exact Int.emod_lt_of_pos _ (by omega)
        have l2 : ((p : Int) * 7 + 3).tmod b.length < b.length := by rw [m2]; exact Int.emod_lt_of_pos _ (by omega)
        have hg1 := atB_get k1 l1
        have hg2 := atB_get k2 l2
        have k1' := eq_true k1
        have k2' := eq_true k2
        rw [if_neg c4]
        unfold pickX xorX w64
        simp [-getElem?_pos, go_of FT_67 rfl, F67, c1, c2, c2', c2i, c3, c4', c4i, w1, w2, wa, wb, hg1, hg2, k1', k2']
        rfl


theorem w64_id {x : Int} (h1 : -(2 ^ 63) ≤ x) (h2 : x < 2 ^ 63) : w64 x = x := wrap_id h1 h2
theorem xorX_ok {x : Int} (h0 : 0 ≤ x) (h1 : x < 2 ^ 60) : 0 ≤ xorX x := by
  obtain ⟨y, rfl⟩ : ∃ y : Nat, x = y := ⟨x.toNat, by omega⟩
  have hd : (y : Int).tdiv 64 = (y / 64 : Nat) := by rw [Int.tdiv_eq_ediv_of_nonneg (by omega)]; rfl
  unfold xorX
  rw [hd, w64_id (x := ((y / 64 : Nat) : Int)) (by omega) (by omega)]
  have hx : (BitVec.ofInt 64 (y : Int) ^^^ BitVec.ofInt 64 ((y / 64 : Nat) : Int)).toNat < 2 ^ 60 := by
    rw [BitVec.toNat_xor]
    refine Nat.xor_lt_two_pow ?_ ?_
    · simp only [BitVec.toNat_ofInt]; omega
    · simp only [BitVec.toNat_ofInt]; omega
  rw [w64_id (by omega) (by omega)]
  omega
theorem pickV_ok {b : List Int} (hb : ∀ x ∈ b, 0 ≤ x ∧ x < 256) {p : Nat} (hp : p < 2 ^ 40) (n : Int) : 0 ≤ pickV b p n ∧ (1 ≤ n → pickV b p n < n) := by
  unfold pickV
  have key : ∀ y : Int, 0 ≤ y → ¬ n < 1 → 0 ≤ y.tmod n ∧ (1 ≤ n → y.tmod n < n) := fun y hy hn => by
    rw [Int.tmod_eq_emod_of_nonneg hy]
    exact ⟨Int.emod_nonneg _ (by omega), fun _ => Int.emod_lt_of_pos _ (by omega)⟩
  split
  · exact ⟨by omega, fun h => by omega⟩
  · rename_i hn
    have hn1 : ¬ n < 1 := fun h => hn (.inl h)
    split
    · have := atB_ok hb p
      exact key _ (by rw [w64_id (by omega) (by omega)]; exact this.1) hn1
    · have h1 := atB_ok hb ((p : Int).tmod b.length)
      have h2 := atB_ok hb (((p : Int) * 7 + 3).tmod b.length)
      have h3 : 0 ≤ (p : Int).tdiv b.length ∧ (p : Int).tdiv b.length ≤ p := by
        rw [Int.tdiv_eq_ediv_of_nonneg (by omega)]
        exact ⟨Int.ediv_nonneg (by omega) (by omega), Int.ediv_le_self _ (by omega)⟩
      refine key _ (xorX_ok ?_ ?_) hn1
      all_goals
        generalize atB b ((p : Int).tmod b.length) = a1 at h1 ⊢
        generalize atB b (((p : Int) * 7 + 3).tmod b.length) = a2 at h2 ⊢
        generalize (p : Int).tdiv b.length = q at h3 ⊢
        unfold pickX
        rw [w64_id (x := a1) (by omega) (by omega), w64_id (x := a2) (by omega) (by omega), w64_id (x := a1 * 131) (by omega) (by omega), w64_id (x := a2 * 1117) (by omega) (by omega), w64_id (x := a1 * 131 + a2 * 1117) (by omega) (by omega),
          w64_id (x := (p : Int) * 29) (by omega) (by omega), w64_id (x := a1 * 131 + a2 * 1117 + p * 29) (by omega) (by omega), w64_id (x := q) (by omega) (by omega), w64_id (x := q * 53) (by omega) (by omega), w64_id (by omega) (by omega)]
        omega

end Go.VM

/- Draws and the reference's store: the small functions, reckoned. Conditions: none. -/
namespace Go.VM
set_option linter.unusedSimpArgs false
set_option linter.unusedVariables false
set_option maxHeartbeats 4000000

theorem run_goodS {n : Nat} (hn : 1 ≤ n) (m t : Int) (st : Nat) (rows : List (List D)) (s : Sup) :
    go n 83 [.agg [u8W m, u8W t, .d (.l st rows)]] [] s = some ⟨sV (.bool (goodB m t rows.length)), [], []⟩ := by
  obtain ⟨n, rfl⟩ : ∃ k, n = k + 1 := ⟨n - 1, by omega⟩
  unfold goodB
  by_cases h1 : m = 165 <;> by_cases h2 : t ≤ 2 <;>
  simp [go_of FT_83 rfl, F83, h1, h2] <;> omega

theorem run_slotNowS {n : Nat} (hn : 2 ≤ n) (am at_ bm bt : Int) (sa sb : Nat) (ra rb : List Int) (s : Sup) :
    go n 40 [.agg (romV am at_ (dW sa ra) bm bt (dW sb rb))] [] s = some ⟨sV (.int .i64 (slotNow am at_ ra.length bm bt rb.length)), [], []⟩ := by
  obtain ⟨n, rfl⟩ : ∃ k, n = k + 1 := ⟨n - 1, by omega⟩
  unfold slotNow
  have G := fun m t st rows s => run_goodS (n := n) (by omega) m t st rows s
  by_cases h : bt = (IntKind.wrap .u8 (at_ + 1)).tmod 3
  · have h3 := eq_true h
    clear h
    cases h1 : goodB am at_ ra.length <;> cases h2 : goodB bm bt rb.length <;>
    simp [go_of FT_40 rfl, F40, G, h1, h2, h3]
  · have h3 := eq_false h
    clear h
    cases h1 : goodB am at_ ra.length <;> cases h2 : goodB bm bt rb.length <;>
    simp [go_of FT_40 rfl, F40, G, h1, h2, h3]

theorem run_num {n : Nat} (hn : 2 ≤ n) (sc : Nat) (b : List Int) (p : Nat) (hp : p < 2 ^ 40) (hl : b.length ≤ 2 ^ 40) (st : Nat) (L : List Int) (v : Int) (hv0 : 0 ≤ pickV b p L.length) (hv : L[(pickV b p L.length).toNat]? = some v) (s : Sup) :
    go n 96 [.w (.ptr 0 0), .w (.d (.l st (L.map fun x => [.s (.int .i64 x)])))] [rdB sc b p] s = some ⟨sV (.int .i64 v), [rdB sc b (p + 1 : Nat)], []⟩ := by
  obtain ⟨n, rfl⟩ : ∃ k, n = k + 1 := ⟨n - 1, by omega⟩
  have P := fun m s => run_pick (n := n) (by omega) sc b p hp hl m s
  have hv0' := eq_true hv0
  simp [-getElem?_pos, go_of FT_96 rfl, F96, P, hv0', hv]

/-- One of a list. -/
def numV (b : List Int) (p : Nat) (L : List Int) : Int := L.getD (pickV b p L.length).toNat 0
theorem numV_get {b : List Int} (hb : ∀ x ∈ b, 0 ≤ x ∧ x < 256) {p : Nat} (hp : p < 2 ^ 40) {L : List Int} (hL : L ≠ []) : L[(pickV b p L.length).toNat]? = some (numV b p L) := by
  have h := pickV_ok hb hp L.length
  have hl : 0 < L.length := by cases L with | nil => exact absurd rfl hL | cons => simp
  have h2 := h.2 (by omega)
  have : (pickV b p L.length).toNat < L.length := by omega
  simp [numV, this]

end Go.VM

/- Draws: bytes and slots, reckoned. Conditions: none. -/
namespace Go.VM
set_option linter.unusedSimpArgs false
set_option linter.unusedVariables false
set_option maxHeartbeats 4000000

theorem room_s {n : Nat} (h : n ≤ 30000) : room n 1 = true := by simp [room]; omega
theorem byt_snoc (l : List Int) (v : Int) : byt (l ++ [v]) = byt l ++ [[.s (.int .u8 v)]] := by simp [byt]
abbrev ints (L : List Int) : List (List D) := L.map fun x => [.s (.int .i64 x)]
def L6 : List Int := [0, 1, 2, 165, 255, 7]
/-- The bytes that are drawn one by one. -/
def dataB (b : List Int) (p : Nat) : Nat → List Int
  | 0 => []
  | k + 1 => dataB b p k ++ [IntKind.wrap .u8 (numV b (p + k) L6)]
@[simp] theorem dataB_len (b : List Int) (p k : Nat) : (dataB b p k).length = k := by
  induction k with
  | zero => rfl
  | succ k ih => simp [dataB, ih]

theorem loop69 {n : Nat} (hn2 : 3 ≤ n) (sc : Nat) (b : List Int) (hb : ∀ x ∈ b, 0 ≤ x ∧ x < 256) (hl : b.length ≤ 2 ^ 40) (p k0 : Nat) (hp : p < 2 ^ 39) (hk0 : k0 ≤ 100) (hn : k0 < n) (st : St) (g0 : Nat) (t0 : st.τ 0 = .w (.ptr 0 0)) (t4 : st.τ 4 = sV (.int .i64 k0)) (B : Nat) (c : Option Nat) (t3 : st.τ 3 = .w (ownW B 0 c))
    (h0 : st.H 0 = rdB sc b p) (hB : st.H B = rowB []) (hg : B < st.g) (h0g : 0 < st.g) (hB0 : B ≠ 0) :
    ∃ e st', execC (go n) mode (fun _ => none) false 27 n F69_L0 st = some (e, st') ∧ e ≠ .normal ∧ (e = .exit 0 ∧ ∃ B c, st'.τ 0 = .w (.ptr 0 0) ∧ st'.τ 3 = .w (ownW B k0 c) ∧ st'.H 0 = rdB sc b (p + k0 : Nat) ∧ st'.H B = rowB (dataB b p k0) ∧ B < st'.g ∧ B ≠ 0 ∧ 0 < st'.g) := by
  rw [F69_L0, execC_loop]
  refine iter_rule (fun k s1 => ∃ (i B : Nat) (c : Option Nat), i + k = k0 ∧ s1.τ 0 = .w (.ptr 0 0) ∧ s1.τ 4 = sV (.int .i64 k) ∧ s1.τ 3 = .w (ownW B i c) ∧ s1.H 0 = rdB sc b (p + i : Nat) ∧ s1.H B = rowB (dataB b p i) ∧ B < s1.g ∧ B ≠ 0 ∧ 0 < s1.g) ?_ n k0 st hn
    ⟨0, B, c, by omega, t0, t4, t3, h0, hB, hg, hB0, h0g⟩
  rintro k ⟨τ, H, g, s⟩ ⟨i, B, c, hk, t0, t4, t3, h0, hB, hg, hB0, h0g⟩
  simp only at t0 t4 t3 h0 hB hg h0g
  cases k with
  | zero =>
    have t4' : τ 4 = sV (.int .i64 0) := t4
    have : i = k0 := by omega
    subst this
    refine ⟨.exit 0, ?_⟩
    simp [F69_B0, t0, t4', t3]
    exact ⟨h0, hB, by omega, hB0⟩
  | succ k =>
    refine ⟨.normal, ?_⟩
    have hv := numV_get hb (p := p + i) (by omega) (L := L6) (by decide)
    have hv0 := (pickV_ok hb (p := p + i) (by omega) L6.length).1
    have N : ∀ st s, go n 96 [.w (.ptr 0 0), .w (.d (.l st [[.s (.int .i64 0)], [.s (.int .i64 1)], [.s (.int .i64 2)], [.s (.int .i64 165)], [.s (.int .i64 255)], [.s (.int .i64 7)]]))] [rdB sc b (p + i : Nat)] s = some ⟨sV (.int .i64 (numV b (p + i) L6)), [rdB sc b (p + i + 1 : Nat)], []⟩ :=
      fun st s => run_num (n := n) (by omega) sc b (p + i) (by omega) hl st L6 _ hv0 hv s
    simp only [Int.natCast_add, Int.cast_ofNat_Int] at N h0
    have hw : IntKind.wrap .i64 ((k : Int) + 1 - 1) = k := by rw [show (k : Int) + 1 - 1 = k from by omega]; exact wrap_id (by omega) (by omega)
    have hw' : IntKind.wrap .i64 (k : Int) = k := wrap_id (by omega) (by omega)
    have hk1 : (0 < (k : Int) + 1) = True := eq_true (by omega)
    have hroom : room (i + 1) 1 = true := room_s (by omega)
    have hlen : (byt (dataB b p i)).length = i := by simp
    have htk : List.take i (byt (dataB b p i)) = byt (dataB b p i) := List.take_of_length_le (by simp)
    have e1 : ∀ k, (B = g + k) = False := fun k => eq_false (by omega)
    have e2 : ∀ k, (g + k = B) = False := fun k => eq_false (by omega)
    have e3 : (B = 0) = False := eq_false hB0
    have e4 : (0 = B) = False := eq_false (Ne.symm hB0)
    have e5 : ∀ k, (g + (k + 1) = 0) = False := fun k => eq_false (by omega)
    have e6 : (g = 0) = False := eq_false (by omega)
    simp [-getElem?_pos, Nat.add_assoc, F69_B0, t0, t4, t3, h0, hB, N, hw, hw', hk1, rowParts, hroom, hlen, htk, e1, e2, e3, e4, e6]
    refine ⟨k, by omega, i + 1, by omega, rfl, g + 512, ⟨rfl, rfl⟩, by omega, ?_, by omega, by omega⟩
    rw [if_pos rfl]
    simp [dataB, byt_snoc]


def dataV (b : List Int) (p : Nat) : List Int × Nat :=
  if pickV b (p + 1 + (pickV b p 12).toNat : Nat) 40 = 0 then (List.replicate (20100 + (pickV b (p + 1 + (pickV b p 12).toNat + 1 : Nat) 2).toNat) 0, p + 1 + (pickV b p 12).toNat + 2)
  else (dataB b (p + 1) (pickV b p 12).toNat, p + 1 + (pickV b p 12).toNat + 1)

theorem run_data {n : Nat} (hn : 30 ≤ n) (sc : Nat) (b : List Int) (hb : ∀ x ∈ b, 0 ≤ x ∧ x < 256) (hl : b.length ≤ 2 ^ 40) (p : Nat) (hp : p < 2 ^ 38) (s : Sup) :
    go n 69 [.w (.ptr 0 0)] [rdB sc b p] s = some ⟨.w (dW 0 (dataV b p).1), [rdB sc b (dataV b p).2], []⟩ := by
  obtain ⟨n, rfl⟩ : ∃ k, n = k + 1 := ⟨n - 1, by omega⟩
  have h12 := pickV_ok hb (p := p) (by omega) 12
  have P1 := fun m s => run_pick (n := n) (by omega) sc b p (by omega) hl m s
  unfold dataV
  obtain ⟨k, hk⟩ : ∃ k : Nat, pickV b p 12 = k := ⟨(pickV b p 12).toNat, by omega⟩
  have hk12 : k < 12 := by have := h12.2 (by omega); omega
  have P2 := fun m s => run_pick (n := n) (by omega) sc b (p + 1 + k) (by omega) hl m s
  have P3 := fun m s => run_pick (n := n) (by omega) sc b (p + 1 + k + 1) (by omega) hl m s
  have h2 := pickV_ok hb (p := p + 1 + k + 1) (by omega) 2
  rw [hk, Int.toNat_natCast]
  simp only [Int.natCast_add, Int.cast_ofNat_Int] at P1 P2 P3 h2 ⊢
  simp [go_of FT_69 rfl, F69, P1, hk, rowParts]
  generalize hst : St.mk _ _ _ _ = st1
  obtain ⟨e, ⟨τ1, H1, g1, s1⟩, hx1, -, rfl, B, c, t0, t3, h0, hB, hBg, hB0, hg0⟩ := loop69 (n := n) (by omega) sc b hb hl (p + 1) k (by omega) (by omega) (by omega) st1 0 (by simp [← hst]) (by simp [← hst]) 65 (some 0) (by simp [← hst])
    (by simp [← hst]) (by simp [← hst] <;> rfl) (by simp [← hst]) (by simp [← hst]) (by omega)
  clear hst
  simp only [Int.natCast_add, Int.cast_ofNat_Int] at t0 t3 h0 hB hBg hg0
  have e3 : (B = 0) = False := eq_false hB0
  have e4 : (0 = B) = False := eq_false (Ne.symm hB0)
  have e6 : (g1 = 0) = False := eq_false (by omega)
  have htk : List.take k (byt (dataB b (p + 1) k)) = byt (dataB b (p + 1) k) := List.take_of_length_le (by simp)
  have e1 : ∀ k, (B = g1 + k) = False := fun k => eq_false (by omega)
  by_cases hz : pickV b (p + 1 + k) 40 = 0
  · rw [if_pos hz]
    obtain ⟨m, hm⟩ : ∃ m : Nat, pickV b (p + 1 + k + 1) 2 = m := ⟨(pickV b (p + 1 + k + 1) 2).toNat, by omega⟩
    have hm2 : m < 2 := by have := h2.2 (by omega); omega
    rw [hm]
    have hwm : IntKind.wrap .i64 (20100 + (m : Int)) = ((20100 + m : Nat) : Int) := by rw [wrap_id (by omega) (by omega)]; omega
    have hr : room (20100 + m) 1 = true := room_s (by omega)
    have h0m : (0 ≤ (20100 : Int) + m) = True := eq_true (by omega)
    have htn : ((20100 : Int) + m).toNat = 20100 + m := by omega
    simp only [Int.natCast_add, Int.cast_ofNat_Int] at hwm
    simp [hx1, t0, t3, h0, hB, P2, hz, P3, hm, hwm, hr, h0m, htn, e6]
    simp [byt]
    omega
  · rw [if_neg hz]
    have hz' := eq_false hz
    simp [hx1, t0, t3, h0, hB, P2, hz', e3, e4, e1, htk]

end Go.VM

/- The reference's plan, reckoned. Conditions: none. -/
namespace Go.VM
set_option linter.unusedSimpArgs false
set_option linter.unusedVariables false
set_option maxHeartbeats 4000000

theorem loop43 {n : Nat} (pre : List Wr) (hp : pre.length ≤ 10) (to : Int) (data : List Int) (hn : data.length < n) (hl : data.length ≤ 20100) (sd b : Nat) (c : Option Nat) (st : St) (h1 : st.τ 1 = .w (dW sd data)) (h10 : st.τ 10 = sV (.int .i64 0))
    (h9 : st.τ 9 = .w (.own b 0 pre.length c)) (hH : st.H b = .row none 3 (wrs pre) 0) (hb : b < st.g) (h7 : st.τ 7 = sV (.int .i64 to)) (v6 v8 : V) (h6 : st.τ 6 = v6) (h8 : st.τ 8 = v8) :
    ∃ e st', execC (go n) mode (fun _ => none) false 66 n F43_L0 st = some (e, st') ∧ e ≠ .normal ∧ (e = .exit 0 ∧ ∃ b c, st'.τ 9 = .w (.own b 0 (pre.length + data.length) c) ∧ st'.H b = .row none 3 (wrs (pre ++ data.map fun x => ⟨4, to, x⟩)) 0 ∧ b < st'.g ∧
      st'.τ 7 = sV (.int .i64 to) ∧ st'.τ 6 = v6 ∧ st'.τ 8 = v8) := by
  rw [F43_L0, execC_loop]
  refine iter_rule (fun k st => ∃ i b c, i + k = data.length ∧ st.τ 1 = .w (dW sd data) ∧ st.τ 10 = sV (.int .i64 i) ∧ st.τ 9 = .w (.own b 0 (pre.length + i) c) ∧
    st.H b = .row none 3 (wrs (pre ++ (data.take i).map fun x => ⟨4, to, x⟩)) 0 ∧ b < st.g ∧ st.τ 7 = sV (.int .i64 to) ∧ st.τ 6 = v6 ∧ st.τ 8 = v8) ?_ n data.length st hn
    ⟨0, b, c, by omega, h1, by simpa using h10, by simpa using h9, by simpa using hH, hb, h7, h6, h8⟩
  rintro k ⟨τ, H, g, s⟩ ⟨i, b, c, hk, h1, h10, h9, hH, hb, h7, h6, h8⟩
  simp only at h1 h10 h9 hH hb h7 h6 h8
  cases k with
  | zero =>
    have : i = data.length := by omega
    subst this
    refine ⟨.exit 0, ?_⟩
    simp only [List.take_length] at hH
    simp [F43_B0, h1, h10, h9, h6, h7, h8]
    exact ⟨by simpa using hH, by omega⟩
  | succ k =>
    have hlt : i < data.length := by omega
    have hg := List.getElem?_eq_getElem hlt
    have hbyt := byt_get hg
    have hw := wrap_succ (i := i) (by omega)
    refine ⟨.normal, ?_⟩
    have e1 : ∀ k, (b = g + k) = False := fun k => eq_false (by omega)
    have e2 : ∀ k, (g + k = b) = False := fun k => eq_false (by omega)
    have hr : room (pre.length + (i + 1)) 24 = true := room_24 (by omega)
    have hlen : (wrs (pre ++ (data.take i).map fun x => (⟨4, to, x⟩ : Wr))).length = pre.length + i := by simp; omega
    have htk : List.take (pre.length + i) (wrs (pre ++ (data.take i).map fun x => (⟨4, to, x⟩ : Wr))) = wrs (pre ++ (data.take i).map fun x => (⟨4, to, x⟩ : Wr)) := by rw [← hlen, List.take_length]
    generalize hR : wrs (pre ++ (data.take i).map fun x => (⟨4, to, x⟩ : Wr)) = R at hlen htk hH
    simp [-getElem?_pos, Nat.add_assoc, F43_B0, h1, h10, h9, h6, h7, h8, hH, hlt, hbyt, hw, e1, e2, rowParts, hr, hlen, htk]
    refine ⟨k, by omega, i + 1, by omega, by omega, g + 768, ⟨rfl, rfl⟩, ?_, by omega⟩
    simp [← hR, List.take_add_one, hg, wrs, Wr.row]

theorem run_holdPlanS {n : Nat} (r : Rom) (sa sb sd : Nat) (data : List Int) (hn : data.length + 4 ≤ n) (hl : data.length < 2 ^ 62) (s : Sup) :
    go n 43 [.agg (r.v sa sb), .w (dW sd data)] [] s = some ⟨.tup [(false, [wW 0 (if data.length ≤ 20100 then r.plan data else [])]), (false, [.d (.s (.bool (decide (data.length ≤ 20100))))])], [], []⟩ := by
  obtain ⟨n, rfl⟩ : ∃ k, n = k + 1 := ⟨n - 1, by omega⟩
  by_cases h : data.length ≤ 20100
  · have h' : (20100 < (data.length : Int)) = False := eq_false (by omega)
    have A := fun s => run_slotNowS (n := n) (by omega) r.am r.at_ r.bm r.bt sa sb r.ra r.rb s
    have w0 : IntKind.wrap .i64 0 = 0 := rfl
    have w1 : IntKind.wrap .i64 1 = 1 := rfl
    rcases slot_cases r with h0 | h0 | h0
    · have h0' : slotNow r.am r.at_ r.ra.length r.bm r.bt r.rb.length = 0 := h0
      have ht : r.to = 1 := by simp [Rom.to, h0]
      have hu : r.turn = next3 r.at_ := by simp [Rom.turn, h0]
      simp [go_of FT_43 rfl, F43, h, h', A, h0', rowParts, w0, w1]
      generalize hst : St.mk _ _ _ _ = st
      obtain ⟨e, ⟨τ, H, g, q⟩, hx, -, rfl, b, c, h9, hH, hb, h7, h6, h8⟩ := loop43 (n := n) [⟨1, 1, 0⟩, ⟨3, 1, 0⟩] (by simp) 1 data (by omega) h sd 1664 (some 2) st (by simp [← hst]) (by simp [← hst])
        (by simp [← hst]) (by simp [← hst, wrs, Wr.row]) (by simp [← hst]) (by simp [← hst]) (sV (.int .i64 (0))) (sV (.int .u8 (next3 r.at_))) (by simp [← hst]) (by simp [← hst, next3])
      clear hst
      simp only at h9 hH hb h7 h6 h8
      have e1 : ∀ k, (b = g + k) = False := fun k => eq_false (by omega)
      have e2 : ∀ k, (g + k = b) = False := fun k => eq_false (by omega)
      simp only [List.length_cons, List.length_nil, Nat.zero_add, Nat.reduceAdd] at h9
      have hlen : (wrs ([⟨1, 1, 0⟩, ⟨3, 1, 0⟩] ++ data.map fun x => (⟨4, 1, x⟩ : Wr))).length = 2 + data.length := by simp; omega
      have htk : List.take (2 + data.length) (wrs ([⟨1, 1, 0⟩, ⟨3, 1, 0⟩] ++ data.map fun x => (⟨4, 1, x⟩ : Wr))) = wrs ([⟨1, 1, 0⟩, ⟨3, 1, 0⟩] ++ data.map fun x => (⟨4, 1, x⟩ : Wr)) := by rw [← hlen, List.take_length]
      have hP : wrs (r.plan data) = wrs ([⟨1, 1, 0⟩, ⟨3, 1, 0⟩] ++ data.map fun x => (⟨4, 1, x⟩ : Wr)) ++ wrs ([⟨2, 1, next3 r.at_⟩, ⟨1, 1, 165⟩] ++ [⟨1, 0, 0⟩]) := by
        rw [← wrs_append]; unfold Rom.plan; rw [ht, hu, h0]; simp
      have hPl : (r.plan data).length = 2 + data.length + ([⟨2, 1, next3 r.at_⟩, ⟨1, 1, 165⟩] ++ [⟨1, 0, 0⟩] : List Wr).length := by rw [← wrs_length, hP, List.length_append, hlen, wrs_length]
      generalize wrs ([⟨1, 1, 0⟩, ⟨3, 1, 0⟩] ++ data.map fun x => (⟨4, 1, x⟩ : Wr)) = R at hlen htk hH hP
      show _ = some (⟨.tup [(false, [.d (.l 0 (wrs (r.plan data)))]), (false, [.d (.s (.bool true))])], [], []⟩ : Res)
      rw [hP]
      have ht2 : ∀ x y : List D, List.take (2 + (data.length + 2)) (R ++ [x, y]) = R ++ [x, y] := fun x y => List.take_of_length_le (by simp [hlen]; omega)
      have hr1 := room_24 (n := 2 + data.length + 2) (by omega)
      have hr2 := room_24 (n := 2 + data.length + 2 + 1) (by omega)
      simp [Nat.add_assoc] at hr1 hr2
      simp [hx, h9, hH, h6, h7, h8, e1, e2, rowParts, hlen, htk, Nat.add_assoc, hr1, hr2, ht2, w0, w1, wrs, Wr.row]
      exact List.take_of_length_le (by simp [hlen]; omega)
    · have h0' : slotNow r.am r.at_ r.ra.length r.bm r.bt r.rb.length = 1 := h0
      have ht : r.to = 0 := by simp [Rom.to, h0]
      have hu : r.turn = next3 r.bt := by simp [Rom.turn, h0]
      simp [go_of FT_43 rfl, F43, h, h', A, h0', rowParts, w0, w1]
      generalize hst : St.mk _ _ _ _ = st
      obtain ⟨e, ⟨τ, H, g, q⟩, hx, -, rfl, b, c, h9, hH, hb, h7, h6, h8⟩ := loop43 (n := n) [⟨1, 0, 0⟩, ⟨3, 0, 0⟩] (by simp) 0 data (by omega) h sd 1600 (some 2) st (by simp [← hst]) (by simp [← hst])
        (by simp [← hst]) (by simp [← hst, wrs, Wr.row]) (by simp [← hst]) (by simp [← hst]) (sV (.int .i64 (1))) (sV (.int .u8 (next3 r.bt))) (by simp [← hst]) (by simp [← hst, next3])
      clear hst
      simp only at h9 hH hb h7 h6 h8
      have e1 : ∀ k, (b = g + k) = False := fun k => eq_false (by omega)
      have e2 : ∀ k, (g + k = b) = False := fun k => eq_false (by omega)
      simp only [List.length_cons, List.length_nil, Nat.zero_add, Nat.reduceAdd] at h9
      have hlen : (wrs ([⟨1, 0, 0⟩, ⟨3, 0, 0⟩] ++ data.map fun x => (⟨4, 0, x⟩ : Wr))).length = 2 + data.length := by simp; omega
      have htk : List.take (2 + data.length) (wrs ([⟨1, 0, 0⟩, ⟨3, 0, 0⟩] ++ data.map fun x => (⟨4, 0, x⟩ : Wr))) = wrs ([⟨1, 0, 0⟩, ⟨3, 0, 0⟩] ++ data.map fun x => (⟨4, 0, x⟩ : Wr)) := by rw [← hlen, List.take_length]
      have hP : wrs (r.plan data) = wrs ([⟨1, 0, 0⟩, ⟨3, 0, 0⟩] ++ data.map fun x => (⟨4, 0, x⟩ : Wr)) ++ wrs ([⟨2, 0, next3 r.bt⟩, ⟨1, 0, 165⟩] ++ [⟨1, 1, 0⟩]) := by
        rw [← wrs_append]; unfold Rom.plan; rw [ht, hu, h0]; simp
      have hPl : (r.plan data).length = 2 + data.length + ([⟨2, 0, next3 r.bt⟩, ⟨1, 0, 165⟩] ++ [⟨1, 1, 0⟩] : List Wr).length := by rw [← wrs_length, hP, List.length_append, hlen, wrs_length]
      generalize wrs ([⟨1, 0, 0⟩, ⟨3, 0, 0⟩] ++ data.map fun x => (⟨4, 0, x⟩ : Wr)) = R at hlen htk hH hP
      show _ = some (⟨.tup [(false, [.d (.l 0 (wrs (r.plan data)))]), (false, [.d (.s (.bool true))])], [], []⟩ : Res)
      rw [hP]
      have ht2 : ∀ x y : List D, List.take (2 + (data.length + 2)) (R ++ [x, y]) = R ++ [x, y] := fun x y => List.take_of_length_le (by simp [hlen]; omega)
      have hr1 := room_24 (n := 2 + data.length + 2) (by omega)
      have hr2 := room_24 (n := 2 + data.length + 2 + 1) (by omega)
      simp [Nat.add_assoc] at hr1 hr2
      simp [hx, h9, hH, h6, h7, h8, e1, e2, rowParts, hlen, htk, Nat.add_assoc, hr1, hr2, ht2, w0, w1, wrs, Wr.row]
      exact List.take_of_length_le (by simp [hlen]; omega)
    · have h0' : slotNow r.am r.at_ r.ra.length r.bm r.bt r.rb.length = -1 := h0
      have ht : r.to = 0 := by simp [Rom.to, h0]
      have hu : r.turn = 0 := by simp [Rom.turn, h0]
      simp [go_of FT_43 rfl, F43, h, h', A, h0', rowParts, w0, w1]
      generalize hst : St.mk _ _ _ _ = st
      obtain ⟨e, ⟨τ, H, g, q⟩, hx, -, rfl, b, c, h9, hH, hb, h7, h6, h8⟩ := loop43 (n := n) [⟨1, 0, 0⟩, ⟨3, 0, 0⟩] (by simp) 0 data (by omega) h sd 1216 (some 2) st (by simp [← hst]) (by simp [← hst])
        (by simp [← hst]) (by simp [← hst, wrs, Wr.row]) (by simp [← hst]) (by simp [← hst]) (sV (.int .i64 (-1))) (sV (.int .u8 (0))) (by simp [← hst]) (by simp [← hst, next3])
      clear hst
      simp only at h9 hH hb h7 h6 h8
      have e1 : ∀ k, (b = g + k) = False := fun k => eq_false (by omega)
      have e2 : ∀ k, (g + k = b) = False := fun k => eq_false (by omega)
      simp only [List.length_cons, List.length_nil, Nat.zero_add, Nat.reduceAdd] at h9
      have hlen : (wrs ([⟨1, 0, 0⟩, ⟨3, 0, 0⟩] ++ data.map fun x => (⟨4, 0, x⟩ : Wr))).length = 2 + data.length := by simp; omega
      have htk : List.take (2 + data.length) (wrs ([⟨1, 0, 0⟩, ⟨3, 0, 0⟩] ++ data.map fun x => (⟨4, 0, x⟩ : Wr))) = wrs ([⟨1, 0, 0⟩, ⟨3, 0, 0⟩] ++ data.map fun x => (⟨4, 0, x⟩ : Wr)) := by rw [← hlen, List.take_length]
      have hP : wrs (r.plan data) = wrs ([⟨1, 0, 0⟩, ⟨3, 0, 0⟩] ++ data.map fun x => (⟨4, 0, x⟩ : Wr)) ++ wrs ([⟨2, 0, 0⟩, ⟨1, 0, 165⟩] ++ []) := by
        rw [← wrs_append]; unfold Rom.plan; rw [ht, hu, h0]; simp
      have hPl : (r.plan data).length = 2 + data.length + ([⟨2, 0, 0⟩, ⟨1, 0, 165⟩] ++ [] : List Wr).length := by rw [← wrs_length, hP, List.length_append, hlen, wrs_length]
      generalize wrs ([⟨1, 0, 0⟩, ⟨3, 0, 0⟩] ++ data.map fun x => (⟨4, 0, x⟩ : Wr)) = R at hlen htk hH hP
      show _ = some (⟨.tup [(false, [.d (.l 0 (wrs (r.plan data)))]), (false, [.d (.s (.bool true))])], [], []⟩ : Res)
      rw [hP]
      have ht2 : ∀ x y : List D, List.take (2 + (data.length + 2)) (R ++ [x, y]) = R ++ [x, y] := fun x y => List.take_of_length_le (by simp [hlen]; omega)
      have hr1 := room_24 (n := 2 + data.length + 2) (by omega)
      have hr2 := room_24 (n := 2 + data.length + 2 + 1) (by omega)
      simp [Nat.add_assoc] at hr1 hr2
      simp [hx, h9, hH, h6, h7, h8, e1, e2, rowParts, hlen, htk, Nat.add_assoc, hr1, hr2, ht2, w0, w1, wrs, Wr.row]
  · have h' : (20100 < (data.length : Int)) = True := eq_true (by omega)
    simp [go_of FT_43 rfl, F43, h, h', wrs]

end Go.VM

/- The reference's play, reckoned: its small functions. Conditions: none. -/
namespace Go.VM
set_option linter.unusedSimpArgs false
set_option linter.unusedVariables false
set_option maxHeartbeats 4000000

theorem room_t {n : Nat} (h : n ≤ 2 ^ 30) : room n 1 = true := by simp [room]; omega
theorem byt_sn (l : List Int) (v : Int) : byt (l ++ [v]) = byt l ++ [[.s (.int .u8 v)]] := by simp [byt]

theorem run_copyS {n : Nat} (hn : 1 ≤ n) (st : Nat) (l : List Int) (h2 : room l.length 1 = true) (s : Sup) :
    go n 85 [.w (dW st l)] [] s = some ⟨.w (ownW 0 l.length none), [], [rowB l]⟩ := by
  obtain ⟨n, rfl⟩ : ∃ k, n = k + 1 := ⟨n - 1, by omega⟩
  simp [go_of FT_85 rfl, F85, rowParts, byt_all, h2]

theorem run_romS {n : Nat} (hn : 2 ≤ n) (am at_ bm bt : Int) (sa sb : Nat) (ra rb : List Int) (h1 : room ra.length 1 = true) (h2 : room rb.length 1 = true) (s : Sup) :
    go n 70 [.agg (romV am at_ (dW sa ra) bm bt (dW sb rb))] [] s =
      some ⟨.agg (romV am at_ (ownW 0 ra.length none) bm bt (ownW 1 rb.length none)), [], [rowB ra, rowB rb]⟩ := by
  obtain ⟨n, rfl⟩ : ∃ k, n = k + 1 := ⟨n - 1, by omega⟩
  have C := fun st s => run_copyS (n := n) (by omega) st ra h1 s
  have D := fun st s => run_copyS (n := n) (by omega) st rb h2 s
  simp [go_of FT_70 rfl, F70, C, D]

/-- A slot's bytes: nil, or a row of their own. -/
inductive SlAt (H : Nat → Box) (g : Nat) (x : W) (l : List Int) : Prop
  | nil (hx : x = .nil) (hl : l = [])
  | own (p : Nat) (c : Option Nat) (hx : x = ownW p l.length c) (hp : p < g) (hr : H p = rowB l)

def addW (m t : Int) (l : List Int) (w : Wr) : Int × Int × List Int :=
  if w.k = 4 then (if l.length < 20100 then (m, t, l ++ [w.v]) else (m, t, l)) else if w.k = 1 then (w.v, t, l) else if w.k = 2 then (m, w.v, l) else if w.k = 3 then (m, t, []) else (m, t, l)

def Added (H H' : Nat → Box) (g : Nat) (x x' : W) : Prop := (∀ m, m < g → m ∉ x.names → H' m = H m) ∧ ∀ m ∈ x'.names, m ∈ x.names ∨ g ≤ m

theorem add_nil {n : Nat} {H : Nat → Box} {g : Nat} {s : Sup} {m t k sl v : Int}  :
    ∃ e x', callV (go (n + 2)) mode false H g s 71 [.agg [u8W m, u8W t, .nil], .agg [.d (.s (.int .i64 k)), .d (.s (.int .i64 sl)), u8W v]] = some e ∧ e.v = .agg [u8W (addW m t [] ⟨k, sl, v⟩).1, u8W (addW m t [] ⟨k, sl, v⟩).2.1, x'] ∧ SlAt e.H (g + 64) x' (addW m t [] ⟨k, sl, v⟩).2.2 ∧ Added H e.H g .nil x' := by
  by_cases k1 : k = 1
  · subst k1
    simp [go_of FT_71 rfl, F71, go_of FT_74 rfl, F74, rowParts, addW, byt_all]
    exact ⟨.nil rfl rfl, fun m' hm hx => by
      have e1 : (m' = g) = False := eq_false (by omega)
      simp [e1], fun m' hm => .inl hm⟩
  by_cases k2 : k = 2
  · subst k2
    simp [go_of FT_71 rfl, F71, go_of FT_74 rfl, F74, rowParts, addW, byt_all]
    exact ⟨.nil rfl rfl, fun m' hm hx => by
      have e1 : (m' = g) = False := eq_false (by omega)
      simp [e1], fun m' hm => .inl hm⟩
  by_cases k3 : k = 3
  · subst k3
    simp [go_of FT_71 rfl, F71, go_of FT_74 rfl, F74, rowParts, addW, byt_all]
    exact ⟨.nil rfl rfl, fun m' hm hx => by
      have e1 : (m' = g) = False := eq_false (by omega)
      simp [e1], fun m' hm => by simp at hm⟩
  by_cases k4 : k = 4
  · subst k4
    have hm : room 1 1 = true := room_t (by omega)
    simp [go_of FT_71 rfl, F71, go_of FT_74 rfl, F74, rowParts, addW, byt_all, hm]
    exact ⟨.own g none (by simp) (by omega) (by simp; rfl), fun m' hm hx => by
      have e1 : (m' = g) = False := eq_false (by omega)
      simp [e1], fun m' hm => .inr (by simp at hm; omega)⟩
  simp [go_of FT_71 rfl, F71, go_of FT_74 rfl, F74, rowParts, addW, byt_all, k1, k2, k3, k4]
  exact ⟨.nil rfl rfl, fun m' hm hx => by
      have e1 : (m' = g) = False := eq_false (by omega)
      simp [e1], fun m' hm => .inl hm⟩

theorem add_own {n : Nat} {H : Nat → Box} {g : Nat} {s : Sup} {m t k sl v : Int} {l : List Int} {p : Nat} {c : Option Nat} (hp : p < g) (hr : H p = rowB l) :
    ∃ e x', callV (go (n + 2)) mode false H g s 71 [.agg [u8W m, u8W t, (ownW p l.length c)], .agg [.d (.s (.int .i64 k)), .d (.s (.int .i64 sl)), u8W v]] = some e ∧ e.v = .agg [u8W (addW m t l ⟨k, sl, v⟩).1, u8W (addW m t l ⟨k, sl, v⟩).2.1, x'] ∧ SlAt e.H (g + 64) x' (addW m t l ⟨k, sl, v⟩).2.2 ∧ Added H e.H g (ownW p l.length c) x' := by
  have n1 : (p = g) = False := eq_false (by omega)
  have n2 : (g = p) = False := eq_false (by omega)
  by_cases k1 : k = 1
  · subst k1
    simp [go_of FT_71 rfl, F71, go_of FT_74 rfl, F74, rowParts, addW, byt_all, n1, n2, hr]
    exact ⟨.own p c rfl (by omega) (by simp [byt_sn, byt_all, n1, n2, hr]), fun m' hm hx => by
      have e1 : (m' = g) = False := eq_false (by omega)
      have e2 : (m' = p) = False := eq_false (by simpa using hx)
      simp [e1, e2], fun m' hm => .inl hm⟩
  by_cases k2 : k = 2
  · subst k2
    simp [go_of FT_71 rfl, F71, go_of FT_74 rfl, F74, rowParts, addW, byt_all, n1, n2, hr]
    exact ⟨.own p c rfl (by omega) (by simp [byt_sn, byt_all, n1, n2, hr]), fun m' hm hx => by
      have e1 : (m' = g) = False := eq_false (by omega)
      have e2 : (m' = p) = False := eq_false (by simpa using hx)
      simp [e1, e2], fun m' hm => .inl hm⟩
  by_cases k3 : k = 3
  · subst k3
    simp [go_of FT_71 rfl, F71, go_of FT_74 rfl, F74, rowParts, addW, byt_all, n1, n2, hr]
    exact ⟨.nil rfl rfl, fun m' hm hx => by
      have e1 : (m' = g) = False := eq_false (by omega)
      have e2 : (m' = p) = False := eq_false (by simpa using hx)
      simp [e1, e2], fun m' hm => by simp at hm⟩
  by_cases k4 : k = 4
  · subst k4
    by_cases hl : l.length < 20100
    · have hl2 : ((l.length : Int) < 20100) = True := eq_true (by omega)
      have hm : room (l.length + 1) 1 = true := room_t (by omega)
      simp [go_of FT_71 rfl, F71, go_of FT_74 rfl, F74, rowParts, addW, byt_all, n1, n2, hr, hl, hl2, hm]
      exact ⟨.own g none (by simp) (by omega) (by simp [byt_sn, byt_all, n1, n2, hr]), fun m' hm hx => by
      have e1 : (m' = g) = False := eq_false (by omega)
      have e2 : (m' = p) = False := eq_false (by simpa using hx)
      simp [e1, e2], fun m' hm => .inr (by simp at hm; omega)⟩
    · have hl2 : ((l.length : Int) < 20100) = False := eq_false (by omega)
      simp [go_of FT_71 rfl, F71, go_of FT_74 rfl, F74, rowParts, addW, byt_all, n1, n2, hr, hl, hl2]
      exact ⟨.own p c rfl (by omega) (by simp [byt_sn, byt_all, n1, n2, hr]), fun m' hm hx => by
      have e1 : (m' = g) = False := eq_false (by omega)
      have e2 : (m' = p) = False := eq_false (by simpa using hx)
      simp [e1, e2], fun m' hm => .inl hm⟩
  simp [go_of FT_71 rfl, F71, go_of FT_74 rfl, F74, rowParts, addW, byt_all, n1, n2, hr, k1, k2, k3, k4]
  exact ⟨.own p c rfl (by omega) (by simp [byt_sn, byt_all, n1, n2, hr]), fun m' hm hx => by
      have e1 : (m' = g) = False := eq_false (by omega)
      have e2 : (m' = p) = False := eq_false (by simpa using hx)
      simp [e1, e2], fun m' hm => .inl hm⟩

theorem add_call {n : Nat} {H : Nat → Box} {g : Nat} {s : Sup} {m t : Int} {x : W} {l : List Int} (w : Wr) (h : SlAt H g x l) :
    ∃ e x', callV (go (n + 2)) mode false H g s 71 [.agg [u8W m, u8W t, x], .agg [.d (.s (.int .i64 w.k)), .d (.s (.int .i64 w.s)), u8W w.v]] = some e ∧ e.v = .agg [u8W (addW m t l w).1, u8W (addW m t l w).2.1, x'] ∧ SlAt e.H (g + 64) x' (addW m t l w).2.2 ∧ Added H e.H g x x' := by
  cases h with
  | nil hx hl => subst hx hl; exact add_nil
  | own p c hx hp hr => subst hx; exact add_own hp hr

end Go.VM

/- The reference's play, reckoned. Conditions: none. -/
namespace Go.VM
set_option linter.unusedSimpArgs false
set_option linter.unusedVariables false
set_option maxHeartbeats 4000000

theorem SlAt.mono {H H' : Nat → Box} {g g' : Nat} {x : W} {l : List Int} (h : SlAt H g x l) (hg : g ≤ g') (hH : ∀ m ∈ x.names, H' m = H m) : SlAt H' g' x l := by
  cases h with
  | nil hx hl => exact .nil hx hl
  | own p c hx hp hr => exact .own p c hx (by omega) (by rw [hH p (by rw [hx]; simp)]; exact hr)
theorem SlAt.lt {H : Nat → Box} {g : Nat} {x : W} {l : List Int} (h : SlAt H g x l) : ∀ m ∈ x.names, m < g ∧ ∃ l, H m = rowB l := by
  intro m hm
  cases h with
  | nil hx hl => rw [hx] at hm; simp at hm
  | own p c hx hp hr => rw [hx] at hm; simp at hm; subst hm; exact ⟨hp, _, hr⟩

/-- A store in a box. -/
structure RomS (H : Nat → Box) (g b : Nat) (r : Rom) (x y : W) : Prop where
  lt : b < g
  box : H b = .cells (romV r.am r.at_ x r.bm r.bt y)
  one : SlAt H g x r.ra
  two : SlAt H g y r.rb
  apart : ∀ m ∈ x.names, m ∉ y.names

theorem RomS.nx {H : Nat → Box} {g b : Nat} {r : Rom} {x y : W} (h : RomS H g b r x y) {q : Nat} {cs : List W} (hq : H q = .cells cs) : q ∉ x.names ∧ q ∉ y.names := by
  constructor
  · intro hm; obtain ⟨_, l, e⟩ := h.one.lt q hm; rw [hq] at e; cases e
  · intro hm; obtain ⟨_, l, e⟩ := h.two.lt q hm; rw [hq] at e; cases e

theorem doW_0 (r : Rom) (w : Wr) (h : w.s = 0) : r.doW w = { r with am := (addW r.am r.at_ r.ra w).1, at_ := (addW r.am r.at_ r.ra w).2.1, ra := (addW r.am r.at_ r.ra w).2.2 } := by
  unfold Rom.doW addW
  by_cases k4 : w.k = 4
  · by_cases hl : r.ra.length < 20100 <;> simp [h, k4, hl]
  · by_cases k1 : w.k = 1
    · simp [h, k1]
    · by_cases k2 : w.k = 2
      · simp [h, k2]
      · by_cases k3 : w.k = 3 <;> simp [h, k1, k2, k3, k4]
theorem doW_1 (r : Rom) (w : Wr) (h : w.s = 1) : r.doW w = { r with bm := (addW r.bm r.bt r.rb w).1, bt := (addW r.bm r.bt r.rb w).2.1, rb := (addW r.bm r.bt r.rb w).2.2 } := by
  unfold Rom.doW addW
  by_cases k4 : w.k = 4
  · by_cases hl : r.rb.length < 20100 <;> simp [h, k4, hl]
  · by_cases k1 : w.k = 1
    · simp [h, k1]
    · by_cases k2 : w.k = 2
      · simp [h, k2]
      · by_cases k3 : w.k = 3 <;> simp [h, k1, k2, k3, k4]
theorem doW_x (r : Rom) (w : Wr) (h : w.s ≠ 0) (h1 : w.s ≠ 1) : r.doW w = r := by
  unfold Rom.doW
  rw [if_neg h, if_neg h1]

theorem RomS.mono {H : Nat → Box} {g b : Nat} {r : Rom} {x y : W} (h : RomS H g b r x y) {g' : Nat} (hg : g ≤ g') : RomS H g' b r x y :=
  ⟨Nat.lt_of_lt_of_le h.lt hg, h.box, h.one.mono hg fun _ _ => rfl, h.two.mono hg fun _ _ => rfl, h.apart⟩

theorem RomS.put0 {H H1 : Nat → Box} {g g1 g2 b : Nat} {r : Rom} {x y x' : W} {m t : Int} {l : List Int} (h : RomS H g b r x y) (hS : SlAt H1 g1 x' l) {ga : Nat} (hA : Added H H1 ga x x') (hga : g ≤ ga) (hg : g1 ≤ g2) (hgg : g ≤ g2) :
    RomS (upd H1 b (.cells (romV m t x' r.bm r.bt y))) g2 b { r with am := m, at_ := t, ra := l } x' y := by
  have hbx := (h.nx h.box).1
  have hby := (h.nx h.box).2
  have nb : ∀ k ∈ x'.names, k ≠ b := fun k hk e => by
    subst e
    rcases hA.2 k hk with h1 | h1
    · exact hbx h1
    · have := h.lt; omega
  refine ⟨Nat.lt_of_lt_of_le h.lt hgg, by simp, hS.mono hg fun k hk => by simp [nb k hk], h.two.mono hgg fun k hk => ?_, fun k hk hk2 => ?_⟩
  · have h1 := (h.two.lt k hk).1
    have h2 : k ∉ x.names := fun c => h.apart k c hk
    have h3 : k ≠ b := fun e => hby (e ▸ hk)
    simp [h3, hA.1 k (by omega) h2]
  · rcases hA.2 k hk with h1 | h1
    · exact h.apart k h1 hk2
    · have := (h.two.lt k hk2).1; omega
theorem RomS.put1 {H H1 : Nat → Box} {g g1 g2 b : Nat} {r : Rom} {x y y' : W} {m t : Int} {l : List Int} (h : RomS H g b r x y) (hS : SlAt H1 g1 y' l) {ga : Nat} (hA : Added H H1 ga y y') (hga : g ≤ ga) (hg : g1 ≤ g2) (hgg : g ≤ g2) :
    RomS (upd H1 b (.cells (romV r.am r.at_ x m t y'))) g2 b { r with bm := m, bt := t, rb := l } x y' := by
  have hbx := (h.nx h.box).1
  have hby := (h.nx h.box).2
  have nb : ∀ k ∈ y'.names, k ≠ b := fun k hk e => by
    subst e
    rcases hA.2 k hk with h1 | h1
    · exact hby h1
    · have := h.lt; omega
  refine ⟨Nat.lt_of_lt_of_le h.lt hgg, by simp, h.one.mono hgg fun k hk => ?_, hS.mono hg fun k hk => by simp [nb k hk], fun k hk hk2 => ?_⟩
  · have h1 := (h.one.lt k hk).1
    have h2 : k ∉ y.names := fun c => h.apart k hk c
    have h3 : k ≠ b := fun e => hbx (e ▸ hk)
    simp [h3, hA.1 k (by omega) h2]
  · rcases hA.2 k hk2 with h1 | h1
    · exact h.apart k hk h1
    · have := (h.one.lt k hk).1; omega

theorem loop26 {n : Nat} (sw : Nat) (l : List Wr) (k0 : Int) (hn : l.length < n + 2) (hl : l.length < 2 ^ 62) (b q : Nat) (r : Rom) (x y : W) (cs : List W) (st : St) (h3 : st.τ 3 = .w (.ptr b 0)) (h1 : st.τ 1 = .w (wW sw l)) (h2 : st.τ 2 = sV (.int .i64 k0)) (h7 : st.τ 7 = sV (.int .i64 0))
    (h6 : st.τ 6 = .w (.ptr q 0)) (hq : q < st.g) (hqb : q ≠ b) (hQ : st.H q = .cells cs) (hR : RomS st.H st.g b r x y) :
    ∃ e st', execC (go (n + 2)) mode (fun _ => none) false 50 (n + 2) F26_L0 st = some (e, st') ∧ e ≠ .normal ∧ (e = .exit 0 ∧ ∃ x y, st'.τ 3 = .w (.ptr b 0) ∧ st'.τ 6 = .w (.ptr q 0) ∧ q < st'.g ∧ st'.H q = .cells cs ∧ RomS st'.H st'.g b (r.play l k0) x y) := by
  obtain ⟨m, hm⟩ : ∃ m, (max 0 (min k0 (l.length : Int))).toNat = m := ⟨_, rfl⟩
  have hml : m ≤ l.length := by omega
  rw [F26_L0, execC_loop]
  refine iter_rule (fun k st => ∃ (i : Nat) (x y : W), i + k = m ∧ st.τ 3 = .w (.ptr b 0) ∧ st.τ 1 = .w (wW sw l) ∧ st.τ 2 = sV (.int .i64 k0) ∧ st.τ 7 = sV (.int .i64 i) ∧
    st.τ 6 = .w (.ptr q 0) ∧ q < st.g ∧ st.H q = .cells cs ∧ RomS st.H st.g b ((l.take i).foldl Rom.doW r) x y) ?_ (n + 2) m st (by omega) ⟨0, x, y, by omega, h3, h1, h2, by simpa using h7, h6, hq, hQ, by simpa using hR⟩
  rintro k ⟨τ, H, g, s⟩ ⟨i, x, y, hk, h3, h1, h2, h7, h6, hq, hQ, hR⟩
  simp only at h3 h1 h2 h7 h6 hq hQ hR
  cases k with
  | zero =>
    have him : i = m := by omega
    subst him
    have hp : (l.take i).foldl Rom.doW r = r.play l k0 := by unfold Rom.play; rw [hm]
    rw [hp] at hR
    refine ⟨.exit 0, ?_⟩
    by_cases c1 : (i : Int) < k0
    · have c1' := eq_true c1
      have c2 : ((i : Int) < (l.length : Int)) = False := eq_false (by omega)
      simp [F26_B0, h3, h1, h2, h7, h6, c1', c2]
      exact ⟨by omega, hQ, x, y, hR.mono (by omega)⟩
    · have c1' := eq_false c1
      simp [F26_B0, h3, h1, h2, h7, h6, c1']
      exact ⟨by omega, hQ, x, y, hR.mono (by omega)⟩
  | succ k =>
    have hlt : i < l.length := by omega
    have hg := List.getElem?_eq_getElem hlt
    have hb := wrs_get hg
    have hw := wrap_succ (i := i) (by omega)
    have c1' : ((i : Int) < k0) = True := eq_true (by omega)
    have c2 : ((i : Int) < (l.length : Int)) = True := eq_true (by omega)
    generalize l[i] = w at hg hb
    have hstep : (l.take (i + 1)).foldl Rom.doW r = ((l.take i).foldl Rom.doW r).doW w := by rw [List.take_add_one, hg, List.foldl_append]; rfl
    generalize (l.take i).foldl Rom.doW r = r1 at hR hstep
    have hbl : ∀ k, (b < g + k) = True := fun k => eq_true (by have := hR.lt; omega)
    refine ⟨.normal, ?_⟩
    by_cases s0 : w.s = 0
    · obtain ⟨⟨v1, H1, t1, w1⟩, x', he, hv, hS, hA⟩ := add_call (n := n) (s := subS (restS (restS s)) 6) (m := r1.am) (t := r1.at_) w (hR.one.mono (g' := g + 576 + 384 + 384) (by omega) (fun _ _ => rfl))
      simp only at hv hS hA
      subst hv
      rw [s0] at he
      simp only [Nat.add_assoc, Nat.reduceAdd] at he
      have hb1 : H1 b = .cells (romV r1.am r1.at_ x r1.bm r1.bt y) := by rw [hA.1 b (by have := hR.lt; omega) (hR.nx hR.box).1, hR.box]
      have hq1 : H1 q = .cells cs := by rw [hA.1 q (by omega) (hR.nx hQ).1, hQ]
      have e1 : (q = b) = False := eq_false hqb
      simp [-callV_at, -getElem?_pos, F26_B0, h3, h1, h2, h7, h6, hR.box, c1', c2, hb, hw, s0, he, hb1, hq1, e1, hbl, Nat.add_assoc]
      refine ⟨k, by omega, i + 1, by omega, by omega, by omega, x', y, ?_⟩
      rw [hstep, doW_0 r1 w s0]
      exact hR.put0 hS hA (by omega) (by omega) (by omega)
    · by_cases s1 : w.s = 1
      · obtain ⟨⟨v1, H1, t1, w1⟩, y', he, hv, hS, hA⟩ := add_call (n := n) (s := subS (restS (restS (restS s))) 6) (m := r1.bm) (t := r1.bt) w (hR.two.mono (g' := g + 576 + 384 + 384 + 384) (by omega) (fun _ _ => rfl))
        simp only at hv hS hA
        subst hv
        rw [s1] at he
        simp only [Nat.add_assoc, Nat.reduceAdd] at he
        have hb1 : H1 b = .cells (romV r1.am r1.at_ x r1.bm r1.bt y) := by rw [hA.1 b (by have := hR.lt; omega) (hR.nx hR.box).2, hR.box]
        have hq1 : H1 q = .cells cs := by rw [hA.1 q (by omega) (hR.nx hQ).2, hQ]
        have e1 : (q = b) = False := eq_false hqb
        simp [-callV_at, -getElem?_pos, F26_B0, h3, h1, h2, h7, h6, hR.box, c1', c2, hb, hw, s1, he, hb1, hq1, e1, hbl, Nat.add_assoc]
        refine ⟨k, by omega, i + 1, by omega, by omega, by omega, x, y', ?_⟩
        rw [hstep, doW_1 r1 w s1]
        exact hR.put1 hS hA (by omega) (by omega) (by omega)
      · simp [-callV_at, -getElem?_pos, F26_B0, h3, h1, h2, h7, h6, hR.box, c1', c2, hb, hw, s0, s1, hQ]
        refine ⟨k, by omega, i + 1, by omega, by omega, by omega, x, y, ?_⟩
        rw [hstep, doW_x r1 w s0 s1]
        exact hR.mono (by omega)

end Go.VM

/- The reference's play, reckoned: the whole. Conditions: none. -/
namespace Go.VM
set_option linter.unusedSimpArgs false
set_option linter.unusedVariables false
set_option maxHeartbeats 4000000

theorem run_holdPlayS {n : Nat} (r : Rom) (hs : r.small) (sa sb sw : Nat) (l : List Wr) (k : Int) (hn : l.length + 8 ≤ n) (hl : l.length < 2 ^ 62) (s : Sup) :
    go n 26 [.agg (r.v sa sb), .w (wW sw l), .w (.d (.s (.int .i64 k)))] [] s = some ⟨.agg ((r.play l k).v 0 0), [], []⟩ := by
  obtain ⟨n, rfl⟩ : ∃ m, n = m + 3 := ⟨n - 3, by omega⟩
  have C := fun s => run_romS (n := n + 2) (by omega) r.am r.at_ r.bm r.bt sa sb r.ra r.rb (room_b hs.1) (room_b hs.2) s
  simp [go_of FT_26 rfl, F26, C]
  generalize hst : St.mk _ _ _ _ = st
  have hR : RomS st.H st.g 0 r (ownW 192 r.ra.length none) (ownW 193 r.rb.length none) :=
    ⟨by simp [← hst], by simp [← hst], .own 192 none rfl (by simp [← hst]) (by simp [← hst]), .own 193 none rfl (by simp [← hst]) (by simp [← hst]), by simp⟩
  obtain ⟨e, ⟨τ1, H1, g1, s1⟩, hx1, -, rfl, x, y, t3, t6, hq, hQ, hR'⟩ := loop26 (n := n) sw l k (by omega) hl 0 64 r _ _ (romV 0 0 .nil 0 0 .nil) st (by simp [← hst]) (by simp [← hst]) (by simp [← hst]) (by simp [← hst]) (by simp [← hst]) (by simp [← hst]) (by omega)
    (by simp [← hst]) hR
  clear hst hR
  simp only at t3 t6 hq hQ hR'
  generalize r.play l k = r' at hR'
  have hbx := hR'.box
  have nx0 := hR'.nx hR'.box
  have nx1 := hR'.nx hQ
  have hap := hR'.apart
  cases hR'.one with
  | nil hx hl1 =>
    subst hx
    cases hR'.two with
    | nil hy hl2 =>
      subst hy
      simp [hx1, t3, t6, hbx, hQ, hl1, hl2]
    | own q d hy hq hs2 =>
      subst hy
      have e1 : (q = 64) = False := eq_false (fun e => by subst e; exact nx1.2 (by simp))
      simp [hx1, t3, t6, hbx, hQ, hl1, hs2, e1]
  | own p c hx hp hr =>
    subst hx
    have e1 : (p = 64) = False := eq_false (fun e => by subst e; exact nx1.1 (by simp))
    cases hR'.two with
    | nil hy hl2 =>
      subst hy
      simp [hx1, t3, t6, hbx, hQ, hl2, hr, e1]
    | own q d hy hq hs2 =>
      subst hy
      have e2 : (q = 64) = False := eq_false (fun e => by subst e; exact nx1.2 (by simp))
      have e3 : (q = p) = False := eq_false (fun e => by subst e; exact hap q (by simp) (by simp))
      simp [hx1, t3, t6, hbx, hQ, hr, hs2, e1, e2, e3]

end Go.VM

/- Draws of stores, reckoned. Conditions: none. -/
namespace Go.VM
set_option linter.unusedSimpArgs false
set_option linter.unusedVariables false
set_option maxHeartbeats 4000000

def M5 : List Int := [165, 165, 0, 164, 255]
def T6 : List Int := [0, 1, 2, 2, 3, 255]

theorem dataB_ok (b : List Int) (p k : Nat) : ∀ x ∈ dataB b p k, 0 ≤ x ∧ x < 256 := by
  induction k with
  | zero => simp [dataB]
  | succ k ih =>
    intro x hx
    simp only [dataB, List.mem_append, List.mem_cons, List.not_mem_nil, or_false] at hx
    rcases hx with hx | rfl
    · exact ih x hx
    · simp [IntKind.wrap, IntKind.bits, IntKind.signed]; omega
theorem dataV_ok {b : List Int} (hb : ∀ x ∈ b, 0 ≤ x ∧ x < 256) {p : Nat} (hp : p < 2 ^ 38) : (dataV b p).1.length ≤ 20101 ∧ (∀ x ∈ (dataV b p).1, 0 ≤ x ∧ x < 256) ∧ p ≤ (dataV b p).2 ∧ (dataV b p).2 ≤ p + 20 := by
  have h12 := pickV_ok hb (p := p) (by omega) 12
  have h12' := h12.2 (by omega)
  unfold dataV
  split
  · have h2 := pickV_ok hb (p := p + 1 + (pickV b p 12).toNat + 1) (by omega) 2
    have h2' := h2.2 (by omega)
    refine ⟨by rw [List.length_replicate]; omega, fun x hx => ?_, by simp; omega, by simp; omega⟩
    have := (List.mem_replicate.1 hx).2
    subst this; omega
  · refine ⟨by simp; omega, dataB_ok b _ _, by simp; omega, by simp; omega⟩

/-- A slot that is drawn. -/
def slotM (b : List Int) (p : Nat) : Int := IntKind.wrap .u8 (numV b p M5)
def slotT (b : List Int) (p : Nat) : Int := IntKind.wrap .u8 (numV b (p + 1) T6)

theorem run_slotV {n : Nat} (hn : 40 ≤ n) (sc : Nat) (b : List Int) (hb : ∀ x ∈ b, 0 ≤ x ∧ x < 256) (hl : b.length ≤ 2 ^ 40) (p : Nat) (hp : p < 2 ^ 37) (s : Sup) :
    go n 95 [.w (.ptr 0 0)] [rdB sc b p] s = some ⟨.agg [u8W (slotM b p), u8W (slotT b p), dW 0 (dataV b (p + 2)).1], [rdB sc b (dataV b (p + 2)).2], []⟩ := by
  obtain ⟨n, rfl⟩ : ∃ k, n = k + 1 := ⟨n - 1, by omega⟩
  have v1 := numV_get hb (p := p) (by omega) (L := M5) (by decide)
  have w1 := (pickV_ok hb (p := p) (by omega) M5.length).1
  have v2 := numV_get hb (p := p + 1) (by omega) (L := T6) (by decide)
  have w2 := (pickV_ok hb (p := p + 1) (by omega) T6.length).1
  have N1 : ∀ st s, go n 96 [.w (.ptr 0 0), .w (.d (.l st [[.s (.int .i64 165)], [.s (.int .i64 165)], [.s (.int .i64 0)], [.s (.int .i64 164)], [.s (.int .i64 255)]]))] [rdB sc b p] s = some ⟨sV (.int .i64 (numV b p M5)), [rdB sc b (p + 1 : Nat)], []⟩ :=
    fun st s => run_num (n := n) (by omega) sc b p (by omega) hl st M5 _ w1 v1 s
  have N2 : ∀ st s, go n 96 [.w (.ptr 0 0), .w (.d (.l st [[.s (.int .i64 0)], [.s (.int .i64 1)], [.s (.int .i64 2)], [.s (.int .i64 2)], [.s (.int .i64 3)], [.s (.int .i64 255)]]))] [rdB sc b (p + 1 : Nat)] s = some ⟨sV (.int .i64 (numV b (p + 1) T6)), [rdB sc b (p + 1 + 1 : Nat)], []⟩ :=
    fun st s => run_num (n := n) (by omega) sc b (p + 1) (by omega) hl st T6 _ w2 v2 s
  have D : ∀ s, go n 69 [.w (.ptr 0 0)] [rdB sc b (p + 1 + 1 : Nat)] s = _ := fun s => run_data (n := n) (by omega) sc b hb hl (p + 2) (by omega) s
  simp only [Int.natCast_add, Int.cast_ofNat_Int] at N1 N2 D
  simp [go_of FT_95 rfl, F95, rowParts, N1, N2, D]
  exact ⟨rfl, rfl⟩

/-- A step of a draw: bytes are planned and played, or cut. -/
def stepV (b : List Int) (r : Rom) (p : Nat) : Rom × Nat :=
  let d := dataV b p
  let w := if d.1.length ≤ 20100 then r.plan d.1 else []
  if pickV b d.2 2 = 0 ∧ 0 < w.length then (r.play w (pickV b (d.2 + 1 : Nat) w.length), d.2 + 2) else (r.play w w.length, d.2 + 1)
def drawL (b : List Int) : Nat → Rom → Nat → Rom × Nat
  | 0, r, p => (r, p)
  | k + 1, r, p => drawL b k (stepV b r p).1 (stepV b r p).2
def drawV (b : List Int) (p : Nat) : Rom × Nat :=
  if pickV b p 3 = 0 then
    (⟨slotM b (p + 1), slotT b (p + 1), (dataV b (p + 1 + 2)).1, slotM b (dataV b (p + 1 + 2)).2, slotT b (dataV b (p + 1 + 2)).2, (dataV b ((dataV b (p + 1 + 2)).2 + 2)).1⟩, (dataV b ((dataV b (p + 1 + 2)).2 + 2)).2)
  else drawL b (pickV b (p + 1 : Nat) 6).toNat ⟨0, 0, [], 0, 0, []⟩ (p + 2)


theorem stepV_ok {b : List Int} (hb : ∀ x ∈ b, 0 ≤ x ∧ x < 256) {r : Rom} (hs : r.small) {p : Nat} (hp : p < 2 ^ 38) : (stepV b r p).1.small ∧ (stepV b r p).2 ≤ p + 22 := by
  have hd := dataV_ok hb hp
  unfold stepV
  simp only
  generalize (if (dataV b p).1.length ≤ 20100 then r.plan (dataV b p).1 else []) = w
  split
  · exact ⟨play_small hs _ _, by simp; omega⟩
  · exact ⟨play_small hs _ _, by simp; omega⟩

theorem loop66 {n : Nat} (hn0 : 30000 ≤ n) (sc : Nat) (b : List Int) (hb : ∀ x ∈ b, 0 ≤ x ∧ x < 256) (hl : b.length ≤ 2 ^ 40) (k0 : Nat) (hk0 : k0 < 10) (p : Nat) (hp : p < 2 ^ 30) (q : Nat) (cs : List W) (st : St) (t0 : st.τ 0 = .w (.ptr 0 0)) (B : Nat) (t3 : st.τ 3 = .w (.ptr B 0)) (t4 : st.τ 4 = sV (.int .i64 k0)) (t2 : st.τ 2 = .w (.ptr q 0))
    (h0 : st.H 0 = rdB sc b p) (hB : st.H B = .cells (romV 0 0 .nil 0 0 .nil)) (hB0 : B ≠ 0) (hBg : B < st.g) (hQ : st.H q = .cells cs) (hq0 : q ≠ 0) (hqB : q ≠ B) (hqg : q < st.g) (h0g : 0 < st.g) :
    ∃ e st', execC (go n) mode (fun _ => none) false 47 n F66_L0 st = some (e, st') ∧ e ≠ .normal ∧ (e = .exit 0 ∧ ∃ x y, st'.τ 0 = .w (.ptr 0 0) ∧ st'.τ 2 = .w (.ptr q 0) ∧ st'.τ 3 = .w (.ptr B 0) ∧ st'.H 0 = rdB sc b (drawL b k0 ⟨0, 0, [], 0, 0, []⟩ p).2 ∧ st'.H q = .cells cs ∧
      st'.H B = .cells (romV (drawL b k0 ⟨0, 0, [], 0, 0, []⟩ p).1.am (drawL b k0 ⟨0, 0, [], 0, 0, []⟩ p).1.at_ x (drawL b k0 ⟨0, 0, [], 0, 0, []⟩ p).1.bm (drawL b k0 ⟨0, 0, [], 0, 0, []⟩ p).1.bt y) ∧ Cl x (drawL b k0 ⟨0, 0, [], 0, 0, []⟩ p).1.ra ∧ Cl y (drawL b k0 ⟨0, 0, [], 0, 0, []⟩ p).1.rb ∧ q < st'.g ∧ B < st'.g) := by
  rw [F66_L0, execC_loop]
  generalize hfin : drawL b k0 ⟨0, 0, [], 0, 0, []⟩ p = fin
  refine iter_rule (fun k s1 => ∃ (r : Rom) (p' : Nat) (x y : W), k ≤ k0 ∧ drawL b k r p' = fin ∧ p' + 22 * k ≤ p + 22 * k0 ∧ r.small ∧ s1.τ 0 = .w (.ptr 0 0) ∧ s1.τ 2 = .w (.ptr q 0) ∧ s1.τ 3 = .w (.ptr B 0) ∧ s1.τ 4 = sV (.int .i64 k) ∧ s1.H 0 = rdB sc b p' ∧ s1.H q = .cells cs ∧
      s1.H B = .cells (romV r.am r.at_ x r.bm r.bt y) ∧ Cl x r.ra ∧ Cl y r.rb ∧ q < s1.g ∧ B < s1.g ∧ 0 < s1.g) ?_ n k0 st (by omega)
      ⟨_, p, .nil, .nil, Nat.le_refl _, hfin, Nat.le_refl _, ⟨by decide, by decide⟩, t0, t2, t3, t4, h0, hQ, hB, .nil, .nil, hqg, hBg, h0g⟩
  rintro k ⟨τ, H, g, s⟩ ⟨r, p', x, y, hkk, hd, hpp, hsm, t0, t2, t3, t4, h0, hQ, hB, hx, hy, hqg, hBg, h0g⟩
  simp only at t0 t2 t3 t4 h0 hQ hB hqg hBg h0g
  cases k with
  | zero =>
    have t4' : τ 4 = sV (.int .i64 0) := t4
    refine ⟨.exit 0, ?_⟩
    simp only [drawL] at hd
    subst hd
    simp [F66_B0, t0, t2, t3, t4']
    exact ⟨h0, hQ, x, y, hB, hx, hy, by omega, by omega⟩
  | succ k =>
    refine ⟨.normal, ?_⟩
    have hdd := dataV_ok hb (p := p') (by omega)
    have hst := stepV_ok hb hsm (p := p') (by omega)
    have D := fun s => run_data (n := n) (by omega) sc b hb hl p' (by omega) s
    have hd2 : drawL b k (stepV b r p').1 (stepV b r p').2 = fin := hd
    unfold stepV at hst hd2
    simp only at hst hd2
    generalize hdv : dataV b p' = dv at D hdd hst hd2
    obtain ⟨d, p1⟩ := dv
    simp only at D hdd hst hd2
    have P := fun sd s => run_holdPlanS (n := n) r 0 0 sd d (by omega) (by omega) s
    have hwl : (if d.length ≤ 20100 then r.plan d else []).length ≤ 20110 := by
      split
      · have := plan_len r d; omega
      · simp
    generalize (if d.length ≤ 20100 then r.plan d else []) = w at P hst hd2 hwl
    have Q := fun sw k s => run_holdPlayS (n := n) r hsm 0 0 sw w k (by omega) (by omega) s
    have K1 := fun m s => run_pick (n := n) (by omega) sc b p1 (by omega) hl m s
    have K2 := fun m s => run_pick (n := n) (by omega) sc b (p1 + 1) (by omega) hl m s
    have hw : IntKind.wrap .i64 ((k : Int) + 1 - 1) = k := by rw [show (k : Int) + 1 - 1 = k from by omega]; exact wrap_id (by omega) (by omega)
    have hw' : IntKind.wrap .i64 (k : Int) = k := wrap_id (by omega) (by omega)
    have hk1 : (0 < (k : Int) + 1) = True := eq_true (by omega)
    have hx1 := hx.1
    have hx2 := hx.2
    have hy1 := hy.1
    have hy2 := hy.2
    have e1 : (q = 0) = False := eq_false hq0
    have e2 : (q = B) = False := eq_false hqB
    have e3 : (B = 0) = False := eq_false hB0
    have e4 : (0 = B) = False := eq_false (Ne.symm hB0)
    have e5 : (B = q) = False := eq_false (Ne.symm hqB)
    have hBk : ∀ k, (B < g + k) = True := fun k => eq_true (by omega)
    have h0k : ∀ k, (0 < g + k) = True := fun k => eq_true (by omega)
    simp only [Int.natCast_add, Int.cast_ofNat_Int] at K1 K2
    by_cases z1 : pickV b p1 2 = 0
    · by_cases z2 : 0 < w.length
      · rw [if_pos ⟨z1, z2⟩] at hst hd2
        have z2' := eq_true z2
        simp only [Int.natCast_add, Int.cast_ofNat_Int] at hst hd2
        simp [-getElem?_pos, F66_B0, t0, t2, t3, t4, h0, hQ, hB, D, P, Q, K1, K2, hx1, hx2, hy1, hy2, e1, e2, e3, e4, e5, z1, z2', hw, hw', hk1, hBk, h0k, Nat.add_assoc]
        exact ⟨k, by omega, by omega, _, p1 + 2, hd2, by omega, hst.1, rfl, by omega, _, _, ⟨rfl, rfl, rfl, rfl, rfl, rfl⟩, .d _, .d _, by omega⟩
      · rw [if_neg (fun c => z2 c.2)] at hst hd2
        have z2' := eq_false z2
        have z3 : w = [] := List.eq_nil_of_length_eq_zero (by omega)
        subst z3
        simp only [List.length_nil] at *
        simp only [Int.natCast_add, Int.cast_ofNat_Int] at hst hd2
        simp [-getElem?_pos, F66_B0, t0, t2, t3, t4, h0, hQ, hB, D, P, Q, K1, K2, hx1, hx2, hy1, hy2, e1, e2, e3, e4, e5, z1, hw, hw', hk1, hBk, h0k, Nat.add_assoc]
        exact ⟨k, by omega, by omega, _, p1 + 1, hd2, by omega, hst.1, rfl, by omega, _, _, ⟨rfl, rfl, rfl, rfl, rfl, rfl⟩, .d _, .d _, by omega⟩
    · rw [if_neg (fun c => z1 c.1)] at hst hd2
      have z1' := eq_false z1
      simp only [Int.natCast_add, Int.cast_ofNat_Int] at hst hd2
      simp [-getElem?_pos, F66_B0, t0, t2, t3, t4, h0, hQ, hB, D, P, Q, K1, K2, hx1, hx2, hy1, hy2, e1, e2, e3, e4, e5, z1', hw, hw', hk1, hBk, h0k, Nat.add_assoc]
      exact ⟨k, by omega, by omega, _, p1 + 1, hd2, by omega, hst.1, rfl, by omega, _, _, ⟨rfl, rfl, rfl, rfl, rfl, rfl⟩, .d _, .d _, by omega⟩

end Go.VM

/- Draws of stores and bytes, reckoned: the whole. Conditions: none. -/
namespace Go.VM
set_option linter.unusedSimpArgs false
set_option linter.unusedVariables false
set_option maxHeartbeats 4000000

theorem draw_slots {n : Nat} (sc : Nat) (b : List Int) (p p1 p2 : Nat) (m1 m2 m3 m4 : Int) (l1 l2 : List Int) (s : Sup)
    (K3 : ∀ s, go n 67 [.w (.ptr 0 0), .w (.d (.s (.int .i64 3)))] [rdB sc b p] s = some ⟨sV (.int .i64 0), [rdB sc b ((p : Int) + 1)], []⟩)
    (S1 : ∀ s, go n 95 [.w (.ptr 0 0)] [rdB sc b ((p : Int) + 1)] s = some ⟨.agg [u8W m1, u8W m2, dW 0 l1], [rdB sc b p1], []⟩)
    (S2 : ∀ s, go n 95 [.w (.ptr 0 0)] [rdB sc b p1] s = some ⟨.agg [u8W m3, u8W m4, dW 0 l2], [rdB sc b p2], []⟩) :
    go (n + 1) 66 [.w (.ptr 0 0)] [rdB sc b p] s = some ⟨.agg (romV m1 m2 (dW 0 l1) m3 m4 (dW 0 l2)), [rdB sc b p2], []⟩ := by
  simp [go_of FT_66 rfl, F66, K3, S1, S2]

theorem run_draw1 {n : Nat} (hn0 : 30000 ≤ n) (sc : Nat) (b : List Int) (hb : ∀ x ∈ b, 0 ≤ x ∧ x < 256) (hl : b.length ≤ 2 ^ 40) (p : Nat) (hp : p < 2 ^ 20) (s : Sup) :
    go (n + 1) 66 [.w (.ptr 0 0)] [rdB sc b p] s = some ⟨.agg ((drawV b p).1.v 0 0), [rdB sc b (drawV b p).2], []⟩ := by
  have hn : 100 ≤ n := by omega
  have K1 := fun m s => run_pick (n := n) (by omega) sc b p (by omega) hl m s
  unfold drawV
  by_cases z : pickV b p 3 = 0
  · rw [if_pos z]
    have S1 := fun s => run_slotV (n := n) (by omega) sc b hb hl (p + 1) (by omega) s
    have h1 := dataV_ok hb (p := p + 1 + 2) (by omega)
    obtain ⟨d1, hd1⟩ : ∃ d, dataV b (p + 1 + 2) = d := ⟨_, rfl⟩
    rw [hd1] at S1 h1 ⊢
    obtain ⟨l1, p1⟩ := d1
    simp only at S1 h1 ⊢
    have S2 := fun s => run_slotV (n := n) (by omega) sc b hb hl p1 (by omega) s
    obtain ⟨d2, hd2⟩ : ∃ d, dataV b (p1 + 2) = d := ⟨_, rfl⟩
    rw [hd2] at S2 ⊢
    obtain ⟨l2, p2⟩ := d2
    simp only at S2 ⊢
    have K3 := fun s => K1 3 s
    rw [z] at K3
    simp only [Int.natCast_add, Int.cast_ofNat_Int] at K3 S1
    exact draw_slots sc b p p1 p2 _ _ _ _ l1 l2 s K3 S1 S2
  · rw [if_neg z]
    have z' := eq_false z
    have h6 := pickV_ok hb (p := p + 1) (by omega) 6
    obtain ⟨k, hk⟩ : ∃ k : Nat, pickV b (p + 1 : Nat) 6 = k := ⟨(pickV b (p + 1 : Nat) 6).toNat, by omega⟩
    have hk6 : k < 6 := by have := h6.2 (by omega); omega
    have K2 := fun m s => run_pick (n := n) (by omega) sc b (p + 1) (by omega) hl m s
    rw [hk, Int.toNat_natCast]
    simp only [Int.natCast_add, Int.cast_ofNat_Int] at K1 K2 hk
    simp [go_of FT_66 rfl, F66, K1, z', K2, hk]
    generalize hst : St.mk _ _ _ _ = st1
    obtain ⟨e, ⟨τ1, H1, g1, s1⟩, hx1, -, rfl, x, y, t0, t2, t3, h0, hQ, hB, hx, hy, hqg, hBg⟩ := loop66 (n := n) hn0 sc b hb hl k (by omega) (p + 2) (by omega) 1 (romV 0 0 .nil 0 0 .nil) st1 (by simp [← hst]) 321 (by simp [← hst]) (by simp [← hst]) (by simp [← hst])
      (by simp [← hst]; omega) (by simp [← hst]) (by omega) (by simp [← hst]) (by simp [← hst]) (by omega) (by omega) (by simp [← hst]) (by simp [← hst])
    clear hst
    simp only at t0 t2 t3 h0 hQ hB hqg hBg
    generalize drawL b k ⟨0, 0, [], 0, 0, []⟩ (p + 2) = r at h0 hB hx hy
    have hc1 := hx.1
    have hc2 := hx.2
    have hy1 := hy.1
    have hy2 := hy.2
    simp [hx1, t0, t2, t3, h0, hQ, hB, hc1, hc2, hy1, hy2]

theorem run_open {n : Nat} (hn : 1 ≤ n) (sc : Nat) (b : List Int) (s : Sup) :
    go n 65 [.w (dW sc b)] [] s = some ⟨.w (.ptr 0 0), [], [rdB sc (b.take 2000) 0]⟩ := by
  obtain ⟨n, rfl⟩ : ∃ k, n = k + 1 := ⟨n - 1, by omega⟩
  by_cases h : 2000 < b.length
  · have h' : ((2000 : Int) < b.length) = True := eq_true (by omega)
    have h2 : ((2000 : Int) ≤ b.length) = True := eq_true (by omega)
    have ht : List.take 2000 (byt b) = byt (b.take 2000) := by simp [byt, List.map_take]
    simp [go_of FT_65 rfl, F65, h', h2, byt_all, ht]
  · have h' : ((2000 : Int) < b.length) = False := eq_false (by omega)
    have ht : b.take 2000 = b := List.take_of_length_le (by omega)
    simp [go_of FT_65 rfl, F65, h', ht]

end Go.VM

/- A store and bytes, drawn; behind a whole plan. Conditions: none. -/
namespace Go.VM
set_option linter.unusedSimpArgs false
set_option linter.unusedVariables false
set_option maxHeartbeats 4000000

theorem slot_bytes (b : List Int) (p q : Nat) (l m : List Int) : Rom.bytes ⟨slotM b p, slotT b p, l, slotM b q, slotT b q, m⟩ := ⟨wrap_u8 _, wrap_u8 _⟩

theorem play_bytes {r : Rom} (h : r.bytes) {w : List Wr} (hw : ∀ x ∈ w, x.k = 2 → 0 ≤ x.v ∧ x.v < 256) (k : Int) : (r.play w k).bytes := by
  unfold Rom.play
  exact bytes_fold _ h fun x hx => hw x (List.mem_of_mem_take hx)

theorem stepV_bytes {b : List Int} {r : Rom} (h : r.bytes) (p : Nat) : (stepV b r p).1.bytes := by
  unfold stepV
  simp only
  have hw : ∀ x ∈ (if (dataV b p).1.length ≤ 20100 then r.plan (dataV b p).1 else []), x.k = 2 → 0 ≤ x.v ∧ x.v < 256 := by
    split
    · exact plan_ok h _
    · simp
  generalize (if (dataV b p).1.length ≤ 20100 then r.plan (dataV b p).1 else []) = w at hw ⊢
  split <;> exact play_bytes h hw _

theorem drawL_ok {b : List Int} (hb : ∀ x ∈ b, 0 ≤ x ∧ x < 256) : ∀ (k : Nat) (r : Rom) (p : Nat), k < 10 → r.small → r.bytes → p + 22 * k < 2 ^ 37 → (drawL b k r p).1.small ∧ (drawL b k r p).1.bytes ∧ (drawL b k r p).2 ≤ p + 22 * k
  | 0, r, p, hk, hs, hB, hp => ⟨hs, hB, by simp [drawL]⟩
  | k + 1, r, p, hk, hs, hB, hp => by
    have h1 := stepV_ok hb hs (p := p) (by omega)
    have h2 := stepV_bytes (b := b) hB p
    have h3 := drawL_ok hb k (stepV b r p).1 (stepV b r p).2 (by omega) h1.1 h2 (by omega)
    rw [drawL]
    exact ⟨h3.1, h3.2.1, by omega⟩

theorem drawV_ok {b : List Int} (hb : ∀ x ∈ b, 0 ≤ x ∧ x < 256) {p : Nat} (hp : p < 2 ^ 20) : (drawV b p).1.small ∧ (drawV b p).1.bytes ∧ (drawV b p).2 ≤ p + 300 := by
  unfold drawV
  by_cases z : pickV b p 3 = 0
  · rw [if_pos z]
    have h1 := dataV_ok hb (p := p + 1 + 2) (by omega)
    obtain ⟨d1, hd1⟩ : ∃ d, dataV b (p + 1 + 2) = d := ⟨_, rfl⟩
    rw [hd1] at h1 ⊢
    obtain ⟨l1, p1⟩ := d1
    simp only at h1 ⊢
    have h2 := dataV_ok hb (p := p1 + 2) (by omega)
    obtain ⟨d2, hd2⟩ : ∃ d, dataV b (p1 + 2) = d := ⟨_, rfl⟩
    rw [hd2] at h2 ⊢
    obtain ⟨l2, p2⟩ := d2
    simp only at h2 ⊢
    exact ⟨⟨by show l1.length ≤ _; omega, by show l2.length ≤ _; omega⟩, slot_bytes _ _ _ _ _, by omega⟩
  · rw [if_neg z]
    have h6 := pickV_ok hb (p := p + 1) (by omega) 6
    have h6' := h6.2 (by omega)
    obtain ⟨k, hk⟩ : ∃ k : Nat, pickV b (p + 1 : Nat) 6 = k := ⟨(pickV b (p + 1 : Nat) 6).toNat, by omega⟩
    rw [hk] at h6' ⊢
    rw [Int.toNat_natCast]
    have h := drawL_ok hb k ⟨0, 0, [], 0, 0, []⟩ (p + 2) (by omega) ⟨by decide, by decide⟩ ⟨⟨by decide, by decide⟩, by decide, by decide⟩ (by omega)
    exact ⟨h.1, h.2.1, by omega⟩

theorem take_ok {code : List Int} (hc : ∀ x ∈ code, 0 ≤ x ∧ x < 256) : (∀ x ∈ code.take 2000, 0 ≤ x ∧ x < 256) ∧ (code.take 2000).length ≤ 2 ^ 40 :=
  ⟨fun x hx => hc x (List.mem_of_mem_take hx), by rw [List.length_take]; omega⟩

/-- A store and bytes, drawn. -/
theorem run_drawPlan (code : List Int) (hc : ∀ x ∈ code, 0 ≤ x ∧ x < 256) : ∃ (r : Rom) (d : List Int), r.small ∧ r.bytes ∧ d.length ≤ 20101 ∧ (∀ x ∈ d, 0 ≤ x ∧ x < 256) ∧
    ∀ (n sc : Nat) (s : Sup), 30010 ≤ n → go n 39 [.w (dW sc code)] [] s = some ⟨.tup [(true, r.v 0 0), (false, [dW 0 d])], [], []⟩ := by
  obtain ⟨hb, hl⟩ := take_ok hc
  have h1 := drawV_ok hb (p := 0) (by omega)
  have D := fun (n sc : Nat) s (hn0 : 30000 ≤ n) => run_draw1 (n := n) hn0 sc (code.take 2000) hb hl 0 (by omega) s
  obtain ⟨rp, hrp⟩ : ∃ d, drawV (code.take 2000) 0 = d := ⟨_, rfl⟩
  rw [hrp] at h1 D
  obtain ⟨r, p⟩ := rp
  simp only at h1 D
  have h2 := dataV_ok hb (p := p) (by omega)
  have E := fun (n sc : Nat) s (hn0 : 30 ≤ n) => run_data (n := n) hn0 sc (code.take 2000) hb hl p (by omega) s
  obtain ⟨dp, hdp⟩ : ∃ d, dataV (code.take 2000) p = d := ⟨_, rfl⟩
  rw [hdp] at h2 E
  obtain ⟨d, p'⟩ := dp
  simp only at h2 E
  refine ⟨r, d, h1.1, h1.2.1, h2.1, h2.2.1, fun n sc s hn => ?_⟩
  obtain ⟨n, rfl⟩ : ∃ k, n = k + 2 := ⟨n - 2, by omega⟩
  have O := fun sc s => run_open (n := n + 1) (by omega) sc code s
  have D' := fun sc s => D n sc s (by omega)
  have E' := fun sc s => E (n + 1) sc s (by omega)
  clear D E h1 h2
  simp only [Int.cast_ofNat_Int] at D'
  simp [go_of FT_39 rfl, F39, O, D', E']

end Go.VM
