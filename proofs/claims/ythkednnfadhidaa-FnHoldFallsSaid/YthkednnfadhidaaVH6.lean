/- What a store holds behind a plan that is cut anywhere. Conditions: none. -/
import Derived.Test.YthkednnfadhidaaVH4
namespace Go.VM
set_option linter.unusedSimpArgs false
set_option linter.unusedVariables false
set_option maxHeartbeats 4000000

def Rom.now (r : Rom) : List Int × Bool := holdNow r.am r.at_ r.ra r.bm r.bt r.rb
def Rom.bytes (r : Rom) : Prop := (0 ≤ r.at_ ∧ r.at_ < 256) ∧ (0 ≤ r.bt ∧ r.bt < 256)
def Rom.ga (r : Rom) : Bool := goodB r.am r.at_ r.ra.length
def Rom.gb (r : Rom) : Bool := goodB r.bm r.bt r.rb.length

theorem now_eq (r : Rom) : r.now = if r.ga = true ∧ r.gb = true ∧ r.bt = next3 r.at_ then (r.rb, true) else if r.ga = true then (r.ra, true) else if r.gb = true then (r.rb, true) else ([], false) := by
  unfold Rom.now holdNow slotNow Rom.ga Rom.gb next3
  by_cases h1 : goodB r.am r.at_ r.ra.length = true ∧ goodB r.bm r.bt r.rb.length = true ∧ r.bt = (IntKind.wrap .u8 (r.at_ + 1)).tmod 3
  · rw [if_pos h1, if_pos h1, if_neg (by omega), if_pos rfl]
  · by_cases h2 : goodB r.am r.at_ r.ra.length = true
    · rw [if_neg h1, if_neg h1, if_pos h2, if_pos h2]; simp
    · rw [if_neg h1, if_neg h1, if_neg h2, if_neg h2]
      by_cases h3 : goodB r.bm r.bt r.rb.length = true
      · rw [if_pos h3, if_pos h3]; simp
      · rw [if_neg h3, if_neg h3]; simp

theorem slot_eq (r : Rom) : r.slot = if r.ga = true ∧ r.gb = true ∧ r.bt = next3 r.at_ then 1 else if r.ga = true then 0 else if r.gb = true then 1 else -1 := rfl

theorem puts_a : ∀ (data : List Int) (r : Rom), r.ra.length + data.length ≤ 20100 → (data.map fun x => (⟨4, 0, x⟩ : Wr)).foldl Rom.doW r = { r with ra := r.ra ++ data }
  | [], r, h => by simp
  | x :: data, r, h => by
    simp only [List.length_cons] at h
    have e : r.doW ⟨4, 0, x⟩ = { r with ra := r.ra ++ [x] } := by
      have h' : r.ra.length < 20100 := by omega
      simp [Rom.doW, h']
    rw [List.map_cons, List.foldl_cons, e, puts_a data _ (by simp; omega)]
    simp
theorem puts_b : ∀ (data : List Int) (r : Rom), r.rb.length + data.length ≤ 20100 → (data.map fun x => (⟨4, 1, x⟩ : Wr)).foldl Rom.doW r = { r with rb := r.rb ++ data }
  | [], r, h => by simp
  | x :: data, r, h => by
    simp only [List.length_cons] at h
    have e : r.doW ⟨4, 1, x⟩ = { r with rb := r.rb ++ [x] } := by
      have h' : r.rb.length < 20100 := by omega
      simp [Rom.doW, h']
    rw [List.map_cons, List.foldl_cons, e, puts_b data _ (by simp; omega)]
    simp

theorem next3_ok {t : Int} (h : 0 ≤ t ∧ t ≤ 2) : 0 ≤ next3 t ∧ next3 t ≤ 2 ∧ (t = next3 (next3 t) → False) := by
  obtain ⟨h0, h1⟩ := h
  have : t = 0 ∨ t = 1 ∨ t = 2 := by omega
  rcases this with rfl | rfl | rfl <;> decide

theorem good_t {m t : Int} {n : Nat} (h : goodB m t n = true) : t ≤ 2 ∧ n ≤ 20100 := by
  simp [goodB] at h; exact h.2

/-- A cut of a plan. -/
theorem cut (w1 w2 : Wr) (f : Int → Wr) (data : List Int) (T : List Wr) (n : Nat) (r : Rom) : ([w1, w2] ++ data.map f ++ T).take (n + 2) = [w1, w2] ++ ((data.take n).map f ++ T.take (n - data.length)) := by
  simp [List.take_append, List.map_take]

theorem fall {r : Rom} (hb : r.bytes) (data : List Int) (hd : data.length ≤ 20100) (n : Nat) :
    (((r.plan data).take n).foldl Rom.doW r).now = if data.length + 4 ≤ n then (data, true) else r.now := by
  obtain ⟨⟨hat, hat2⟩, hbt, hbt2⟩ := hb
  have hG : goodB 0 = fun _ _ => false := by funext a b; simp [goodB]
  rcases slot_cases r with h0 | h0 | h0
  · -- the first slot counts: the second one is written
    have hs := h0
    rw [slot_eq] at hs
    have hga : r.ga = true := by
      by_cases h : r.ga = true
      · exact h
      · rw [if_neg (fun c => h c.1), if_neg h] at hs; split at hs <;> omega
    have hn : ¬ (r.ga = true ∧ r.gb = true ∧ r.bt = next3 r.at_) := fun c => by rw [if_pos c] at hs; omega
    have hnow : r.now = (r.ra, true) := by rw [now_eq, if_neg hn, if_pos hga]
    have ht := good_t (m := r.am) hga
    have hn3 := next3_ok ⟨hat, ht.1⟩
    have hP : r.plan data = [⟨1, 1, 0⟩, ⟨3, 1, 0⟩] ++ data.map (fun x => ⟨4, 1, x⟩) ++ [⟨2, 1, next3 r.at_⟩, ⟨1, 1, 165⟩, ⟨1, 0, 0⟩] := by
      simp [Rom.plan, Rom.to, Rom.turn, h0]
    -- where the second slot's mark is gone, the first counts
    have old : ∀ (t : Int) (l : List Int), Rom.now ⟨r.am, r.at_, r.ra, 0, t, l⟩ = (r.ra, true) := fun t l => by
      have e1 : Rom.gb ⟨r.am, r.at_, r.ra, 0, t, l⟩ = false := by simp [Rom.gb, goodB]
      have e2 : Rom.ga ⟨r.am, r.at_, r.ra, 0, t, l⟩ = true := hga
      rw [now_eq, if_neg (by rw [e1]; simp), if_pos e2]
    rw [hP, hnow]
    match n with
    | 0 => simp [hnow]
    | 1 =>
      rw [if_neg (by omega)]
      exact old r.bt r.rb
    | n + 2 =>
      rw [cut _ _ _ _ _ _ r, List.foldl_append, List.foldl_append]
      have e0 : [(⟨1, 1, 0⟩ : Wr), ⟨3, 1, 0⟩].foldl Rom.doW r = { r with bm := 0, rb := [] } := rfl
      rw [e0, puts_b _ _ (by simp; omega)]
      by_cases hle : n ≤ data.length
      · rw [if_neg (by omega), Nat.sub_eq_zero_of_le hle]
        exact old _ _
      · rw [List.take_of_length_le (by omega : data.length ≤ n)]
        obtain ⟨j, rfl⟩ : ∃ j, n = data.length + (j + 1) := ⟨n - data.length - 1, by omega⟩
        rw [Nat.add_sub_cancel_left]
        match j with
        | 0 => rw [if_neg (by omega)]; exact old _ _
        | 1 =>
          rw [if_pos (by omega)]
          have e1 : Rom.gb ⟨r.am, r.at_, r.ra, 165, next3 r.at_, data⟩ = true := by simp [Rom.gb, goodB]; omega
          have e2 : Rom.ga ⟨r.am, r.at_, r.ra, 165, next3 r.at_, data⟩ = true := hga
          show Rom.now ⟨r.am, r.at_, r.ra, 165, next3 r.at_, [] ++ data⟩ = _
          rw [List.nil_append, now_eq, if_pos ⟨e2, e1, rfl⟩]
        | j + 2 =>
          rw [if_pos (by omega)]
          have e1 : Rom.gb ⟨0, r.at_, r.ra, 165, next3 r.at_, data⟩ = true := by simp [Rom.gb, goodB]; omega
          have e2 : Rom.ga ⟨0, r.at_, r.ra, 165, next3 r.at_, data⟩ = false := by simp [Rom.ga, goodB]
          rw [List.take_of_length_le (by simp)]
          show Rom.now ⟨0, r.at_, r.ra, 165, next3 r.at_, [] ++ data⟩ = _
          rw [List.nil_append, now_eq, if_neg (by rw [e2]; simp), if_neg (by rw [e2]; simp), if_pos e1]
  · have hs := h0
    rw [slot_eq] at hs
    have hgb : r.gb = true := by
      by_cases h : r.gb = true
      · exact h
      · rw [if_neg (fun c => h c.2.1)] at hs
        split at hs
        · omega
        · omega
    have hnow : r.now = (r.rb, true) := by
      rw [now_eq]
      by_cases c : r.ga = true ∧ r.gb = true ∧ r.bt = next3 r.at_
      · rw [if_pos c]
      · rw [if_neg c] at hs ⊢
        by_cases c2 : r.ga = true
        · rw [if_pos c2] at hs; omega
        · rw [if_neg c2, if_pos hgb]
    have ht := good_t (m := r.bm) hgb
    have hn3 := next3_ok ⟨hbt, ht.1⟩
    have hP : r.plan data = [⟨1, 0, 0⟩, ⟨3, 0, 0⟩] ++ data.map (fun x => ⟨4, 0, x⟩) ++ [⟨2, 0, next3 r.bt⟩, ⟨1, 0, 165⟩, ⟨1, 1, 0⟩] := by
      simp [Rom.plan, Rom.to, Rom.turn, h0]
    have old : ∀ (t : Int) (l : List Int), Rom.now ⟨0, t, l, r.bm, r.bt, r.rb⟩ = (r.rb, true) := fun t l => by
      have e1 : Rom.ga ⟨0, t, l, r.bm, r.bt, r.rb⟩ = false := by simp [Rom.ga, goodB]
      have e2 : Rom.gb ⟨0, t, l, r.bm, r.bt, r.rb⟩ = true := hgb
      rw [now_eq, if_neg (by rw [e1]; simp), if_neg (by rw [e1]; simp), if_pos e2]
    rw [hP, hnow]
    match n with
    | 0 => simp [hnow]
    | 1 =>
      rw [if_neg (by omega)]
      exact old r.at_ r.ra
    | n + 2 =>
      rw [cut _ _ _ _ _ _ r, List.foldl_append, List.foldl_append]
      have e0 : [(⟨1, 0, 0⟩ : Wr), ⟨3, 0, 0⟩].foldl Rom.doW r = { r with am := 0, ra := [] } := rfl
      rw [e0, puts_a _ _ (by simp; omega)]
      by_cases hle : n ≤ data.length
      · rw [if_neg (by omega), Nat.sub_eq_zero_of_le hle]
        exact old _ _
      · rw [List.take_of_length_le (by omega : data.length ≤ n)]
        obtain ⟨j, rfl⟩ : ∃ j, n = data.length + (j + 1) := ⟨n - data.length - 1, by omega⟩
        rw [Nat.add_sub_cancel_left]
        match j with
        | 0 => rw [if_neg (by omega)]; exact old _ _
        | 1 =>
          rw [if_pos (by omega)]
          have e1 : Rom.ga ⟨165, next3 r.bt, data, r.bm, r.bt, r.rb⟩ = true := by simp [Rom.ga, goodB]; omega
          show Rom.now ⟨165, next3 r.bt, [] ++ data, r.bm, r.bt, r.rb⟩ = _
          rw [List.nil_append, now_eq, if_neg (fun c => hn3.2.2 c.2.2), if_pos e1]
        | j + 2 =>
          rw [if_pos (by omega)]
          have e1 : Rom.ga ⟨165, next3 r.bt, data, 0, r.bt, r.rb⟩ = true := by simp [Rom.ga, goodB]; omega
          have e2 : Rom.gb ⟨165, next3 r.bt, data, 0, r.bt, r.rb⟩ = false := by simp [Rom.gb, goodB]
          rw [List.take_of_length_le (by simp)]
          show Rom.now ⟨165, next3 r.bt, [] ++ data, 0, r.bt, r.rb⟩ = _
          rw [List.nil_append, now_eq, if_neg (by rw [e2]; simp), if_pos e1]
  · have hs := h0
    rw [slot_eq] at hs
    have hga : r.ga = false := by
      cases h : r.ga
      · rfl
      · rw [h] at hs
        split at hs
        · omega
        · rw [if_pos rfl] at hs; omega
    have hgb : r.gb = false := by
      cases h : r.gb
      · rfl
      · rw [hga, h] at hs; simp at hs
    have hnow : r.now = ([], false) := by rw [now_eq, hga, hgb]; simp
    have hP : r.plan data = [⟨1, 0, 0⟩, ⟨3, 0, 0⟩] ++ data.map (fun x => ⟨4, 0, x⟩) ++ [⟨2, 0, 0⟩, ⟨1, 0, 165⟩] := by
      simp [Rom.plan, Rom.to, Rom.turn, h0]
    have old : ∀ (t : Int) (l : List Int), Rom.now ⟨0, t, l, r.bm, r.bt, r.rb⟩ = ([], false) := fun t l => by
      have e1 : Rom.ga ⟨0, t, l, r.bm, r.bt, r.rb⟩ = false := by simp [Rom.ga, goodB]
      have e2 : Rom.gb ⟨0, t, l, r.bm, r.bt, r.rb⟩ = false := hgb
      rw [now_eq, e1, e2]; simp
    have new : Rom.now ⟨165, 0, data, r.bm, r.bt, r.rb⟩ = (data, true) := by
      have e1 : Rom.ga ⟨165, 0, data, r.bm, r.bt, r.rb⟩ = true := by simp [Rom.ga, goodB]; omega
      have e2 : Rom.gb ⟨165, 0, data, r.bm, r.bt, r.rb⟩ = false := hgb
      rw [now_eq, if_neg (by rw [e2]; simp), if_pos e1]
    rw [hP, hnow]
    match n with
    | 0 => simp [hnow]
    | 1 =>
      rw [if_neg (by omega)]
      exact old r.at_ r.ra
    | n + 2 =>
      rw [cut _ _ _ _ _ _ r, List.foldl_append, List.foldl_append]
      have e0 : [(⟨1, 0, 0⟩ : Wr), ⟨3, 0, 0⟩].foldl Rom.doW r = { r with am := 0, ra := [] } := rfl
      rw [e0, puts_a _ _ (by simp; omega)]
      by_cases hle : n ≤ data.length
      · rw [if_neg (by omega), Nat.sub_eq_zero_of_le hle]
        exact old _ _
      · rw [List.take_of_length_le (by omega : data.length ≤ n)]
        obtain ⟨j, rfl⟩ : ∃ j, n = data.length + (j + 1) := ⟨n - data.length - 1, by omega⟩
        rw [Nat.add_sub_cancel_left]
        match j with
        | 0 => rw [if_neg (by omega)]; exact old _ _
        | j + 1 =>
          rw [if_pos (by omega), List.take_of_length_le (by simp)]
          show Rom.now ⟨165, 0, [] ++ data, r.bm, r.bt, r.rb⟩ = _
          rw [List.nil_append, new]

end Go.VM
