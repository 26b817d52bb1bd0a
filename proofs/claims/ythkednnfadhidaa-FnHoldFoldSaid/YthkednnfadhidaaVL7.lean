/- After a complete write exactly the new slot counts: the law's run. Conditions: none. -/
import Derived.Test.YthkednnfadhidaaVRA

namespace Go.VM
set_option linter.unusedSimpArgs false
set_option linter.unusedVariables false
set_option maxHeartbeats 4000000

def Rom.full (r : Rom) (data : List Int) : Rom :=
  if r.slot = 0 then ⟨0, r.at_, r.ra, 165, next3 r.at_, data⟩ else if r.slot = 1 then ⟨165, next3 r.bt, data, 0, r.bt, r.rb⟩ else ⟨165, 0, data, r.bm, r.bt, r.rb⟩

theorem full_eq {r : Rom} (data : List Int) (hd : data.length ≤ 20100) : r.play (r.plan data) (r.plan data).length = r.full data := by
  rw [play_nat, List.take_length]
  unfold Rom.full
  rcases slot_cases r with h0 | h0 | h0
  · rw [if_pos h0]
    have hP : r.plan data = [⟨1, 1, 0⟩, ⟨3, 1, 0⟩] ++ data.map (fun x => ⟨4, 1, x⟩) ++ [⟨2, 1, next3 r.at_⟩, ⟨1, 1, 165⟩, ⟨1, 0, 0⟩] := by
      simp [Rom.plan, Rom.to, Rom.turn, h0]
    have e0 : [(⟨1, 1, 0⟩ : Wr), ⟨3, 1, 0⟩].foldl Rom.doW r = { r with bm := 0, rb := [] } := rfl
    rw [hP, List.foldl_append, List.foldl_append, e0, puts_b _ _ (by simp; omega)]
    show (⟨0, r.at_, r.ra, 165, next3 r.at_, [] ++ data⟩ : Rom) = _
    rw [List.nil_append]
  · rw [if_neg (by omega), if_pos h0]
    have hP : r.plan data = [⟨1, 0, 0⟩, ⟨3, 0, 0⟩] ++ data.map (fun x => ⟨4, 0, x⟩) ++ [⟨2, 0, next3 r.bt⟩, ⟨1, 0, 165⟩, ⟨1, 1, 0⟩] := by
      simp [Rom.plan, Rom.to, Rom.turn, h0]
    have e0 : [(⟨1, 0, 0⟩ : Wr), ⟨3, 0, 0⟩].foldl Rom.doW r = { r with am := 0, ra := [] } := rfl
    rw [hP, List.foldl_append, List.foldl_append, e0, puts_a _ _ (by simp; omega)]
    show (⟨165, next3 r.bt, [] ++ data, 0, r.bt, r.rb⟩ : Rom) = _
    rw [List.nil_append]
  · rw [if_neg (by omega), if_neg (by omega)]
    have hP : r.plan data = [⟨1, 0, 0⟩, ⟨3, 0, 0⟩] ++ data.map (fun x => ⟨4, 0, x⟩) ++ [⟨2, 0, 0⟩, ⟨1, 0, 165⟩] := by
      simp [Rom.plan, Rom.to, Rom.turn, h0]
    have e0 : [(⟨1, 0, 0⟩ : Wr), ⟨3, 0, 0⟩].foldl Rom.doW r = { r with am := 0, ra := [] } := rfl
    rw [hP, List.foldl_append, List.foldl_append, e0, puts_a _ _ (by simp; omega)]
    show (⟨165, 0, [] ++ data, r.bm, r.bt, r.rb⟩ : Rom) = _
    rw [List.nil_append]

theorem full_slot {r : Rom} (hb : r.bytes) (data : List Int) (hd : data.length ≤ 20100) : (r.full data).slot = if r.slot = 0 then 1 else 0 := by
  obtain ⟨⟨hat, hat2⟩, hbt, hbt2⟩ := hb
  unfold Rom.full
  rcases slot_cases r with h0 | h0 | h0
  · rw [if_pos h0, if_pos h0]
    have hs := h0
    rw [slot_eq] at hs
    have hga : r.ga = true := by
      by_cases h : r.ga = true
      · exact h
      · rw [if_neg (fun c => h c.1), if_neg h] at hs; split at hs <;> omega
    have ht := good_t (m := r.am) hga
    have hn3 := next3_ok ⟨hat, ht.1⟩
    have e1 : Rom.gb ⟨0, r.at_, r.ra, 165, next3 r.at_, data⟩ = true := by simp [Rom.gb, goodB]; omega
    have e2 : Rom.ga ⟨0, r.at_, r.ra, 165, next3 r.at_, data⟩ = false := by simp [Rom.ga, goodB]
    rw [slot_eq, if_neg (by rw [e2]; simp), if_neg (by rw [e2]; simp), if_pos e1]
  · rw [if_neg (by omega), if_pos h0, if_neg (by omega)]
    have hs := h0
    rw [slot_eq] at hs
    have hgb : r.gb = true := by
      by_cases h : r.gb = true
      · exact h
      · rw [if_neg (fun c => h c.2.1)] at hs
        split at hs
        · omega
        · omega
    have ht := good_t (m := r.bm) hgb
    have hn3 := next3_ok ⟨hbt, ht.1⟩
    have e1 : Rom.ga ⟨165, next3 r.bt, data, 0, r.bt, r.rb⟩ = true := by simp [Rom.ga, goodB]; omega
    have e2 : Rom.gb ⟨165, next3 r.bt, data, 0, r.bt, r.rb⟩ = false := by simp [Rom.gb, goodB]
    rw [slot_eq, if_neg (by rw [e2]; simp), if_pos e1]
  · rw [if_neg (by omega), if_neg (by omega), if_neg (by omega)]
    have hs := h0
    rw [slot_eq] at hs
    have hga : r.ga = false := by
      cases h : r.ga
      · rfl
      · rw [h] at hs
        split at hs
        · omega
        · rw [if_pos rfl] at hs; omega
    have hgb : r.gb = false := by
      cases h : r.gb
      · rfl
      · rw [hga, h] at hs; simp at hs
    have e1 : Rom.ga ⟨165, 0, data, r.bm, r.bt, r.rb⟩ = true := by simp [Rom.ga, goodB]; omega
    have e2 : Rom.gb ⟨165, 0, data, r.bm, r.bt, r.rb⟩ = false := hgb
    rw [slot_eq, if_neg (by rw [e2]; simp), if_pos e1]

theorem full_small {r : Rom} (h : r.small) (data : List Int) (hd : data.length ≤ 20100) : (r.full data).small := by
  rw [← full_eq data hd]; exact play_small h _ _

theorem run_lawHoldOnce (code : List Int) (hc : ∀ x ∈ code, 0 ≤ x ∧ x < 256) (hl : code.length < 2 ^ 63) (sc : Nat) (s : Sup) :
    go 100000 7 [.w (dW sc code)] [] s = some ⟨sV (.bool true), [], []⟩ := by
  obtain ⟨n, hn⟩ : ∃ n, (100000 : Nat) = n + 1 := ⟨99999, rfl⟩
  rw [hn]
  have hn1 : 99999 ≤ n := by omega
  clear hn
  by_cases h : code.length ≤ 2 ^ 20
  · have h' : ((1048576 : Int) < code.length) = False := eq_false (by omega)
    obtain ⟨r, d, hsm, hby, hdl, hdb, hD⟩ := run_drawPlan code hc
    have D := fun sc s => hD n sc s (by omega)
    clear hD
    have A := fun s => run_slotNowS (n := n) (by omega) r.am r.at_ r.bm r.bt 0 0 r.ra r.rb s
    have P := fun s => run_holdPlan (n := n) r 0 0 0 d (by omega) (by omega) s
    by_cases hd : d.length ≤ 20100
    · have hpl := plan_len r d
      have hd' := eq_true hd
      have Q := fun s => run_holdPlay (n := n) r hsm 0 0 0 (r.plan d) (r.plan d).length (by omega) (by omega) s
      have Q2 := fun s => run_holdPlayS (n := n) r hsm 0 0 0 (r.plan d) (r.plan d).length (by omega) (by omega) s
      rw [full_eq d hd] at Q Q2
      have hf := full_slot hby d hd
      have hA : slotNow r.am r.at_ r.ra.length r.bm r.bt r.rb.length = r.slot := rfl
      rw [hA] at A
      have B := fun s => run_slotNow (n := n) (by omega) (r.full d).am (r.full d).at_ (r.full d).bm (r.full d).bt 0 0 (r.full d).ra (r.full d).rb s
      have B2 := fun s => run_slotNowS (n := n) (by omega) (r.full d).am (r.full d).at_ (r.full d).bm (r.full d).bt 0 0 (r.full d).ra (r.full d).rb s
      have hB : slotNow (r.full d).am (r.full d).at_ (r.full d).ra.length (r.full d).bm (r.full d).bt (r.full d).rb.length = (r.full d).slot := rfl
      rw [hB] at B B2
      rw [if_pos hd] at P
      have hfull : r.full d = if r.slot = 0 then ⟨0, r.at_, r.ra, 165, next3 r.at_, d⟩ else if r.slot = 1 then ⟨165, next3 r.bt, d, 0, r.bt, r.rb⟩ else ⟨165, 0, d, r.bm, r.bt, r.rb⟩ := rfl
      generalize r.full d = fr at Q Q2 B B2 hf hfull
      rcases slot_cases r with h0 | h0 | h0
      · rw [h0] at A hf hfull
        simp only [if_true] at hf hfull
        rw [hf] at B B2
        subst hfull
        simp [go_of FT_7 rfl, F7, h', D, A, P, hd', Q, Q2, B, B2]
      · rw [h0] at A hf hfull
        rw [if_neg (by omega)] at hf hfull
        rw [if_pos rfl] at hfull
        rw [hf] at B B2
        subst hfull
        simp [go_of FT_7 rfl, F7, h', D, A, P, hd', Q, Q2, B, B2]
      · rw [h0] at A hf hfull
        rw [if_neg (by omega)] at hf hfull
        rw [if_neg (by omega)] at hfull
        rw [hf] at B B2
        subst hfull
        simp [go_of FT_7 rfl, F7, h', D, A, P, hd', Q, Q2, B, B2]
    · have hd' := eq_false hd
      rw [if_neg hd] at P
      have hd2 : ((20100 : Int) < d.length) = True := eq_true (by omega)
      simp [go_of FT_7 rfl, F7, h', D, A, P, hd', hd2]
  · have h' : ((1048576 : Int) < code.length) = True := eq_true (by omega)
    simp [go_of FT_7 rfl, F7, h']

end Go.VM
