/- Wherever power fails, the store holds the old content or the new one: the law's run. Conditions: none. -/
import Derived.Test.YthkednnfadhidaaVL7

namespace Go.VM
set_option linter.unusedSimpArgs false
set_option linter.unusedVariables false
set_option maxHeartbeats 4000000

theorem run_holdNowS {n : Nat} (hn : 3 ≤ n) (am at_ bm bt : Int) (sa sb : Nat) (ra rb : List Int) (h1 : room ra.length 1 = true) (h2 : room rb.length 1 = true) (s : Sup) :
    go n 42 [.agg (romV am at_ (dW sa ra) bm bt (dW sb rb))] [] s =
      some ⟨.tup [(false, [dW 0 (holdNow am at_ ra bm bt rb).1]), (false, [.d (.s (.bool (holdNow am at_ ra bm bt rb).2))])], [], []⟩ := by
  obtain ⟨n, rfl⟩ : ∃ k, n = k + 1 := ⟨n - 1, by omega⟩
  have A := fun s => run_slotNowS (n := n) (by omega) am at_ bm bt sa sb ra rb s
  have C := fun st s => run_copyS (n := n) (by omega) st ra h1 s
  have D := fun st s => run_copyS (n := n) (by omega) st rb h2 s
  unfold holdNow
  by_cases h0 : slotNow am at_ ra.length bm bt rb.length = 0
  · simp [go_of FT_42 rfl, F42, A, C, D, h0]
  · by_cases h1 : slotNow am at_ ra.length bm bt rb.length = 1
    · simp [go_of FT_42 rfl, F42, A, C, D, h0, h1]
    · simp [go_of FT_42 rfl, F42, A, C, D, h0, h1]

theorem loop8 {n : Nat} (hn : 99000 ≤ n) (r : Rom) (hsm : r.small) (hby : r.bytes) (d : List Int) (hd : d.length ≤ 20100) (B : Nat) (sr sn sd : Nat) (st : St) (t3 : st.τ 3 = .w (.ptr B 0)) (t4 : st.τ 4 = .w (dW sd d)) (t5 : st.τ 5 = .w (dW sn r.now.1)) (t6 : st.τ 6 = sV (.bool r.now.2))
    (t7 : st.τ 7 = .w (wW sr (r.plan d))) (t11 : st.τ 11 = sV (.int .i64 0)) (hB : st.H B = .cells (r.v 0 0)) (hBg : B < st.g) :
    ∃ e st', execC (go n) mode (fun _ => none) false 124 n F8_L0 st = some (e, st') ∧ e ≠ .normal ∧ (e = .exit 0 ∧ st'.τ 4 = .w (dW sd d) ∧ st'.τ 6 = sV (.bool r.now.2) ∧ st'.τ 7 = .w (wW sr (r.plan d))) := by
  have hpl := plan_len r d
  rw [F8_L0, execC_loop]
  refine iter_rule (fun k s1 => ∃ i : Nat, i + k = (r.plan d).length + 1 ∧ s1.τ 3 = .w (.ptr B 0) ∧ s1.τ 4 = .w (dW sd d) ∧ s1.τ 5 = .w (dW sn r.now.1) ∧ s1.τ 6 = sV (.bool r.now.2) ∧ s1.τ 7 = .w (wW sr (r.plan d)) ∧ s1.τ 11 = sV (.int .i64 i) ∧ s1.H B = .cells (r.v 0 0) ∧ B < s1.g) ?_ n ((r.plan d).length + 1) st (by omega)
    ⟨0, by omega, t3, t4, t5, t6, t7, by simpa using t11, hB, hBg⟩
  rintro k ⟨τ, H, g, s⟩ ⟨i, hk, t3, t4, t5, t6, t7, t11, hB, hBg⟩
  simp only at t3 t4 t5 t6 t7 t11 hB hBg
  cases k with
  | zero =>
    refine ⟨.exit 0, ?_⟩
    have c : ((i : Int) ≤ ((r.plan d).length : Int)) = False := eq_false (by omega)
    simp [F8_B0, t3, t4, t5, t6, t7, t11, c]
  | succ k =>
    have c : ((i : Int) ≤ ((r.plan d).length : Int)) = True := eq_true (by omega)
    have hBk : ∀ k, (B < g + k) = True := fun k => eq_true (by omega)
    have body : ∀ (j : Nat) (x : Int), x = j → j ≤ (r.plan d).length → i ≤ j →
        (∀ s, go n 12 [.agg (r.v 0 0), .w (wW sr (r.plan d)), .w (.d (.s (.int .i64 x)))] [] s = some ⟨.agg ((r.play (r.plan d) j).v 0 0), [], []⟩) ∧
        (∀ s, go n 13 [.agg ((r.play (r.plan d) j).v 0 0)] [] s = some ⟨.tup [(false, [dW 0 (if d.length + 4 ≤ j then (d, true) else r.now).1]), (false, [.d (.s (.bool (if d.length + 4 ≤ j then (d, true) else r.now).2))])], [], []⟩) := by
      intro j x hx hj _
      subst hx
      refine ⟨fun s => run_holdPlay (n := n) r hsm 0 0 sr (r.plan d) j (by omega) (by omega) s, fun s => ?_⟩
      have hf := fall hby d hd j
      rw [← play_nat] at hf
      have hsm' := play_small hsm (r.plan d) j
      rw [← hf]
      exact run_holdNow (n := n) (by omega) _ _ _ _ 0 0 _ _ (room_b hsm'.1) (room_b hsm'.2) s
    have W := fun s0 s1 l h s => run_whSame (n := n) (by omega) s0 s1 l h s
    have hwl : IntKind.wrap .i64 ((d.length : Int) + 4) = d.length + 4 := wrap_id (by omega) (by omega)
    refine ⟨.normal, ?_⟩
    by_cases j1 : 300 < i ∧ (i : Int) < (r.plan d).length - 3
    · obtain ⟨j1, j2⟩ := j1
      have hw3 : IntKind.wrap .i64 (((r.plan d).length : Int) - 3) = (r.plan d).length - 3 := wrap_id (by omega) (by omega)
      obtain ⟨P, N⟩ := body ((r.plan d).length - 3) (((r.plan d).length : Int) - 3) (by omega) (by omega) (by omega)
      have hwj : IntKind.wrap .i64 (((r.plan d).length : Int) - 3 + 1) = (r.plan d).length - 3 + 1 := wrap_id (by omega) (by omega)
      have j1' : ((300 : Int) < i) = True := eq_true (by omega)
      have j2' := eq_true j2
      clear body
      by_cases z : d.length + 4 ≤ (r.plan d).length - 3
      · omega
      · have z1 : (((r.plan d).length : Int) - 3 < (d.length : Int) + 4) = True := eq_true (by omega)
        have z2 : ((d.length : Int) + 4 ≤ ((r.plan d).length : Int) - 3) = False := eq_false (by omega)
        rw [if_neg z] at N
        simp [F8_B0, t3, t4, t5, t6, t7, t11, c, hB, hw3, j1', j2', P, N, W, hwl, hwj, z1, z2, hBk, Nat.add_assoc]
        exact ⟨3, by omega, (r.plan d).length - 2, by omega, by omega⟩
    · obtain ⟨P, N⟩ := body i i rfl (by omega) (by omega)
      have hwj : IntKind.wrap .i64 ((i : Int) + 1) = i + 1 := wrap_id (by omega) (by omega)
      have hw3 : IntKind.wrap .i64 (((r.plan d).length : Int) - 3) = (r.plan d).length - 3 := wrap_id (by omega) (by omega)
      clear body
      have fin : ∃ k', k' < k + 1 ∧ ∃ i' : Nat, i' + k' = (r.plan d).length + 1 ∧ (i : Int) + 1 = i' := ⟨k, by omega, i + 1, by omega, by omega⟩
      by_cases z : d.length + 4 ≤ i
      · have z1 : ((i : Int) < (d.length : Int) + 4) = False := eq_false (by omega)
        have z2 : ((d.length : Int) + 4 ≤ (i : Int)) = True := eq_true (by omega)
        rw [if_pos z] at N
        by_cases j0 : 300 < i
        · have j1' : ((300 : Int) < i) = True := eq_true (by omega)
          have j2' : ((i : Int) < ((r.plan d).length : Int) - 3) = False := eq_false (fun c => j1 ⟨j0, c⟩)
          simp [F8_B0, t3, t4, t5, t6, t7, t11, c, hB, hw3, j1', j2', P, N, W, hwl, hwj, z1, z2, hBk, Nat.add_assoc]
          exact fin
        · have j1' : ((300 : Int) < i) = False := eq_false (by omega)
          simp [F8_B0, t3, t4, t5, t6, t7, t11, c, hB, hw3, j1', P, N, W, hwl, hwj, z1, z2, hBk, Nat.add_assoc]
          exact fin
      · have z1 : ((i : Int) < (d.length : Int) + 4) = True := eq_true (by omega)
        have z2 : ((d.length : Int) + 4 ≤ (i : Int)) = False := eq_false (by omega)
        rw [if_neg z] at N
        by_cases j0 : 300 < i
        · have j1' : ((300 : Int) < i) = True := eq_true (by omega)
          have j2' : ((i : Int) < ((r.plan d).length : Int) - 3) = False := eq_false (fun c => j1 ⟨j0, c⟩)
          simp [F8_B0, t3, t4, t5, t6, t7, t11, c, hB, hw3, j1', j2', P, N, W, hwl, hwj, z1, z2, hBk, Nat.add_assoc]
          exact fin
        · have j1' : ((300 : Int) < i) = False := eq_false (by omega)
          simp [F8_B0, t3, t4, t5, t6, t7, t11, c, hB, hw3, j1', P, N, W, hwl, hwj, z1, z2, hBk, Nat.add_assoc]
          exact fin


theorem plan_length (r : Rom) (d : List Int) : (r.plan d).length = d.length + 4 + (if 0 ≤ r.slot then 1 else 0) := by
  simp only [Rom.plan, List.length_append, List.length_cons, List.length_nil, List.length_map]
  split <;> simp <;> omega
theorem now_had {r : Rom} : r.now.2 = decide (0 ≤ r.slot) := by
  unfold Rom.now holdNow
  show (if r.slot = 0 then _ else if r.slot = 1 then _ else _ : List Int × Bool).2 = _
  rcases slot_cases r with h | h | h
  · rw [if_pos h, h]; rfl
  · rw [if_neg (by omega), if_pos h, h]; rfl
  · rw [if_neg (by omega), if_neg (by omega), h]; rfl

theorem run_lawHoldTop (code : List Int) (hc : ∀ x ∈ code, 0 ≤ x ∧ x < 256) (hl : code.length < 2 ^ 63) (sc : Nat) (s : Sup) :
    go 100000 8 [.w (dW sc code)] [] s = some ⟨sV (.bool true), [], []⟩ := by
  obtain ⟨n, hn⟩ : ∃ n, (100000 : Nat) = n + 1 := ⟨99999, rfl⟩
  rw [hn]
  have hn1 : 99999 ≤ n := by omega
  clear hn
  by_cases h : code.length ≤ 2 ^ 20
  · have h' : ((1048576 : Int) < code.length) = False := eq_false (by omega)
    obtain ⟨r, d, hsm, hby, hdl, hdb, hD⟩ := run_drawPlan code hc
    have D := fun sc s => hD n sc s (by omega)
    clear hD
    have A := fun s => run_holdNowS (n := n) (by omega) r.am r.at_ r.bm r.bt 0 0 r.ra r.rb (room_b hsm.1) (room_b hsm.2) s
    have hA : holdNow r.am r.at_ r.ra r.bm r.bt r.rb = r.now := rfl
    rw [hA] at A
    have P := fun s => run_holdPlan (n := n) r 0 0 0 d (by omega) (by omega) s
    have P2 := fun s => run_holdPlanS (n := n) r 0 0 0 d (by omega) (by omega) s
    by_cases hd : d.length ≤ 20100
    · have hd' := eq_true hd
      have hdi : ((d.length : Int) ≤ 20100) = True := eq_true (by omega)
      rw [if_pos hd] at P P2
      simp [go_of FT_8 rfl, F8, h', D, A, P, P2, hd', hdi]
      generalize hst : St.mk _ _ _ _ = st1
      obtain ⟨e, ⟨τ1, H1, g1, s1⟩, hx1, -, rfl, t4, t6, t7⟩ := loop8 (n := n) (by omega) r hsm hby d hd 576 0 0 0 st1 (by simp [← hst]) (by simp [← hst]) (by simp [← hst]) (by simp [← hst]) (by simp [← hst]) (by simp [← hst]) (by simp [← hst]) (by simp [← hst])
      clear hst
      simp only at t4 t6 t7
      have hpl := plan_length r d
      rw [now_had] at t6
      have hw4 : IntKind.wrap .i64 ((d.length : Int) + 4) = d.length + 4 := wrap_id (by omega) (by omega)
      have hw5 : IntKind.wrap .i64 ((d.length : Int) + 5) = d.length + 5 := wrap_id (by omega) (by omega)
      by_cases hs : 0 ≤ r.slot
      · rw [if_pos hs] at hpl
        have c1 : (((r.plan d).length : Int) = (d.length : Int) + 4) = False := eq_false (by omega)
        have c2 : (((r.plan d).length : Int) = (d.length : Int) + 5) = True := eq_true (by omega)
        have hs' := eq_true hs
        simp [hx1, t4, t6, t7, hw4, hw5, c1, c2, hs']
      · rw [if_neg hs] at hpl
        have c1 : (((r.plan d).length : Int) = (d.length : Int) + 4) = True := eq_true (by omega)
        simp [hx1, t4, t6, t7, hw4, hw5, c1]
    · have hd' := eq_false hd
      rw [if_neg hd] at P P2
      have hdi : ((d.length : Int) ≤ 20100) = False := eq_false (by omega)
      simp [go_of FT_8 rfl, F8, h', D, A, P, P2, hd', hdi]
  · have h' : ((1048576 : Int) < code.length) = True := eq_true (by omega)
    simp [go_of FT_8 rfl, F8, h']

end Go.VM
