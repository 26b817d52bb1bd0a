/- A store is played as the reference's: the law's run. Conditions: none. -/
import Derived.Test.YthkednnfadhidaaVX3
import Derived.Test.YthkednnfadhidaaVRA

namespace Go.VM
set_option linter.unusedSimpArgs false
set_option linter.unusedVariables false
set_option maxHeartbeats 8000000
set_option maxRecDepth 10000

theorem take_mark (k : Int) (m : Nat) : List.take m (byt (markL k m)) = byt (markL k m) := List.take_of_length_le (by simp)
theorem szB_le {left : Int} {n : Nat} (h : ¬ szB left n < 0) (h0 : 0 ≤ left) (h1 : left < 2 ^ 40) (h2 : n < 2 ^ 63) : szB left n = left - n ∧ (n : Int) ≤ left := by
  have w : IntKind.wrap .i64 (left - n) = left - n := wrap_id (by omega) (by omega)
  unfold szB at h ⊢
  rw [w] at h ⊢
  split at h <;> omega
theorem szR_le {left : Int} {a b : Nat} (h : ¬ szR left a b < 0) (h0 : 0 ≤ left) (h1 : left < 2 ^ 40) (h2 : a < 2 ^ 63) (h3 : b < 2 ^ 63) : szR left a b = left - a - b ∧ (a : Int) + b ≤ left := by
  have ha : ¬ szB left a < 0 := fun c => h (by unfold szR szS; rw [if_pos c, if_pos (by decide)]; decide)
  have e1 := szB_le ha h0 h1 h2
  have hb : ¬ szB (szB left a) b < 0 := fun c => h (by
    unfold szR szS
    rw [if_neg ha]
    rw [if_neg ha, if_pos c]; decide)
  have e2 := szB_le hb (by omega) (by omega) h3
  have : szR left a b = szB (szB left a) b := by unfold szR szS; rw [if_neg ha, if_neg ha, if_neg hb, if_neg hb]
  rw [this]
  omega

theorem run_lawHoldPlay (r : Rom) (l : List Wr) (k : Int) (ha : r.ra.length < 2 ^ 63) (hb : r.rb.length < 2 ^ 63) (hl0 : l.length < 2 ^ 63) (s : Sup) :
    goT (3 * 2 ^ 21) 9 [.agg (r.v 0 0), .w (wW 0 l), .w (.d (.s (.int .i64 k)))] [] s = some ⟨sV (.bool true), [], []⟩ := by
  obtain ⟨n, hn⟩ : ∃ n, (3 * 2 ^ 21 : Nat) = n := ⟨_, rfl⟩
  rw [hn]
  have hnl : 3 * 2 ^ 21 ≤ n := by omega
  clear hn
  have S := fun s => run_szRom (n := n) (by omega) r.am r.at_ r.bm r.bt 1048576 0 0 r.ra r.rb s
  have X27 := fun args bs s => goX_else (f := 27) (n := n) (args := args) (bs := bs) (s := s) rfl rfl rfl
  have X44 := fun args bs s => goX_else (f := 44) (n := n) (args := args) (bs := bs) (s := s) rfl rfl rfl
  by_cases h : szR 1048576 r.ra.length r.rb.length < 0
  · simp [goT_of FT_9, F9, modeT, specIds, X27, brw_at, brwCall, brwEnd, S, h, V.flat, W.flat]
  · obtain ⟨he, hle⟩ := szR_le h (by omega) (by omega) ha hb
    have S2 := fun left s => run_szWrites (n := n) (by omega) left 0 l s
    by_cases h2 : szB (szR 1048576 r.ra.length r.rb.length) l.length < 0
    · simp [goT_of FT_9, F9, modeT, specIds, X27, X44, brw_at, brwCall, brwEnd, S, S2, h, h2, V.flat, W.flat]
    · obtain ⟨-, hle2⟩ := szB_le h2 (by omega) (by omega) hl0
      have hsm : r.small := ⟨by omega, by omega⟩
      have T := fun sa sb s => run_toRom (n := n) r.am r.at_ r.bm r.bt sa sb r.ra r.rb (by omega) (by omega) (room_b (by omega)) (room_b (by omega)) s
      have T2 := fun sw s => run_toWrites (n := n) sw l (by omega) (by omega) s
      have A := fun sa sb sw s => run_holdPlayS (n := n) r hsm sa sb sw l k (by omega) (by omega) s
      have B := fun sa sb sw s => run_holdPlayM (n := n) r hsm sa sb sw l k (by omega) (by omega) s
      have hga := fold_a (l.take (max 0 (min k l.length)).toNat) r
      have hgb := fold_b (l.take (max 0 (min k l.length)).toNat) r
      have hgr : (l.take (max 0 (min k l.length)).toNat).foldl Rom.doW r = r.play l k := rfl
      rw [hgr] at hga hgb
      generalize r.play l k = g at A B hga hgb
      have hga' : g.ra.length ≤ 2 ^ 20 := by omega
      have hgb' : g.rb.length ≤ 2 ^ 20 := by omega
      have E1 := fun sa sb sa' sb' s => run_eqRom (n := n) r.am r.at_ r.bm r.bt sa sb sa' sb' r.ra r.rb (by omega) (by omega) (by omega) (by omega) s
      have E2 := fun sa sb sa' sb' s => run_eqRom (n := n) g.am g.at_ g.bm g.bt sa sb sa' sb' g.ra g.rb (by omega) (by omega) (by omega) (by omega) s
      have E3 := fun s0 s1 s => run_eqWrites (n := n) s0 s1 l (by omega) (by omega) s
      have K1 := fun c d s => run_markRom (n := n) r.am r.at_ r.bm r.bt r.ra r.rb (by omega) (by omega) (by omega) (by omega) 1 (by omega) c d s
      have K2 := fun c s => run_markWrites (n := n) l (by omega) (by omega) (1 + r.ra.length + r.rb.length) (by omega) c s
      have K3 := fun c d s => run_markRom (n := n) g.am g.at_ g.bm g.bt g.ra g.rb (by omega) (by omega) (by omega) (by omega) 1 (by omega) c d s
      have D := fun sa sb s => run_heldRom (n := n) g.am g.at_ g.bm g.bt g.ra.length g.rb.length (by omega) (by omega) (by omega) (by omega) 1 (by omega) sa sb s
      have hc1 : ((1 + r.ra.length + r.rb.length : Nat) : Int) = (1 : Int) + r.ra.length + r.rb.length := by omega
      have hc2 : ((1 + g.ra.length + g.rb.length : Nat) : Int) = (1 : Int) + g.ra.length + g.rb.length := by omega
      have hc3 : ((1 + g.ra.length : Nat) : Int) = (1 : Int) + g.ra.length := by omega
      have hc4 : ((1 + r.ra.length + r.rb.length + 3 * l.length : Nat) : Int) = (1 : Int) + r.ra.length + r.rb.length + 3 * l.length := by omega
      have hc5 : ((1 + r.ra.length : Nat) : Int) = (1 : Int) + r.ra.length := by omega
      have hc0 : ((1 : Nat) : Int) = (1 : Int) := rfl
      rw [hc1, hc5, hc0] at K1
      rw [hc4, hc1] at K2
      rw [hc2, hc3, hc0] at K3 D
      have hk : ((1 : Int) + r.ra.length + r.rb.length + 3 * l.length < 0) = False := eq_false (by omega)
      have hk2 : ((1 : Int) + g.ra.length + g.rb.length < 0) = False := eq_false (by omega)
      have X28 := fun args bs s => goX_else (f := 28) (n := n) (args := args) (bs := bs) (s := s) rfl rfl rfl
      have X45 := fun args bs s => goX_else (f := 45) (n := n) (args := args) (bs := bs) (s := s) rfl rfl rfl
      have X31 := fun args bs s => goX_else (f := 31) (n := n) (args := args) (bs := bs) (s := s) rfl rfl rfl
      have X46 := fun args bs s => goX_else (f := 46) (n := n) (args := args) (bs := bs) (s := s) rfl rfl rfl
      have X33 := fun args bs s => goX_else (f := 33) (n := n) (args := args) (bs := bs) (s := s) rfl rfl rfl
      have X26 := fun args bs s => goX_spec (f := 26) (n := n) (args := args) (bs := bs) (s := s) rfl rfl
      have X12 := fun args bs s => goX_impl (f := 12) FT_12 (n := n) (args := args) (bs := bs) (s := s) rfl rfl rfl
      have X32 := fun args bs s => goX_mark (f := 32) (n := n) (args := args) (bs := bs) (s := s) rfl
      have X47 := fun args bs s => goX_mark (f := 47) (n := n) (args := args) (bs := bs) (s := s) rfl
      simp [goT_of FT_9, F9, modeT, specIds, X27, X44, X28, X45, X31, X46, X33, X26, X12, X32, X47, brw_at, brwCall, brwEnd, S, S2, h, h2, T, T2, A, B, E1, E2, E3, K1, K2, K3, D, hk, hk2, take_mark, V.flat, W.flat]

end Go.VM
