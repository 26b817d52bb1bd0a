/- One write to a store as the reference's: the law's run. Conditions: none. -/
import Derived.Test.YthkednnfadhidaaVX4
import Derived.Test.YthkednnfadhidaaVL9

namespace Go.VM
set_option linter.unusedSimpArgs false
set_option linter.unusedVariables false
set_option maxHeartbeats 8000000
set_option maxRecDepth 10000

def goD (n : Nat) : CallT := fun f args bs s => if markIds.contains f then goM n f args bs s else if specIds.contains f then go n f args bs s else
  if f = 25 then brw (fun _ args bs s => runMv (goY n) mode (fun _ => none) n F25 args bs s) f args bs s else brw (go n) f args bs s
def goDT (n : Nat) : CallT := fun f args bs s => match FT f with | some F => runF (goD n) modeT (fun _ => none) n f F args bs s | none => none
theorem goDT_of {f : Nat} {F : Fn} (hF : FT f = some F) {n : Nat} {args : List V} {bs : List Box} {s : Sup} : goDT n f args bs s = runF (goD n) modeT (fun _ => none) n f F args bs s := by
  unfold goDT
  simp [hF]
theorem goD_mark {f : Nat} (h : markIds.contains f = true) {n : Nat} {args : List V} {bs : List Box} {s : Sup} : goD n f args bs s = goM n f args bs s := by
  unfold goD; rw [if_pos h]
theorem goD_spec {f : Nat} (h : markIds.contains f = false) (h2 : specIds.contains f = true) {n : Nat} {args : List V} {bs : List Box} {s : Sup} : goD n f args bs s = go n f args bs s := by
  unfold goD; rw [if_neg (by rw [h]; simp), if_pos h2]
theorem goD_else {f : Nat} (h : markIds.contains f = false) (h2 : specIds.contains f = false) (h3 : f ≠ 25) {n : Nat} {args : List V} {bs : List Box} {s : Sup} : goD n f args bs s = brw (go n) f args bs s := by
  unfold goD; rw [if_neg (by rw [h]; simp), if_neg (by rw [h2]; simp), if_neg h3]
theorem goD_25 {n : Nat} {args : List V} {bs : List Box} {s : Sup} : goD n 25 args bs s = brw (fun _ args bs s => runMv (goY n) mode (fun _ => none) n F25 args bs s) 25 args bs s := rfl

theorem run_lawHoldDo (r : Rom) (w : Wr) (ha : r.ra.length < 2 ^ 63) (hb : r.rb.length < 2 ^ 63) (s : Sup) :
    goDT (3 * 2 ^ 21) 5 [.agg (r.v 0 0), .agg [.d (.s (.int .i64 w.k)), .d (.s (.int .i64 w.s)), u8W w.v]] [] s = some ⟨sV (.bool true), [], []⟩ := by
  obtain ⟨n, hn⟩ : ∃ n, (3 * 2 ^ 21 : Nat) = n := ⟨_, rfl⟩
  rw [hn]
  have hnl : 3 * 2 ^ 21 ≤ n := by omega
  clear hn
  have S := fun s => run_szRom (n := n) (by omega) r.am r.at_ r.bm r.bt 1048576 0 0 r.ra r.rb s
  have X27 := fun args bs s => goD_else (f := 27) (n := n) (args := args) (bs := bs) (s := s) rfl rfl (by omega)
  by_cases h : szR 1048576 r.ra.length r.rb.length < 0
  · simp [goDT_of FT_5, F5, modeT, specIds, X27, brw_at, brwCall, brwEnd, S, h, V.flat, W.flat]
  · obtain ⟨he, hle⟩ := szR_le h (by omega) (by omega) ha hb
    have hsm : r.small := ⟨by omega, by omega⟩
    have T := fun sa sb s => run_toRom (n := n) r.am r.at_ r.bm r.bt sa sb r.ra r.rb (by omega) (by omega) (room_b (by omega)) (room_b (by omega)) s
    have T2 := fun s => run_toWrite (n := n) (by omega) w s
    have A := fun sa sb s => run_holdDoS (n := n) (by omega) r hsm sa sb w s
    have B := fun sa sb s => run_holdDoM (n := n) (by omega) r hsm sa sb w s
    have hga := doW_a r w
    have hgb := doW_b r w
    generalize r.doW w = g at A B hga hgb
    have hga' : g.ra.length ≤ 2 ^ 20 := by omega
    have hgb' : g.rb.length ≤ 2 ^ 20 := by omega
    have E1 := fun sa sb sa' sb' s => run_eqRom (n := n) r.am r.at_ r.bm r.bt sa sb sa' sb' r.ra r.rb (by omega) (by omega) (by omega) (by omega) s
    have E2 := fun sa sb sa' sb' s => run_eqRom (n := n) g.am g.at_ g.bm g.bt sa sb sa' sb' g.ra g.rb (by omega) (by omega) (by omega) (by omega) s
    have K1 := fun c d s => run_markRom (n := n) r.am r.at_ r.bm r.bt r.ra r.rb (by omega) (by omega) (by omega) (by omega) 1 (by omega) c d s
    have K3 := fun c d s => run_markRom (n := n) g.am g.at_ g.bm g.bt g.ra g.rb (by omega) (by omega) (by omega) (by omega) 1 (by omega) c d s
    have D := fun sa sb s => run_heldRom (n := n) g.am g.at_ g.bm g.bt g.ra.length g.rb.length (by omega) (by omega) (by omega) (by omega) 1 (by omega) sa sb s
    have hc1 : ((1 + r.ra.length + r.rb.length : Nat) : Int) = (1 : Int) + r.ra.length + r.rb.length := by omega
    have hc2 : ((1 + g.ra.length + g.rb.length : Nat) : Int) = (1 : Int) + g.ra.length + g.rb.length := by omega
    have hc3 : ((1 + g.ra.length : Nat) : Int) = (1 : Int) + g.ra.length := by omega
    have hc5 : ((1 + r.ra.length : Nat) : Int) = (1 : Int) + r.ra.length := by omega
    have hc0 : ((1 : Nat) : Int) = (1 : Int) := rfl
    rw [hc1, hc5, hc0] at K1
    rw [hc2, hc3, hc0] at K3 D
    have hk : ((1 : Int) + r.ra.length + r.rb.length < 0) = False := eq_false (by omega)
    have hk2 : ((1 : Int) + g.ra.length + g.rb.length < 0) = False := eq_false (by omega)
    have X28 := fun args bs s => goD_else (f := 28) (n := n) (args := args) (bs := bs) (s := s) rfl rfl (by omega)
    have X29 := fun args bs s => goD_else (f := 29) (n := n) (args := args) (bs := bs) (s := s) rfl rfl (by omega)
    have X31 := fun args bs s => goD_else (f := 31) (n := n) (args := args) (bs := bs) (s := s) rfl rfl (by omega)
    have X33 := fun args bs s => goD_else (f := 33) (n := n) (args := args) (bs := bs) (s := s) rfl rfl (by omega)
    have X30 := fun args bs s => goD_spec (f := 30) (n := n) (args := args) (bs := bs) (s := s) rfl rfl
    have X25 := fun args bs s => goD_25 (n := n) (args := args) (bs := bs) (s := s)
    have X32 := fun args bs s => goD_mark (f := 32) (n := n) (args := args) (bs := bs) (s := s) rfl
    simp [goDT_of FT_5, F5, modeT, specIds, X27, X28, X29, X31, X33, X30, X25, X32, brw_at, brwCall, brwEnd, S, h, T, T2, A, B, E1, E2, K1, K3, D, hk, hk2, take_mark, V.flat, W.flat]

end Go.VM
