/- One write to a store: the reference's and the program's, reckoned. Conditions: none. -/
import Derived.Test.YthkednnfadhidaaVX3
import Derived.Test.YthkednnfadhidaaVRA

namespace Go.VM
set_option linter.unusedSimpArgs false
set_option linter.unusedVariables false
set_option maxHeartbeats 8000000

def intoW (m t : Int) (l : List Int) (w : Wr) : Int × Int × List Int := addW m t l w

theorem into_own {n : Nat} {H : Nat → Box} {g : Nat} {s : Sup} {m t k sl v : Int} {l : List Int} {p : Nat} {c : Option Nat} (hp : p < g) (hr : H p = rowB l) (hl0 : l.length ≤ 2 ^ 30) :
    ∃ e x', callV (go (n + 2)) mode false H g s 74 [.agg [u8W m, u8W t, ownW p l.length c], .agg [.d (.s (.int .i64 k)), .d (.s (.int .i64 sl)), u8W v]] = some e ∧ e.v = .agg [u8W (addW m t l ⟨k, sl, v⟩).1, u8W (addW m t l ⟨k, sl, v⟩).2.1, x'] ∧ SlAt e.H (g + 64) x' (addW m t l ⟨k, sl, v⟩).2.2 ∧ Added H e.H g (ownW p l.length c) x' := by
  have n1 : (p = g) = False := eq_false (by omega)
  have n2 : (g = p) = False := eq_false (by omega)
  have C := fun st s => run_copyS (n := n + 1) (by omega) st l (room_b hl0) s
  by_cases k1 : k = 1
  · subst k1
    simp [go_of FT_74 rfl, F74, rowParts, addW, byt_all, C, n1, n2, hr]
    exact ⟨.own p c rfl (by omega) (by simp [byt_sn, byt_all, n1, n2, hr]), fun m' hm hx => by
      have e1 : (m' = g) = False := eq_false (by omega)
      have e2 : (m' = p) = False := eq_false (by simpa using hx)
      simp [e1, e2], fun m' hm => .inl hm⟩
  by_cases k2 : k = 2
  · subst k2
    simp [go_of FT_74 rfl, F74, rowParts, addW, byt_all, C, n1, n2, hr]
    exact ⟨.own p c rfl (by omega) (by simp [byt_sn, byt_all, n1, n2, hr]), fun m' hm hx => by
      have e1 : (m' = g) = False := eq_false (by omega)
      have e2 : (m' = p) = False := eq_false (by simpa using hx)
      simp [e1, e2], fun m' hm => .inl hm⟩
  by_cases k3 : k = 3
  · subst k3
    simp [go_of FT_74 rfl, F74, rowParts, addW, byt_all, C, n1, n2, hr]
    exact ⟨.nil rfl rfl, fun m' hm hx => by
      have e1 : (m' = g) = False := eq_false (by omega)
      have e2 : (m' = p) = False := eq_false (by simpa using hx)
      simp [e1, e2], fun m' hm => by simp at hm⟩
  by_cases k4 : k = 4
  · subst k4
    by_cases hl : l.length < 20100
    · have hl2 : ((l.length : Int) < 20100) = True := eq_true (by omega)
      have hm : room (l.length + 1) 1 = true := room_b (by omega)
      simp [go_of FT_74 rfl, F74, rowParts, addW, byt_all, C, n1, n2, hr, hl, hl2, hm]
      exact ⟨.own g none (by simp) (by omega) (by simp [byt_sn, byt_all, n1, n2, hr]), fun m' hm hx => by
      have e1 : (m' = g) = False := eq_false (by omega)
      have e2 : (m' = p) = False := eq_false (by simpa using hx)
      simp [e1, e2], fun m' hm => .inr (by simp at hm; omega)⟩
    · have hl2 : ((l.length : Int) < 20100) = False := eq_false (by omega)
      simp [go_of FT_74 rfl, F74, rowParts, addW, byt_all, C, n1, n2, hr, hl, hl2]
      exact ⟨.own p c rfl (by omega) (by simp [byt_sn, byt_all, n1, n2, hr]), fun m' hm hx => by
      have e1 : (m' = g) = False := eq_false (by omega)
      have e2 : (m' = p) = False := eq_false (by simpa using hx)
      simp [e1, e2], fun m' hm => .inl hm⟩
  simp [go_of FT_74 rfl, F74, rowParts, addW, byt_all, C, n1, n2, hr, k1, k2, k3, k4]
  exact ⟨.own p c rfl (by omega) (by simp [byt_sn, byt_all, n1, n2, hr]), fun m' hm hx => by
      have e1 : (m' = g) = False := eq_false (by omega)
      have e2 : (m' = p) = False := eq_false (by simpa using hx)
      simp [e1, e2], fun m' hm => .inl hm⟩


theorem run_holdDoS {n : Nat} (hn : 6 ≤ n) (r : Rom) (hs : r.small) (sa sb : Nat) (w : Wr) (s : Sup) :
    go n 30 [.agg (r.v sa sb), .agg [.d (.s (.int .i64 w.k)), .d (.s (.int .i64 w.s)), u8W w.v]] [] s = some ⟨.agg ((r.doW w).v 0 0), [], []⟩ := by
  obtain ⟨n, rfl⟩ : ∃ m, n = m + 3 := ⟨n - 3, by omega⟩
  have C := fun s => run_romS (n := n + 2) (by omega) r.am r.at_ r.bm r.bt sa sb r.ra r.rb (room_b hs.1) (room_b hs.2) s
  have C70 : ∀ H g s args, callV (go (n + 2)) mode false H g s 70 args = _ := fun H g s args => callV_at (go (n + 2)) mode false g s H 70 args
  by_cases s0 : w.s = 0
  · rw [doW_0 r w s0]
    simp [-callV_at, C70, go_of FT_30 rfl, F30, C, s0]
    generalize hHH : upd (upd (upd (upd _ _ _) _ _) 257 _) 0 _ = HH
    have h0 : HH 0 = .cells (romV r.am r.at_ (ownW 256 r.ra.length none) r.bm r.bt (ownW 257 r.rb.length none)) := by rw [← hHH]; simp
    have h64 : HH 64 = .cells [.d (.s (.int .i64 w.k)), .d (.s (.int .i64 0)), u8W w.v] := by rw [← hHH]; simp
    have h128 : HH 128 = .cells (romV 0 0 .nil 0 0 .nil) := by rw [← hHH]; simp
    have hp : HH 256 = rowB r.ra := by rw [← hHH]; simp
    have hq : HH 257 = rowB r.rb := by rw [← hHH]; simp
    clear hHH
    obtain ⟨⟨v1, H1, t1, w1⟩, x', he, hv, hS, hA⟩ := into_own (n := n) (s := subS (restS (restS (restS s))) 3) (m := r.am) (t := r.at_) (k := w.k) (sl := 0) (v := w.v) (c := none) (g := 768) (by omega : 256 < 768) hp hs.1
    simp only at hv hS hA
    subst hv
    have hw : addW r.am r.at_ r.ra ⟨w.k, 0, w.v⟩ = addW r.am r.at_ r.ra w := rfl
    rw [hw] at he hS
    have g0 : H1 0 = .cells (romV r.am r.at_ (ownW 256 r.ra.length none) r.bm r.bt (ownW 257 r.rb.length none)) := by rw [hA.1 0 (by omega) (by simp)]; exact h0
    have g64 : H1 64 = .cells [.d (.s (.int .i64 w.k)), .d (.s (.int .i64 0)), u8W w.v] := by rw [hA.1 64 (by omega) (by simp)]; exact h64
    have g128 : H1 128 = .cells (romV 0 0 .nil 0 0 .nil) := by rw [hA.1 128 (by omega) (by simp)]; exact h128
    have gq : H1 257 = rowB r.rb := by rw [hA.1 257 (by omega) (by simp)]; exact hq
    generalize addW r.am r.at_ r.ra w = aw at he hS
    cases hS with
    | nil hx hl =>
      subst hx
      simp [-callV_at, he, h64, g0, g64, g128, gq, hl]
    | own p c hx hp' hr =>
      subst hx
      have hpn := hA.2 p (by simp)
      simp only [names_own, List.mem_singleton] at hpn
      have n1 : (p = 257) = False := eq_false (by omega)
      have n2 : (257 = p) = False := eq_false (by omega)
      have n3 : (p = 0) = False := eq_false (by omega)
      have n4 : (p = 128) = False := eq_false (by omega)
      have n5 : (p = 64) = False := eq_false (by omega)
      simp [-callV_at, he, h64, g0, g64, g128, gq, hr, n1, n2, n3, n4, n5]
  · by_cases s1 : w.s = 1
    · rw [doW_1 r w s1]
      simp [-callV_at, C70, go_of FT_30 rfl, F30, C, s1]
      generalize hHH : upd (upd (upd (upd _ _ _) _ _) 257 _) 0 _ = HH
      have h0 : HH 0 = .cells (romV r.am r.at_ (ownW 256 r.ra.length none) r.bm r.bt (ownW 257 r.rb.length none)) := by rw [← hHH]; simp
      have h64 : HH 64 = .cells [.d (.s (.int .i64 w.k)), .d (.s (.int .i64 1)), u8W w.v] := by rw [← hHH]; simp
      have h128 : HH 128 = .cells (romV 0 0 .nil 0 0 .nil) := by rw [← hHH]; simp
      have hp : HH 256 = rowB r.ra := by rw [← hHH]; simp
      have hq : HH 257 = rowB r.rb := by rw [← hHH]; simp
      clear hHH
      obtain ⟨⟨v1, H1, t1, w1⟩, x', he, hv, hS, hA⟩ := into_own (n := n) (s := subS (restS (restS (restS (restS s)))) 3) (m := r.bm) (t := r.bt) (k := w.k) (sl := 1) (v := w.v) (c := none) (g := 960) (by omega : 257 < 960) hq hs.2
      simp only at hv hS hA
      subst hv
      have hw : addW r.bm r.bt r.rb ⟨w.k, 1, w.v⟩ = addW r.bm r.bt r.rb w := rfl
      rw [hw] at he hS
      have g0 : H1 0 = .cells (romV r.am r.at_ (ownW 256 r.ra.length none) r.bm r.bt (ownW 257 r.rb.length none)) := by rw [hA.1 0 (by omega) (by simp)]; exact h0
      have g64 : H1 64 = .cells [.d (.s (.int .i64 w.k)), .d (.s (.int .i64 1)), u8W w.v] := by rw [hA.1 64 (by omega) (by simp)]; exact h64
      have g128 : H1 128 = .cells (romV 0 0 .nil 0 0 .nil) := by rw [hA.1 128 (by omega) (by simp)]; exact h128
      have gq : H1 256 = rowB r.ra := by rw [hA.1 256 (by omega) (by simp)]; exact hp
      generalize addW r.bm r.bt r.rb w = aw at he hS
      cases hS with
      | nil hx hl =>
        subst hx
        simp [-callV_at, he, h64, g0, g64, g128, gq, hl]
      | own p c hx hp' hr =>
        subst hx
        have hpn := hA.2 p (by simp)
        simp only [names_own, List.mem_singleton] at hpn
        have n1 : (p = 256) = False := eq_false (by omega)
        have n2 : (256 = p) = False := eq_false (by omega)
        have n3 : (p = 0) = False := eq_false (by omega)
        have n4 : (p = 128) = False := eq_false (by omega)
        have n5 : (p = 64) = False := eq_false (by omega)
        simp [-callV_at, he, h64, g0, g64, g128, gq, hr, n1, n2, n3, n4, n5]
    · rw [doW_x r w s0 s1]
      simp [go_of FT_30 rfl, F30, C, s0, s1]

/-- The program's HoldDo, its result one's own. -/
def goY (n : Nat) : CallT := fun f args bs s => if f = 12 then runMv (go n) mode (fun _ => none) n F12 args bs s else go n f args bs s
theorem run_holdDoM {n : Nat} (hn : 20 ≤ n) (r : Rom) (hs : r.small) (sa sb : Nat) (w : Wr) (s : Sup) :
    runMv (goY n) mode (fun _ => none) n F25 [.agg (r.v sa sb), .agg [.d (.s (.int .i64 w.k)), .d (.s (.int .i64 w.s)), u8W w.v]] [] s =
      some ⟨.agg (romV (r.doW w).am (r.doW w).at_ (ownW 0 (r.doW w).ra.length (some (r.doW w).ra.length)) (r.doW w).bm (r.doW w).bt (ownW 1 (r.doW w).rb.length (some (r.doW w).rb.length))), [], [rowB (r.doW w).ra, rowB (r.doW w).rb]⟩ := by
  have Q : ∀ s, goY n 12 [.agg (r.v sa sb), .w (.d (.l 0 [[.s (.int .i64 w.k), .s (.int .i64 w.s), .s (.int .u8 w.v)]])), .w (.d (.s (.int .i64 1)))] [] s = _ := fun s =>
    (show goY n 12 _ _ _ = runMv (go n) mode (fun _ => none) n F12 _ _ _ from rfl).trans (run_holdPlayM (n := n) r hs sa sb 0 [w] 1 (by simp; omega) (by simp) s)
  have hp : r.play [w] 1 = r.doW w := rfl
  rw [hp] at Q
  generalize r.doW w = g at Q
  simp [runMv_at, F25, rowParts, Q]

end Go.VM
