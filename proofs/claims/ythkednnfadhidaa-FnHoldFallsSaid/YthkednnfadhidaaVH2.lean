/- The store's plan, reckoned. Conditions: none. -/
import Derived.Test.YthkednnfadhidaaVH1
import Derived.Test.YthkednnfadhidaaVD2
namespace Go.VM
set_option linter.unusedSimpArgs false
set_option maxHeartbeats 4000000

/-- A write: its kind, its slot, its byte. -/
structure Wr where
  k : Int
  s : Int
  v : Int

def Wr.row (w : Wr) : List D := [.s (.int .i64 w.k), .s (.int .i64 w.s), .s (.int .u8 w.v)]
def wrs (l : List Wr) : List (List D) := l.map Wr.row
@[simp] theorem wrs_length (l : List Wr) : (wrs l).length = l.length := by simp [wrs]
@[simp] theorem take_wrs (l : List Wr) : List.take l.length (wrs l) = wrs l := by rw [← wrs_length l, List.take_length]
@[simp] theorem wrs_append (l m : List Wr) : wrs (l ++ m) = wrs l ++ wrs m := by simp [wrs]
theorem wrs_all (l : List Wr) : (∀ x ∈ wrs l, x.length = 3) = True := eq_true (by simp [wrs, Wr.row])
abbrev wW (st : Nat) (l : List Wr) : W := .d (.l st (wrs l))

structure Rom where
  am : Int
  at_ : Int
  ra : List Int
  bm : Int
  bt : Int
  rb : List Int

abbrev Rom.v (r : Rom) (sa sb : Nat) : List W := romV r.am r.at_ (dW sa r.ra) r.bm r.bt (dW sb r.rb)
def Rom.slot (r : Rom) : Int := slotNow r.am r.at_ r.ra.length r.bm r.bt r.rb.length
def next3 (t : Int) : Int := (IntKind.wrap .u8 (t + 1)).tmod 3
def Rom.to (r : Rom) : Int := if r.slot = 0 then 1 else 0
def Rom.turn (r : Rom) : Int := if r.slot = 0 then next3 r.at_ else if r.slot = 1 then next3 r.bt else 0
def Rom.plan (r : Rom) (data : List Int) : List Wr :=
  [⟨1, r.to, 0⟩, ⟨3, r.to, 0⟩] ++ data.map (fun x => ⟨4, r.to, x⟩) ++ [⟨2, r.to, r.turn⟩, ⟨1, r.to, 165⟩] ++ (if 0 ≤ r.slot then [⟨1, r.slot, 0⟩] else [])

theorem slot_cases (r : Rom) : r.slot = 0 ∨ r.slot = 1 ∨ r.slot = -1 := by
  unfold Rom.slot slotNow; split
  · exact .inr (.inl rfl)
  · split
    · exact .inl rfl
    · split
      · exact .inr (.inl rfl)
      · exact .inr (.inr rfl)

theorem room_24 {n : Nat} (h : n ≤ 2 ^ 20) : room n 24 = true := by simp [room]; omega

theorem loop11 {n : Nat} (pre : List Wr) (hp : pre.length ≤ 10) (to : Int) (data : List Int) (hn : data.length < n) (hl : data.length ≤ 20100) (sd b : Nat) (c : Option Nat) (st : St) (h33 : st.τ 33 = .w (dW sd data)) (h34 : st.τ 34 = sV (.int .i64 data.length)) (h35 : st.τ 35 = sV (.int .i64 0))
    (h9 : st.τ 9 = .w (.own b 0 pre.length c)) (hH : st.H b = .row none 3 (wrs pre) 0) (hb : b < st.g) (h6 : st.τ 6 = sV (.int .i64 to)) (v7 v8 : V) (h7 : st.τ 7 = v7) (h8 : st.τ 8 = v8) :
    ∃ e st', execC (go n) mode (fun _ => none) false 63 n F11_L0 st = some (e, st') ∧ e ≠ .normal ∧ (e = .exit 0 ∧ ∃ b c, st'.τ 9 = .w (.own b 0 (pre.length + data.length) c) ∧ st'.H b = .row none 3 (wrs (pre ++ data.map fun x => ⟨4, to, x⟩)) 0 ∧ b < st'.g ∧
      st'.τ 6 = sV (.int .i64 to) ∧ st'.τ 7 = v7 ∧ st'.τ 8 = v8) := by
  rw [F11_L0, execC_loop]
  refine iter_rule (fun k st => ∃ i b c, i + k = data.length ∧ st.τ 33 = .w (dW sd data) ∧ st.τ 34 = sV (.int .i64 data.length) ∧ st.τ 35 = sV (.int .i64 i) ∧ st.τ 9 = .w (.own b 0 (pre.length + i) c) ∧
    st.H b = .row none 3 (wrs (pre ++ (data.take i).map fun x => ⟨4, to, x⟩)) 0 ∧ b < st.g ∧ st.τ 6 = sV (.int .i64 to) ∧ st.τ 7 = v7 ∧ st.τ 8 = v8) ?_ n data.length st hn
    ⟨0, b, c, by omega, h33, h34, by simpa using h35, by simpa using h9, by simpa using hH, hb, h6, h7, h8⟩
  rintro k ⟨τ, H, g, s⟩ ⟨i, b, c, hk, h33, h34, h35, h9, hH, hb, h6, h7, h8⟩
  simp only at h33 h34 h35 h9 hH hb h6 h7 h8
  cases k with
  | zero =>
    have : i = data.length := by omega
    subst this
    refine ⟨.exit 0, ?_⟩
    simp only [List.take_length] at hH
    simp [F11_B0, h33, h34, h35, h9, h6, h7, h8]
    exact ⟨by simpa using hH, by omega⟩
  | succ k =>
    have hlt : i < data.length := by omega
    have hg := List.getElem?_eq_getElem hlt
    have hbyt := byt_get hg
    have hw := wrap_succ (i := i) (by omega)
    refine ⟨.normal, ?_⟩
    have e1 : ∀ k, (b = g + k) = False := fun k => eq_false (by omega)
    have e2 : ∀ k, (g + k = b) = False := fun k => eq_false (by omega)
    have hr : room (pre.length + (i + 1)) 24 = true := room_24 (by omega)
    have hlen : (wrs (pre ++ (data.take i).map fun x => (⟨4, to, x⟩ : Wr))).length = pre.length + i := by simp; omega
    have htk : List.take (pre.length + i) (wrs (pre ++ (data.take i).map fun x => (⟨4, to, x⟩ : Wr))) = wrs (pre ++ (data.take i).map fun x => (⟨4, to, x⟩ : Wr)) := by rw [← hlen, List.take_length]
    generalize hR : wrs (pre ++ (data.take i).map fun x => (⟨4, to, x⟩ : Wr)) = R at hlen htk hH
    simp [-getElem?_pos, Nat.add_assoc, F11_B0, h33, h34, h35, h9, h6, h7, h8, hH, hlt, hbyt, hw, e1, e2, rowParts, hr, hlen, htk]
    refine ⟨k, by omega, i + 1, by omega, by omega, g + 576, ⟨rfl, rfl⟩, ?_, by omega⟩
    simp [← hR, List.take_add_one, hg, wrs, Wr.row]

/-- A whole list is clipped. -/
theorem run_clipW {n : Nat} (hn : 1 ≤ n) (l : List Wr) (c : Option Nat) (s : Sup) :
    go n 53 [.w (.own 0 0 l.length c)] [.row none 3 (wrs l) 0] s = some ⟨.w (.own 0 0 l.length (some l.length)), [.row none 3 (wrs l) 0], []⟩ := by
  obtain ⟨n, rfl⟩ : ∃ k, n = k + 1 := ⟨n - 1, by omega⟩
  simp [go_of FT_53 rfl, F53]

theorem run_holdPlan {n : Nat} (r : Rom) (sa sb sd : Nat) (data : List Int) (hn : data.length + 4 ≤ n) (hl : data.length < 2 ^ 62) (s : Sup) :
    go n 11 [.agg (r.v sa sb), .w (dW sd data)] [] s = some ⟨.tup [(false, [wW 0 (if data.length ≤ 20100 then r.plan data else [])]), (false, [.d (.s (.bool (decide (data.length ≤ 20100))))])], [], []⟩ := by
  obtain ⟨n, rfl⟩ : ∃ k, n = k + 1 := ⟨n - 1, by omega⟩
  by_cases h : data.length ≤ 20100
  · have h' : (20100 < (data.length : Int)) = False := eq_false (by omega)
    have A := fun s => run_slotNow (n := n) (by omega) r.am r.at_ r.bm r.bt sa sb r.ra r.rb s
    have B := fun k s => run_slot_dd (n := n) (by omega) r.am r.at_ r.bm r.bt sa sb r.ra r.rb k s
    have w0 : IntKind.wrap .i64 0 = 0 := rfl
    have w1 : IntKind.wrap .i64 1 = 1 := rfl
    rcases slot_cases r with h0 | h0 | h0
    · have h0' : slotNow r.am r.at_ r.ra.length r.bm r.bt r.rb.length = 0 := h0
      have ht : r.to = 1 := by simp [Rom.to, h0]
      have hu : r.turn = next3 r.at_ := by simp [Rom.turn, h0]
      simp [go_of FT_11 rfl, F11, h, h', A, B, h0', rowParts, w0, w1]
      generalize hst : St.mk _ _ _ _ = st
      obtain ⟨e, ⟨τ, H, g, q⟩, hx, -, rfl, b, c, h9, hH, hb, h6, h7, h8⟩ := loop11 (n := n) [⟨1, 1, 0⟩, ⟨3, 1, 0⟩] (by simp) 1 data (by omega) h sd 1792 (some 2) st (by simp [← hst]) (by simp [← hst]) (by simp [← hst])
        (by simp [← hst]) (by simp [← hst, wrs, Wr.row]) (by simp [← hst]) (by simp [← hst]) (sV (.int .u8 (next3 r.at_))) (sV (.int .i64 (0))) (by simp [← hst, next3]) (by simp [← hst])
      clear hst
      simp only at h9 hH hb h6 h7 h8
      have e1 : ∀ k, (b = g + k) = False := fun k => eq_false (by omega)
      have e2 : ∀ k, (g + k = b) = False := fun k => eq_false (by omega)
      simp only [List.length_cons, List.length_nil, Nat.zero_add, Nat.reduceAdd] at h9
      have hlen : (wrs ([⟨1, 1, 0⟩, ⟨3, 1, 0⟩] ++ data.map fun x => (⟨4, 1, x⟩ : Wr))).length = 2 + data.length := by simp; omega
      have htk : List.take (2 + data.length) (wrs ([⟨1, 1, 0⟩, ⟨3, 1, 0⟩] ++ data.map fun x => (⟨4, 1, x⟩ : Wr))) = wrs ([⟨1, 1, 0⟩, ⟨3, 1, 0⟩] ++ data.map fun x => (⟨4, 1, x⟩ : Wr)) := by rw [← hlen, List.take_length]
      have hP : wrs (r.plan data) = wrs ([⟨1, 1, 0⟩, ⟨3, 1, 0⟩] ++ data.map fun x => (⟨4, 1, x⟩ : Wr)) ++ wrs ([⟨2, 1, next3 r.at_⟩, ⟨1, 1, 165⟩] ++ [⟨1, 0, 0⟩]) := by
        rw [← wrs_append]; unfold Rom.plan; rw [ht, hu, h0]; simp
      have hPl : (r.plan data).length = 2 + data.length + ([⟨2, 1, next3 r.at_⟩, ⟨1, 1, 165⟩] ++ [⟨1, 0, 0⟩] : List Wr).length := by rw [← wrs_length, hP, List.length_append, hlen, wrs_length]
      have hC := fun c s => run_clipW (n := n) (by omega) (r.plan data) c s
      rw [hPl, hP] at hC
      generalize wrs ([⟨1, 1, 0⟩, ⟨3, 1, 0⟩] ++ data.map fun x => (⟨4, 1, x⟩ : Wr)) = R at hlen htk hH hP hC
      show _ = some (⟨.tup [(false, [.d (.l 0 (wrs (r.plan data)))]), (false, [.d (.s (.bool true))])], [], []⟩ : Res)
      rw [hP]
      have ht2 : ∀ x y : List D, List.take (2 + (data.length + 2)) (R ++ [x, y]) = R ++ [x, y] := fun x y => List.take_of_length_le (by simp [hlen]; omega)
      have hr1 := room_24 (n := 2 + data.length + 2) (by omega)
      have hr2 := room_24 (n := 2 + data.length + 2 + 1) (by omega)
      simp [Nat.add_assoc] at hr1 hr2 hC
      simp [wrs, Wr.row] at hC
      simp [hx, h9, hH, h6, h7, h8, e1, e2, rowParts, hlen, htk, Nat.add_assoc, hr1, hr2, ht2, hC, w0, w1, wrs, Wr.row]
      exact List.take_of_length_le (by simp [hlen]; omega)
    · have h0' : slotNow r.am r.at_ r.ra.length r.bm r.bt r.rb.length = 1 := h0
      have ht : r.to = 0 := by simp [Rom.to, h0]
      have hu : r.turn = next3 r.bt := by simp [Rom.turn, h0]
      simp [go_of FT_11 rfl, F11, h, h', A, B, h0', rowParts, w0, w1]
      generalize hst : St.mk _ _ _ _ = st
      obtain ⟨e, ⟨τ, H, g, q⟩, hx, -, rfl, b, c, h9, hH, hb, h6, h7, h8⟩ := loop11 (n := n) [⟨1, 0, 0⟩, ⟨3, 0, 0⟩] (by simp) 0 data (by omega) h sd 1792 (some 2) st (by simp [← hst]) (by simp [← hst]) (by simp [← hst])
        (by simp [← hst]) (by simp [← hst, wrs, Wr.row]) (by simp [← hst]) (by simp [← hst]) (sV (.int .u8 (next3 r.bt))) (sV (.int .i64 (1))) (by simp [← hst, next3]) (by simp [← hst])
      clear hst
      simp only at h9 hH hb h6 h7 h8
      have e1 : ∀ k, (b = g + k) = False := fun k => eq_false (by omega)
      have e2 : ∀ k, (g + k = b) = False := fun k => eq_false (by omega)
      simp only [List.length_cons, List.length_nil, Nat.zero_add, Nat.reduceAdd] at h9
      have hlen : (wrs ([⟨1, 0, 0⟩, ⟨3, 0, 0⟩] ++ data.map fun x => (⟨4, 0, x⟩ : Wr))).length = 2 + data.length := by simp; omega
      have htk : List.take (2 + data.length) (wrs ([⟨1, 0, 0⟩, ⟨3, 0, 0⟩] ++ data.map fun x => (⟨4, 0, x⟩ : Wr))) = wrs ([⟨1, 0, 0⟩, ⟨3, 0, 0⟩] ++ data.map fun x => (⟨4, 0, x⟩ : Wr)) := by rw [← hlen, List.take_length]
      have hP : wrs (r.plan data) = wrs ([⟨1, 0, 0⟩, ⟨3, 0, 0⟩] ++ data.map fun x => (⟨4, 0, x⟩ : Wr)) ++ wrs ([⟨2, 0, next3 r.bt⟩, ⟨1, 0, 165⟩] ++ [⟨1, 1, 0⟩]) := by
        rw [← wrs_append]; unfold Rom.plan; rw [ht, hu, h0]; simp
      have hPl : (r.plan data).length = 2 + data.length + ([⟨2, 0, next3 r.bt⟩, ⟨1, 0, 165⟩] ++ [⟨1, 1, 0⟩] : List Wr).length := by rw [← wrs_length, hP, List.length_append, hlen, wrs_length]
      have hC := fun c s => run_clipW (n := n) (by omega) (r.plan data) c s
      rw [hPl, hP] at hC
      generalize wrs ([⟨1, 0, 0⟩, ⟨3, 0, 0⟩] ++ data.map fun x => (⟨4, 0, x⟩ : Wr)) = R at hlen htk hH hP hC
      show _ = some (⟨.tup [(false, [.d (.l 0 (wrs (r.plan data)))]), (false, [.d (.s (.bool true))])], [], []⟩ : Res)
      rw [hP]
      have ht2 : ∀ x y : List D, List.take (2 + (data.length + 2)) (R ++ [x, y]) = R ++ [x, y] := fun x y => List.take_of_length_le (by simp [hlen]; omega)
      have hr1 := room_24 (n := 2 + data.length + 2) (by omega)
      have hr2 := room_24 (n := 2 + data.length + 2 + 1) (by omega)
      simp [Nat.add_assoc] at hr1 hr2 hC
      simp [wrs, Wr.row] at hC
      simp [hx, h9, hH, h6, h7, h8, e1, e2, rowParts, hlen, htk, Nat.add_assoc, hr1, hr2, ht2, hC, w0, w1, wrs, Wr.row]
      exact List.take_of_length_le (by simp [hlen]; omega)
    · have h0' : slotNow r.am r.at_ r.ra.length r.bm r.bt r.rb.length = -1 := h0
      have ht : r.to = 0 := by simp [Rom.to, h0]
      have hu : r.turn = 0 := by simp [Rom.turn, h0]
      simp [go_of FT_11 rfl, F11, h, h', A, B, h0', rowParts, w0, w1]
      generalize hst : St.mk _ _ _ _ = st
      obtain ⟨e, ⟨τ, H, g, q⟩, hx, -, rfl, b, c, h9, hH, hb, h6, h7, h8⟩ := loop11 (n := n) [⟨1, 0, 0⟩, ⟨3, 0, 0⟩] (by simp) 0 data (by omega) h sd 1088 (some 2) st (by simp [← hst]) (by simp [← hst]) (by simp [← hst])
        (by simp [← hst]) (by simp [← hst, wrs, Wr.row]) (by simp [← hst]) (by simp [← hst]) (sV (.int .u8 (0))) (sV (.int .i64 (-1))) (by simp [← hst, next3]) (by simp [← hst])
      clear hst
      simp only at h9 hH hb h6 h7 h8
      have e1 : ∀ k, (b = g + k) = False := fun k => eq_false (by omega)
      have e2 : ∀ k, (g + k = b) = False := fun k => eq_false (by omega)
      simp only [List.length_cons, List.length_nil, Nat.zero_add, Nat.reduceAdd] at h9
      have hlen : (wrs ([⟨1, 0, 0⟩, ⟨3, 0, 0⟩] ++ data.map fun x => (⟨4, 0, x⟩ : Wr))).length = 2 + data.length := by simp; omega
      have htk : List.take (2 + data.length) (wrs ([⟨1, 0, 0⟩, ⟨3, 0, 0⟩] ++ data.map fun x => (⟨4, 0, x⟩ : Wr))) = wrs ([⟨1, 0, 0⟩, ⟨3, 0, 0⟩] ++ data.map fun x => (⟨4, 0, x⟩ : Wr)) := by rw [← hlen, List.take_length]
      have hP : wrs (r.plan data) = wrs ([⟨1, 0, 0⟩, ⟨3, 0, 0⟩] ++ data.map fun x => (⟨4, 0, x⟩ : Wr)) ++ wrs ([⟨2, 0, 0⟩, ⟨1, 0, 165⟩] ++ []) := by
        rw [← wrs_append]; unfold Rom.plan; rw [ht, hu, h0]; simp
      have hPl : (r.plan data).length = 2 + data.length + ([⟨2, 0, 0⟩, ⟨1, 0, 165⟩] ++ [] : List Wr).length := by rw [← wrs_length, hP, List.length_append, hlen, wrs_length]
      have hC := fun c s => run_clipW (n := n) (by omega) (r.plan data) c s
      rw [hPl, hP] at hC
      generalize wrs ([⟨1, 0, 0⟩, ⟨3, 0, 0⟩] ++ data.map fun x => (⟨4, 0, x⟩ : Wr)) = R at hlen htk hH hP hC
      show _ = some (⟨.tup [(false, [.d (.l 0 (wrs (r.plan data)))]), (false, [.d (.s (.bool true))])], [], []⟩ : Res)
      rw [hP]
      have ht2 : ∀ x y : List D, List.take (2 + (data.length + 2)) (R ++ [x, y]) = R ++ [x, y] := fun x y => List.take_of_length_le (by simp [hlen]; omega)
      have hr1 := room_24 (n := 2 + data.length + 2) (by omega)
      have hr2 := room_24 (n := 2 + data.length + 2 + 1) (by omega)
      simp [Nat.add_assoc] at hr1 hr2 hC
      simp [wrs, Wr.row] at hC
      simp [hx, h9, hH, h6, h7, h8, e1, e2, rowParts, hlen, htk, Nat.add_assoc, hr1, hr2, ht2, hC, w0, w1, wrs, Wr.row]
  · have h' : (20100 < (data.length : Int)) = True := eq_true (by omega)
    simp [go_of FT_11 rfl, F11, h, h', wrs]

end Go.VM
