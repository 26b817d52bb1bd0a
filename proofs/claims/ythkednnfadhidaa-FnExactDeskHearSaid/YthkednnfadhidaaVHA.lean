/- The store's small functions, reckoned. Conditions: none. -/
import Derived.Test.YthkednnfadhidaaVB1
import Derived.Test.YthkednnfadhidaaVD2

namespace Go.VM
set_option linter.unusedSimpArgs false
set_option maxHeartbeats 4000000

abbrev u8W (n : Int) : W := .d (.s (.int .u8 n))
abbrev dW (st : Nat) (l : List Int) : W := .d (.l st (byt l))
abbrev rowB (l : List Int) : Box := .row none 1 (byt l) 0
abbrev romV (am at_ : Int) (x : W) (bm bt : Int) (y : W) : List W := [u8W am, u8W at_, x, u8W bm, u8W bt, y]
abbrev ownW (b n : Nat) (c : Option Nat) : W := .own b 0 n c

theorem byt_all (l : List Int) : (∀ x ∈ byt l, x.length = 1) = True := eq_true (by simp [byt])
theorem byt_all' (l : List Int) : (byt l).all (fun r => r.length == 1) = true := by simp [byt]

def goodB (m t : Int) (n : Nat) : Bool := m == 165 && (decide (t ≤ 2) && decide (n ≤ 20100))

theorem run_good {n : Nat} (hn : 1 ≤ n) (m t : Int) (st : Nat) (rows : List (List D)) (s : Sup) :
    go n 84 [.agg [u8W m, u8W t, .d (.l st rows)]] [] s = some ⟨sV (.bool (goodB m t rows.length)), [], []⟩ := by
  obtain ⟨n, rfl⟩ : ∃ k, n = k + 1 := ⟨n - 1, by omega⟩
  unfold goodB
  by_cases h1 : m = 165 <;> by_cases h2 : t ≤ 2 <;>
  simp [go_of FT_84 rfl, F84, h1, h2] <;> omega

def slotNow (am at_ : Int) (an : Nat) (bm bt : Int) (bn : Nat) : Int :=
  if goodB am at_ an = true ∧ goodB bm bt bn = true ∧ bt = (IntKind.wrap .u8 (at_ + 1)).tmod 3 then 1 else if goodB am at_ an = true then 0 else if goodB bm bt bn = true then 1 else -1

theorem run_slotNow {n : Nat} (hn : 2 ≤ n) (am at_ bm bt : Int) (sa sb : Nat) (ra rb : List Int) (s : Sup) :
    go n 41 [.agg (romV am at_ (dW sa ra) bm bt (dW sb rb))] [] s = some ⟨sV (.int .i64 (slotNow am at_ ra.length bm bt rb.length)), [], []⟩ := by
  obtain ⟨n, rfl⟩ : ∃ k, n = k + 1 := ⟨n - 1, by omega⟩
  unfold slotNow
  have G := fun m t st rows s => run_good (n := n) (by omega) m t st rows s
  by_cases h : bt = (IntKind.wrap .u8 (at_ + 1)).tmod 3
  · have h3 := eq_true h
    clear h
    cases h1 : goodB am at_ ra.length <;> cases h2 : goodB bm bt rb.length <;>
    simp [go_of FT_41 rfl, F41, G, h1, h2, h3]
  · have h3 := eq_false h
    clear h
    cases h1 : goodB am at_ ra.length <;> cases h2 : goodB bm bt rb.length <;>
    simp [go_of FT_41 rfl, F41, G, h1, h2, h3]

/-- A copy is memory of its own. -/
theorem run_clone0 {n : Nat} (hn : 1 ≤ n) (st : Nat) (l : List Int) (h2 : room l.length 1 = true) (s : Sup) :
    go n 93 [.w (dW st l)] [] s = some ⟨.w (ownW 0 l.length none), [], [rowB l]⟩ := by
  obtain ⟨n, rfl⟩ : ∃ k, n = k + 1 := ⟨n - 1, by omega⟩
  rw [go_orc rfl]
  have := byt_all' l
  simp [ans, this, h2, byt_all]

theorem run_clip0 {n : Nat} (hn : 1 ≤ n) (l : List Int) (s : Sup) :
    go n 94 [.w (ownW 0 l.length none)] [rowB l] s = some ⟨.w (ownW 0 l.length (some l.length)), [rowB l], []⟩ := by
  obtain ⟨n, rfl⟩ : ∃ k, n = k + 1 := ⟨n - 1, by omega⟩
  simp [go_of FT_94 rfl, F94]

theorem run_clone {n : Nat} (hn : 2 ≤ n) (st : Nat) (l : List Int) (h2 : room l.length 1 = true) (s : Sup) :
    go n 56 [.w (dW st l)] [] s = some ⟨.w (ownW 0 l.length (some l.length)), [], [rowB l]⟩ := by
  obtain ⟨n, rfl⟩ : ∃ k, n = k + 1 := ⟨n - 1, by omega⟩
  have C := fun st s => run_clone0 (n := n) (by omega) st l h2 s
  have D := fun s => run_clip0 (n := n) (by omega) l s
  simp [go_of FT_56 rfl, F56, C, D]

theorem run_copyOf {n : Nat} (hn : 3 ≤ n) (am at_ bm bt : Int) (sa sb : Nat) (ra rb : List Int) (h1 : room ra.length 1 = true) (h2 : room rb.length 1 = true) (s : Sup) :
    go n 54 [.agg (romV am at_ (dW sa ra) bm bt (dW sb rb))] [] s =
      some ⟨.agg (romV am at_ (ownW 0 ra.length (some ra.length)) bm bt (ownW 1 rb.length (some rb.length))), [], [rowB ra, rowB rb]⟩ := by
  obtain ⟨n, rfl⟩ : ∃ k, n = k + 1 := ⟨n - 1, by omega⟩
  have C := fun st s => run_clone (n := n) (by omega) st ra h1 s
  have D := fun st s => run_clone (n := n) (by omega) st rb h2 s
  simp [go_of FT_54 rfl, F54, C, D]

theorem run_slot_dd {n : Nat} (hn : 1 ≤ n) (am at_ bm bt : Int) (sa sb : Nat) (ra rb : List Int) (k : Int) (s : Sup) :
    go n 52 [.w (.ptr 0 0), .w (.d (.s (.int .i64 k)))] [.cells (romV am at_ (dW sa ra) bm bt (dW sb rb))] s =
      some ⟨.w (if k = 0 then .ptr 0 0 else if k = 1 then .ptr 0 3 else .d (.s (.pointer none))), [.cells (romV am at_ (dW sa ra) bm bt (dW sb rb))], []⟩ := by
  obtain ⟨n, rfl⟩ : ∃ k, n = k + 1 := ⟨n - 1, by omega⟩
  by_cases h0 : k = 0
  · simp [go_of FT_52 rfl, F52, h0]
  · by_cases h1 : k = 1
    · simp [go_of FT_52 rfl, F52, h0, h1]
    · simp [go_of FT_52 rfl, F52, h0, h1]

/-- What a store holds. -/
def holdNow (am at_ : Int) (ra : List Int) (bm bt : Int) (rb : List Int) : List Int × Bool :=
  if slotNow am at_ ra.length bm bt rb.length = 0 then (ra, true) else if slotNow am at_ ra.length bm bt rb.length = 1 then (rb, true) else ([], false)

theorem run_holdNow {n : Nat} (hn : 3 ≤ n) (am at_ bm bt : Int) (sa sb : Nat) (ra rb : List Int) (h1 : room ra.length 1 = true) (h2 : room rb.length 1 = true) (s : Sup) :
    go n 13 [.agg (romV am at_ (dW sa ra) bm bt (dW sb rb))] [] s =
      some ⟨.tup [(false, [dW 0 (holdNow am at_ ra bm bt rb).1]), (false, [.d (.s (.bool (holdNow am at_ ra bm bt rb).2))])], [], []⟩ := by
  obtain ⟨n, rfl⟩ : ∃ k, n = k + 1 := ⟨n - 1, by omega⟩
  have A := fun s => run_slotNow (n := n) (by omega) am at_ bm bt sa sb ra rb s
  have B := fun k s => run_slot_dd (n := n) (by omega) am at_ bm bt sa sb ra rb k s
  have C := fun st s => run_clone (n := n) (by omega) st ra h1 s
  have D := fun st s => run_clone (n := n) (by omega) st rb h2 s
  unfold holdNow
  by_cases h0 : slotNow am at_ ra.length bm bt rb.length = 0
  · simp [go_of FT_13 rfl, F13, A, B, C, D, h0]
  · by_cases h1 : slotNow am at_ ra.length bm bt rb.length = 1
    · simp [go_of FT_13 rfl, F13, A, B, C, D, h0, h1]
    · simp [go_of FT_13 rfl, F13, A, B, C, D, h0, h1]
      rfl

end Go.VM

/- The store's plan, reckoned. Conditions: none. -/
namespace Go.VM
set_option linter.unusedSimpArgs false
set_option maxHeartbeats 4000000

/-- A write: its kind, its slot, its byte. -/
structure Wr where
  k : Int
  s : Int
  v : Int

def Wr.row (w : Wr) : List D := [.s (.int .i64 w.k), .s (.int .i64 w.s), .s (.int .u8 w.v)]
def wrs (l : List Wr) : List (List D) := l.map Wr.row
@[simp] theorem wrs_length (l : List Wr) : (wrs l).length = l.length := by simp [wrs]
@[simp] theorem take_wrs (l : List Wr) : List.take l.length (wrs l) = wrs l := by rw [← wrs_length l, List.take_length]
@[simp] theorem wrs_append (l m : List Wr) : wrs (l ++ m) = wrs l ++ wrs m := by simp [wrs]
theorem wrs_all (l : List Wr) : (∀ x ∈ wrs l, x.length = 3) = True := eq_true (by simp [wrs, Wr.row])
abbrev wW (st : Nat) (l : List Wr) : W := .d (.l st (wrs l))

structure Rom where
  am : Int
  at_ : Int
  ra : List Int
  bm : Int
  bt : Int
  rb : List Int

abbrev Rom.v (r : Rom) (sa sb : Nat) : List W := romV r.am r.at_ (dW sa r.ra) r.bm r.bt (dW sb r.rb)
def Rom.slot (r : Rom) : Int := slotNow r.am r.at_ r.ra.length r.bm r.bt r.rb.length
def next3 (t : Int) : Int := (IntKind.wrap .u8 (t + 1)).tmod 3
def Rom.to (r : Rom) : Int := if r.slot = 0 then 1 else 0
def Rom.turn (r : Rom) : Int := if r.slot = 0 then next3 r.at_ else if r.slot = 1 then next3 r.bt else 0
def Rom.plan (r : Rom) (data : List Int) : List Wr :=
  [⟨1, r.to, 0⟩, ⟨3, r.to, 0⟩] ++ data.map (fun x => ⟨4, r.to, x⟩) ++ [⟨2, r.to, r.turn⟩, ⟨1, r.to, 165⟩] ++ (if 0 ≤ r.slot then [⟨1, r.slot, 0⟩] else [])

theorem slot_cases (r : Rom) : r.slot = 0 ∨ r.slot = 1 ∨ r.slot = -1 := by
  unfold Rom.slot slotNow; split
  · exact .inr (.inl rfl)
  · split
    · exact .inl rfl
    · split
      · exact .inr (.inl rfl)
      · exact .inr (.inr rfl)

theorem room_24 {n : Nat} (h : n ≤ 2 ^ 20) : room n 24 = true := by simp [room]; omega

theorem loop11 {n : Nat} (pre : List Wr) (hp : pre.length ≤ 10) (to : Int) (data : List Int) (hn : data.length < n) (hl : data.length ≤ 20100) (sd b : Nat) (c : Option Nat) (st : St) (h33 : st.τ 33 = .w (dW sd data)) (h34 : st.τ 34 = sV (.int .i64 data.length)) (h35 : st.τ 35 = sV (.int .i64 0))
    (h9 : st.τ 9 = .w (.own b 0 pre.length c)) (hH : st.H b = .row none 3 (wrs pre) 0) (hb : b < st.g) (h6 : st.τ 6 = sV (.int .i64 to)) (v7 v8 : V) (h7 : st.τ 7 = v7) (h8 : st.τ 8 = v8) :
    ∃ e st', execC (go n) mode (fun _ => none) false 63 n F11_L0 st = some (e, st') ∧ e ≠ .normal ∧ (e = .exit 0 ∧ ∃ b c, st'.τ 9 = .w (.own b 0 (pre.length + data.length) c) ∧ st'.H b = .row none 3 (wrs (pre ++ data.map fun x => ⟨4, to, x⟩)) 0 ∧ b < st'.g ∧
      st'.τ 6 = sV (.int .i64 to) ∧ st'.τ 7 = v7 ∧ st'.τ 8 = v8) := by
  rw [F11_L0, execC_loop]
  refine iter_rule (fun k st => ∃ i b c, i + k = data.length ∧ st.τ 33 = .w (dW sd data) ∧ st.τ 34 = sV (.int .i64 data.length) ∧ st.τ 35 = sV (.int .i64 i) ∧ st.τ 9 = .w (.own b 0 (pre.length + i) c) ∧
    st.H b = .row none 3 (wrs (pre ++ (data.take i).map fun x => ⟨4, to, x⟩)) 0 ∧ b < st.g ∧ st.τ 6 = sV (.int .i64 to) ∧ st.τ 7 = v7 ∧ st.τ 8 = v8) ?_ n data.length st hn
    ⟨0, b, c, by omega, h33, h34, by simpa using h35, by simpa using h9, by simpa using hH, hb, h6, h7, h8⟩
  rintro k ⟨τ, H, g, s⟩ ⟨i, b, c, hk, h33, h34, h35, h9, hH, hb, h6, h7, h8⟩
  simp only at h33 h34 h35 h9 hH hb h6 h7 h8
  cases k with
  | zero =>
    have : i = data.length := by omega
    subst this
    refine ⟨.exit 0, ?_⟩
    simp only [List.take_length] at hH
    simp [F11_B0, h33, h34, h35, h9, h6, h7, h8]
    exact ⟨by simpa using hH, by omega⟩
  | succ k =>
    have hlt : i < data.length := by omega
    have hg := List.getElem?_eq_getElem hlt
    have hbyt := byt_get hg
    have hw := wrap_succ (i := i) (by omega)
    refine ⟨.normal, ?_⟩
    have e1 : ∀ k, (b = g + k) = False := fun k => eq_false (by omega)
    have e2 : ∀ k, (g + k = b) = False := fun k => eq_false (by omega)
    have hr : room (pre.length + (i + 1)) 24 = true := room_24 (by omega)
    have hlen : (wrs (pre ++ (data.take i).map fun x => (⟨4, to, x⟩ : Wr))).length = pre.length + i := by simp; omega
    have htk : List.take (pre.length + i) (wrs (pre ++ (data.take i).map fun x => (⟨4, to, x⟩ : Wr))) = wrs (pre ++ (data.take i).map fun x => (⟨4, to, x⟩ : Wr)) := by rw [← hlen, List.take_length]
    generalize hR : wrs (pre ++ (data.take i).map fun x => (⟨4, to, x⟩ : Wr)) = R at hlen htk hH
    simp [-getElem?_pos, Nat.add_assoc, F11_B0, h33, h34, h35, h9, h6, h7, h8, hH, hlt, hbyt, hw, e1, e2, rowParts, hr, hlen, htk]
    refine ⟨k, by omega, i + 1, by omega, by omega, g + 576, ⟨rfl, rfl⟩, ?_, by omega⟩
    simp [← hR, List.take_add_one, hg, wrs, Wr.row]

/-- A whole list is clipped. -/
theorem run_clipW {n : Nat} (hn : 1 ≤ n) (l : List Wr) (c : Option Nat) (s : Sup) :
    go n 53 [.w (.own 0 0 l.length c)] [.row none 3 (wrs l) 0] s = some ⟨.w (.own 0 0 l.length (some l.length)), [.row none 3 (wrs l) 0], []⟩ := by
  obtain ⟨n, rfl⟩ : ∃ k, n = k + 1 := ⟨n - 1, by omega⟩
  simp [go_of FT_53 rfl, F53]

theorem run_holdPlan {n : Nat} (r : Rom) (sa sb sd : Nat) (data : List Int) (hn : data.length + 4 ≤ n) (hl : data.length < 2 ^ 62) (s : Sup) :
    go n 11 [.agg (r.v sa sb), .w (dW sd data)] [] s = some ⟨.tup [(false, [wW 0 (if data.length ≤ 20100 then r.plan data else [])]), (false, [.d (.s (.bool (decide (data.length ≤ 20100))))])], [], []⟩ := by
  obtain ⟨n, rfl⟩ : ∃ k, n = k + 1 := ⟨n - 1, by omega⟩
  by_cases h : data.length ≤ 20100
  · have h' : (20100 < (data.length : Int)) = False := eq_false (by omega)
    have A := fun s => run_slotNow (n := n) (by omega) r.am r.at_ r.bm r.bt sa sb r.ra r.rb s
    have B := fun k s => run_slot_dd (n := n) (by omega) r.am r.at_ r.bm r.bt sa sb r.ra r.rb k s
    have w0 : IntKind.wrap .i64 0 = 0 := rfl
    have w1 : IntKind.wrap .i64 1 = 1 := rfl
    rcases slot_cases r with h0 | h0 | h0
    · have h0' : slotNow r.am r.at_ r.ra.length r.bm r.bt r.rb.length = 0 := h0
      have ht : r.to = 1 := by simp [Rom.to, h0]
      have hu : r.turn = next3 r.at_ := by simp [Rom.turn, h0]
      simp [go_of FT_11 rfl, F11, h, h', A, B, h0', rowParts, w0, w1]
      generalize hst : St.mk _ _ _ _ = st
      obtain ⟨e, ⟨τ, H, g, q⟩, hx, -, rfl, b, c, h9, hH, hb, h6, h7, h8⟩ := loop11 (n := n) [⟨1, 1, 0⟩, ⟨3, 1, 0⟩] (by simp) 1 data (by omega) h sd 1792 (some 2) st (by simp [← hst]) (by simp [← hst]) (by simp [← hst])
        (by simp [← hst]) (by simp [← hst, wrs, Wr.row]) (by simp [← hst]) (by simp [← hst]) (sV (.int .u8 (next3 r.at_))) (sV (.int .i64 (0))) (by simp [← hst, next3]) (by simp [← hst])
      clear hst
      simp only at h9 hH hb h6 h7 h8
      have e1 : ∀ k, (b = g + k) = False := fun k => eq_false (by omega)
      have e2 : ∀ k, (g + k = b) = False := fun k => eq_false (by omega)
      simp only [List.length_cons, List.length_nil, Nat.zero_add, Nat.reduceAdd] at h9
      have hlen : (wrs ([⟨1, 1, 0⟩, ⟨3, 1, 0⟩] ++ data.map fun x => (⟨4, 1, x⟩ : Wr))).length = 2 + data.length := by simp; omega
      have htk : List.take (2 + data.length) (wrs ([⟨1, 1, 0⟩, ⟨3, 1, 0⟩] ++ data.map fun x => (⟨4, 1, x⟩ : Wr))) = wrs ([⟨1, 1, 0⟩, ⟨3, 1, 0⟩] ++ data.map fun x => (⟨4, 1, x⟩ : Wr)) := by rw [← hlen, List.take_length]
      have hP : wrs (r.plan data) = wrs ([⟨1, 1, 0⟩, ⟨3, 1, 0⟩] ++ data.map fun x => (⟨4, 1, x⟩ : Wr)) ++ wrs ([⟨2, 1, next3 r.at_⟩, ⟨1, 1, 165⟩] ++ [⟨1, 0, 0⟩]) := by
        rw [← wrs_append]; unfold Rom.plan; rw [ht, hu, h0]; simp
      have hPl : (r.plan data).length = 2 + data.length + ([⟨2, 1, next3 r.at_⟩, ⟨1, 1, 165⟩] ++ [⟨1, 0, 0⟩] : List Wr).length := by rw [← wrs_length, hP, List.length_append, hlen, wrs_length]
      have hC := fun c s => run_clipW (n := n) (by omega) (r.plan data) c s
      rw [hPl, hP] at hC
      generalize wrs ([⟨1, 1, 0⟩, ⟨3, 1, 0⟩] ++ data.map fun x => (⟨4, 1, x⟩ : Wr)) = R at hlen htk hH hP hC
      show _ = some (⟨.tup [(false, [.d (.l 0 (wrs (r.plan data)))]), (false, [.d (.s (.bool true))])], [], []⟩ : Res)
      rw [hP]
      have ht2 : ∀ x y : List D, List.take (2 + (data.length + 2)) (R ++ [x, y]) = R ++ [x, y] := fun x y => List.take_of_length_le (by simp [hlen]; omega)
      have hr1 := room_24 (n := 2 + data.length + 2) (by omega)
      have hr2 := room_24 (n := 2 + data.length + 2 + 1) (by omega)
      simp [Nat.add_assoc] at hr1 hr2 hC
      simp [wrs, Wr.row] at hC
      simp [hx, h9, hH, h6, h7, h8, e1, e2, rowParts, hlen, htk, Nat.add_assoc, hr1, hr2, ht2, hC, w0, w1, wrs, Wr.row]
      exact List.take_of_length_le (by simp [hlen]; omega)
    · have h0' : slotNow r.am r.at_ r.ra.length r.bm r.bt r.rb.length = 1 := h0
      have ht : r.to = 0 := by simp [Rom.to, h0]
      have hu : r.turn = next3 r.bt := by simp [Rom.turn, h0]
      simp [go_of FT_11 rfl, F11, h, h', A, B, h0', rowParts, w0, w1]
      generalize hst : St.mk _ _ _ _ = st
      obtain ⟨e, ⟨τ, H, g, q⟩, hx, -, rfl, b, c, h9, hH, hb, h6, h7, h8⟩ := loop11 (n := n) [⟨1, 0, 0⟩, ⟨3, 0, 0⟩] (by simp) 0 data (by omega) h sd 1792 (some 2) st (by simp [← hst]) (by simp [← hst]) (by simp [← hst])
        (by simp [← hst]) (by simp [← hst, wrs, Wr.row]) (by simp [← hst]) (by simp [← hst]) (sV (.int .u8 (next3 r.bt))) (sV (.int .i64 (1))) (by simp [← hst, next3]) (by simp [← hst])
      clear hst
      simp only at h9 hH hb h6 h7 h8
      have e1 : ∀ k, (b = g + k) = False := fun k => eq_false (by omega)
      have e2 : ∀ k, (g + k = b) = False := fun k => eq_false (by omega)
      simp only [List.length_cons, List.length_nil, Nat.zero_add, Nat.reduceAdd] at h9
      have hlen : (wrs ([⟨1, 0, 0⟩, ⟨3, 0, 0⟩] ++ data.map fun x => (⟨4, 0, x⟩ : Wr))).length = 2 + data.length := by simp; omega
      have htk : List.take (2 + data.length) (wrs ([⟨1, 0, 0⟩, ⟨3, 0, 0⟩] ++ data.map fun x => (⟨4, 0, x⟩ : Wr))) = wrs ([⟨1, 0, 0⟩, ⟨3, 0, 0⟩] ++ data.map fun x => (⟨4, 0, x⟩ : Wr)) := by rw [← hlen, List.take_length]
      have hP : wrs (r.plan data) = wrs ([⟨1, 0, 0⟩, ⟨3, 0, 0⟩] ++ data.map fun x => (⟨4, 0, x⟩ : Wr)) ++ wrs ([⟨2, 0, next3 r.bt⟩, ⟨1, 0, 165⟩] ++ [⟨1, 1, 0⟩]) := by
        rw [← wrs_append]; unfold Rom.plan; rw [ht, hu, h0]; simp
      have hPl : (r.plan data).length = 2 + data.length + ([⟨2, 0, next3 r.bt⟩, ⟨1, 0, 165⟩] ++ [⟨1, 1, 0⟩] : List Wr).length := by rw [← wrs_length, hP, List.length_append, hlen, wrs_length]
      have hC := fun c s => run_clipW (n := n) (by omega) (r.plan data) c s
      rw [hPl, hP] at hC
      generalize wrs ([⟨1, 0, 0⟩, ⟨3, 0, 0⟩] ++ data.map fun x => (⟨4, 0, x⟩ : Wr)) = R at hlen htk hH hP hC
      show _ = some (⟨.tup [(false, [.d (.l 0 (wrs (r.plan data)))]), (false, [.d (.s (.bool true))])], [], []⟩ : Res)
      rw [hP]
      have ht2 : ∀ x y : List D, List.take (2 + (data.length + 2)) (R ++ [x, y]) = R ++ [x, y] := fun x y => List.take_of_length_le (by simp [hlen]; omega)
      have hr1 := room_24 (n := 2 + data.length + 2) (by omega)
      have hr2 := room_24 (n := 2 + data.length + 2 + 1) (by omega)
      simp [Nat.add_assoc] at hr1 hr2 hC
      simp [wrs, Wr.row] at hC
      simp [hx, h9, hH, h6, h7, h8, e1, e2, rowParts, hlen, htk, Nat.add_assoc, hr1, hr2, ht2, hC, w0, w1, wrs, Wr.row]
      exact List.take_of_length_le (by simp [hlen]; omega)
    · have h0' : slotNow r.am r.at_ r.ra.length r.bm r.bt r.rb.length = -1 := h0
      have ht : r.to = 0 := by simp [Rom.to, h0]
      have hu : r.turn = 0 := by simp [Rom.turn, h0]
      simp [go_of FT_11 rfl, F11, h, h', A, B, h0', rowParts, w0, w1]
      generalize hst : St.mk _ _ _ _ = st
      obtain ⟨e, ⟨τ, H, g, q⟩, hx, -, rfl, b, c, h9, hH, hb, h6, h7, h8⟩ := loop11 (n := n) [⟨1, 0, 0⟩, ⟨3, 0, 0⟩] (by simp) 0 data (by omega) h sd 1088 (some 2) st (by simp [← hst]) (by simp [← hst]) (by simp [← hst])
        (by simp [← hst]) (by simp [← hst, wrs, Wr.row]) (by simp [← hst]) (by simp [← hst]) (sV (.int .u8 (0))) (sV (.int .i64 (-1))) (by simp [← hst, next3]) (by simp [← hst])
      clear hst
      simp only at h9 hH hb h6 h7 h8
      have e1 : ∀ k, (b = g + k) = False := fun k => eq_false (by omega)
      have e2 : ∀ k, (g + k = b) = False := fun k => eq_false (by omega)
      simp only [List.length_cons, List.length_nil, Nat.zero_add, Nat.reduceAdd] at h9
      have hlen : (wrs ([⟨1, 0, 0⟩, ⟨3, 0, 0⟩] ++ data.map fun x => (⟨4, 0, x⟩ : Wr))).length = 2 + data.length := by simp; omega
      have htk : List.take (2 + data.length) (wrs ([⟨1, 0, 0⟩, ⟨3, 0, 0⟩] ++ data.map fun x => (⟨4, 0, x⟩ : Wr))) = wrs ([⟨1, 0, 0⟩, ⟨3, 0, 0⟩] ++ data.map fun x => (⟨4, 0, x⟩ : Wr)) := by rw [← hlen, List.take_length]
      have hP : wrs (r.plan data) = wrs ([⟨1, 0, 0⟩, ⟨3, 0, 0⟩] ++ data.map fun x => (⟨4, 0, x⟩ : Wr)) ++ wrs ([⟨2, 0, 0⟩, ⟨1, 0, 165⟩] ++ []) := by
        rw [← wrs_append]; unfold Rom.plan; rw [ht, hu, h0]; simp
      have hPl : (r.plan data).length = 2 + data.length + ([⟨2, 0, 0⟩, ⟨1, 0, 165⟩] ++ [] : List Wr).length := by rw [← wrs_length, hP, List.length_append, hlen, wrs_length]
      have hC := fun c s => run_clipW (n := n) (by omega) (r.plan data) c s
      rw [hPl, hP] at hC
      generalize wrs ([⟨1, 0, 0⟩, ⟨3, 0, 0⟩] ++ data.map fun x => (⟨4, 0, x⟩ : Wr)) = R at hlen htk hH hP hC
      show _ = some (⟨.tup [(false, [.d (.l 0 (wrs (r.plan data)))]), (false, [.d (.s (.bool true))])], [], []⟩ : Res)
      rw [hP]
      have ht2 : ∀ x y : List D, List.take (2 + (data.length + 2)) (R ++ [x, y]) = R ++ [x, y] := fun x y => List.take_of_length_le (by simp [hlen]; omega)
      have hr1 := room_24 (n := 2 + data.length + 2) (by omega)
      have hr2 := room_24 (n := 2 + data.length + 2 + 1) (by omega)
      simp [Nat.add_assoc] at hr1 hr2 hC
      simp [wrs, Wr.row] at hC
      simp [hx, h9, hH, h6, h7, h8, e1, e2, rowParts, hlen, htk, Nat.add_assoc, hr1, hr2, ht2, hC, w0, w1, wrs, Wr.row]
  · have h' : (20100 < (data.length : Int)) = True := eq_true (by omega)
    simp [go_of FT_11 rfl, F11, h, h', wrs]

end Go.VM

/- A write to a store, reckoned. Conditions: none. -/
namespace Go.VM
set_option linter.unusedSimpArgs false
set_option linter.unusedVariables false
set_option maxHeartbeats 4000000

/-- A store in a box, its bytes in rows of their own. -/
inductive RomAt (H : Nat → Box) (g b : Nat) (r : Rom) : Prop
  | nn (hb : b < g) (h : H b = .cells (romV r.am r.at_ .nil r.bm r.bt .nil)) (ha : r.ra = []) (hb' : r.rb = [])
  | on (p : Nat) (c : Option Nat) (hb : b < g) (hp : p < g) (hpb : p ≠ b) (h : H b = .cells (romV r.am r.at_ (ownW p r.ra.length c) r.bm r.bt .nil)) (hr : H p = rowB r.ra) (hb' : r.rb = [])
  | no (q : Nat) (d : Option Nat) (hb : b < g) (hq : q < g) (hqb : q ≠ b) (h : H b = .cells (romV r.am r.at_ .nil r.bm r.bt (ownW q r.rb.length d))) (hs : H q = rowB r.rb) (ha : r.ra = [])
  | oo (p : Nat) (c : Option Nat) (q : Nat) (d : Option Nat) (hb : b < g) (hp : p < g) (hpb : p ≠ b) (hq : q < g) (hqb : q ≠ b) (hpq : p ≠ q)
      (h : H b = .cells (romV r.am r.at_ (ownW p r.ra.length c) r.bm r.bt (ownW q r.rb.length d))) (hr : H p = rowB r.ra) (hs : H q = rowB r.rb)

theorem RomAt.upd {H : Nat → Box} {g b : Nat} {r : Rom} (h : RomAt H g b r) {m g' : Nat} (hm : g ≤ m) (hg : g ≤ g') (x : Box) : RomAt (VM.upd H m x) g' b r := by
  cases h with
  | nn hb h ha hb' => exact .nn (by omega) (by simp only [VM.upd]; rw [if_neg (by omega)]; exact h) ha hb'
  | on p c hb hp hpb h hr hb' => exact .on p c (by omega) (by omega) hpb (by simp only [VM.upd]; rw [if_neg (by omega)]; exact h) (by simp only [VM.upd]; rw [if_neg (by omega)]; exact hr) hb'
  | no q d hb hq hqb h hs ha => exact .no q d (by omega) (by omega) hqb (by simp only [VM.upd]; rw [if_neg (by omega)]; exact h) (by simp only [VM.upd]; rw [if_neg (by omega)]; exact hs) ha
  | oo p c q d hb hp hpb hq hqb hpq h hr hs =>
    exact .oo p c q d (by omega) (by omega) hpb (by omega) hqb hpq (by simp only [VM.upd]; rw [if_neg (by omega)]; exact h) (by simp only [VM.upd]; rw [if_neg (by omega)]; exact hr) (by simp only [VM.upd]; rw [if_neg (by omega)]; exact hs)

def Rom.doW (r : Rom) (w : Wr) : Rom :=
  if w.s = 0 then
    (if w.k = 1 then { r with am := w.v } else if w.k = 2 then { r with at_ := w.v } else if w.k = 3 then { r with ra := [] } else if w.k = 4 then (if r.ra.length < 20100 then { r with ra := r.ra ++ [w.v] } else r) else r)
  else if w.s = 1 then
    (if w.k = 1 then { r with bm := w.v } else if w.k = 2 then { r with bt := w.v } else if w.k = 3 then { r with rb := [] } else if w.k = 4 then (if r.rb.length < 20100 then { r with rb := r.rb ++ [w.v] } else r) else r)
  else r

/-- The other boxes of cells stay. -/
def Keeps (H H' : Nat → Box) (g b : Nat) : Prop := ∀ m cs, m < g → m ≠ b → H m = .cells cs → H' m = .cells cs

theorem room_1 {n : Nat} (h : n ≤ 20100) : room n 1 = true := by simp [room]; omega
theorem byt_app (l : List Int) (v : Int) : byt (l ++ [v]) = byt l ++ [[.s (.int .u8 v)]] := by simp [byt]
@[simp] theorem byt_nil : byt [] = [] := rfl
theorem byt_cons (x : Int) (l : List Int) : byt (x :: l) = [.s (.int .u8 x)] :: byt l := rfl

theorem write_nn_0 {n : Nat} {H : Nat → Box} {g b : Nat} {s : Sup} {am at_ bm bt : Int} {ra rb : List Int} {k sl v : Int} (hb : b < g) (h : H b = .cells (romV am at_ .nil bm bt .nil)) :
    ∃ e, callV (go (n + 2)) mode false H g s 55 [.w (.ptr b 0), .agg [.d (.s (.int .i64 k)), .d (.s (.int .i64 (0))), u8W v]] = some e ∧ RomAt e.H (g + 64) b (Rom.doW ⟨am, at_, [], bm, bt, []⟩ ⟨k, 0, v⟩) ∧ Keeps H e.H g b := by
  have nb3 : (b = g) = False := eq_false (by omega)
  have nb4 : (g = b) = False := eq_false (by omega)
  by_cases k1 : k = 1
  · subst k1
    simp [go_of FT_55 rfl, F55, go_of FT_52 rfl, F52, rowParts, Rom.doW, byt_app, byt_cons, byt_all, h, nb3, nb4]
    exact ⟨.nn (by omega) (by simp [nb3, nb4, h]) rfl rfl, fun m cs hm hmb hc => by
      have e1 : (m = g) = False := eq_false (by omega)
      have e2 : (m = b) = False := eq_false hmb
      simp [e1, e2, hc]⟩
  by_cases k2 : k = 2
  · subst k2
    simp [go_of FT_55 rfl, F55, go_of FT_52 rfl, F52, rowParts, Rom.doW, byt_app, byt_cons, byt_all, h, nb3, nb4]
    exact ⟨.nn (by omega) (by simp [nb3, nb4, h]) rfl rfl, fun m cs hm hmb hc => by
      have e1 : (m = g) = False := eq_false (by omega)
      have e2 : (m = b) = False := eq_false hmb
      simp [e1, e2, hc]⟩
  by_cases k3 : k = 3
  · subst k3
    simp [go_of FT_55 rfl, F55, go_of FT_52 rfl, F52, rowParts, Rom.doW, byt_app, byt_cons, byt_all, h, nb3, nb4]
    exact ⟨.nn (by omega) (by simp [nb3, nb4, h]) rfl rfl, fun m cs hm hmb hc => by
      have e1 : (m = g) = False := eq_false (by omega)
      have e2 : (m = b) = False := eq_false hmb
      simp [e1, e2, hc]⟩
  by_cases k4 : k = 4
  · subst k4
    have hm : room 1 1 = true := room_1 (by omega)
    simp [go_of FT_55 rfl, F55, go_of FT_52 rfl, F52, rowParts, Rom.doW, byt_app, byt_cons, byt_all, h, nb3, nb4, hm]
    exact ⟨.on g none (by omega) (by omega) (by omega) (by simp [nb3, nb4, h, byt_app, byt_cons]) (by simp [nb3, nb4, h, byt_app, byt_cons]) rfl, fun m cs hm hmb hc => by
      have e1 : (m = g) = False := eq_false (by omega)
      have e2 : (m = b) = False := eq_false hmb
      simp [e1, e2, hc]⟩
  simp [go_of FT_55 rfl, F55, go_of FT_52 rfl, F52, rowParts, Rom.doW, byt_app, byt_cons, byt_all, h, nb3, nb4, k1, k2, k3, k4]
  exact ⟨.nn (by omega) (by simp [nb3, nb4, h]) rfl rfl, fun m cs hm hmb hc => by
      have e1 : (m = g) = False := eq_false (by omega)
      have e2 : (m = b) = False := eq_false hmb
      simp [e1, e2, hc]⟩
theorem write_nn_1 {n : Nat} {H : Nat → Box} {g b : Nat} {s : Sup} {am at_ bm bt : Int} {ra rb : List Int} {k sl v : Int} (hb : b < g) (h : H b = .cells (romV am at_ .nil bm bt .nil)) :
    ∃ e, callV (go (n + 2)) mode false H g s 55 [.w (.ptr b 0), .agg [.d (.s (.int .i64 k)), .d (.s (.int .i64 (1))), u8W v]] = some e ∧ RomAt e.H (g + 64) b (Rom.doW ⟨am, at_, [], bm, bt, []⟩ ⟨k, 1, v⟩) ∧ Keeps H e.H g b := by
  have nb3 : (b = g) = False := eq_false (by omega)
  have nb4 : (g = b) = False := eq_false (by omega)
  by_cases k1 : k = 1
  · subst k1
    simp [go_of FT_55 rfl, F55, go_of FT_52 rfl, F52, rowParts, Rom.doW, byt_app, byt_cons, byt_all, h, nb3, nb4]
    exact ⟨.nn (by omega) (by simp [nb3, nb4, h]) rfl rfl, fun m cs hm hmb hc => by
      have e1 : (m = g) = False := eq_false (by omega)
      have e2 : (m = b) = False := eq_false hmb
      simp [e1, e2, hc]⟩
  by_cases k2 : k = 2
  · subst k2
    simp [go_of FT_55 rfl, F55, go_of FT_52 rfl, F52, rowParts, Rom.doW, byt_app, byt_cons, byt_all, h, nb3, nb4]
    exact ⟨.nn (by omega) (by simp [nb3, nb4, h]) rfl rfl, fun m cs hm hmb hc => by
      have e1 : (m = g) = False := eq_false (by omega)
      have e2 : (m = b) = False := eq_false hmb
      simp [e1, e2, hc]⟩
  by_cases k3 : k = 3
  · subst k3
    simp [go_of FT_55 rfl, F55, go_of FT_52 rfl, F52, rowParts, Rom.doW, byt_app, byt_cons, byt_all, h, nb3, nb4]
    exact ⟨.nn (by omega) (by simp [nb3, nb4, h]) rfl rfl, fun m cs hm hmb hc => by
      have e1 : (m = g) = False := eq_false (by omega)
      have e2 : (m = b) = False := eq_false hmb
      simp [e1, e2, hc]⟩
  by_cases k4 : k = 4
  · subst k4
    have hm : room 1 1 = true := room_1 (by omega)
    simp [go_of FT_55 rfl, F55, go_of FT_52 rfl, F52, rowParts, Rom.doW, byt_app, byt_cons, byt_all, h, nb3, nb4, hm]
    exact ⟨.no g none (by omega) (by omega) (by omega) (by simp [nb3, nb4, h, byt_app, byt_cons]) (by simp [nb3, nb4, h, byt_app, byt_cons]) rfl, fun m cs hm hmb hc => by
      have e1 : (m = g) = False := eq_false (by omega)
      have e2 : (m = b) = False := eq_false hmb
      simp [e1, e2, hc]⟩
  simp [go_of FT_55 rfl, F55, go_of FT_52 rfl, F52, rowParts, Rom.doW, byt_app, byt_cons, byt_all, h, nb3, nb4, k1, k2, k3, k4]
  exact ⟨.nn (by omega) (by simp [nb3, nb4, h]) rfl rfl, fun m cs hm hmb hc => by
      have e1 : (m = g) = False := eq_false (by omega)
      have e2 : (m = b) = False := eq_false hmb
      simp [e1, e2, hc]⟩
theorem write_nn_x {n : Nat} {H : Nat → Box} {g b : Nat} {s : Sup} {am at_ bm bt : Int} {ra rb : List Int} {k sl v : Int} (hb : b < g) (h : H b = .cells (romV am at_ .nil bm bt .nil)) (h0 : sl ≠ 0) (h1 : sl ≠ 1) :
    ∃ e, callV (go (n + 2)) mode false H g s 55 [.w (.ptr b 0), .agg [.d (.s (.int .i64 k)), .d (.s (.int .i64 (sl))), u8W v]] = some e ∧ RomAt e.H (g + 64) b (Rom.doW ⟨am, at_, [], bm, bt, []⟩ ⟨k, sl, v⟩) ∧ Keeps H e.H g b := by
  have nb3 : (b = g) = False := eq_false (by omega)
  have nb4 : (g = b) = False := eq_false (by omega)
  simp [go_of FT_55 rfl, F55, go_of FT_52 rfl, F52, rowParts, Rom.doW, byt_app, byt_cons, byt_all, h, nb3, nb4, h0, h1]
  exact ⟨.nn (by omega) (by simp [nb3, nb4, h]) rfl rfl, fun m cs hm hmb hc => by
      have e1 : (m = g) = False := eq_false (by omega)
      have e2 : (m = b) = False := eq_false hmb
      simp [e1, e2, hc]⟩

theorem write_on_0 {n : Nat} {H : Nat → Box} {g b : Nat} {s : Sup} {am at_ bm bt : Int} {ra rb : List Int} {k sl v : Int} {p : Nat} {c : Option Nat} (hb : b < g) (hp : p < g) (hpb : p ≠ b) (h : H b = .cells (romV am at_ (ownW p ra.length c) bm bt .nil)) (hr : H p = rowB ra) :
    ∃ e, callV (go (n + 2)) mode false H g s 55 [.w (.ptr b 0), .agg [.d (.s (.int .i64 k)), .d (.s (.int .i64 (0))), u8W v]] = some e ∧ RomAt e.H (g + 64) b (Rom.doW ⟨am, at_, ra, bm, bt, []⟩ ⟨k, 0, v⟩) ∧ Keeps H e.H g b := by
  have np1 : (p = b) = False := eq_false hpb
  have np2 : (b = p) = False := eq_false (Ne.symm hpb)
  have np3 : (p = g) = False := eq_false (by omega)
  have np4 : (g = p) = False := eq_false (by omega)
  have nb3 : (b = g) = False := eq_false (by omega)
  have nb4 : (g = b) = False := eq_false (by omega)
  by_cases k1 : k = 1
  · subst k1
    simp [go_of FT_55 rfl, F55, go_of FT_52 rfl, F52, rowParts, Rom.doW, byt_app, byt_cons, byt_all, h, hr, np1, np2, np3, np4, nb3, nb4]
    exact ⟨.on p c (by omega) (by omega) (by omega) (by simp [np1, np2, np3, np4, nb3, nb4, h, hr]) (by simp [np1, np2, np3, np4, nb3, nb4, h, hr]) rfl, fun m cs hm hmb hc => by
      have e1 : (m = g) = False := eq_false (by omega)
      have e2 : (m = b) = False := eq_false hmb
      have ep : (m = p) = False := eq_false (fun e => by subst e; rw [hr] at hc; cases hc)
      simp [e1, e2, hc, ep]⟩
  by_cases k2 : k = 2
  · subst k2
    simp [go_of FT_55 rfl, F55, go_of FT_52 rfl, F52, rowParts, Rom.doW, byt_app, byt_cons, byt_all, h, hr, np1, np2, np3, np4, nb3, nb4]
    exact ⟨.on p c (by omega) (by omega) (by omega) (by simp [np1, np2, np3, np4, nb3, nb4, h, hr]) (by simp [np1, np2, np3, np4, nb3, nb4, h, hr]) rfl, fun m cs hm hmb hc => by
      have e1 : (m = g) = False := eq_false (by omega)
      have e2 : (m = b) = False := eq_false hmb
      have ep : (m = p) = False := eq_false (fun e => by subst e; rw [hr] at hc; cases hc)
      simp [e1, e2, hc, ep]⟩
  by_cases k3 : k = 3
  · subst k3
    simp [go_of FT_55 rfl, F55, go_of FT_52 rfl, F52, rowParts, Rom.doW, byt_app, byt_cons, byt_all, h, hr, np1, np2, np3, np4, nb3, nb4]
    exact ⟨.nn (by omega) (by simp [np1, np2, np3, np4, nb3, nb4, h, hr]) rfl rfl, fun m cs hm hmb hc => by
      have e1 : (m = g) = False := eq_false (by omega)
      have e2 : (m = b) = False := eq_false hmb
      have ep : (m = p) = False := eq_false (fun e => by subst e; rw [hr] at hc; cases hc)
      simp [e1, e2, hc, ep]⟩
  by_cases k4 : k = 4
  · subst k4
    by_cases hl : ra.length < 20100
    · have hl2 : ((ra.length : Int) < 20100) = True := eq_true (by omega)
      have hm : room (ra.length + 1) 1 = true := room_1 (by omega)
      simp [go_of FT_55 rfl, F55, go_of FT_52 rfl, F52, rowParts, Rom.doW, byt_app, byt_cons, byt_all, h, hr, np1, np2, np3, np4, nb3, nb4, hl, hl2, hm]
      exact ⟨.on g none (by omega) (by omega) (by omega) (by simp [np1, np2, np3, np4, nb3, nb4, h, hr, byt_app, byt_cons]) (by simp [np1, np2, np3, np4, nb3, nb4, h, hr, byt_app, byt_cons]) rfl, fun m cs hm hmb hc => by
      have e1 : (m = g) = False := eq_false (by omega)
      have e2 : (m = b) = False := eq_false hmb
      have ep : (m = p) = False := eq_false (fun e => by subst e; rw [hr] at hc; cases hc)
      simp [e1, e2, hc, ep]⟩
    · have hl2 : ((ra.length : Int) < 20100) = False := eq_false (by omega)
      simp [go_of FT_55 rfl, F55, go_of FT_52 rfl, F52, rowParts, Rom.doW, byt_app, byt_cons, byt_all, h, hr, np1, np2, np3, np4, nb3, nb4, hl, hl2]
      exact ⟨.on p c (by omega) (by omega) (by omega) (by simp [np1, np2, np3, np4, nb3, nb4, h, hr]) (by simp [np1, np2, np3, np4, nb3, nb4, h, hr]) rfl, fun m cs hm hmb hc => by
      have e1 : (m = g) = False := eq_false (by omega)
      have e2 : (m = b) = False := eq_false hmb
      have ep : (m = p) = False := eq_false (fun e => by subst e; rw [hr] at hc; cases hc)
      simp [e1, e2, hc, ep]⟩
  simp [go_of FT_55 rfl, F55, go_of FT_52 rfl, F52, rowParts, Rom.doW, byt_app, byt_cons, byt_all, h, hr, np1, np2, np3, np4, nb3, nb4, k1, k2, k3, k4]
  exact ⟨.on p c (by omega) (by omega) (by omega) (by simp [np1, np2, np3, np4, nb3, nb4, h, hr]) (by simp [np1, np2, np3, np4, nb3, nb4, h, hr]) rfl, fun m cs hm hmb hc => by
      have e1 : (m = g) = False := eq_false (by omega)
      have e2 : (m = b) = False := eq_false hmb
      have ep : (m = p) = False := eq_false (fun e => by subst e; rw [hr] at hc; cases hc)
      simp [e1, e2, hc, ep]⟩
theorem write_on_1 {n : Nat} {H : Nat → Box} {g b : Nat} {s : Sup} {am at_ bm bt : Int} {ra rb : List Int} {k sl v : Int} {p : Nat} {c : Option Nat} (hb : b < g) (hp : p < g) (hpb : p ≠ b) (h : H b = .cells (romV am at_ (ownW p ra.length c) bm bt .nil)) (hr : H p = rowB ra) :
    ∃ e, callV (go (n + 2)) mode false H g s 55 [.w (.ptr b 0), .agg [.d (.s (.int .i64 k)), .d (.s (.int .i64 (1))), u8W v]] = some e ∧ RomAt e.H (g + 64) b (Rom.doW ⟨am, at_, ra, bm, bt, []⟩ ⟨k, 1, v⟩) ∧ Keeps H e.H g b := by
  have np1 : (p = b) = False := eq_false hpb
  have np2 : (b = p) = False := eq_false (Ne.symm hpb)
  have np3 : (p = g) = False := eq_false (by omega)
  have np4 : (g = p) = False := eq_false (by omega)
  have nb3 : (b = g) = False := eq_false (by omega)
  have nb4 : (g = b) = False := eq_false (by omega)
  by_cases k1 : k = 1
  · subst k1
    simp [go_of FT_55 rfl, F55, go_of FT_52 rfl, F52, rowParts, Rom.doW, byt_app, byt_cons, byt_all, h, hr, np1, np2, np3, np4, nb3, nb4]
    exact ⟨.on p c (by omega) (by omega) (by omega) (by simp [np1, np2, np3, np4, nb3, nb4, h, hr]) (by simp [np1, np2, np3, np4, nb3, nb4, h, hr]) rfl, fun m cs hm hmb hc => by
      have e1 : (m = g) = False := eq_false (by omega)
      have e2 : (m = b) = False := eq_false hmb
      have ep : (m = p) = False := eq_false (fun e => by subst e; rw [hr] at hc; cases hc)
      simp [e1, e2, hc, ep]⟩
  by_cases k2 : k = 2
  · subst k2
    simp [go_of FT_55 rfl, F55, go_of FT_52 rfl, F52, rowParts, Rom.doW, byt_app, byt_cons, byt_all, h, hr, np1, np2, np3, np4, nb3, nb4]
    exact ⟨.on p c (by omega) (by omega) (by omega) (by simp [np1, np2, np3, np4, nb3, nb4, h, hr]) (by simp [np1, np2, np3, np4, nb3, nb4, h, hr]) rfl, fun m cs hm hmb hc => by
      have e1 : (m = g) = False := eq_false (by omega)
      have e2 : (m = b) = False := eq_false hmb
      have ep : (m = p) = False := eq_false (fun e => by subst e; rw [hr] at hc; cases hc)
      simp [e1, e2, hc, ep]⟩
  by_cases k3 : k = 3
  · subst k3
    simp [go_of FT_55 rfl, F55, go_of FT_52 rfl, F52, rowParts, Rom.doW, byt_app, byt_cons, byt_all, h, hr, np1, np2, np3, np4, nb3, nb4]
    exact ⟨.on p c (by omega) (by omega) (by omega) (by simp [np1, np2, np3, np4, nb3, nb4, h, hr]) (by simp [np1, np2, np3, np4, nb3, nb4, h, hr]) rfl, fun m cs hm hmb hc => by
      have e1 : (m = g) = False := eq_false (by omega)
      have e2 : (m = b) = False := eq_false hmb
      have ep : (m = p) = False := eq_false (fun e => by subst e; rw [hr] at hc; cases hc)
      simp [e1, e2, hc, ep]⟩
  by_cases k4 : k = 4
  · subst k4
    have hm : room 1 1 = true := room_1 (by omega)
    simp [go_of FT_55 rfl, F55, go_of FT_52 rfl, F52, rowParts, Rom.doW, byt_app, byt_cons, byt_all, h, hr, np1, np2, np3, np4, nb3, nb4, hm]
    exact ⟨.oo p c g none (by omega) (by omega) (by omega) (by omega) (by omega) (by omega) (by simp [np1, np2, np3, np4, nb3, nb4, h, hr, byt_app, byt_cons]) (by simp [np1, np2, np3, np4, nb3, nb4, h, hr, byt_app, byt_cons]) (by simp [np1, np2, np3, np4, nb3, nb4, h, hr, byt_app, byt_cons]), fun m cs hm hmb hc => by
      have e1 : (m = g) = False := eq_false (by omega)
      have e2 : (m = b) = False := eq_false hmb
      have ep : (m = p) = False := eq_false (fun e => by subst e; rw [hr] at hc; cases hc)
      simp [e1, e2, hc, ep]⟩
  simp [go_of FT_55 rfl, F55, go_of FT_52 rfl, F52, rowParts, Rom.doW, byt_app, byt_cons, byt_all, h, hr, np1, np2, np3, np4, nb3, nb4, k1, k2, k3, k4]
  exact ⟨.on p c (by omega) (by omega) (by omega) (by simp [np1, np2, np3, np4, nb3, nb4, h, hr]) (by simp [np1, np2, np3, np4, nb3, nb4, h, hr]) rfl, fun m cs hm hmb hc => by
      have e1 : (m = g) = False := eq_false (by omega)
      have e2 : (m = b) = False := eq_false hmb
      have ep : (m = p) = False := eq_false (fun e => by subst e; rw [hr] at hc; cases hc)
      simp [e1, e2, hc, ep]⟩
theorem write_on_x {n : Nat} {H : Nat → Box} {g b : Nat} {s : Sup} {am at_ bm bt : Int} {ra rb : List Int} {k sl v : Int} {p : Nat} {c : Option Nat} (hb : b < g) (hp : p < g) (hpb : p ≠ b) (h : H b = .cells (romV am at_ (ownW p ra.length c) bm bt .nil)) (hr : H p = rowB ra) (h0 : sl ≠ 0) (h1 : sl ≠ 1) :
    ∃ e, callV (go (n + 2)) mode false H g s 55 [.w (.ptr b 0), .agg [.d (.s (.int .i64 k)), .d (.s (.int .i64 (sl))), u8W v]] = some e ∧ RomAt e.H (g + 64) b (Rom.doW ⟨am, at_, ra, bm, bt, []⟩ ⟨k, sl, v⟩) ∧ Keeps H e.H g b := by
  have np1 : (p = b) = False := eq_false hpb
  have np2 : (b = p) = False := eq_false (Ne.symm hpb)
  have np3 : (p = g) = False := eq_false (by omega)
  have np4 : (g = p) = False := eq_false (by omega)
  have nb3 : (b = g) = False := eq_false (by omega)
  have nb4 : (g = b) = False := eq_false (by omega)
  simp [go_of FT_55 rfl, F55, go_of FT_52 rfl, F52, rowParts, Rom.doW, byt_app, byt_cons, byt_all, h, hr, np1, np2, np3, np4, nb3, nb4, h0, h1]
  exact ⟨.on p c (by omega) (by omega) (by omega) (by simp [np1, np2, np3, np4, nb3, nb4, h, hr]) (by simp [np1, np2, np3, np4, nb3, nb4, h, hr]) rfl, fun m cs hm hmb hc => by
      have e1 : (m = g) = False := eq_false (by omega)
      have e2 : (m = b) = False := eq_false hmb
      have ep : (m = p) = False := eq_false (fun e => by subst e; rw [hr] at hc; cases hc)
      simp [e1, e2, hc, ep]⟩

theorem write_no_0 {n : Nat} {H : Nat → Box} {g b : Nat} {s : Sup} {am at_ bm bt : Int} {ra rb : List Int} {k sl v : Int} {q : Nat} {d : Option Nat} (hb : b < g) (hq : q < g) (hqb : q ≠ b) (h : H b = .cells (romV am at_ .nil bm bt (ownW q rb.length d))) (hs : H q = rowB rb) :
    ∃ e, callV (go (n + 2)) mode false H g s 55 [.w (.ptr b 0), .agg [.d (.s (.int .i64 k)), .d (.s (.int .i64 (0))), u8W v]] = some e ∧ RomAt e.H (g + 64) b (Rom.doW ⟨am, at_, [], bm, bt, rb⟩ ⟨k, 0, v⟩) ∧ Keeps H e.H g b := by
  have nq1 : (q = b) = False := eq_false hqb
  have nq2 : (b = q) = False := eq_false (Ne.symm hqb)
  have nq3 : (q = g) = False := eq_false (by omega)
  have nq4 : (g = q) = False := eq_false (by omega)
  have nb3 : (b = g) = False := eq_false (by omega)
  have nb4 : (g = b) = False := eq_false (by omega)
  by_cases k1 : k = 1
  · subst k1
    simp [go_of FT_55 rfl, F55, go_of FT_52 rfl, F52, rowParts, Rom.doW, byt_app, byt_cons, byt_all, h, hs, nq1, nq2, nq3, nq4, nb3, nb4]
    exact ⟨.no q d (by omega) (by omega) (by omega) (by simp [nq1, nq2, nq3, nq4, nb3, nb4, h, hs]) (by simp [nq1, nq2, nq3, nq4, nb3, nb4, h, hs]) rfl, fun m cs hm hmb hc => by
      have e1 : (m = g) = False := eq_false (by omega)
      have e2 : (m = b) = False := eq_false hmb
      have eq : (m = q) = False := eq_false (fun e => by subst e; rw [hs] at hc; cases hc)
      simp [e1, e2, hc, eq]⟩
  by_cases k2 : k = 2
  · subst k2
    simp [go_of FT_55 rfl, F55, go_of FT_52 rfl, F52, rowParts, Rom.doW, byt_app, byt_cons, byt_all, h, hs, nq1, nq2, nq3, nq4, nb3, nb4]
    exact ⟨.no q d (by omega) (by omega) (by omega) (by simp [nq1, nq2, nq3, nq4, nb3, nb4, h, hs]) (by simp [nq1, nq2, nq3, nq4, nb3, nb4, h, hs]) rfl, fun m cs hm hmb hc => by
      have e1 : (m = g) = False := eq_false (by omega)
      have e2 : (m = b) = False := eq_false hmb
      have eq : (m = q) = False := eq_false (fun e => by subst e; rw [hs] at hc; cases hc)
      simp [e1, e2, hc, eq]⟩
  by_cases k3 : k = 3
  · subst k3
    simp [go_of FT_55 rfl, F55, go_of FT_52 rfl, F52, rowParts, Rom.doW, byt_app, byt_cons, byt_all, h, hs, nq1, nq2, nq3, nq4, nb3, nb4]
    exact ⟨.no q d (by omega) (by omega) (by omega) (by simp [nq1, nq2, nq3, nq4, nb3, nb4, h, hs]) (by simp [nq1, nq2, nq3, nq4, nb3, nb4, h, hs]) rfl, fun m cs hm hmb hc => by
      have e1 : (m = g) = False := eq_false (by omega)
      have e2 : (m = b) = False := eq_false hmb
      have eq : (m = q) = False := eq_false (fun e => by subst e; rw [hs] at hc; cases hc)
      simp [e1, e2, hc, eq]⟩
  by_cases k4 : k = 4
  · subst k4
    have hm : room 1 1 = true := room_1 (by omega)
    simp [go_of FT_55 rfl, F55, go_of FT_52 rfl, F52, rowParts, Rom.doW, byt_app, byt_cons, byt_all, h, hs, nq1, nq2, nq3, nq4, nb3, nb4, hm]
    exact ⟨.oo g none q d (by omega) (by omega) (by omega) (by omega) (by omega) (by omega) (by simp [nq1, nq2, nq3, nq4, nb3, nb4, h, hs, byt_app, byt_cons]) (by simp [nq1, nq2, nq3, nq4, nb3, nb4, h, hs, byt_app, byt_cons]) (by simp [nq1, nq2, nq3, nq4, nb3, nb4, h, hs, byt_app, byt_cons]), fun m cs hm hmb hc => by
      have e1 : (m = g) = False := eq_false (by omega)
      have e2 : (m = b) = False := eq_false hmb
      have eq : (m = q) = False := eq_false (fun e => by subst e; rw [hs] at hc; cases hc)
      simp [e1, e2, hc, eq]⟩
  simp [go_of FT_55 rfl, F55, go_of FT_52 rfl, F52, rowParts, Rom.doW, byt_app, byt_cons, byt_all, h, hs, nq1, nq2, nq3, nq4, nb3, nb4, k1, k2, k3, k4]
  exact ⟨.no q d (by omega) (by omega) (by omega) (by simp [nq1, nq2, nq3, nq4, nb3, nb4, h, hs]) (by simp [nq1, nq2, nq3, nq4, nb3, nb4, h, hs]) rfl, fun m cs hm hmb hc => by
      have e1 : (m = g) = False := eq_false (by omega)
      have e2 : (m = b) = False := eq_false hmb
      have eq : (m = q) = False := eq_false (fun e => by subst e; rw [hs] at hc; cases hc)
      simp [e1, e2, hc, eq]⟩
theorem write_no_1 {n : Nat} {H : Nat → Box} {g b : Nat} {s : Sup} {am at_ bm bt : Int} {ra rb : List Int} {k sl v : Int} {q : Nat} {d : Option Nat} (hb : b < g) (hq : q < g) (hqb : q ≠ b) (h : H b = .cells (romV am at_ .nil bm bt (ownW q rb.length d))) (hs : H q = rowB rb) :
    ∃ e, callV (go (n + 2)) mode false H g s 55 [.w (.ptr b 0), .agg [.d (.s (.int .i64 k)), .d (.s (.int .i64 (1))), u8W v]] = some e ∧ RomAt e.H (g + 64) b (Rom.doW ⟨am, at_, [], bm, bt, rb⟩ ⟨k, 1, v⟩) ∧ Keeps H e.H g b := by
  have nq1 : (q = b) = False := eq_false hqb
  have nq2 : (b = q) = False := eq_false (Ne.symm hqb)
  have nq3 : (q = g) = False := eq_false (by omega)
  have nq4 : (g = q) = False := eq_false (by omega)
  have nb3 : (b = g) = False := eq_false (by omega)
  have nb4 : (g = b) = False := eq_false (by omega)
  by_cases k1 : k = 1
  · subst k1
    simp [go_of FT_55 rfl, F55, go_of FT_52 rfl, F52, rowParts, Rom.doW, byt_app, byt_cons, byt_all, h, hs, nq1, nq2, nq3, nq4, nb3, nb4]
    exact ⟨.no q d (by omega) (by omega) (by omega) (by simp [nq1, nq2, nq3, nq4, nb3, nb4, h, hs]) (by simp [nq1, nq2, nq3, nq4, nb3, nb4, h, hs]) rfl, fun m cs hm hmb hc => by
      have e1 : (m = g) = False := eq_false (by omega)
      have e2 : (m = b) = False := eq_false hmb
      have eq : (m = q) = False := eq_false (fun e => by subst e; rw [hs] at hc; cases hc)
      simp [e1, e2, hc, eq]⟩
  by_cases k2 : k = 2
  · subst k2
    simp [go_of FT_55 rfl, F55, go_of FT_52 rfl, F52, rowParts, Rom.doW, byt_app, byt_cons, byt_all, h, hs, nq1, nq2, nq3, nq4, nb3, nb4]
    exact ⟨.no q d (by omega) (by omega) (by omega) (by simp [nq1, nq2, nq3, nq4, nb3, nb4, h, hs]) (by simp [nq1, nq2, nq3, nq4, nb3, nb4, h, hs]) rfl, fun m cs hm hmb hc => by
      have e1 : (m = g) = False := eq_false (by omega)
      have e2 : (m = b) = False := eq_false hmb
      have eq : (m = q) = False := eq_false (fun e => by subst e; rw [hs] at hc; cases hc)
      simp [e1, e2, hc, eq]⟩
  by_cases k3 : k = 3
  · subst k3
    simp [go_of FT_55 rfl, F55, go_of FT_52 rfl, F52, rowParts, Rom.doW, byt_app, byt_cons, byt_all, h, hs, nq1, nq2, nq3, nq4, nb3, nb4]
    exact ⟨.nn (by omega) (by simp [nq1, nq2, nq3, nq4, nb3, nb4, h, hs]) rfl rfl, fun m cs hm hmb hc => by
      have e1 : (m = g) = False := eq_false (by omega)
      have e2 : (m = b) = False := eq_false hmb
      have eq : (m = q) = False := eq_false (fun e => by subst e; rw [hs] at hc; cases hc)
      simp [e1, e2, hc, eq]⟩
  by_cases k4 : k = 4
  · subst k4
    by_cases hl : rb.length < 20100
    · have hl2 : ((rb.length : Int) < 20100) = True := eq_true (by omega)
      have hm : room (rb.length + 1) 1 = true := room_1 (by omega)
      simp [go_of FT_55 rfl, F55, go_of FT_52 rfl, F52, rowParts, Rom.doW, byt_app, byt_cons, byt_all, h, hs, nq1, nq2, nq3, nq4, nb3, nb4, hl, hl2, hm]
      exact ⟨.no g none (by omega) (by omega) (by omega) (by simp [nq1, nq2, nq3, nq4, nb3, nb4, h, hs, byt_app, byt_cons]) (by simp [nq1, nq2, nq3, nq4, nb3, nb4, h, hs, byt_app, byt_cons]) rfl, fun m cs hm hmb hc => by
      have e1 : (m = g) = False := eq_false (by omega)
      have e2 : (m = b) = False := eq_false hmb
      have eq : (m = q) = False := eq_false (fun e => by subst e; rw [hs] at hc; cases hc)
      simp [e1, e2, hc, eq]⟩
    · have hl2 : ((rb.length : Int) < 20100) = False := eq_false (by omega)
      simp [go_of FT_55 rfl, F55, go_of FT_52 rfl, F52, rowParts, Rom.doW, byt_app, byt_cons, byt_all, h, hs, nq1, nq2, nq3, nq4, nb3, nb4, hl, hl2]
      exact ⟨.no q d (by omega) (by omega) (by omega) (by simp [nq1, nq2, nq3, nq4, nb3, nb4, h, hs]) (by simp [nq1, nq2, nq3, nq4, nb3, nb4, h, hs]) rfl, fun m cs hm hmb hc => by
      have e1 : (m = g) = False := eq_false (by omega)
      have e2 : (m = b) = False := eq_false hmb
      have eq : (m = q) = False := eq_false (fun e => by subst e; rw [hs] at hc; cases hc)
      simp [e1, e2, hc, eq]⟩
  simp [go_of FT_55 rfl, F55, go_of FT_52 rfl, F52, rowParts, Rom.doW, byt_app, byt_cons, byt_all, h, hs, nq1, nq2, nq3, nq4, nb3, nb4, k1, k2, k3, k4]
  exact ⟨.no q d (by omega) (by omega) (by omega) (by simp [nq1, nq2, nq3, nq4, nb3, nb4, h, hs]) (by simp [nq1, nq2, nq3, nq4, nb3, nb4, h, hs]) rfl, fun m cs hm hmb hc => by
      have e1 : (m = g) = False := eq_false (by omega)
      have e2 : (m = b) = False := eq_false hmb
      have eq : (m = q) = False := eq_false (fun e => by subst e; rw [hs] at hc; cases hc)
      simp [e1, e2, hc, eq]⟩
theorem write_no_x {n : Nat} {H : Nat → Box} {g b : Nat} {s : Sup} {am at_ bm bt : Int} {ra rb : List Int} {k sl v : Int} {q : Nat} {d : Option Nat} (hb : b < g) (hq : q < g) (hqb : q ≠ b) (h : H b = .cells (romV am at_ .nil bm bt (ownW q rb.length d))) (hs : H q = rowB rb) (h0 : sl ≠ 0) (h1 : sl ≠ 1) :
    ∃ e, callV (go (n + 2)) mode false H g s 55 [.w (.ptr b 0), .agg [.d (.s (.int .i64 k)), .d (.s (.int .i64 (sl))), u8W v]] = some e ∧ RomAt e.H (g + 64) b (Rom.doW ⟨am, at_, [], bm, bt, rb⟩ ⟨k, sl, v⟩) ∧ Keeps H e.H g b := by
  have nq1 : (q = b) = False := eq_false hqb
  have nq2 : (b = q) = False := eq_false (Ne.symm hqb)
  have nq3 : (q = g) = False := eq_false (by omega)
  have nq4 : (g = q) = False := eq_false (by omega)
  have nb3 : (b = g) = False := eq_false (by omega)
  have nb4 : (g = b) = False := eq_false (by omega)
  simp [go_of FT_55 rfl, F55, go_of FT_52 rfl, F52, rowParts, Rom.doW, byt_app, byt_cons, byt_all, h, hs, nq1, nq2, nq3, nq4, nb3, nb4, h0, h1]
  exact ⟨.no q d (by omega) (by omega) (by omega) (by simp [nq1, nq2, nq3, nq4, nb3, nb4, h, hs]) (by simp [nq1, nq2, nq3, nq4, nb3, nb4, h, hs]) rfl, fun m cs hm hmb hc => by
      have e1 : (m = g) = False := eq_false (by omega)
      have e2 : (m = b) = False := eq_false hmb
      have eq : (m = q) = False := eq_false (fun e => by subst e; rw [hs] at hc; cases hc)
      simp [e1, e2, hc, eq]⟩

theorem write_oo_0 {n : Nat} {H : Nat → Box} {g b : Nat} {s : Sup} {am at_ bm bt : Int} {ra rb : List Int} {k sl v : Int} {p : Nat} {c : Option Nat} {q : Nat} {d : Option Nat} (hb : b < g) (hp : p < g) (hpb : p ≠ b) (hq : q < g) (hqb : q ≠ b) (hpq : p ≠ q) (h : H b = .cells (romV am at_ (ownW p ra.length c) bm bt (ownW q rb.length d))) (hr : H p = rowB ra) (hs : H q = rowB rb) :
    ∃ e, callV (go (n + 2)) mode false H g s 55 [.w (.ptr b 0), .agg [.d (.s (.int .i64 k)), .d (.s (.int .i64 (0))), u8W v]] = some e ∧ RomAt e.H (g + 64) b (Rom.doW ⟨am, at_, ra, bm, bt, rb⟩ ⟨k, 0, v⟩) ∧ Keeps H e.H g b := by
  have np1 : (p = b) = False := eq_false hpb
  have np2 : (b = p) = False := eq_false (Ne.symm hpb)
  have np3 : (p = g) = False := eq_false (by omega)
  have np4 : (g = p) = False := eq_false (by omega)
  have nq1 : (q = b) = False := eq_false hqb
  have nq2 : (b = q) = False := eq_false (Ne.symm hqb)
  have nq3 : (q = g) = False := eq_false (by omega)
  have nq4 : (g = q) = False := eq_false (by omega)
  have n5 : (p = q) = False := eq_false hpq
  have n6 : (q = p) = False := eq_false (Ne.symm hpq)
  have nb3 : (b = g) = False := eq_false (by omega)
  have nb4 : (g = b) = False := eq_false (by omega)
  by_cases k1 : k = 1
  · subst k1
    simp [go_of FT_55 rfl, F55, go_of FT_52 rfl, F52, rowParts, Rom.doW, byt_app, byt_cons, byt_all, h, hr, hs, np1, np2, np3, np4, nq1, nq2, nq3, nq4, n5, n6, nb3, nb4]
    exact ⟨.oo p c q d (by omega) (by omega) (by omega) (by omega) (by omega) (by omega) (by simp [np1, np2, np3, np4, nq1, nq2, nq3, nq4, n5, n6, nb3, nb4, h, hr, hs]) (by simp [np1, np2, np3, np4, nq1, nq2, nq3, nq4, n5, n6, nb3, nb4, h, hr, hs]) (by simp [np1, np2, np3, np4, nq1, nq2, nq3, nq4, n5, n6, nb3, nb4, h, hr, hs]), fun m cs hm hmb hc => by
      have e1 : (m = g) = False := eq_false (by omega)
      have e2 : (m = b) = False := eq_false hmb
      have ep : (m = p) = False := eq_false (fun e => by subst e; rw [hr] at hc; cases hc)
      have eq : (m = q) = False := eq_false (fun e => by subst e; rw [hs] at hc; cases hc)
      simp [e1, e2, hc, ep, eq]⟩
  by_cases k2 : k = 2
  · subst k2
    simp [go_of FT_55 rfl, F55, go_of FT_52 rfl, F52, rowParts, Rom.doW, byt_app, byt_cons, byt_all, h, hr, hs, np1, np2, np3, np4, nq1, nq2, nq3, nq4, n5, n6, nb3, nb4]
    exact ⟨.oo p c q d (by omega) (by omega) (by omega) (by omega) (by omega) (by omega) (by simp [np1, np2, np3, np4, nq1, nq2, nq3, nq4, n5, n6, nb3, nb4, h, hr, hs]) (by simp [np1, np2, np3, np4, nq1, nq2, nq3, nq4, n5, n6, nb3, nb4, h, hr, hs]) (by simp [np1, np2, np3, np4, nq1, nq2, nq3, nq4, n5, n6, nb3, nb4, h, hr, hs]), fun m cs hm hmb hc => by
      have e1 : (m = g) = False := eq_false (by omega)
      have e2 : (m = b) = False := eq_false hmb
      have ep : (m = p) = False := eq_false (fun e => by subst e; rw [hr] at hc; cases hc)
      have eq : (m = q) = False := eq_false (fun e => by subst e; rw [hs] at hc; cases hc)
      simp [e1, e2, hc, ep, eq]⟩
  by_cases k3 : k = 3
  · subst k3
    simp [go_of FT_55 rfl, F55, go_of FT_52 rfl, F52, rowParts, Rom.doW, byt_app, byt_cons, byt_all, h, hr, hs, np1, np2, np3, np4, nq1, nq2, nq3, nq4, n5, n6, nb3, nb4]
    exact ⟨.no q d (by omega) (by omega) (by omega) (by simp [np1, np2, np3, np4, nq1, nq2, nq3, nq4, n5, n6, nb3, nb4, h, hr, hs]) (by simp [np1, np2, np3, np4, nq1, nq2, nq3, nq4, n5, n6, nb3, nb4, h, hr, hs]) rfl, fun m cs hm hmb hc => by
      have e1 : (m = g) = False := eq_false (by omega)
      have e2 : (m = b) = False := eq_false hmb
      have ep : (m = p) = False := eq_false (fun e => by subst e; rw [hr] at hc; cases hc)
      have eq : (m = q) = False := eq_false (fun e => by subst e; rw [hs] at hc; cases hc)
      simp [e1, e2, hc, ep, eq]⟩
  by_cases k4 : k = 4
  · subst k4
    by_cases hl : ra.length < 20100
    · have hl2 : ((ra.length : Int) < 20100) = True := eq_true (by omega)
      have hm : room (ra.length + 1) 1 = true := room_1 (by omega)
      simp [go_of FT_55 rfl, F55, go_of FT_52 rfl, F52, rowParts, Rom.doW, byt_app, byt_cons, byt_all, h, hr, hs, np1, np2, np3, np4, nq1, nq2, nq3, nq4, n5, n6, nb3, nb4, hl, hl2, hm]
      exact ⟨.oo g none q d (by omega) (by omega) (by omega) (by omega) (by omega) (by omega) (by simp [np1, np2, np3, np4, nq1, nq2, nq3, nq4, n5, n6, nb3, nb4, h, hr, hs, byt_app, byt_cons]) (by simp [np1, np2, np3, np4, nq1, nq2, nq3, nq4, n5, n6, nb3, nb4, h, hr, hs, byt_app, byt_cons]) (by simp [np1, np2, np3, np4, nq1, nq2, nq3, nq4, n5, n6, nb3, nb4, h, hr, hs, byt_app, byt_cons]), fun m cs hm hmb hc => by
      have e1 : (m = g) = False := eq_false (by omega)
      have e2 : (m = b) = False := eq_false hmb
      have ep : (m = p) = False := eq_false (fun e => by subst e; rw [hr] at hc; cases hc)
      have eq : (m = q) = False := eq_false (fun e => by subst e; rw [hs] at hc; cases hc)
      simp [e1, e2, hc, ep, eq]⟩
    · have hl2 : ((ra.length : Int) < 20100) = False := eq_false (by omega)
      simp [go_of FT_55 rfl, F55, go_of FT_52 rfl, F52, rowParts, Rom.doW, byt_app, byt_cons, byt_all, h, hr, hs, np1, np2, np3, np4, nq1, nq2, nq3, nq4, n5, n6, nb3, nb4, hl, hl2]
      exact ⟨.oo p c q d (by omega) (by omega) (by omega) (by omega) (by omega) (by omega) (by simp [np1, np2, np3, np4, nq1, nq2, nq3, nq4, n5, n6, nb3, nb4, h, hr, hs]) (by simp [np1, np2, np3, np4, nq1, nq2, nq3, nq4, n5, n6, nb3, nb4, h, hr, hs]) (by simp [np1, np2, np3, np4, nq1, nq2, nq3, nq4, n5, n6, nb3, nb4, h, hr, hs]), fun m cs hm hmb hc => by
      have e1 : (m = g) = False := eq_false (by omega)
      have e2 : (m = b) = False := eq_false hmb
      have ep : (m = p) = False := eq_false (fun e => by subst e; rw [hr] at hc; cases hc)
      have eq : (m = q) = False := eq_false (fun e => by subst e; rw [hs] at hc; cases hc)
      simp [e1, e2, hc, ep, eq]⟩
  simp [go_of FT_55 rfl, F55, go_of FT_52 rfl, F52, rowParts, Rom.doW, byt_app, byt_cons, byt_all, h, hr, hs, np1, np2, np3, np4, nq1, nq2, nq3, nq4, n5, n6, nb3, nb4, k1, k2, k3, k4]
  exact ⟨.oo p c q d (by omega) (by omega) (by omega) (by omega) (by omega) (by omega) (by simp [np1, np2, np3, np4, nq1, nq2, nq3, nq4, n5, n6, nb3, nb4, h, hr, hs]) (by simp [np1, np2, np3, np4, nq1, nq2, nq3, nq4, n5, n6, nb3, nb4, h, hr, hs]) (by simp [np1, np2, np3, np4, nq1, nq2, nq3, nq4, n5, n6, nb3, nb4, h, hr, hs]), fun m cs hm hmb hc => by
      have e1 : (m = g) = False := eq_false (by omega)
      have e2 : (m = b) = False := eq_false hmb
      have ep : (m = p) = False := eq_false (fun e => by subst e; rw [hr] at hc; cases hc)
      have eq : (m = q) = False := eq_false (fun e => by subst e; rw [hs] at hc; cases hc)
      simp [e1, e2, hc, ep, eq]⟩
theorem write_oo_1 {n : Nat} {H : Nat → Box} {g b : Nat} {s : Sup} {am at_ bm bt : Int} {ra rb : List Int} {k sl v : Int} {p : Nat} {c : Option Nat} {q : Nat} {d : Option Nat} (hb : b < g) (hp : p < g) (hpb : p ≠ b) (hq : q < g) (hqb : q ≠ b) (hpq : p ≠ q) (h : H b = .cells (romV am at_ (ownW p ra.length c) bm bt (ownW q rb.length d))) (hr : H p = rowB ra) (hs : H q = rowB rb) :
    ∃ e, callV (go (n + 2)) mode false H g s 55 [.w (.ptr b 0), .agg [.d (.s (.int .i64 k)), .d (.s (.int .i64 (1))), u8W v]] = some e ∧ RomAt e.H (g + 64) b (Rom.doW ⟨am, at_, ra, bm, bt, rb⟩ ⟨k, 1, v⟩) ∧ Keeps H e.H g b := by
  have np1 : (p = b) = False := eq_false hpb
  have np2 : (b = p) = False := eq_false (Ne.symm hpb)
  have np3 : (p = g) = False := eq_false (by omega)
  have np4 : (g = p) = False := eq_false (by omega)
  have nq1 : (q = b) = False := eq_false hqb
  have nq2 : (b = q) = False := eq_false (Ne.symm hqb)
  have nq3 : (q = g) = False := eq_false (by omega)
  have nq4 : (g = q) = False := eq_false (by omega)
  have n5 : (p = q) = False := eq_false hpq
  have n6 : (q = p) = False := eq_false (Ne.symm hpq)
  have nb3 : (b = g) = False := eq_false (by omega)
  have nb4 : (g = b) = False := eq_false (by omega)
  by_cases k1 : k = 1
  · subst k1
    simp [go_of FT_55 rfl, F55, go_of FT_52 rfl, F52, rowParts, Rom.doW, byt_app, byt_cons, byt_all, h, hr, hs, np1, np2, np3, np4, nq1, nq2, nq3, nq4, n5, n6, nb3, nb4]
    exact ⟨.oo p c q d (by omega) (by omega) (by omega) (by omega) (by omega) (by omega) (by simp [np1, np2, np3, np4, nq1, nq2, nq3, nq4, n5, n6, nb3, nb4, h, hr, hs]) (by simp [np1, np2, np3, np4, nq1, nq2, nq3, nq4, n5, n6, nb3, nb4, h, hr, hs]) (by simp [np1, np2, np3, np4, nq1, nq2, nq3, nq4, n5, n6, nb3, nb4, h, hr, hs]), fun m cs hm hmb hc => by
      have e1 : (m = g) = False := eq_false (by omega)
      have e2 : (m = b) = False := eq_false hmb
      have ep : (m = p) = False := eq_false (fun e => by subst e; rw [hr] at hc; cases hc)
      have eq : (m = q) = False := eq_false (fun e => by subst e; rw [hs] at hc; cases hc)
      simp [e1, e2, hc, ep, eq]⟩
  by_cases k2 : k = 2
  · subst k2
    simp [go_of FT_55 rfl, F55, go_of FT_52 rfl, F52, rowParts, Rom.doW, byt_app, byt_cons, byt_all, h, hr, hs, np1, np2, np3, np4, nq1, nq2, nq3, nq4, n5, n6, nb3, nb4]
    exact ⟨.oo p c q d (by omega) (by omega) (by omega) (by omega) (by omega) (by omega) (by simp [np1, np2, np3, np4, nq1, nq2, nq3, nq4, n5, n6, nb3, nb4, h, hr, hs]) (by simp [np1, np2, np3, np4, nq1, nq2, nq3, nq4, n5, n6, nb3, nb4, h, hr, hs]) (by simp [np1, np2, np3, np4, nq1, nq2, nq3, nq4, n5, n6, nb3, nb4, h, hr, hs]), fun m cs hm hmb hc => by
      have e1 : (m = g) = False := eq_false (by omega)
      have e2 : (m = b) = False := eq_false hmb
      have ep : (m = p) = False := eq_false (fun e => by subst e; rw [hr] at hc; cases hc)
      have eq : (m = q) = False := eq_false (fun e => by subst e; rw [hs] at hc; cases hc)
      simp [e1, e2, hc, ep, eq]⟩
  by_cases k3 : k = 3
  · subst k3
    simp [go_of FT_55 rfl, F55, go_of FT_52 rfl, F52, rowParts, Rom.doW, byt_app, byt_cons, byt_all, h, hr, hs, np1, np2, np3, np4, nq1, nq2, nq3, nq4, n5, n6, nb3, nb4]
    exact ⟨.on p c (by omega) (by omega) (by omega) (by simp [np1, np2, np3, np4, nq1, nq2, nq3, nq4, n5, n6, nb3, nb4, h, hr, hs]) (by simp [np1, np2, np3, np4, nq1, nq2, nq3, nq4, n5, n6, nb3, nb4, h, hr, hs]) rfl, fun m cs hm hmb hc => by
      have e1 : (m = g) = False := eq_false (by omega)
      have e2 : (m = b) = False := eq_false hmb
      have ep : (m = p) = False := eq_false (fun e => by subst e; rw [hr] at hc; cases hc)
      have eq : (m = q) = False := eq_false (fun e => by subst e; rw [hs] at hc; cases hc)
      simp [e1, e2, hc, ep, eq]⟩
  by_cases k4 : k = 4
  · subst k4
    by_cases hl : rb.length < 20100
    · have hl2 : ((rb.length : Int) < 20100) = True := eq_true (by omega)
      have hm : room (rb.length + 1) 1 = true := room_1 (by omega)
      simp [go_of FT_55 rfl, F55, go_of FT_52 rfl, F52, rowParts, Rom.doW, byt_app, byt_cons, byt_all, h, hr, hs, np1, np2, np3, np4, nq1, nq2, nq3, nq4, n5, n6, nb3, nb4, hl, hl2, hm]
      exact ⟨.oo p c g none (by omega) (by omega) (by omega) (by omega) (by omega) (by omega) (by simp [np1, np2, np3, np4, nq1, nq2, nq3, nq4, n5, n6, nb3, nb4, h, hr, hs, byt_app, byt_cons]) (by simp [np1, np2, np3, np4, nq1, nq2, nq3, nq4, n5, n6, nb3, nb4, h, hr, hs, byt_app, byt_cons]) (by simp [np1, np2, np3, np4, nq1, nq2, nq3, nq4, n5, n6, nb3, nb4, h, hr, hs, byt_app, byt_cons]), fun m cs hm hmb hc => by
      have e1 : (m = g) = False := eq_false (by omega)
      have e2 : (m = b) = False := eq_false hmb
      have ep : (m = p) = False := eq_false (fun e => by subst e; rw [hr] at hc; cases hc)
      have eq : (m = q) = False := eq_false (fun e => by subst e; rw [hs] at hc; cases hc)
      simp [e1, e2, hc, ep, eq]⟩
    · have hl2 : ((rb.length : Int) < 20100) = False := eq_false (by omega)
      simp [go_of FT_55 rfl, F55, go_of FT_52 rfl, F52, rowParts, Rom.doW, byt_app, byt_cons, byt_all, h, hr, hs, np1, np2, np3, np4, nq1, nq2, nq3, nq4, n5, n6, nb3, nb4, hl, hl2]
      exact ⟨.oo p c q d (by omega) (by omega) (by omega) (by omega) (by omega) (by omega) (by simp [np1, np2, np3, np4, nq1, nq2, nq3, nq4, n5, n6, nb3, nb4, h, hr, hs]) (by simp [np1, np2, np3, np4, nq1, nq2, nq3, nq4, n5, n6, nb3, nb4, h, hr, hs]) (by simp [np1, np2, np3, np4, nq1, nq2, nq3, nq4, n5, n6, nb3, nb4, h, hr, hs]), fun m cs hm hmb hc => by
      have e1 : (m = g) = False := eq_false (by omega)
      have e2 : (m = b) = False := eq_false hmb
      have ep : (m = p) = False := eq_false (fun e => by subst e; rw [hr] at hc; cases hc)
      have eq : (m = q) = False := eq_false (fun e => by subst e; rw [hs] at hc; cases hc)
      simp [e1, e2, hc, ep, eq]⟩
  simp [go_of FT_55 rfl, F55, go_of FT_52 rfl, F52, rowParts, Rom.doW, byt_app, byt_cons, byt_all, h, hr, hs, np1, np2, np3, np4, nq1, nq2, nq3, nq4, n5, n6, nb3, nb4, k1, k2, k3, k4]
  exact ⟨.oo p c q d (by omega) (by omega) (by omega) (by omega) (by omega) (by omega) (by simp [np1, np2, np3, np4, nq1, nq2, nq3, nq4, n5, n6, nb3, nb4, h, hr, hs]) (by simp [np1, np2, np3, np4, nq1, nq2, nq3, nq4, n5, n6, nb3, nb4, h, hr, hs]) (by simp [np1, np2, np3, np4, nq1, nq2, nq3, nq4, n5, n6, nb3, nb4, h, hr, hs]), fun m cs hm hmb hc => by
      have e1 : (m = g) = False := eq_false (by omega)
      have e2 : (m = b) = False := eq_false hmb
      have ep : (m = p) = False := eq_false (fun e => by subst e; rw [hr] at hc; cases hc)
      have eq : (m = q) = False := eq_false (fun e => by subst e; rw [hs] at hc; cases hc)
      simp [e1, e2, hc, ep, eq]⟩
theorem write_oo_x {n : Nat} {H : Nat → Box} {g b : Nat} {s : Sup} {am at_ bm bt : Int} {ra rb : List Int} {k sl v : Int} {p : Nat} {c : Option Nat} {q : Nat} {d : Option Nat} (hb : b < g) (hp : p < g) (hpb : p ≠ b) (hq : q < g) (hqb : q ≠ b) (hpq : p ≠ q) (h : H b = .cells (romV am at_ (ownW p ra.length c) bm bt (ownW q rb.length d))) (hr : H p = rowB ra) (hs : H q = rowB rb) (h0 : sl ≠ 0) (h1 : sl ≠ 1) :
    ∃ e, callV (go (n + 2)) mode false H g s 55 [.w (.ptr b 0), .agg [.d (.s (.int .i64 k)), .d (.s (.int .i64 (sl))), u8W v]] = some e ∧ RomAt e.H (g + 64) b (Rom.doW ⟨am, at_, ra, bm, bt, rb⟩ ⟨k, sl, v⟩) ∧ Keeps H e.H g b := by
  have np1 : (p = b) = False := eq_false hpb
  have np2 : (b = p) = False := eq_false (Ne.symm hpb)
  have np3 : (p = g) = False := eq_false (by omega)
  have np4 : (g = p) = False := eq_false (by omega)
  have nq1 : (q = b) = False := eq_false hqb
  have nq2 : (b = q) = False := eq_false (Ne.symm hqb)
  have nq3 : (q = g) = False := eq_false (by omega)
  have nq4 : (g = q) = False := eq_false (by omega)
  have n5 : (p = q) = False := eq_false hpq
  have n6 : (q = p) = False := eq_false (Ne.symm hpq)
  have nb3 : (b = g) = False := eq_false (by omega)
  have nb4 : (g = b) = False := eq_false (by omega)
  simp [go_of FT_55 rfl, F55, go_of FT_52 rfl, F52, rowParts, Rom.doW, byt_app, byt_cons, byt_all, h, hr, hs, np1, np2, np3, np4, nq1, nq2, nq3, nq4, n5, n6, nb3, nb4, h0, h1]
  exact ⟨.oo p c q d (by omega) (by omega) (by omega) (by omega) (by omega) (by omega) (by simp [np1, np2, np3, np4, nq1, nq2, nq3, nq4, n5, n6, nb3, nb4, h, hr, hs]) (by simp [np1, np2, np3, np4, nq1, nq2, nq3, nq4, n5, n6, nb3, nb4, h, hr, hs]) (by simp [np1, np2, np3, np4, nq1, nq2, nq3, nq4, n5, n6, nb3, nb4, h, hr, hs]), fun m cs hm hmb hc => by
      have e1 : (m = g) = False := eq_false (by omega)
      have e2 : (m = b) = False := eq_false hmb
      have ep : (m = p) = False := eq_false (fun e => by subst e; rw [hr] at hc; cases hc)
      have eq : (m = q) = False := eq_false (fun e => by subst e; rw [hs] at hc; cases hc)
      simp [e1, e2, hc, ep, eq]⟩

/-- A write, whatever the store. -/
theorem write_call {n : Nat} {H : Nat → Box} {g b : Nat} {s : Sup} {r : Rom} (w : Wr) (h : RomAt H g b r) :
    ∃ e, callV (go (n + 2)) mode false H g s 55 [.w (.ptr b 0), .agg [.d (.s (.int .i64 w.k)), .d (.s (.int .i64 w.s)), u8W w.v]] = some e ∧ RomAt e.H (g + 64) b (r.doW w) ∧ Keeps H e.H g b := by
  obtain ⟨am, at_, ra, bm, bt, rb⟩ := r
  obtain ⟨k, sl, v⟩ := w
  by_cases h0 : sl = 0
  · subst h0
    cases h with
    | nn hb h ha hb' => cases ha; cases hb'; exact write_nn_0 (ra := []) (rb := []) (sl := 0) hb h
    | on p c hb hp hpb h hr hb' => cases hb'; exact write_on_0 (rb := []) (sl := 0) hb hp hpb h hr
    | no q d hb hq hqb h hs ha => cases ha; exact write_no_0 (ra := []) (sl := 0) hb hq hqb h hs
    | oo p c q d hb hp hpb hq hqb hpq h hr hs => exact write_oo_0 (sl := 0) hb hp hpb hq hqb hpq h hr hs
  · by_cases h1 : sl = 1
    · subst h1
      cases h with
      | nn hb h ha hb' => cases ha; cases hb'; exact write_nn_1 (ra := []) (rb := []) (sl := 0) hb h
      | on p c hb hp hpb h hr hb' => cases hb'; exact write_on_1 (rb := []) (sl := 0) hb hp hpb h hr
      | no q d hb hq hqb h hs ha => cases ha; exact write_no_1 (ra := []) (sl := 0) hb hq hqb h hs
      | oo p c q d hb hp hpb hq hqb hpq h hr hs => exact write_oo_1 (sl := 0) hb hp hpb hq hqb hpq h hr hs
    · cases h with
      | nn hb h ha hb' => cases ha; cases hb'; exact write_nn_x (ra := []) (rb := []) hb h h0 h1
      | on p c hb hp hpb h hr hb' => cases hb'; exact write_on_x (rb := []) hb hp hpb h hr h0 h1
      | no q d hb hq hqb h hs ha => cases ha; exact write_no_x (ra := []) hb hq hqb h hs h0 h1
      | oo p c q d hb hp hpb hq hqb hpq h hr hs => exact write_oo_x hb hp hpb hq hqb hpq h hr hs h0 h1

end Go.VM

/- A store that is played, reckoned. Conditions: none. -/
namespace Go.VM
set_option linter.unusedSimpArgs false
set_option linter.unusedVariables false
set_option maxHeartbeats 4000000

theorem wrs_get {l : List Wr} {i : Nat} {a : Wr} (h : l[i]? = some a) : (wrs l)[i]? = some [.s (.int .i64 a.k), .s (.int .i64 a.s), .s (.int .u8 a.v)] := by simp [wrs, Wr.row, h]

theorem RomAt.mono {H : Nat → Box} {g b : Nat} {r : Rom} (h : RomAt H g b r) {g' : Nat} (hg : g ≤ g') : RomAt H g' b r := by
  cases h with
  | nn hb h ha hb' => exact .nn (by omega) h ha hb'
  | on p c hb hp hpb h hr hb' => exact .on p c (by omega) (by omega) hpb h hr hb'
  | no q d hb hq hqb h hs ha => exact .no q d (by omega) (by omega) hqb h hs ha
  | oo p c q d hb hp hpb hq hqb hpq h hr hs => exact .oo p c q d (by omega) (by omega) hpb (by omega) hqb hpq h hr hs
theorem RomAt.lt {H : Nat → Box} {g b : Nat} {r : Rom} (h : RomAt H g b r) : b < g := by
  cases h <;> assumption

theorem loop12 {n : Nat} (sw : Nat) (l : List Wr) (hn : l.length < n + 2) (hl : l.length < 2 ^ 62) (b q : Nat) (r : Rom) (cs : List W) (st : St) (h7 : st.τ 7 = .w (.ptr b 0)) (h18 : st.τ 18 = .w (wW sw l)) (h19 : st.τ 19 = sV (.int .i64 l.length)) (h20 : st.τ 20 = sV (.int .i64 0))
    (h6 : st.τ 6 = .w (.ptr q 0)) (hq : q < st.g) (hqb : q ≠ b) (hQ : st.H q = .cells cs) (hR : RomAt st.H st.g b r) :
    ∃ e st', execC (go (n + 2)) mode (fun _ => none) false 29 (n + 2) F12_L0 st = some (e, st') ∧ e ≠ .normal ∧ (e = .exit 0 ∧ st'.τ 7 = .w (.ptr b 0) ∧ st'.τ 6 = .w (.ptr q 0) ∧ q < st'.g ∧ st'.H q = .cells cs ∧ RomAt st'.H st'.g b (l.foldl Rom.doW r)) := by
  rw [F12_L0, execC_loop]
  refine iter_rule (fun k st => ∃ i, i + k = l.length ∧ st.τ 7 = .w (.ptr b 0) ∧ st.τ 18 = .w (wW sw l) ∧ st.τ 19 = sV (.int .i64 l.length) ∧ st.τ 20 = sV (.int .i64 i) ∧
    st.τ 6 = .w (.ptr q 0) ∧ q < st.g ∧ st.H q = .cells cs ∧ RomAt st.H st.g b ((l.take i).foldl Rom.doW r)) ?_ (n + 2) l.length st hn ⟨0, by omega, h7, h18, h19, by simpa using h20, h6, hq, hQ, by simpa using hR⟩
  rintro k ⟨τ, H, g, s⟩ ⟨i, hk, h7, h18, h19, h20, h6, hq, hQ, hR⟩
  simp only at h7 h18 h19 h20 h6 hq hQ hR
  cases k with
  | zero =>
    have : i = l.length := by omega
    subst this
    rw [List.take_length] at hR
    refine ⟨.exit 0, ?_⟩
    simp [F12_B0, h7, h18, h19, h20, h6, hQ]
    exact ⟨by omega, hR.mono (by omega)⟩
  | succ k =>
    have hlt : i < l.length := by omega
    have hg := List.getElem?_eq_getElem hlt
    have hb := wrs_get hg
    have hw := wrap_succ (i := i) (by omega)
    refine ⟨.normal, ?_⟩
    simp [-callV_at, -getElem?_pos, F12_B0, h7, h18, h19, h20, h6, hQ, hlt, hb, hw]
    generalize hHH : VM.upd (VM.upd H (g + 64 + 128) _) (g + 64 + 128) _ = HH
    have hRH : RomAt HH (g + 64 + 256 + 64) b ((l.take i).foldl Rom.doW r) := by
      rw [← hHH]
      exact (hR.upd (m := g + 64 + 128) (g' := g) (by omega) (Nat.le_refl _) _).upd (m := g + 64 + 128) (g' := g + 64 + 256 + 64) (by omega) (by omega) _
    have hQH : HH q = .cells cs := by
      rw [← hHH]
      have e1 : (q = g + 64 + 128) = False := eq_false (by omega)
      simp [hQ, e1]
    obtain ⟨⟨v1, H1, t1, w1⟩, he, hR', hK⟩ := write_call (n := n) (s := subS (restS (restS s)) 1) l[i] hRH
    have hQ' := hK q cs (by omega) hqb hQH
    simp only at hR' hQ'
    simp [-callV_at, he, h7, h18, h19, h20, h6, hw, hQ']

    refine ⟨k, by omega, i + 1, by omega, rfl, by omega, ?_⟩
    rw [List.take_add_one, hg, List.foldl_append]
    exact hR'.mono (by omega)


def Rom.play (r : Rom) (l : List Wr) (k : Int) : Rom := (l.take (max 0 (min k l.length)).toNat).foldl Rom.doW r
theorem doW_a (r : Rom) (w : Wr) : (r.doW w).ra.length ≤ max r.ra.length 20100 := by
  unfold Rom.doW
  repeat' split
  all_goals (try simp only [List.length_append, List.length_cons, List.length_nil])
  all_goals omega
theorem doW_b (r : Rom) (w : Wr) : (r.doW w).rb.length ≤ max r.rb.length 20100 := by
  unfold Rom.doW
  repeat' split
  all_goals (try simp only [List.length_append, List.length_cons, List.length_nil])
  all_goals omega
theorem fold_a : ∀ (l : List Wr) (r : Rom), (l.foldl Rom.doW r).ra.length ≤ max r.ra.length 20100
  | [], r => by simp; omega
  | w :: l, r => by
    have h1 := fold_a l (r.doW w)
    have h2 := doW_a r w
    rw [List.foldl_cons]
    omega
theorem fold_b : ∀ (l : List Wr) (r : Rom), (l.foldl Rom.doW r).rb.length ≤ max r.rb.length 20100
  | [], r => by simp; omega
  | w :: l, r => by
    have h1 := fold_b l (r.doW w)
    have h2 := doW_b r w
    rw [List.foldl_cons]
    omega
theorem room_b {n : Nat} (h : n ≤ 2 ^ 30) : room n 1 = true := by simp [room]; omega
def Rom.small (r : Rom) : Prop := r.ra.length ≤ 2 ^ 30 ∧ r.rb.length ≤ 2 ^ 30
theorem play_small {r : Rom} (h : r.small) (l : List Wr) (k : Int) : (r.play l k).small := by
  have h1 := fold_a (l.take (max 0 (min k l.length)).toNat) r
  have h2 := fold_b (l.take (max 0 (min k l.length)).toNat) r
  exact ⟨Nat.le_trans h1 (by have := h.1; omega), Nat.le_trans h2 (by have := h.2; omega)⟩

/-- A store in a box is copied. -/
theorem copy_call {n : Nat} {H : Nat → Box} {g b : Nat} {s : Sup} {r : Rom} (h : RomAt H g b r) (hsm : r.small) (cs : List W) (hc : H b = .cells cs) :
    ∃ e, callV (go (n + 3)) mode false H g s 54 [.agg cs] = some e ∧ e.v = .agg (romV r.am r.at_ (ownW g r.ra.length (some r.ra.length)) r.bm r.bt (ownW (g + 1) r.rb.length (some r.rb.length))) ∧ e.H g = rowB r.ra ∧ e.H (g + 1) = rowB r.rb ∧
      (∀ m ds, H m = .cells ds → m < g → e.H m = .cells ds) := by
  have h1 := room_b hsm.1
  have h2 := room_b hsm.2
  cases h with
  | nn hb hh ha hb' =>
    rw [hc] at hh; cases hh
    have C : ∀ s, go (n + 3) 54 [.agg (romV r.am r.at_ (.d (.l 0 [])) r.bm r.bt (.d (.l 0 [])))] [] s = some ⟨.agg (romV r.am r.at_ (ownW 0 0 (some 0)) r.bm r.bt (ownW 1 0 (some 0))), [], [.row none 1 [] 0, .row none 1 [] 0]⟩ :=
      fun s => run_copyOf (n := n + 3) (by omega) r.am r.at_ r.bm r.bt 0 0 [] [] rfl rfl s
    simp [C, ha, hb']
    intro m ds hm hg
    have e1 : (m = g) = False := eq_false (by omega)
    have e2 : (m = g + 1) = False := eq_false (by omega)
    simp [e1, e2, hm]
  | on p c hb hp hpb hh hr hb' =>
    rw [hc] at hh; cases hh
    have C : ∀ s, go (n + 3) 54 [.agg (romV r.am r.at_ (dW 0 r.ra) r.bm r.bt (.d (.l 0 [])))] [] s = some ⟨.agg (romV r.am r.at_ (ownW 0 r.ra.length (some r.ra.length)) r.bm r.bt (ownW 1 0 (some 0))), [], [rowB r.ra, .row none 1 [] 0]⟩ :=
      fun s => run_copyOf (n := n + 3) (by omega) r.am r.at_ r.bm r.bt 0 0 r.ra [] h1 rfl s
    have np3 : (p = g) = False := eq_false (by omega)
    have np4 : (g = p) = False := eq_false (by omega)
    have np5 : (p = g + 1) = False := eq_false (by omega)
    have np6 : (g + 1 = p) = False := eq_false (by omega)
    simp [C, np3, np4, np5, np6, hr, hb']
    intro m ds hm hg
    have e1 : (m = g) = False := eq_false (by omega)
    have e2 : (m = g + 1) = False := eq_false (by omega)
    have ep : (m = p) = False := eq_false (fun e => by subst e; rw [hr] at hm; cases hm)
    simp [e1, e2, hm, ep]
  | no q d hb hq hqb hh hs ha =>
    rw [hc] at hh; cases hh
    have C : ∀ s, go (n + 3) 54 [.agg (romV r.am r.at_ (.d (.l 0 [])) r.bm r.bt (dW 0 r.rb))] [] s = some ⟨.agg (romV r.am r.at_ (ownW 0 0 (some 0)) r.bm r.bt (ownW 1 r.rb.length (some r.rb.length))), [], [.row none 1 [] 0, rowB r.rb]⟩ :=
      fun s => run_copyOf (n := n + 3) (by omega) r.am r.at_ r.bm r.bt 0 0 [] r.rb rfl h2 s
    have nq3 : (q = g) = False := eq_false (by omega)
    have nq4 : (g = q) = False := eq_false (by omega)
    have nq5 : (q = g + 1) = False := eq_false (by omega)
    have nq6 : (g + 1 = q) = False := eq_false (by omega)
    simp [C, nq3, nq4, nq5, nq6, hs, ha]
    intro m ds hm hg
    have e1 : (m = g) = False := eq_false (by omega)
    have e2 : (m = g + 1) = False := eq_false (by omega)
    have eq : (m = q) = False := eq_false (fun e => by subst e; rw [hs] at hm; cases hm)
    simp [e1, e2, hm, eq]
  | oo p c q d hb hp hpb hq hqb hpq hh hr hs =>
    rw [hc] at hh; cases hh
    have C : ∀ s, go (n + 3) 54 [.agg (romV r.am r.at_ (dW 0 r.ra) r.bm r.bt (dW 0 r.rb))] [] s = some ⟨.agg (romV r.am r.at_ (ownW 0 r.ra.length (some r.ra.length)) r.bm r.bt (ownW 1 r.rb.length (some r.rb.length))), [], [rowB r.ra, rowB r.rb]⟩ :=
      fun s => run_copyOf (n := n + 3) (by omega) r.am r.at_ r.bm r.bt 0 0 r.ra r.rb h1 h2 s
    have np3 : (p = g) = False := eq_false (by omega)
    have np4 : (g = p) = False := eq_false (by omega)
    have np5 : (p = g + 1) = False := eq_false (by omega)
    have np6 : (g + 1 = p) = False := eq_false (by omega)
    have nq3 : (q = g) = False := eq_false (by omega)
    have nq4 : (g = q) = False := eq_false (by omega)
    have nq5 : (q = g + 1) = False := eq_false (by omega)
    have nq6 : (g + 1 = q) = False := eq_false (by omega)
    have n5 : (p = q) = False := eq_false hpq
    have n6 : (q = p) = False := eq_false (Ne.symm hpq)
    simp [C, np3, np4, np5, np6, nq3, nq4, nq5, nq6, n5, n6, hr, hs]
    intro m ds hm hg
    have e1 : (m = g) = False := eq_false (by omega)
    have e2 : (m = g + 1) = False := eq_false (by omega)
    have ep : (m = p) = False := eq_false (fun e => by subst e; rw [hr] at hm; cases hm)
    have eq : (m = q) = False := eq_false (fun e => by subst e; rw [hs] at hm; cases hm)
    simp [e1, e2, hm, ep, eq]

end Go.VM

/- A store that is played, reckoned: the whole. Conditions: none. -/
namespace Go.VM
set_option linter.unusedSimpArgs false
set_option linter.unusedVariables false
set_option maxHeartbeats 4000000

theorem RomAt.cells {H : Nat → Box} {g b : Nat} {r : Rom} (h : RomAt H g b r) : ∃ cs, H b = .cells cs ∧ cs.length = 6 ∧ cs.take 6 = cs := by
  cases h <;> exact ⟨_, by assumption, rfl, rfl⟩

theorem run_holdPlay {n : Nat} (r : Rom) (hs : r.small) (sa sb sw : Nat) (l : List Wr) (k : Int) (hn : l.length + 8 ≤ n) (hl : l.length < 2 ^ 62) (s : Sup) :
    go n 12 [.agg (r.v sa sb), .w (wW sw l), .w (.d (.s (.int .i64 k)))] [] s = some ⟨.agg ((r.play l k).v 0 0), [], []⟩ := by
  obtain ⟨n, rfl⟩ : ∃ m, n = m + 4 := ⟨n - 4, by omega⟩
  have C := fun s => run_copyOf (n := n + 3) (by omega) r.am r.at_ r.bm r.bt sa sb r.ra r.rb (room_b hs.1) (room_b hs.2) s
  have main : ∀ (m : Nat) (hm : (max 0 (min k (l.length : Int))).toNat = m), (l.take m).length = m → ∀ st : St, st.τ 7 = .w (.ptr 256 0) → st.τ 18 = .w (wW sw (l.take m)) → st.τ 19 = sV (.int .i64 (l.take m).length) → st.τ 20 = sV (.int .i64 0) →
      st.τ 6 = .w (.ptr 64 0) → 64 < st.g → st.H 64 = .cells (romV 0 0 .nil 0 0 .nil) → RomAt st.H st.g 256 r →
      behindF (andThen (inBlock 0 (execC (go (n + 3)) mode (fun _ => none) false 29 (n + 3) F12_L0 st))
        (execC (go (n + 3)) mode (fun _ => none) false 29 (n + 3) (.seq (.reg [⟨(some 27), .ld true 6 (.t 7), none⟩, ⟨(some 28), .call (.k (.w (.fn 54 []))) [(.t 27)], none⟩, ⟨none, .st 6 (.t 6) (.t 28), none⟩]) .ret)))
        (endF false false 0 [.cell 6 true 6]) = some ⟨.agg ((r.play l k).v 0 0), [], []⟩ := by
    intro m hm hlm st h7 h18 h19 h20 h6 hq hQ hR
    obtain ⟨e, ⟨τ, H, g, q⟩, hx, -, rfl, h7, h6, hq, hQ, hR⟩ := loop12 (n := n + 1) sw (l.take m) (by simp; omega) (by omega) 256 64 r _ st h7 h18 h19 h20 h6 hq (by omega) hQ hR
    simp only at h7 h6 hq hQ hR
    have hp : (l.take m).foldl Rom.doW r = r.play l k := by unfold Rom.play; rw [hm]
    rw [hp] at hR
    obtain ⟨cs, hcs, hc6, hct⟩ := hR.cells
    obtain ⟨⟨v1, H1, t1, w1⟩, he, hv, hA, hB, hK⟩ := copy_call (n := n) (s := subS q 1) (hR.mono (g' := g + 64) (by omega)) (play_small hs l k) cs hcs
    simp only at hv hA hB hK
    subst hv
    have hQ' := hK 64 _ hQ (by omega)
    have e1 : (g + 64 = 64) = False := eq_false (by omega)
    have e2 : (g + 64 + 1 = 64) = False := eq_false (by omega)
    have e3 : (g = 0) = False := eq_false (by omega)
    have e4 : (g + 1 = 0) = False := eq_false (by omega)
    simp [-callV_at, hx, h7, h6, hcs, hc6, hct, he, hQ', hA, hB, e1, e2, e3, e4]
  have hall : ∀ m, ((wrs l).take m).all (fun x => x.length == 3) = true := fun m => by
    simp only [List.all_eq_true]
    intro x hx
    obtain ⟨w, -, rfl⟩ := List.mem_map.1 (List.mem_of_mem_take hx)
    rfl
  have hallp : (∀ x ∈ wrs l, x.length = 3) = True := wrs_all l
  have ht : ∀ m, (wrs l).take m = wrs (l.take m) := fun m => by simp [wrs, List.map_take]
  by_cases c1 : k ≤ 0
  · have hm : (max 0 (min k (l.length : Int))).toNat = 0 := by omega
    have M := main 0 hm (by simp)
    clear main
    by_cases c2 : (l.length : Int) < k
    · omega
    · have c2' := eq_false c2
      have c3 : (0 < k) = False := eq_false (by omega)
      simp [go_of FT_12 rfl, F12, C, c2', c3, hallp]
      generalize hst : St.mk _ _ _ _ = st
      exact M st (by simp [← hst]) (by simp [← hst, wrs]) (by simp [← hst, wrs]) (by simp [← hst]) (by simp [← hst]) (by simp [← hst]) (by simp [← hst])
        (by rw [← hst]; exact .oo 192 (some r.ra.length) 193 (some r.rb.length) (by simp) (by simp) (by simp) (by simp) (by simp) (by simp) (by simp) (by simp) (by simp))
  · have c3 : (0 < k) = True := eq_true (by omega)
    by_cases c2 : (l.length : Int) < k
    · have hm : (max 0 (min k (l.length : Int))).toNat = l.length := by omega
      have M := main l.length hm (by simp)
      clear main
      have c2' := eq_true c2
      rcases (by omega : (0 < l.length) ∨ l.length = 0) with c4 | c4
      · have c4' : (0 < l.length) = True := eq_true (by omega)
        simp [go_of FT_12 rfl, F12, C, c2', c3, c4', hallp]
        generalize hst : St.mk _ _ _ _ = st
        exact M st (by simp [← hst]) (by simp [← hst, List.take_length]) (by simp [← hst, List.take_length]) (by simp [← hst]) (by simp [← hst]) (by simp [← hst]) (by simp [← hst])
          (by rw [← hst]; exact .oo 192 (some r.ra.length) 193 (some r.rb.length) (by simp) (by simp) (by simp) (by simp) (by simp) (by simp) (by simp) (by simp) (by simp))
      · have c4' : l = [] := List.eq_nil_of_length_eq_zero c4
        subst c4'
        simp only [List.length_nil] at c2
        simp [go_of FT_12 rfl, F12, C, c3, wrs]
        generalize hst : St.mk _ _ _ _ = st
        exact M st (by simp [← hst]) (by simp [← hst, wrs]) (by simp [← hst, wrs]) (by simp [← hst]) (by simp [← hst]) (by simp [← hst]) (by simp [← hst])
          (by rw [← hst]; exact .oo 192 (some r.ra.length) 193 (some r.rb.length) (by simp) (by simp) (by simp) (by simp) (by simp) (by simp) (by simp) (by simp) (by simp))
    · obtain ⟨m, rfl⟩ : ∃ m : Nat, k = m := ⟨k.toNat, by omega⟩
      have hm : (max 0 (min (m : Int) (l.length : Int))).toNat = m := by omega
      have hml : m ≤ l.length := by omega
      have M := main m hm (by simp; omega)
      clear main
      have c2' := eq_false c2
      have c2'' : (l.length < m) = False := eq_false (by omega)
      have c4' : (0 < m) = True := eq_true (by omega)
      have hml' := eq_true hml
      have hmm : min m l.length = m := by omega
      simp [go_of FT_12 rfl, F12, C, c2', c2'', c3, c4', hml', hmm, hallp, ht]
      generalize hst : St.mk _ _ _ _ = st
      exact M st (by simp [← hst]) (by simp [← hst, ht, hmm]) (by simp [← hst, ht, hmm]) (by simp [← hst]) (by simp [← hst]) (by simp [← hst]) (by simp [← hst])
        (by rw [← hst]; exact .oo 192 (some r.ra.length) 193 (some r.rb.length) (by simp) (by simp) (by simp) (by simp) (by simp) (by simp) (by simp) (by simp) (by simp))

end Go.VM

/- What a store holds behind a plan that is cut anywhere. Conditions: none. -/
namespace Go.VM
set_option linter.unusedSimpArgs false
set_option linter.unusedVariables false
set_option maxHeartbeats 4000000

def Rom.now (r : Rom) : List Int × Bool := holdNow r.am r.at_ r.ra r.bm r.bt r.rb
def Rom.bytes (r : Rom) : Prop := (0 ≤ r.at_ ∧ r.at_ < 256) ∧ (0 ≤ r.bt ∧ r.bt < 256)
def Rom.ga (r : Rom) : Bool := goodB r.am r.at_ r.ra.length
def Rom.gb (r : Rom) : Bool := goodB r.bm r.bt r.rb.length

theorem now_eq (r : Rom) : r.now = if r.ga = true ∧ r.gb = true ∧ r.bt = next3 r.at_ then (r.rb, true) else if r.ga = true then (r.ra, true) else if r.gb = true then (r.rb, true) else ([], false) := by
  unfold Rom.now holdNow slotNow Rom.ga Rom.gb next3
  by_cases h1 : goodB r.am r.at_ r.ra.length = true ∧ goodB r.bm r.bt r.rb.length = true ∧ r.bt = (IntKind.wrap .u8 (r.at_ + 1)).tmod 3
  · rw [if_pos h1, if_pos h1, if_neg (by omega), if_pos rfl]
  · by_cases h2 : goodB r.am r.at_ r.ra.length = true
    · rw [if_neg h1, if_neg h1, if_pos h2, if_pos h2]; simp
    · rw [if_neg h1, if_neg h1, if_neg h2, if_neg h2]
      by_cases h3 : goodB r.bm r.bt r.rb.length = true
      · rw [if_pos h3, if_pos h3]; simp
      · rw [if_neg h3, if_neg h3]; simp

theorem slot_eq (r : Rom) : r.slot = if r.ga = true ∧ r.gb = true ∧ r.bt = next3 r.at_ then 1 else if r.ga = true then 0 else if r.gb = true then 1 else -1 := rfl

theorem puts_a : ∀ (data : List Int) (r : Rom), r.ra.length + data.length ≤ 20100 → (data.map fun x => (⟨4, 0, x⟩ : Wr)).foldl Rom.doW r = { r with ra := r.ra ++ data }
  | [], r, h => by simp
  | x :: data, r, h => by
    simp only [List.length_cons] at h
    have e : r.doW ⟨4, 0, x⟩ = { r with ra := r.ra ++ [x] } := by
      have h' : r.ra.length < 20100 := by omega
      simp [Rom.doW, h']
    rw [List.map_cons, List.foldl_cons, e, puts_a data _ (by simp; omega)]
    simp
theorem puts_b : ∀ (data : List Int) (r : Rom), r.rb.length + data.length ≤ 20100 → (data.map fun x => (⟨4, 1, x⟩ : Wr)).foldl Rom.doW r = { r with rb := r.rb ++ data }
  | [], r, h => by simp
  | x :: data, r, h => by
    simp only [List.length_cons] at h
    have e : r.doW ⟨4, 1, x⟩ = { r with rb := r.rb ++ [x] } := by
      have h' : r.rb.length < 20100 := by omega
      simp [Rom.doW, h']
    rw [List.map_cons, List.foldl_cons, e, puts_b data _ (by simp; omega)]
    simp

theorem next3_ok {t : Int} (h : 0 ≤ t ∧ t ≤ 2) : 0 ≤ next3 t ∧ next3 t ≤ 2 ∧ (t = next3 (next3 t) → False) := by
  obtain ⟨h0, h1⟩ := h
  have : t = 0 ∨ t = 1 ∨ t = 2 := by omega
  rcases this with rfl | rfl | rfl <;> decide

theorem good_t {m t : Int} {n : Nat} (h : goodB m t n = true) : t ≤ 2 ∧ n ≤ 20100 := by
  simp [goodB] at h; exact h.2

/-- A cut of a plan. -/
theorem cut (w1 w2 : Wr) (f : Int → Wr) (data : List Int) (T : List Wr) (n : Nat) (r : Rom) : ([w1, w2] ++ data.map f ++ T).take (n + 2) = [w1, w2] ++ ((data.take n).map f ++ T.take (n - data.length)) := by
  simp [List.take_append, List.map_take]

theorem fall {r : Rom} (hb : r.bytes) (data : List Int) (hd : data.length ≤ 20100) (n : Nat) :
    (((r.plan data).take n).foldl Rom.doW r).now = if data.length + 4 ≤ n then (data, true) else r.now := by
  obtain ⟨⟨hat, hat2⟩, hbt, hbt2⟩ := hb
  have hG : goodB 0 = fun _ _ => false := by funext a b; simp [goodB]
  rcases slot_cases r with h0 | h0 | h0
  · -- the first slot counts: the second one is written
    have hs := h0
    rw [slot_eq] at hs
    have hga : r.ga = true := by
      by_cases h : r.ga = true
      · exact h
      · rw [if_neg (fun c => h c.1), if_neg h] at hs; split at hs <;> omega
    have hn : ¬ (r.ga = true ∧ r.gb = true ∧ r.bt = next3 r.at_) := fun c => by rw [if_pos c] at hs; omega
    have hnow : r.now = (r.ra, true) := by rw [now_eq, if_neg hn, if_pos hga]
    have ht := good_t (m := r.am) hga
    have hn3 := next3_ok ⟨hat, ht.1⟩
    have hP : r.plan data = [⟨1, 1, 0⟩, ⟨3, 1, 0⟩] ++ data.map (fun x => ⟨4, 1, x⟩) ++ [⟨2, 1, next3 r.at_⟩, ⟨1, 1, 165⟩, ⟨1, 0, 0⟩] := by
      simp [Rom.plan, Rom.to, Rom.turn, h0]
    -- where the second slot's mark is gone, the first counts
    have old : ∀ (t : Int) (l : List Int), Rom.now ⟨r.am, r.at_, r.ra, 0, t, l⟩ = (r.ra, true) := fun t l => by
      have e1 : Rom.gb ⟨r.am, r.at_, r.ra, 0, t, l⟩ = false := by simp [Rom.gb, goodB]
      have e2 : Rom.ga ⟨r.am, r.at_, r.ra, 0, t, l⟩ = true := hga
      rw [now_eq, if_neg (by rw [e1]; simp), if_pos e2]
    rw [hP, hnow]
    match n with
    | 0 => simp [hnow]
    | 1 =>
      rw [if_neg (by omega)]
      exact old r.bt r.rb
    | n + 2 =>
      rw [cut _ _ _ _ _ _ r, List.foldl_append, List.foldl_append]
      have e0 : [(⟨1, 1, 0⟩ : Wr), ⟨3, 1, 0⟩].foldl Rom.doW r = { r with bm := 0, rb := [] } := rfl
      rw [e0, puts_b _ _ (by simp; omega)]
      by_cases hle : n ≤ data.length
      · rw [if_neg (by omega), Nat.sub_eq_zero_of_le hle]
        exact old _ _
      · rw [List.take_of_length_le (by omega : data.length ≤ n)]
        obtain ⟨j, rfl⟩ : ∃ j, n = data.length + (j + 1) := ⟨n - data.length - 1, by omega⟩
        rw [Nat.add_sub_cancel_left]
        match j with
        | 0 => rw [if_neg (by omega)]; exact old _ _
        | 1 =>
          rw [if_pos (by omega)]
          have e1 : Rom.gb ⟨r.am, r.at_, r.ra, 165, next3 r.at_, data⟩ = true := by simp [Rom.gb, goodB]; omega
          have e2 : Rom.ga ⟨r.am, r.at_, r.ra, 165, next3 r.at_, data⟩ = true := hga
          show Rom.now ⟨r.am, r.at_, r.ra, 165, next3 r.at_, [] ++ data⟩ = _
          rw [List.nil_append, now_eq, if_pos ⟨e2, e1, rfl⟩]
        | j + 2 =>
          rw [if_pos (by omega)]
          have e1 : Rom.gb ⟨0, r.at_, r.ra, 165, next3 r.at_, data⟩ = true := by simp [Rom.gb, goodB]; omega
          have e2 : Rom.ga ⟨0, r.at_, r.ra, 165, next3 r.at_, data⟩ = false := by simp [Rom.ga, goodB]
          rw [List.take_of_length_le (by simp)]
          show Rom.now ⟨0, r.at_, r.ra, 165, next3 r.at_, [] ++ data⟩ = _
          rw [List.nil_append, now_eq, if_neg (by rw [e2]; simp), if_neg (by rw [e2]; simp), if_pos e1]
  · have hs := h0
    rw [slot_eq] at hs
    have hgb : r.gb = true := by
      by_cases h : r.gb = true
      · exact h
      · rw [if_neg (fun c => h c.2.1)] at hs
        split at hs
        · omega
        · omega
    have hnow : r.now = (r.rb, true) := by
      rw [now_eq]
      by_cases c : r.ga = true ∧ r.gb = true ∧ r.bt = next3 r.at_
      · rw [if_pos c]
      · rw [if_neg c] at hs ⊢
        by_cases c2 : r.ga = true
        · rw [if_pos c2] at hs; omega
        · rw [if_neg c2, if_pos hgb]
    have ht := good_t (m := r.bm) hgb
    have hn3 := next3_ok ⟨hbt, ht.1⟩
    have hP : r.plan data = [⟨1, 0, 0⟩, ⟨3, 0, 0⟩] ++ data.map (fun x => ⟨4, 0, x⟩) ++ [⟨2, 0, next3 r.bt⟩, ⟨1, 0, 165⟩, ⟨1, 1, 0⟩] := by
      simp [Rom.plan, Rom.to, Rom.turn, h0]
    have old : ∀ (t : Int) (l : List Int), Rom.now ⟨0, t, l, r.bm, r.bt, r.rb⟩ = (r.rb, true) := fun t l => by
      have e1 : Rom.ga ⟨0, t, l, r.bm, r.bt, r.rb⟩ = false := by simp [Rom.ga, goodB]
      have e2 : Rom.gb ⟨0, t, l, r.bm, r.bt, r.rb⟩ = true := hgb
      rw [now_eq, if_neg (by rw [e1]; simp), if_neg (by rw [e1]; simp), if_pos e2]
    rw [hP, hnow]
    match n with
    | 0 => simp [hnow]
    | 1 =>
      rw [if_neg (by omega)]
      exact old r.at_ r.ra
    | n + 2 =>
      rw [cut _ _ _ _ _ _ r, List.foldl_append, List.foldl_append]
      have e0 : [(⟨1, 0, 0⟩ : Wr), ⟨3, 0, 0⟩].foldl Rom.doW r = { r with am := 0, ra := [] } := rfl
      rw [e0, puts_a _ _ (by simp; omega)]
      by_cases hle : n ≤ data.length
      · rw [if_neg (by omega), Nat.sub_eq_zero_of_le hle]
        exact old _ _
      · rw [List.take_of_length_le (by omega : data.length ≤ n)]
        obtain ⟨j, rfl⟩ : ∃ j, n = data.length + (j + 1) := ⟨n - data.length - 1, by omega⟩
        rw [Nat.add_sub_cancel_left]
        match j with
        | 0 => rw [if_neg (by omega)]; exact old _ _
        | 1 =>
          rw [if_pos (by omega)]
          have e1 : Rom.ga ⟨165, next3 r.bt, data, r.bm, r.bt, r.rb⟩ = true := by simp [Rom.ga, goodB]; omega
          show Rom.now ⟨165, next3 r.bt, [] ++ data, r.bm, r.bt, r.rb⟩ = _
          rw [List.nil_append, now_eq, if_neg (fun c => hn3.2.2 c.2.2), if_pos e1]
        | j + 2 =>
          rw [if_pos (by omega)]
          have e1 : Rom.ga ⟨165, next3 r.bt, data, 0, r.bt, r.rb⟩ = true := by simp [Rom.ga, goodB]; omega
          have e2 : Rom.gb ⟨165, next3 r.bt, data, 0, r.bt, r.rb⟩ = false := by simp [Rom.gb, goodB]
          rw [List.take_of_length_le (by simp)]
          show Rom.now ⟨165, next3 r.bt, [] ++ data, 0, r.bt, r.rb⟩ = _
          rw [List.nil_append, now_eq, if_neg (by rw [e2]; simp), if_pos e1]
  · have hs := h0
    rw [slot_eq] at hs
    have hga : r.ga = false := by
      cases h : r.ga
      · rfl
      · rw [h] at hs
        split at hs
        · omega
        · rw [if_pos rfl] at hs; omega
    have hgb : r.gb = false := by
      cases h : r.gb
      · rfl
      · rw [hga, h] at hs; simp at hs
    have hnow : r.now = ([], false) := by rw [now_eq, hga, hgb]; simp
    have hP : r.plan data = [⟨1, 0, 0⟩, ⟨3, 0, 0⟩] ++ data.map (fun x => ⟨4, 0, x⟩) ++ [⟨2, 0, 0⟩, ⟨1, 0, 165⟩] := by
      simp [Rom.plan, Rom.to, Rom.turn, h0]
    have old : ∀ (t : Int) (l : List Int), Rom.now ⟨0, t, l, r.bm, r.bt, r.rb⟩ = ([], false) := fun t l => by
      have e1 : Rom.ga ⟨0, t, l, r.bm, r.bt, r.rb⟩ = false := by simp [Rom.ga, goodB]
      have e2 : Rom.gb ⟨0, t, l, r.bm, r.bt, r.rb⟩ = false := hgb
      rw [now_eq, e1, e2]; simp
    have new : Rom.now ⟨165, 0, data, r.bm, r.bt, r.rb⟩ = (data, true) := by
      have e1 : Rom.ga ⟨165, 0, data, r.bm, r.bt, r.rb⟩ = true := by simp [Rom.ga, goodB]; omega
      have e2 : Rom.gb ⟨165, 0, data, r.bm, r.bt, r.rb⟩ = false := hgb
      rw [now_eq, if_neg (by rw [e2]; simp), if_pos e1]
    rw [hP, hnow]
    match n with
    | 0 => simp [hnow]
    | 1 =>
      rw [if_neg (by omega)]
      exact old r.at_ r.ra
    | n + 2 =>
      rw [cut _ _ _ _ _ _ r, List.foldl_append, List.foldl_append]
      have e0 : [(⟨1, 0, 0⟩ : Wr), ⟨3, 0, 0⟩].foldl Rom.doW r = { r with am := 0, ra := [] } := rfl
      rw [e0, puts_a _ _ (by simp; omega)]
      by_cases hle : n ≤ data.length
      · rw [if_neg (by omega), Nat.sub_eq_zero_of_le hle]
        exact old _ _
      · rw [List.take_of_length_le (by omega : data.length ≤ n)]
        obtain ⟨j, rfl⟩ : ∃ j, n = data.length + (j + 1) := ⟨n - data.length - 1, by omega⟩
        rw [Nat.add_sub_cancel_left]
        match j with
        | 0 => rw [if_neg (by omega)]; exact old _ _
        | j + 1 =>
          rw [if_pos (by omega), List.take_of_length_le (by simp)]
          show Rom.now ⟨165, 0, [] ++ data, r.bm, r.bt, r.rb⟩ = _
          rw [List.nil_append, new]

end Go.VM

/- Power fails again and again: the law's run. Conditions: none. -/
namespace Go.VM
set_option linter.unusedSimpArgs false
set_option linter.unusedVariables false
set_option maxHeartbeats 4000000

theorem run_whSame {n : Nat} (hn : 1 ≤ n) (s0 s1 : Nat) (l : List Int) (h : Bool) (s : Sup) :
    go n 14 [.w (dW s0 l), .w (.d (.s (.bool h))), .w (dW s1 l), .w (.d (.s (.bool h)))] [] s = some ⟨sV (.bool true), [], []⟩ := by
  obtain ⟨n, rfl⟩ : ∃ k, n = k + 1 := ⟨n - 1, by omega⟩
  have hb : ∀ l : List Int, ∃ x, bytesOf (byt l) = some x := by
    intro l
    induction l with
    | nil => exact ⟨[], rfl⟩
    | cons a l ih => obtain ⟨x, hx⟩ := ih; exact ⟨UInt8.ofNat a.toNat :: x, by rw [byt_cons]; simp only [bytesOf]; rw [hx]; rfl⟩
  obtain ⟨x, hx⟩ := hb l
  simp [go_of FT_14 rfl, F14, hx]

theorem wrap_u8 (x : Int) : 0 ≤ IntKind.wrap .u8 x ∧ IntKind.wrap .u8 x < 256 := by
  simp [IntKind.wrap, IntKind.bits, IntKind.signed]; omega

theorem loop1i {n : Nat} (code : List Int) (i : Nat) (c0 c1 : Int) (h0 : code[i]? = some c0) (h1 : code[i + 1]? = some c1) (hi : i < 2 ^ 61) (hc : 0 ≤ c0 ∧ c0 < 256) (hn : 9 < n) (sc : Nat) (b0 g0 : Nat) (cc : Option Nat) (st : St)
    (t0 : st.τ 0 = .w (dW sc code)) (t6 : st.τ 6 = sV (.int .i64 i)) (t7 : st.τ 7 = .w (ownW b0 0 cc)) (t8 : st.τ 8 = sV (.int .i64 0)) (hb : st.H b0 = rowB []) (hg : st.g = g0) (hb0 : b0 < g0) :
    ∃ e st', execC (go n) mode (fun _ => none) false 95 n F1_L0 st = some (e, st') ∧ e ≠ .normal ∧ (e = .exit 2 ∧ ∃ (data : List Int) (b : Nat) (c : Option Nat), st'.τ 7 = .w (ownW b data.length c) ∧ st'.H b = rowB data ∧ data.length ≤ 8 ∧ b < st'.g ∧ (b = b0 ∨ g0 ≤ b) ∧ g0 ≤ st'.g ∧
      st'.τ 0 = st.τ 0 ∧ st'.τ 2 = st.τ 2 ∧ st'.τ 3 = st.τ 3 ∧ st'.τ 4 = st.τ 4 ∧ st'.τ 5 = st.τ 5 ∧ st'.τ 6 = st.τ 6 ∧ ∀ m, m < g0 → m ≠ b0 → st'.H m = st.H m) := by
  rw [F1_L0, execC_loop]
  have hcw : IntKind.wrap .i64 c0 = c0 := wrap_id (by omega) (by omega)
  have hq : c0.tmod 9 = c0 % 9 := by rw [Int.tmod_eq_emod_of_nonneg (by omega)]
  refine iter_rule (fun k s1 => ∃ (data : List Int) (b : Nat) (c : Option Nat), data.length + k = (c0 % 9).toNat ∧ s1.τ 7 = .w (ownW b data.length c) ∧ s1.H b = rowB data ∧ b < s1.g ∧ (b = b0 ∨ g0 ≤ b) ∧ g0 ≤ s1.g ∧ s1.τ 8 = sV (.int .i64 data.length) ∧
      s1.τ 0 = st.τ 0 ∧ s1.τ 2 = st.τ 2 ∧ s1.τ 3 = st.τ 3 ∧ s1.τ 4 = st.τ 4 ∧ s1.τ 5 = st.τ 5 ∧ s1.τ 6 = st.τ 6 ∧ ∀ m, m < g0 → m ≠ b0 → s1.H m = st.H m) ?_ n (c0 % 9).toNat st (by omega)
      ⟨[], b0, cc, by simp, t7, hb, by omega, .inl rfl, by omega, t8, rfl, rfl, rfl, rfl, rfl, rfl, fun _ _ _ => rfl⟩
  rintro k ⟨τ, H, g, s⟩ ⟨data, b, c, hk, t7, hb, hbg, hbb, hgg, t8, a0, a2, a3, a4, a5, a6, hfr⟩
  simp only at t7 hb hbg hbb hgg t8 a0 a2 a3 a4 a5 a6 hfr
  rw [t0] at a0
  rw [t6] at a6
  have hbyt := byt_get h0
  have hbyt1 := byt_get h1
  have hw := wrap_succ (i := i) (by omega)
  have hlt := (List.getElem?_eq_some_iff.1 h1).1
  cases k with
  | zero =>
    refine ⟨.exit 2, ?_⟩
    have hlt : ((data.length : Int) < c0 % 9) = False := eq_false (by omega)
    simp [-getElem?_pos, F1_B0, t7, t8, a0, a6, hbyt, hcw, hq, hlt, a2, a3, a4, a5]
    exact ⟨data, b, ⟨by omega, rfl⟩, hb, by omega, by omega, hbb, by omega, by rw [t0], by rw [t6]; rfl, hfr⟩
  | succ k =>
    refine ⟨.normal, ?_⟩
    have hlt : ((data.length : Int) < c0 % 9) = True := eq_true (by omega)
    have hroom : room (data.length + 1) 1 = true := room_1 (by omega)
    have hwk := wrap_succ (i := data.length) (by omega)
    have e1 : ∀ k, (b = g + k) = False := fun k => eq_false (by omega)
    have e2 : ∀ k, (g + k = b) = False := fun k => eq_false (by omega)
    have e3 : ∀ k, (g + k ≤ b) = False := fun k => eq_false (by omega)
    have hi0 : (0 ≤ (i : Int) + 1) = True := eq_true (by omega)
    simp [-getElem?_pos, Nat.add_assoc, hi0, F1_B0, t7, t8, a0, a6, hbyt, hbyt1, hw, hwk, hcw, hq, hlt, a2, a3, a4, a5, hb, rowParts, hroom, e1, e2, e3, t0, t6]
    refine ⟨k, by omega, data ++ [IntKind.u8.wrap (IntKind.i64.wrap (c0 + IntKind.i64.wrap (↑data.length * IntKind.i64.wrap c1)))], by simp; omega, g + 1600, ⟨rfl, by simp⟩, by simp [byt_app, byt_cons], by omega, .inr (by omega), by omega, by simp, fun m m1 m2 => ?_⟩
    rw [if_neg (by omega), if_neg (by rcases hbb with h | h <;> omega), if_neg (by omega)]
    exact hfr m m1 m2


/-- A cell of a store's bytes: nil, or bytes laid down for good. -/
def Cl (x : W) (l : List Int) : Prop := (∀ (s : Sup) (z : Fz), frzW false s z x = some (dW 0 l, z)) ∧ x.names = []
theorem Cl.nil : Cl .nil [] := ⟨fun _ _ => rfl, rfl⟩
theorem Cl.d (l : List Int) : Cl (dW 0 l) l := ⟨fun _ _ => rfl, rfl⟩

theorem play_nat (r : Rom) (l : List Wr) (n : Nat) : r.play l n = (l.take n).foldl Rom.doW r := by
  unfold Rom.play
  by_cases h : n ≤ l.length
  · rw [show (max 0 (min (n : Int) (l.length : Int))).toNat = n from by omega]
  · rw [show (max 0 (min (n : Int) (l.length : Int))).toNat = l.length from by omega, List.take_length, List.take_of_length_le (by omega)]

theorem bytes_do {r : Rom} (h : r.bytes) {w : Wr} (hw : w.k = 2 → 0 ≤ w.v ∧ w.v < 256) : (r.doW w).bytes := by
  unfold Rom.doW
  by_cases h0 : w.s = 0
  · rw [if_pos h0]
    by_cases h2 : w.k = 2
    · rw [if_neg (by omega), if_pos h2]; exact ⟨hw h2, h.2⟩
    · repeat' split
      all_goals first | exact h | omega
  · rw [if_neg h0]
    by_cases h1 : w.s = 1
    · rw [if_pos h1]
      by_cases h2 : w.k = 2
      · rw [if_neg (by omega), if_pos h2]; exact ⟨h.1, hw h2⟩
      · repeat' split
        all_goals first | exact h | omega
    · rw [if_neg h1]; exact h
theorem bytes_fold : ∀ (l : List Wr) {r : Rom}, r.bytes → (∀ w ∈ l, w.k = 2 → 0 ≤ w.v ∧ w.v < 256) → (l.foldl Rom.doW r).bytes
  | [], r, h, hl => h
  | w :: l, r, h, hl => bytes_fold l (bytes_do h (hl w (List.mem_cons_self ..))) fun x hx => hl x (List.mem_cons_of_mem _ hx)
theorem turn_ok {r : Rom} (h : r.bytes) : 0 ≤ r.turn ∧ r.turn < 256 := by
  have n3 : ∀ t, 0 ≤ next3 t ∧ next3 t < 256 := fun t => by
    unfold next3
    have := wrap_u8 (t + 1)
    rw [Int.tmod_eq_emod_of_nonneg this.1]
    omega
  unfold Rom.turn
  repeat' split
  · exact n3 _
  · exact n3 _
  · omega
theorem plan_ok {r : Rom} (h : r.bytes) (data : List Int) : ∀ w ∈ r.plan data, w.k = 2 → 0 ≤ w.v ∧ w.v < 256 := by
  intro w hw
  have ht := turn_ok h
  simp only [Rom.plan, List.mem_append, List.mem_cons, List.mem_map, List.not_mem_nil, or_false] at hw
  rcases hw with ((((rfl | rfl) | ⟨x, -, rfl⟩) | (rfl | rfl)) | hw)
  all_goals first | (intro h2; simp at h2; done) | (intro _; exact ht) | skip
  split at hw
  · simp at hw; subst hw; intro h2; simp at h2
  · simp at hw
theorem plan_len (r : Rom) (data : List Int) : (r.plan data).length ≤ data.length + 5 := by
  simp only [Rom.plan, List.length_append, List.length_cons, List.length_nil, List.length_map]
  split <;> simp <;> omega

theorem loop1o {n : Nat} (code : List Int) (hc : ∀ x ∈ code, 0 ≤ x ∧ x < 256) (hl : code.length ≤ 2 ^ 20) (hn : 100 < n) (hn2 : code.length + 2 < n) (sc B : Nat) (st : St) (t0 : st.τ 0 = .w (dW sc code)) (t6 : st.τ 6 = sV (.int .i64 0)) (t3 : st.τ 3 = .w (.ptr B 0))
    (K : Nat) (ck : Option Nat) (t4 : st.τ 4 = .w (ownW K 0 ck)) (t5 : st.τ 5 = sV (.bool false)) (hB : st.H B = .cells (romV 0 0 .nil 0 0 .nil)) (hK : st.H K = rowB []) (hBg : B < st.g) (hKg : K < st.g) :
    ∃ e st', execC (go n) mode (fun _ => none) false 95 n F1_L1 st = some (e, st') ∧ e ≠ .normal ∧ e = .exit 0 := by
  rw [F1_L1, execC_loop]
  refine iter_rule (fun k s1 => ∃ (i : Nat) (r : Rom) (x y : W) (K : Nat) (ck : Option Nat) (kept : List Int) (have_ : Bool) (sk : Option Nat) (rk : Nat), i + k = code.length + 2 ∧ s1.τ 0 = .w (dW sc code) ∧ s1.τ 6 = sV (.int .i64 i) ∧ s1.τ 3 = .w (.ptr B 0) ∧ s1.τ 4 = .w (ownW K kept.length ck) ∧
    s1.τ 5 = sV (.bool have_) ∧ s1.H B = .cells (romV r.am r.at_ x r.bm r.bt y) ∧ Cl x r.ra ∧ Cl y r.rb ∧ s1.H K = .row sk 1 (byt kept) rk ∧ B < s1.g ∧ K < s1.g ∧ r.now = (kept, have_) ∧ r.bytes ∧ r.small) ?_ n (code.length + 2) st hn2
    ⟨0, ⟨0, 0, [], 0, 0, []⟩, .nil, .nil, K, ck, [], false, none, 0, by omega, t0, by simpa using t6, t3, t4, t5, hB, .nil, .nil, hK, hBg, hKg, by decide, ⟨⟨by decide, by decide⟩, by decide, by decide⟩, ⟨by decide, by decide⟩⟩
  rintro k ⟨τ, H, g, s⟩ ⟨i, r, x, y, K, ck, kept, have_, sk, rk, hk, t0, t6, t3, t4, t5, hB, hx, hy, hK, hBg, hKg, hnow, hby, hsm⟩
  simp only at t0 t6 t3 t4 t5 hB hK hBg hKg
  have hw := wrap_succ (i := i) (by omega)
  by_cases c1 : i + 1 < code.length ∧ i < 120
  · obtain ⟨c2, c3⟩ := c1
    have c2' : ((i : Int) + 1 < (code.length : Int)) = True := eq_true (by omega)
    have c3' : ((i : Int) < 120) = True := eq_true (by omega)
    have h0 := List.getElem?_eq_getElem (l := code) (i := i) (by omega)
    have h1 := List.getElem?_eq_getElem c2
    have hc0 := hc _ (List.getElem_mem (l := code) (n := i) (by omega))
    have hc1 := hc _ (List.getElem_mem c2)
    generalize code[i] = a0 at h0 hc0
    generalize code[i + 1] = a1 at h1 hc1
    have hbyt1 := byt_get h1
    refine ⟨.normal, ?_⟩
    simp [-getElem?_pos, Nat.add_assoc, F1_B1, t0, t6, hw, c2', c3', rowParts]
    generalize hst : St.mk _ _ _ _ = st1
    obtain ⟨e, ⟨τ1, H1, g1, s1⟩, hx1, -, rfl, data, b, c, d7, hb, hdl, hbg, hbb, hgg, q0, q2, q3, q4, q5, q6, hfr⟩ := loop1i (n := n) code i a0 a1 h0 h1 (by omega) hc0 (by omega) sc (g + 576) (g + 768) (some 0) st1
      (by simp [← hst, t0]) (by simp [← hst, t6]) (by simp [← hst]) (by simp [← hst]) (by simp [← hst]) (by simp [← hst]) (by omega)
    simp only at hfr d7 hb hbg hgg
    have f3 : τ1 3 = .w (.ptr B 0) := by simp only at q3; rw [q3, ← hst]; simp [t3]
    have f0 : τ1 0 = .w (dW sc code) := by simp only at q0; rw [q0, ← hst]; simp [t0]
    have f4 : τ1 4 = .w (ownW K kept.length ck) := by simp only at q4; rw [q4, ← hst]; simp [t4]
    have f5 : τ1 5 = sV (.bool have_) := by simp only at q5; rw [q5, ← hst]; simp [t5]
    have f6 : τ1 6 = sV (.int .i64 i) := by simp only at q6; rw [q6, ← hst]; simp [t6]
    have fB : H1 B = .cells (romV r.am r.at_ x r.bm r.bt y) := by
      rw [hfr B (by omega) (by omega), ← hst]
      have e : (B = g + 576) = False := eq_false (by omega)
      simp [e, hB]
    have fK : H1 K = .row sk 1 (byt kept) rk := by
      rw [hfr K (by omega) (by omega), ← hst]
      have e : (K = g + 576) = False := eq_false (by omega)
      simp [e, hK]
    clear hfr q0 q2 q3 q4 q5 q6 hst
    have hbB : (b = B) = False := eq_false (by rcases hbb with h | h <;> omega)
    have hBb : (B = b) = False := eq_false (by rcases hbb with h | h <;> omega)
    have hbK : (b = K) = False := eq_false (by rcases hbb with h | h <;> omega)
    have hKb : (K = b) = False := eq_false (by rcases hbb with h | h <;> omega)
    have hKB : K ≠ B := fun e => by rw [e, hB] at hK; cases hK
    have hKB' : (K = B) = False := eq_false hKB
    have hBK' : (B = K) = False := eq_false (Ne.symm hKB)
    have hx1' := hx.1
    have hx2' := hx.2
    have hy1' := hy.1
    have hy2' := hy.2
    have hdt : data.length ≤ 20100 := by omega
    have P := fun sd s => run_holdPlan (n := n) r 0 0 sd data (by omega) (by omega) s
    have hpl := plan_len r data
    have hmod : a1.tmod 18 = ((a1 % 18).toNat : Int) := by rw [Int.tmod_eq_emod_of_nonneg (by omega)]; omega
    have ha1 : IntKind.wrap .i64 a1 = a1 := wrap_id (by omega) (by omega)
    generalize (a1 % 18).toNat = nn at hmod
    have Q := fun sw s => run_holdPlay (n := n) r hsm 0 0 sw (r.plan data) nn (by omega) (by omega) s
    have hnow' := fall hby data hdt nn
    have hby' := bytes_fold ((r.plan data).take nn) hby (fun w hw => plan_ok hby data w (List.mem_of_mem_take hw))
    have hsm' := play_small hsm (r.plan data) nn
    rw [← play_nat] at hnow' hby'
    generalize r.play (r.plan data) nn = r' at hnow' hby' hsm' Q
    have N := fun s => run_holdNow (n := n) (by omega) r'.am r'.at_ r'.bm r'.bt 0 0 r'.ra r'.rb (room_b hsm'.1) (room_b hsm'.2) s
    have hw4 : IntKind.wrap .i64 ((data.length : Int) + 4) = data.length + 4 := wrap_id (by omega) (by omega)
    have hi0 : (0 ≤ (i : Int) + 1) = True := eq_true (by omega)
    have hw2 : IntKind.wrap .i64 ((i : Int) + 2) = i + 2 := wrap_id (by omega) (by omega)
    by_cases hc4 : data.length + 4 ≤ nn
    · rw [if_pos hc4] at hnow'
      have hc4' : ((data.length : Int) + 4 ≤ nn) = True := eq_true (by omega)
      have hN : holdNow r'.am r'.at_ r'.ra r'.bm r'.bt r'.rb = (data, true) := hnow'
      rw [hN] at N
      have W := fun sa s => run_whSame (n := n) (by omega) 0 sa data true s
      simp [-getElem?_pos, hx1, d7, hb, f0, f3, f4, f5, f6, fB, hbB, hBb, hx1', hx2', hy1', hy2', P, hdt, hw, hi0, hbyt1, ha1, hmod, Q, hw4, hc4', N, W, hw2]
      exact ⟨k - 2, by omega, i + 2, by omega, by omega, r', dW 0 r'.ra, dW 0 r'.rb, b, c, data, ⟨rfl, rfl, rfl⟩, ⟨rfl, rfl, rfl, rfl, rfl, rfl⟩, .d _, .d _, ⟨_, _, by rw [if_pos rfl]⟩, by omega, by omega, hnow', hby', hsm'⟩
    · rw [if_neg hc4, hnow] at hnow'
      have hc4' : ((data.length : Int) + 4 ≤ nn) = False := eq_false (by omega)
      have hN : holdNow r'.am r'.at_ r'.ra r'.bm r'.bt r'.rb = (kept, have_) := hnow'
      rw [hN] at N
      have W := fun sa s => run_whSame (n := n) (by omega) 0 sa kept have_ s
      simp [-getElem?_pos, hx1, d7, hb, f0, f3, f4, f5, f6, fB, hbB, hBb, hx1', hx2', hy1', hy2', P, hdt, hw, hi0, hbyt1, ha1, hmod, Q, hw4, hc4', N, W, hw2, fK, hbK, hKb, hKB', hBK']
      refine ⟨k - 2, by omega, i + 2, by omega, by omega, r', dW 0 r'.ra, dW 0 r'.rb, K, ck, kept, ⟨rfl, rfl, rfl⟩, ?_⟩
      cases have_
      · exact .inl ⟨rfl, ⟨rfl, rfl, rfl, rfl, rfl, rfl⟩, .d _, .d _, ⟨_, _, by rw [if_pos rfl]⟩, by omega, by omega, hnow', hby', hsm'⟩
      · exact .inr ⟨rfl, ⟨rfl, rfl, rfl, rfl, rfl, rfl⟩, .d _, .d _, ⟨_, _, by rw [if_pos rfl]⟩, by omega, by omega, hnow', hby', hsm'⟩
  · refine ⟨.exit 0, ?_⟩
    by_cases c2 : i + 1 < code.length
    · have c3 : ((i : Int) < 120) = False := eq_false (by omega)
      have c2' : ((i : Int) + 1 < (code.length : Int)) = True := eq_true (by omega)
      simp [F1_B1, t0, t6, hw, c2', c3]
    · have c2' : ((i : Int) + 1 < (code.length : Int)) = False := eq_false (by omega)
      simp [F1_B1, t0, t6, hw, c2']


theorem run_lawHoldFalls (code : List Int) (hc : ∀ x ∈ code, 0 ≤ x ∧ x < 256) (hl : code.length < 2 ^ 63) (sc : Nat) (s : Sup) :
    go (code.length + 200) 1 [.w (dW sc code)] [] s = some ⟨sV (.bool true), [], []⟩ := by
  by_cases h : code.length ≤ 2 ^ 20
  · have h' : ((1048576 : Int) < code.length) = False := eq_false (by omega)
    simp [go_of FT_1 rfl, F1, h', rowParts]
    generalize hst : St.mk _ _ _ _ = st1
    obtain ⟨e, ⟨τ1, H1, g1, s1⟩, hx1, -, rfl⟩ := loop1o (n := code.length + 199) code hc h (by omega) (by omega) sc 320 st1 (by simp [← hst]) (by simp [← hst]) (by simp [← hst]) 448 (some 0) (by simp [← hst]) (by simp [← hst])
      (by simp [← hst]) (by simp [← hst]) (by simp [← hst]) (by simp [← hst])
    clear hst
    simp [hx1]
  · have h' : ((1048576 : Int) < code.length) = True := eq_true (by omega)
    simp [go_of FT_1 rfl, F1, h']

end Go.VM
