/- The laws' own helpers: the shape of their code, and what it reckons. Conditions: none. -/
import Derived.Test.YtacfoamnbdlmpaaGreatDoorVQC
import Derived.Test.YtacfoamnbdlmpaaGreatDoorVZA

namespace Go.VM
set_option linter.unusedSimpArgs false
set_option linter.unusedVariables false
set_option maxHeartbeats 4000000

def toS_B0 (sz : Nat) (bytes : Nat) (zero : List D) (c : Nat) : C :=
    (.seq (.seq (.reg [⟨(some 8), .mv (.t 4), none⟩,
    ⟨(some 9), .mv (.t 0), none⟩,
    ⟨(some 10), .lenl (.t 9), none⟩,
    ⟨(some 11), .bin .lss .one (.t 8) (.t 10), none⟩])
  (.cond (.t 11)
    .skip
    (.exit 0)))
  (.seq (.block 1
    (.reg [⟨(some 14), .mv (.t 3), none⟩,
      ⟨(some 15), .mv (.t 4), none⟩,
      ⟨(some 16), .mv (.t 0), none⟩,
      ⟨(some 17), .mv (.t 4), none⟩,
      ⟨(some 18), .ia sz (.t 16) (.t 17), none⟩,
      ⟨(some 19), .ld true sz (.t 18), none⟩,
      ⟨(some 20), .call (.k (.w (.fn c []))) [(.t 19)], none⟩,
      ⟨(some 21), .ia sz (.t 14) (.t 15), none⟩,
      ⟨none, .st sz (.t 21) (.t 20), none⟩]))
  (.reg [⟨(some 12), .mv (.t 4), none⟩,
    ⟨(some 13), .bin .add .one (.t 12) (.k (.w (.d (.s (.int .i64 1))))), none⟩,
    ⟨(some 4), .mv (.t 13), none⟩])))
def toS_L0 (sz : Nat) (bytes : Nat) (zero : List D) (c : Nat) : C :=
  .loop (toS_B0 sz bytes zero c)
def toS (sz : Nat) (bytes : Nat) (zero : List D) (c : Nat) : Fn :=
  ⟨23, [.tmp 2],
  (.seq (.reg [⟨(some 2), .mv (.k (.w .nil)), none⟩])
  (.seq (.reg [⟨(some 5), .mv (.t 0), none⟩,
    ⟨(some 6), .lenl (.t 5), none⟩,
    ⟨(some 7), .msl sz bytes zero (.t 6) (.t 6), none⟩,
    ⟨(some 3), .mv (.t 7), none⟩])
  (.seq (.seq (.reg [⟨(some 4), .mv (.k (.w (.d (.s (.int .i64 0))))), none⟩])
  (.block 0
    (toS_L0 sz bytes zero c)))
  (.seq (.reg [⟨(some 22), .mv (.t 3), none⟩,
    ⟨(some 2), .mv (.t 22), none⟩])
  .ret))))⟩
def szS_B0 (sz : Nat) (c : Nat) : C :=
    (.seq (.seq (.reg [⟨(some 12), .mv (.t 5), none⟩,
    ⟨(some 13), .mv (.t 0), none⟩,
    ⟨(some 14), .lenl (.t 13), none⟩,
    ⟨(some 15), .bin .lss .one (.t 12) (.t 14), none⟩])
  (.cond (.t 15)
    .skip
    (.exit 0)))
  (.seq (.block 1
    (.seq (.reg [⟨(some 18), .mv (.t 0), none⟩,
      ⟨(some 19), .mv (.t 5), none⟩,
      ⟨(some 20), .ia sz (.t 18) (.t 19), none⟩,
      ⟨(some 21), .ld true sz (.t 20), none⟩,
      ⟨(some 22), .mv (.t 1), none⟩,
      ⟨(some 23), .call (.k (.w (.fn c []))) [(.t 21), (.t 22)], none⟩,
      ⟨(some 1), .mv (.t 23), none⟩])
    (.seq (.reg [⟨(some 24), .mv (.t 1), none⟩,
      ⟨(some 25), .bin .lss .one (.t 24) (.k (.w (.d (.s (.int .i64 0))))), none⟩])
    (.cond (.t 25)
      (.seq (.reg [⟨(some 4), .mv (.k (.w (.d (.s (.int .i64 (-1)))))), none⟩])
      .ret)
      .skip))))
  (.reg [⟨(some 16), .mv (.t 5), none⟩,
    ⟨(some 17), .bin .add .one (.t 16) (.k (.w (.d (.s (.int .i64 1))))), none⟩,
    ⟨(some 5), .mv (.t 17), none⟩])))
def szS_L0 (sz : Nat) (c : Nat) : C :=
  .loop (szS_B0 sz c)
def szS (sz : Nat) (c : Nat) : Fn :=
  ⟨27, [.tmp 4],
  (.seq (.reg [⟨(some 4), .mv (.k (.w (.d (.s (.int .i64 0))))), none⟩])
  (.seq (.reg [⟨(some 6), .mv (.t 1), none⟩,
    ⟨(some 7), .mv (.t 0), none⟩,
    ⟨(some 8), .lenl (.t 7), none⟩,
    ⟨(some 9), .bin .sub .one (.t 6) (.t 8), none⟩,
    ⟨(some 1), .mv (.t 9), none⟩])
  (.seq (.seq (.reg [⟨(some 10), .mv (.t 1), none⟩,
    ⟨(some 11), .bin .lss .one (.t 10) (.k (.w (.d (.s (.int .i64 0))))), none⟩])
  (.cond (.t 11)
    (.seq (.reg [⟨(some 4), .mv (.k (.w (.d (.s (.int .i64 (-1)))))), none⟩])
    .ret)
    .skip))
  (.seq (.seq (.reg [⟨(some 5), .mv (.k (.w (.d (.s (.int .i64 0))))), none⟩])
  (.block 0
    (szS_L0 sz c)))
  (.seq (.reg [⟨(some 26), .mv (.t 1), none⟩,
    ⟨(some 4), .mv (.t 26), none⟩])
  .ret)))))⟩
def szL : Fn :=
  ⟨12, [.tmp 4],
  (.seq (.reg [⟨(some 4), .mv (.k (.w (.d (.s (.int .i64 0))))), none⟩])
  (.seq (.reg [⟨(some 5), .mv (.t 1), none⟩,
    ⟨(some 6), .mv (.t 0), none⟩,
    ⟨(some 7), .lenl (.t 6), none⟩,
    ⟨(some 8), .bin .sub .one (.t 5) (.t 7), none⟩,
    ⟨(some 1), .mv (.t 8), none⟩])
  (.seq (.seq (.reg [⟨(some 9), .mv (.t 1), none⟩,
    ⟨(some 10), .bin .lss .one (.t 9) (.k (.w (.d (.s (.int .i64 0))))), none⟩])
  (.cond (.t 10)
    (.seq (.reg [⟨(some 4), .mv (.k (.w (.d (.s (.int .i64 (-1)))))), none⟩])
    .ret)
    .skip))
  (.seq (.reg [⟨(some 11), .mv (.t 1), none⟩,
    ⟨(some 4), .mv (.t 11), none⟩])
  .ret))))⟩
def eqS_B0 (sz : Nat) (c : Nat) : C :=
    (.seq (.seq (.reg [⟨(some 11), .mv (.t 5), none⟩,
    ⟨(some 12), .mv (.t 0), none⟩,
    ⟨(some 13), .lenl (.t 12), none⟩,
    ⟨(some 14), .bin .lss .one (.t 11) (.t 13), none⟩])
  (.cond (.t 14)
    .skip
    (.exit 0)))
  (.seq (.block 1
    (.seq (.dreg [⟨(some 17), .mv (.t 0), none⟩,
      ⟨(some 18), .mv (.t 5), none⟩,
      ⟨(some 19), .ia sz (.t 17) (.t 18), none⟩,
      ⟨(some 20), .ld true sz (.t 19), none⟩,
      ⟨(some 21), .mv (.t 1), none⟩,
      ⟨(some 22), .mv (.t 5), none⟩,
      ⟨(some 23), .ia sz (.t 21) (.t 22), none⟩,
      ⟨(some 24), .ld true sz (.t 23), none⟩,
      ⟨(some 25), .call (.k (.w (.fn c []))) [(.t 20), (.t 24)], none⟩,
      ⟨(some 26), .un .not (.t 25), none⟩] [0, 0, 3, 7, 0, 0, 48, 112, 255, 511])
    (.cond (.t 26)
      (.seq (.reg [⟨(some 4), .mv (.k (.w (.d (.s (.bool false))))), none⟩])
      .ret)
      .skip)))
  (.reg [⟨(some 15), .mv (.t 5), none⟩,
    ⟨(some 16), .bin .add .one (.t 15) (.k (.w (.d (.s (.int .i64 1))))), none⟩,
    ⟨(some 5), .mv (.t 16), none⟩])))
def eqS_L0 (sz : Nat) (c : Nat) : C :=
  .loop (eqS_B0 sz c)
def eqS (sz : Nat) (c : Nat) : Fn :=
  ⟨27, [.tmp 4],
  (.seq (.reg [⟨(some 4), .mv (.k (.w (.d (.s (.bool false))))), none⟩])
  (.seq (.seq (.reg [⟨(some 6), .mv (.t 0), none⟩,
    ⟨(some 7), .lenl (.t 6), none⟩,
    ⟨(some 8), .mv (.t 1), none⟩,
    ⟨(some 9), .lenl (.t 8), none⟩,
    ⟨(some 10), .bin .neq .one (.t 7) (.t 9), none⟩])
  (.cond (.t 10)
    (.seq (.reg [⟨(some 4), .mv (.k (.w (.d (.s (.bool false))))), none⟩])
    .ret)
    .skip))
  (.seq (.seq (.reg [⟨(some 5), .mv (.k (.w (.d (.s (.int .i64 0))))), none⟩])
  (.block 0
    (eqS_L0 sz c)))
  (.seq (.reg [⟨(some 4), .mv (.k (.w (.d (.s (.bool true))))), none⟩])
  .ret))))⟩


theorem part_full {α : Type} {l : List α} {sz : Nat} (h : l.length = sz) : part? l 0 sz = some l := by
  subst h; simp [part?]
theorem datas_map (l : List D) : datas? (l.map W.d) = some l := by
  induction l with
  | nil => rfl
  | cons a r ih => simp [datas?, ih, W.data?]
theorem frzL_map (stamp : Bool) (s : Sup) (z : Fz) (l : List D) : frzL stamp s z (l.map W.d) = some (l.map W.d, z) := by
  induction l with
  | nil => rfl
  | cons a r ih => simp [frzL, ih, frzW]
theorem splice_full {α : Type} {l cs : List α} (h : l.length = cs.length) : splice l 0 cs = cs := by
  simp [splice, ← h]
theorem wnames_map (l : List D) : wnames (l.map W.d) = [] := by
  induction l with
  | nil => rfl
  | cons a r ih => simp [wnames, W.names]
theorem ren_map (ρ : Nat → Nat) (l : List D) : (l.map W.d).map (W.ren ρ) = l.map W.d := by
  rw [List.map_map]; rfl
abbrev rowX (r : List D) : V := .agg (r.map W.d)

theorem fnames_map (l : List D) : (l.map W.d).flatMap W.names = [] := wnames_map l
theorem ren_comp (ρ : Nat → Nat) : (W.ren ρ ∘ W.d) = W.d := funext fun _ => rfl

theorem run_toS_L (sz bytes c n : Nat) (zero : List D) (hz : zero.length = sz) (hci : (mode c).inout = false) (st0 : Nat) (o : List D → List D) (rows : List (List D)) (hr : ∀ r ∈ rows, r.length = sz) (ho : ∀ r ∈ rows, (o r).length = sz)
    (hc : ∀ r ∈ rows, ∀ s, go n c [rowX r] [] s = some ⟨rowX (o r), [], []⟩) (hl : rows.length < 2 ^ 40) (hn : rows.length < n) (st : St) (bx : Nat)
    (h0 : st.τ 0 = .w (.d (.l st0 rows))) (h3 : st.τ 3 = .w (.own bx 0 rows.length (some rows.length))) (h4 : st.τ 4 = iV 0) (hB : st.H bx = .row none sz (List.replicate rows.length zero) 0) (hg : bx < st.g) :
    ∃ e st', execC (go n) mode GT false 23 n (toS_L0 sz bytes zero c) st = some (e, st') ∧ e ≠ .normal ∧ (e = .exit 0 ∧ st'.τ 3 = .w (.own bx 0 rows.length (some rows.length)) ∧ st'.H bx = .row none sz (rows.map o) 0) := by
  rw [toS_L0, execC_loop]
  refine iter_rule (fun k st => ∃ i, i + k = rows.length ∧ st.τ 0 = .w (.d (.l st0 rows)) ∧ st.τ 3 = .w (.own bx 0 rows.length (some rows.length)) ∧ st.τ 4 = iV i ∧ st.H bx = .row none sz ((rows.take i).map o ++ List.replicate k zero) 0 ∧ bx < st.g) ?_ n rows.length st hn ⟨0, by omega, h0, h3, by simpa using h4, by simpa using hB, hg⟩
  clear h0 h3 h4 hB hg
  rintro k ⟨τ, H, g, s⟩ ⟨i, hk, h0, h3, h4, hB, hg⟩
  simp only at h0 h3 h4 hB hg
  cases k with
  | zero =>
    have : i = rows.length := by omega
    subst this
    rw [List.take_length] at hB
    refine ⟨.exit 0, ?_⟩
    simp [toS_B0, h0, h3, h4, hB]
  | succ k =>
    have hlt : i < rows.length := by omega
    have hlt' : ((i : Int) < (rows.length : Int)) = True := eq_true (by omega)
    have hgt := List.getElem?_eq_getElem hlt
    have hmem := List.getElem_mem hlt
    have hw := wrap_succ (i := i) (by omega)
    have hrl := hr _ hmem
    have hol := ho _ hmem
    have w := hc _ hmem
    generalize rows[i] = r at hgt hrl hol w
    have hlT : ((rows.take i).map o).length = i := by simp; omega
    have hget := fill_get (k := k) hlT zero
    have hset := fill_set (k := k) hlT zero (o r)
    have htk : (rows.take i).map o ++ [o r] = (rows.take (i + 1)).map o := by rw [List.take_add_one, hgt]; simp
    rw [htk] at hset
    have pf : List.take sz r = r := List.take_of_length_le (by omega)
    have sp : List.drop sz zero = [] := List.drop_of_length_le (by omega)
    have fgX := far hg
    refine ⟨.normal, ?_⟩
    simp [-getElem?_pos, -List.map_take, -mode, hci, toS_B0, h0, h3, h4, hB, hlt, hlt', hgt, hrl, hol, pf, mkV, w, hw, hget, hset, frzL_map, ren_comp, ren_map, datas_map, sp, hz, wnames_map, fnames_map, fgX]
    exact ⟨k, by omega, i + 1, by omega, by simp, by first | rfl | simp | exact hset, by omega⟩

theorem run_toS {f sz bytes c n : Nat} {zero : List D} (hF : FT f = some (toS sz bytes zero c)) (hz : zero.length = sz) (hof : orc f = false := by rfl) (hsf : spIds.contains f = false := by rfl) (hm : mode f = {} := by rfl) (hci : (mode c).inout = false := by rfl) (st0 : Nat) (o : List D → List D) (rows : List (List D)) (hr : ∀ r ∈ rows, r.length = sz) (ho : ∀ r ∈ rows, (o r).length = sz)
    (hc : ∀ r ∈ rows, ∀ s, go n c [rowX r] [] s = some ⟨rowX (o r), [], []⟩) (hb : bytes ≤ 128) (hl : rows.length < 2 ^ 30) (hn : rows.length < n) (s : Sup) :
    go (n + 1) f [.w (.d (.l st0 rows))] [] s = some ⟨.w (.d (.l 0 (rows.map o))), [], []⟩ := by
  have hrm : room rows.length bytes = true := room_of (by omega) (by omega)
  simp [-mode, go_of hF hof hsf, toS, hm, hrm, hz]
  generalize hst : St.mk _ _ _ _ = st
  obtain ⟨e, ⟨τ', H', g', s'⟩, hx, -, rfl, h3, hB⟩ := run_toS_L sz bytes c n zero hz hci st0 o rows hr ho hc (by omega) (by omega) st 192 (by simp [← hst]) (by simp [← hst]) (by simp [← hst]) (by simp [← hst]) (by simp [← hst])
  simp only at h3 hB
  clear hst
  have tk : List.take rows.length (List.map o rows) = List.map o rows := List.take_of_length_le (by simp)
  simp [-mode, -List.map_take, hx, h3, hB, hm, tk]

/-! sizes -/
theorem run_szS_L (sz c n : Nat) (hci : (mode c).inout = false) (st0 : Nat) (w : List D → Nat) (rows : List (List D)) (hr : ∀ r ∈ rows, r.length = sz)
    (hc : ∀ r ∈ rows, ∀ k : Nat, k < 2 ^ 40 → ∀ s, go n c [rowX r, iV k] [] s = some ⟨iV (if w r ≤ k then ((k - w r : Nat) : Int) else -1), [], []⟩) (hl : rows.length < 2 ^ 60) (hn : rows.length < n) (K : Nat) (hK : K < 2 ^ 40) (st : St)
    (h0 : st.τ 0 = .w (.d (.l st0 rows))) (h1 : st.τ 1 = iV K) (h5 : st.τ 5 = iV 0) :
    ∃ e st', execC (go n) mode GT false 27 n (szS_L0 sz c) st = some (e, st') ∧ e ≠ .normal ∧ ((e = .exit 0 ∧ (rows.map w).sum ≤ K ∧ st'.τ 1 = iV ((K - (rows.map w).sum : Nat) : Int)) ∨ (e = .ret ∧ K < (rows.map w).sum ∧ st'.τ 4 = iV (-1))) := by
  rw [szS_L0, execC_loop]
  refine iter_rule (fun k st => ∃ i, i + k = rows.length ∧ st.τ 0 = .w (.d (.l st0 rows)) ∧ ((rows.take i).map w).sum ≤ K ∧ st.τ 1 = iV ((K - ((rows.take i).map w).sum : Nat) : Int) ∧ st.τ 5 = iV i) ?_ n rows.length st hn ⟨0, by omega, h0, by simp, by simpa using h1, by simpa using h5⟩
  clear h0 h1 h5
  rintro k ⟨τ, H, g, s⟩ ⟨i, hk, h0, hle, h1, h5⟩
  simp only at h0 h1 h5
  cases k with
  | zero =>
    have : i = rows.length := by omega
    subst this
    rw [List.take_length] at h1 hle
    refine ⟨.exit 0, ?_⟩
    simp only [hle, true_and]
    simp [szS_B0, h0, h1, h5]
  | succ k =>
    have hlt : i < rows.length := by omega
    have hlt' : ((i : Int) < (rows.length : Int)) = True := eq_true (by omega)
    have hgt := List.getElem?_eq_getElem hlt
    have hmem := List.getElem_mem hlt
    have hw := wrap_succ (i := i) (by omega)
    have hrl := hr _ hmem
    have hsum : ∀ x : List D, rows[i]? = some x → ((rows.take (i + 1)).map w).sum = ((rows.take i).map w).sum + w x := fun x hx => by rw [List.take_add_one, hx]; simp
    have hall : ∀ x : List D, rows[i]? = some x → ((rows.take i).map w).sum + w x ≤ (rows.map w).sum := fun x hx => by
      have e := congrArg (fun l => (l.map w).sum) (List.take_append_drop (i + 1) rows)
      simp only [List.map_append, List.sum_append] at e
      have := hsum x hx
      omega
    generalize hS : ((rows.take i).map w).sum = S at h1 hle hsum hall
    have wc := hc _ hmem (K - S) (by omega)
    have hsum := hsum _ hgt
    have hall := hall _ hgt
    generalize rows[i] = r at hgt hrl wc hsum hall
    have pf : List.take sz r = r := List.take_of_length_le (by omega)
    by_cases hle2 : w r ≤ K - S
    · rw [if_pos hle2] at wc
      generalize hT : K - S - w r = T at wc
      have hTn : ((T : Int) < 0) = False := eq_false (by omega)
      refine ⟨.normal, ?_⟩
      simp [-getElem?_pos, -mode, hci, szS_B0, h0, h1, h5, hlt, hlt', hgt, hrl, pf, mkV, wc, hw, frzL_map, ren_comp, ren_map, datas_map, wnames_map, fnames_map, hTn]
      exact ⟨k, by omega, i + 1, by omega, by rw [← List.map_take, hsum]; omega, by rw [← List.map_take, hsum]; omega, by simp⟩
    · rw [if_neg hle2] at wc
      refine ⟨.ret, ?_⟩
      have hlt3 : K < (rows.map w).sum := by omega
      simp [-getElem?_pos, -mode, hci, szS_B0, h0, h1, h5, hlt, hlt', hgt, hrl, pf, mkV, wc, hw, frzL_map, ren_comp, ren_map, datas_map, wnames_map, fnames_map, hlt3]

theorem run_szS {f sz c n : Nat} (hF : FT f = some (szS sz c)) (hof : orc f = false := by rfl) (hsf : spIds.contains f = false := by rfl) (hm : mode f = {} := by rfl) (hci : (mode c).inout = false := by rfl) (st0 : Nat) (w : List D → Nat) (rows : List (List D)) (hr : ∀ r ∈ rows, r.length = sz)
    (hc : ∀ r ∈ rows, ∀ k : Nat, k < 2 ^ 40 → ∀ s, go n c [rowX r, iV k] [] s = some ⟨iV (if w r ≤ k then ((k - w r : Nat) : Int) else -1), [], []⟩) (hl : rows.length < 2 ^ 63) (hn : rows.length < n) (K : Nat) (hK : K < 2 ^ 40) (s : Sup) :
    go (n + 1) f [.w (.d (.l st0 rows)), iV K] [] s = some ⟨iV (if rows.length + (rows.map w).sum ≤ K then ((K - (rows.length + (rows.map w).sum) : Nat) : Int) else -1), [], []⟩ := by
  have hwr : IntKind.i64.wrap ((K : Int) - (rows.length : Int)) = (K : Int) - (rows.length : Int) := wrap_id (by omega) (by omega)
  by_cases hKl : K < rows.length
  · have hi : ((K : Int) - (rows.length : Int) < 0) = True := eq_true (by omega)
    rw [if_neg (by omega)]
    simp [-mode, go_of hF hof hsf, szS, hm, hwr, hi]
  · have hi : ((K : Int) - (rows.length : Int) < 0) = False := eq_false (by omega)
    have hsub : (K : Int) - (rows.length : Int) = ((K - rows.length : Nat) : Int) := by omega
    simp [-mode, go_of hF hof hsf, szS, hm, hwr, hi]
    generalize hst : St.mk _ _ _ _ = st
    obtain ⟨e, ⟨τ', H', g', s'⟩, hx, -, h⟩ := run_szS_L sz c n hci st0 w rows hr hc (by omega) hn (K - rows.length) (by omega) st (by simp [← hst]) (by simp [← hst, hsub]) (by simp [← hst])
    clear hst
    rcases h with ⟨rfl, h1, h2⟩ | ⟨rfl, h1, h2⟩
    · simp only at h2
      rw [if_pos (by omega)]
      simp [-mode, hx, h2, hm]
      omega
    · simp only at h2
      rw [if_neg (by omega)]
      simp [-mode, hx, h2, hm]

theorem run_szL {f n : Nat} (hF : FT f = some szL) (hof : orc f = false := by rfl) (hsf : spIds.contains f = false := by rfl) (hm : mode f = {} := by rfl) (st0 : Nat) (rows : List (List D)) (hl : rows.length < 2 ^ 63) (K : Nat) (hK : K < 2 ^ 40) (s : Sup) :
    go (n + 1) f [.w (.d (.l st0 rows)), iV K] [] s = some ⟨iV (if rows.length ≤ K then ((K - rows.length : Nat) : Int) else -1), [], []⟩ := by
  have hwr : IntKind.i64.wrap ((K : Int) - (rows.length : Int)) = (K : Int) - (rows.length : Int) := wrap_id (by omega) (by omega)
  by_cases hKl : K < rows.length
  · have hi : ((K : Int) - (rows.length : Int) < 0) = True := eq_true (by omega)
    rw [if_neg (by omega)]
    simp [-mode, go_of hF hof hsf, szL, hm, hwr, hi]
  · have hi : ((K : Int) - (rows.length : Int) < 0) = False := eq_false (by omega)
    rw [if_pos (by omega)]
    simp [-mode, go_of hF hof hsf, szL, hm, hwr, hi]
    omega

/-! whether two slices hold the same -/
theorem run_eqS_L {α : Type} (sz c n : Nat) (hci : (mode c).inout = false) (a b : Nat) (key : List D → α) (rows rows' : List (List D)) (hlen : rows.length = rows'.length) (hr : ∀ r ∈ rows, r.length = sz) (hr' : ∀ r ∈ rows', r.length = sz)
    (hc : ∀ r ∈ rows, ∀ r' ∈ rows', ∀ s, go n c [rowX r, rowX r'] [] s = some ⟨bV (eqB (key r) (key r')), [], []⟩) (hl : rows.length < 2 ^ 60) (hn : rows.length < n) (st : St)
    (h0 : st.τ 0 = .w (.d (.l a rows))) (h1 : st.τ 1 = .w (.d (.l b rows'))) (h5 : st.τ 5 = iV 0) :
    ∃ e st', execC (go n) mode GT false 27 n (eqS_L0 sz c) st = some (e, st') ∧ e ≠ .normal ∧ ((e = .exit 0 ∧ rows.map key = rows'.map key) ∨ (e = .ret ∧ rows.map key ≠ rows'.map key ∧ st'.τ 4 = bV false)) := by
  rw [eqS_L0, execC_loop]
  refine iter_rule (fun k st => ∃ i, i + k = rows.length ∧ (rows.take i).map key = (rows'.take i).map key ∧ st.τ 0 = .w (.d (.l a rows)) ∧ st.τ 1 = .w (.d (.l b rows')) ∧ st.τ 5 = iV i) ?_ n rows.length st hn ⟨0, by omega, by simp, h0, h1, by simpa using h5⟩
  clear h0 h1 h5
  rintro k ⟨τ, H, g, s⟩ ⟨i, hk, ht, h0, h1, h5⟩
  simp only at h0 h1 h5
  cases k with
  | zero =>
    have : i = rows.length := by omega
    subst this
    refine ⟨.exit 0, ?_⟩
    have hlm2 : rows.map key = rows'.map key := by rw [List.take_length, hlen, List.take_length] at ht; exact ht
    simp [-getElem?_pos, eqS_B0, h0, h1, h5, hlm2]
  | succ k =>
    have hlt : i < rows.length := by omega
    have hlt' : ((i : Int) < (rows.length : Int)) = True := eq_true (by omega)
    have hgt := List.getElem?_eq_getElem hlt
    have hmem := List.getElem_mem hlt
    have hltm : i < rows'.length := by omega
    have hgm := List.getElem?_eq_getElem hltm
    have hmm := List.getElem_mem hltm
    have hw := wrap_succ (i := i) (by omega)
    have hrl := hr _ hmem
    have hrm := hr' _ hmm
    have w := hc _ hmem _ hmm
    generalize rows[i] = r at hgt hrl w
    generalize rows'[i] = r' at hgm hrm w
    have pf : List.take sz r = r := List.take_of_length_le (by omega)
    have pf' : List.take sz r' = r' := List.take_of_length_le (by omega)
    by_cases he : key r = key r'
    · refine ⟨.normal, ?_⟩
      rw [eqB_true he] at w
      simp [-getElem?_pos, -mode, hci, eqS_B0, h0, h1, h5, hlt, hlt', hltm, hgt, hgm, hrl, hrm, pf, pf', mkV, w, hw, frzL_map, ren_comp, ren_map, datas_map, wnames_map, fnames_map]
      exact ⟨k, by omega, i + 1, by omega, by rw [← List.map_take, ← List.map_take, List.take_add_one, List.take_add_one, hgt, hgm, List.map_append, List.map_append, ht]; simp [he], by simp⟩
    · refine ⟨.ret, ?_⟩
      rw [eqB_false he] at w
      have hne : rows.map key ≠ rows'.map key := fun e => he (by
        have := congrArg (fun l => l[i]?) e
        simp [hgt, hgm] at this
        exact this)
      simp [-getElem?_pos, -mode, hci, eqS_B0, h0, h1, h5, hlt, hlt', hltm, hgt, hgm, hrl, hrm, pf, pf', mkV, w, hw, frzL_map, ren_comp, ren_map, datas_map, wnames_map, fnames_map, hne]

theorem run_eqS {α : Type} {f sz c n : Nat} (hF : FT f = some (eqS sz c)) (hof : orc f = false := by rfl) (hsf : spIds.contains f = false := by rfl) (hm : mode f = {} := by rfl) (hci : (mode c).inout = false := by rfl) (a b : Nat) (key : List D → α) (rows rows' : List (List D)) (hr : ∀ r ∈ rows, r.length = sz) (hr' : ∀ r ∈ rows', r.length = sz)
    (hc : ∀ r ∈ rows, ∀ r' ∈ rows', ∀ s, go n c [rowX r, rowX r'] [] s = some ⟨bV (eqB (key r) (key r')), [], []⟩) (hl : rows.length < 2 ^ 60) (hn : rows.length < n) (s : Sup) :
    go (n + 1) f [.w (.d (.l a rows)), .w (.d (.l b rows'))] [] s = some ⟨bV (eqB (rows.map key) (rows'.map key)), [], []⟩ := by
  by_cases hlen : rows.length = rows'.length
  · have hli : ((rows.length : Int) = (rows'.length : Int)) = True := eq_true (by omega)
    simp [-mode, go_of hF hof hsf, eqS, hm, hli, hlen]
    generalize hst : St.mk _ _ _ _ = st
    obtain ⟨e, ⟨τ', H', g', s'⟩, hx, -, h⟩ := run_eqS_L sz c n hci a b key rows rows' hlen hr hr' hc hl hn st (by simp [← hst]) (by simp [← hst]) (by simp [← hst])
    clear hst
    rcases h with ⟨rfl, h1⟩ | ⟨rfl, h1, h2⟩
    · simp [-mode, hx, hm, eqB_true h1]
    · simp only at h2
      simp [-mode, hx, h2, hm, eqB_false h1]
  · have hli : ((rows.length : Int) = (rows'.length : Int)) = False := eq_false (by omega)
    have hne : rows.map key ≠ rows'.map key := fun e => hlen (by simpa using congrArg List.length e)
    simp [-mode, go_of hF hof hsf, eqS, hm, hli, hlen, eqB_false hne]

/-- Two slices that hold the same, pair by pair. -/
theorem run_eqT {f sz c n : Nat} (hF : FT f = some (eqS sz c)) (hof : orc f = false := by rfl) (hsf : spIds.contains f = false := by rfl) (hm : mode f = {} := by rfl) (hci : (mode c).inout = false := by rfl) (a b : Nat) (rows rows' : List (List D)) (hlen : rows.length = rows'.length) (hr : ∀ r ∈ rows, r.length = sz) (hr' : ∀ r ∈ rows', r.length = sz)
    (hc : ∀ (i : Nat) r r', rows[i]? = some r → rows'[i]? = some r' → ∀ s, go n c [rowX r, rowX r'] [] s = some ⟨bV true, [], []⟩) (hl : rows.length < 2 ^ 60) (hn : rows.length < n) (s : Sup) :
    go (n + 1) f [.w (.d (.l a rows)), .w (.d (.l b rows'))] [] s = some ⟨bV true, [], []⟩ := by
  have hli : ((rows.length : Int) = (rows'.length : Int)) = True := eq_true (by omega)
  simp [-mode, go_of hF hof hsf, eqS, hm, hli, hlen]
  generalize hst : St.mk _ _ _ _ = st
  have key : ∃ e st', execC (go n) mode GT false 27 n (eqS_L0 sz c) st = some (e, st') ∧ e ≠ .normal ∧ e = .exit 0 := by
    rw [eqS_L0, execC_loop]
    refine iter_rule (fun k st => ∃ i, i + k = rows.length ∧ st.τ 0 = .w (.d (.l a rows)) ∧ st.τ 1 = .w (.d (.l b rows')) ∧ st.τ 5 = iV i) ?_ n rows.length st hn ⟨0, by omega, by simp [← hst], by simp [← hst], by simp [← hst]⟩
    clear hst
    rintro k ⟨τ, H, g, s⟩ ⟨i, hk, h0, h1, h5⟩
    simp only at h0 h1 h5
    cases k with
    | zero =>
      have : i = rows.length := by omega
      subst this
      refine ⟨.exit 0, ?_⟩
      simp [-getElem?_pos, eqS_B0, h0, h1, h5]
    | succ k =>
      have hlt : i < rows.length := by omega
      have hlt' : ((i : Int) < (rows.length : Int)) = True := eq_true (by omega)
      have hgt := List.getElem?_eq_getElem hlt
      have hmem := List.getElem_mem hlt
      have hltm : i < rows'.length := by omega
      have hgm := List.getElem?_eq_getElem hltm
      have hmm := List.getElem_mem hltm
      have hw := wrap_succ (i := i) (by omega)
      have hrl := hr _ hmem
      have hrm := hr' _ hmm
      have w := hc i _ _ hgt hgm
      generalize rows[i] = r at hgt hrl w
      generalize rows'[i] = r' at hgm hrm w
      have pf : List.take sz r = r := List.take_of_length_le (by omega)
      have pf' : List.take sz r' = r' := List.take_of_length_le (by omega)
      refine ⟨.normal, ?_⟩
      simp [-getElem?_pos, -mode, hci, eqS_B0, h0, h1, h5, hlt, hlt', hltm, hgt, hgm, hrl, hrm, pf, pf', mkV, w, hw, frzL_map, ren_comp, ren_map, datas_map, wnames_map, fnames_map]
      exact ⟨k, by omega, i + 1, by omega, by simp⟩
  obtain ⟨e, ⟨τ', H', g', s'⟩, hx, -, rfl⟩ := key
  clear hst
  simp [-mode, hx, hm]
end Go.VM

/- The laws' own helpers over ladders: sizes, copies, whether two are the same. Conditions: none. -/
namespace Go.VM
set_option linter.unusedSimpArgs false
set_option linter.unusedVariables false
set_option maxHeartbeats 4000000

/-! how much there is of data -/
mutual
def dW : D → Nat
  | .s _ => 0
  | .l _ rows => rows.length + rowsW rows
def rowW : List D → Nat
  | [] => 0
  | d :: r => dW d + rowW r
def rowsW : List (List D) → Nat
  | [] => 0
  | x :: r => rowW x + rowsW r
end
theorem rowsW_map : ∀ rows : List (List D), rowsW rows = (rows.map rowW).sum
  | [] => by simp [rowsW]
  | x :: r => by simp [rowsW, rowsW_map r]
mutual
def dFits : D → Prop
  | .s _ => True
  | .l _ rows => rows.length < 2 ^ 63 ∧ rowsFits rows
def rowFits : List D → Prop
  | [] => True
  | d :: r => dFits d ∧ rowFits r
def rowsFits : List (List D) → Prop
  | [] => True
  | x :: r => rowFits x ∧ rowsFits r
end
theorem rowsFits_mem : ∀ {rows : List (List D)} {r : List D}, rowsFits rows → r ∈ rows → rowFits r
  | [], r, _, h => by cases h
  | x :: q, r, hf, h => by
    simp only [rowsFits] at hf
    rcases List.mem_cons.1 h with rfl | h
    · exact hf.1
    · exact rowsFits_mem hf.2 h
abbrev szV (w K : Nat) : V := iV (if w ≤ K then ((K - w : Nat) : Int) else -1)

theorem args_rowsW : ∀ l : List Arg, rowsW (argRows l) = 0
  | [] => by simp [argRows, rowsW]
  | a :: r => by
    have := args_rowsW r
    simp only [argRows] at this
    simp [argRows, rowsW, Arg.row, rowW, dW, this]
theorem el_W (e : El) : rowW e.row = e.as.length := by
  have h := args_rowsW e.as
  simp only [argRows] at h
  simp [El.row, rowW, dW, argRows, h]
theorem els_W : ∀ l : List El, l.length + rowsW (elRows l) = elsWt l
  | [] => by simp [elRows, rowsW, elsWt]
  | e :: r => by
    have := els_W r
    simp only [elRows] at this
    simp only [elRows, List.map_cons, rowsW, el_W, elsWt, El.wt, List.length_cons]
    omega
theorem net_W : ∀ t : Net, rowW t.row + 1 = t.wt
  | .mk k op as ks => by
    have h : ∀ l : List Net, (∀ x ∈ l, rowW x.row + 1 = x.wt) → l.length + rowsW (netRows l) = netsWt l := fun l => by
      induction l with
      | nil => intro _; simp [netRows, rowsW, netsWt]
      | cons x r ih =>
        intro hx
        have h1 := hx x (List.mem_cons_self ..)
        have h2 := ih fun y hy => hx y (List.mem_cons_of_mem _ hy)
        simp only [netRows, rowsW, netsWt, List.length_cons]
        omega
    have := h ks fun x _ => net_W x
    have ha := args_rowsW as
    have la : (argRows as).length = as.length := by simp [argRows]
    have lk : (netRows ks).length = ks.length := by simp [netRows_map]
    simp only [Net.row, rowW, dW, Net.wt]
    omega
theorem nets_W : ∀ l : List Net, l.length + rowsW (netRows l) = netsWt l
  | [] => by simp [netRows, rowsW, netsWt]
  | x :: r => by
    have := nets_W r
    have h := net_W x
    simp only [netRows, rowsW, netsWt, List.length_cons]
    omega
theorem arm_W : ∀ a : Arm, a.wt ≤ 2 * rowW a.row + 2
  | .mk (.mk k op as nks) cs ks => by
    have h : ∀ l : List Arm, (∀ x ∈ l, x.wt ≤ 2 * rowW x.row + 2) → armsWt l ≤ 2 * (l.length + rowsW (armRows l)) := fun l => by
      induction l with
      | nil => intro _; simp [armRows, rowsW, armsWt]
      | cons x r ih =>
        intro hx
        have h1 := hx x (List.mem_cons_self ..)
        have h2 := ih fun y hy => hx y (List.mem_cons_of_mem _ hy)
        simp only [armRows, rowsW, armsWt, List.length_cons]
        omega
    have h1 := h ks fun x _ => arm_W x
    have h2 := els_W cs
    have h3 := nets_W nks
    have ha := args_rowsW as
    have la : (argRows as).length = as.length := by simp [argRows]
    have lk : (netRows nks).length = nks.length := by simp [netRows_map]
    have le : (elRows cs).length = cs.length := by simp [elRows]
    have lm : (armRows ks).length = ks.length := by simp [armRows_map]
    simp only [Arm.row, rowW, dW, Arm.wt, Net.wt]
    omega
theorem arms_W : ∀ l : List Arm, armsWt l ≤ 2 * (l.length + rowsW (armRows l))
  | [] => by simp [armRows, rowsW, armsWt]
  | x :: r => by
    have := arms_W r
    have h := arm_W x
    simp only [armRows, rowsW, armsWt, List.length_cons]
    omega
/-! rows of ladders -/
theorem rowX_net (t : Net) : rowX t.row = netX t := by cases t; simp [Net.row]
theorem rowX_arm (a : Arm) : rowX a.row = armX a := by
  obtain ⟨⟨k, op, as, nks⟩, cs, ks⟩ := a
  simp [Arm.row]
theorem argRow_len (a : Arg) : a.row.length = 3 := rfl
theorem elRow_len (a : El) : a.row.length = 2 := rfl
theorem argRows_all {p : List D → Prop} {l : List Arg} (h : ∀ a ∈ l, p a.row) : ∀ r ∈ argRows l, p r := by
  intro r hr
  simp only [argRows, List.mem_map] at hr
  obtain ⟨a, ha, rfl⟩ := hr
  exact h a ha
theorem elRows_all {p : List D → Prop} {l : List El} (h : ∀ a ∈ l, p a.row) : ∀ r ∈ elRows l, p r := by
  intro r hr
  simp only [elRows, List.mem_map] at hr
  obtain ⟨a, ha, rfl⟩ := hr
  exact h a ha
theorem netRows_all {p : List D → Prop} {l : List Net} (h : ∀ a ∈ l, p a.row) : ∀ r ∈ netRows l, p r := by
  intro r hr
  rw [netRows_map, List.mem_map] at hr
  obtain ⟨a, ha, rfl⟩ := hr
  exact h a ha
theorem armRows_all {p : List D → Prop} {l : List Arm} (h : ∀ a ∈ l, p a.row) : ∀ r ∈ armRows l, p r := by
  intro r hr
  rw [armRows_map, List.mem_map] at hr
  obtain ⟨a, ha, rfl⟩ := hr
  exact h a ha

/-! sizes -/
theorem sz_args {n : Nat} (l : List Arg) (hl : l.length < 2 ^ 63) (K : Nat) (hK : K < 2 ^ 40) (s : Sup) : go (n + 1) 236 [.w (asW l), iV K] [] s = some ⟨szV l.length K, [], []⟩ := by
  have := run_szL (f := 236) (n := n) rfl rfl rfl rfl 0 (argRows l) (by simp [argRows]; omega) K hK s
  rw [show (argRows l).length = l.length by simp [argRows]] at this
  exact this
theorem sz_el {n : Nat} (e : El) (hl : e.as.length < 2 ^ 63) (K : Nat) (hK : K < 2 ^ 40) (s : Sup) : go (n + 2) 226 [elX e, iV K] [] s = some ⟨szV (rowW e.row) K, [], []⟩ := by
  have w := sz_args (n := n) e.as hl K hK
  rw [el_W]
  by_cases h : e.as.length ≤ K
  · simp only [szV, if_pos h] at w ⊢
    generalize K - e.as.length = T at w ⊢
    have hT : ((T : Int) < 0) = False := eq_false (by omega)
    simp [go_of FT_226 rfl, F226, w, hT]
  · simp only [szV, if_neg h] at w ⊢
    simp [go_of FT_226 rfl, F226, w]
theorem sz_els {n : Nat} (l : List El) (hl : dFits (.l 0 (elRows l))) (hn : l.length + 3 ≤ n) (K : Nat) (hK : K < 2 ^ 40) (s : Sup) : go n 251 [.w (csW l), iV K] [] s = some ⟨szV (elsWt l) K, [], []⟩ := by
  obtain ⟨n, rfl⟩ : ∃ k, n = k + 3 := ⟨n - 3, by omega⟩
  have := run_szS (f := 251) (sz := 2) (c := 226) (n := n + 2) rfl rfl rfl rfl rfl 0 rowW (elRows l) (elRows_all fun a _ => elRow_len a)
    (fun r hr k hk s => by
      have hf := rowsFits_mem hl.2 hr
      simp only [elRows, List.mem_map] at hr
      obtain ⟨a, ha, rfl⟩ := hr
      simp only [El.row, rowFits, dFits, argRows, List.length_map] at hf
      exact sz_el (n := n) a (by omega) k hk s) (by have := hl.1; omega) (by simp [elRows]; omega) K hK s
  rw [← rowsW_map, show (elRows l).length = l.length by simp [elRows], els_W] at this
  exact this
theorem sz_net : ∀ (m : Nat) (t : Net), t.wt ≤ m → rowFits t.row → ∀ (n : Nat), 2 * m + 4 ≤ n → ∀ (K : Nat), K < 2 ^ 40 → ∀ s, go n 220 [netX t, iV K] [] s = some ⟨szV (rowW t.row) K, [], []⟩
  | 0, t, h, hm, n, hn, K, hK, s => by have := t.wt_pos; omega
  | m + 1, .mk k op as ks, h, hm, n, hn, K, hK, s => by
    obtain ⟨n, rfl⟩ : ∃ k, n = k + 3 := ⟨n - 3, by omega⟩
    simp only [Net.wt] at h
    simp only [Net.row, rowFits, dFits] at hm
    have hlen := netsWt_len ks
    have w2 : ∀ K : Nat, K < 2 ^ 40 → ∀ s, go (n + 2) 227 [.w (nsW ks), iV K] [] s = some ⟨szV (netsWt ks) K, [], []⟩ := fun K hK s => by
      have := run_szS (f := 227) (sz := 4) (c := 220) (n := n + 1) rfl rfl rfl rfl rfl 0 rowW (netRows ks) (netRows_all fun a _ => netRow_len a)
        (fun r hr k hk s => by
          have hf := rowsFits_mem hm.2.2.2.1.2 hr
          rw [netRows_map, List.mem_map] at hr
          obtain ⟨a, ha, rfl⟩ := hr
          rw [rowX_net]; exact sz_net m a (by have := netsWt_mem ha; omega) hf (n + 1) (by omega) k hk s) (by have := hm.2.2.2.1.1; omega) (by rw [netRows_map]; simp; omega) K hK s
      rw [← rowsW_map, show (netRows ks).length = ks.length by simp [netRows_map], nets_W] at this
      exact this
    have w1 := sz_el (n := n) ⟨op, as⟩ (by have := hm.2.2.1.1; simpa [argRows] using this) K hK
    have hW : rowW (Net.row (.mk k op as ks)) = as.length + netsWt ks := by have := net_W (.mk k op as ks); simp only [Net.wt] at this; omega
    rw [hW]
    rw [el_W] at w1
    simp only at w1
    by_cases h1 : as.length ≤ K
    · simp only [szV, if_pos h1] at w1
      have w2 := w2 (K - as.length) (by omega)
      by_cases h2 : netsWt ks ≤ K - as.length
      · simp only [szV, if_pos h2] at w2
        simp only [szV, if_pos (show as.length + netsWt ks ≤ K by omega)]
        rw [show K - (as.length + netsWt ks) = K - as.length - netsWt ks by omega]
        generalize K - as.length = T at w1 w2 h2 ⊢
        generalize hU : T - netsWt ks = U at w2 ⊢
        have hT : ((T : Int) < 0) = False := eq_false (by omega)
        have hU : ((U : Int) < 0) = False := eq_false (by omega)
        simp [go_of FT_220 rfl, F220, w1, w2, hT, hU]
      · simp only [szV, if_neg h2] at w2
        simp only [szV, if_neg (show ¬ as.length + netsWt ks ≤ K by omega)]
        generalize K - as.length = T at w1 w2 h2
        have hT : ((T : Int) < 0) = False := eq_false (by omega)
        simp [go_of FT_220 rfl, F220, w1, w2, hT]
    · simp only [szV, if_neg h1] at w1
      simp only [szV, if_neg (show ¬ as.length + netsWt ks ≤ K by omega)]
      simp [go_of FT_220 rfl, F220, w1]
abbrev armsD (l : List Arm) : Nat := l.length + rowsW (armRows l)
theorem sz_arms : ∀ (m : Nat) (l : List Arm), armsWt l ≤ m → dFits (.l 0 (armRows l)) → ∀ (n : Nat), 2 * m + 10 ≤ n → ∀ (K : Nat), K < 2 ^ 40 → ∀ s, go n 244 [.w (ksW l), iV K] [] s = some ⟨szV (armsD l) K, [], []⟩
  | m, l, h, hm, n, hn, K, hK, s => by
    obtain ⟨n, rfl⟩ : ∃ k, n = k + 3 := ⟨n - 3, by omega⟩
    have hlen := armsWt_len l
    have key : ∀ a ∈ l, ∀ k : Nat, k < 2 ^ 40 → ∀ s, go (n + 2) 248 [armX a, iV k] [] s = some ⟨szV (rowW a.row) k, [], []⟩ := fun a ha K hK s => by
      have hf := rowsFits_mem hm.2 (by rw [armRows_map]; exact List.mem_map_of_mem ha)
      have hwa := armsWt_mem ha
      obtain ⟨⟨nk, op, as, nks⟩, cs, ks⟩ := a
      have hnp := (Net.mk nk op as nks).wt_pos
      simp only [Arm.wt] at hwa
      have hdec : m - 1 < m := by omega
      simp only [Arm.row, rowFits, dFits] at hf
      have w1 := sz_net m (.mk nk op as nks) (by omega) (by simp only [Net.row, rowFits, dFits]; exact ⟨hf.1, hf.2.1, hf.2.2.1, hf.2.2.2.1, trivial⟩) (n + 1) (by omega)
      have w2 := sz_els (n := n + 1) cs (by simp only [dFits]; exact hf.2.2.2.2.1) (by have := elsWt_len cs; omega)
      have w3 := sz_arms (m - 1) ks (by omega) (by simp only [dFits]; exact hf.2.2.2.2.2.1) (n + 1) (by omega)
      have e1 := net_W (.mk nk op as nks)
      have hW : rowW (Arm.row (.mk (.mk nk op as nks) cs ks)) = rowW (Net.row (.mk nk op as nks)) + elsWt cs + armsD ks := by
        have h2 := els_W cs
        have ha := args_rowsW as
        have la : (argRows as).length = as.length := by simp [argRows]
        have lk : (netRows nks).length = nks.length := by simp [netRows_map]
        have le : (elRows cs).length = cs.length := by simp [elRows]
        have lm : (armRows ks).length = ks.length := by simp [armRows_map]
        simp only [Arm.row, Net.row, rowW, dW, armsD]
        omega
      rw [hW]
      generalize rowW (Net.row (.mk nk op as nks)) = A at w1 e1
      generalize elsWt cs = B at w2
      generalize armsD ks = E at w3
      by_cases h1 : A ≤ K
      · have w1 := w1 K hK
        simp only [szV, if_pos h1] at w1
        have w2 := w2 (K - A) (by omega)
        by_cases h2 : B ≤ K - A
        · simp only [szV, if_pos h2] at w2
          have w3 := w3 (K - A - B) (by omega)
          by_cases h3 : E ≤ K - A - B
          · simp only [szV, if_pos h3] at w3
            simp only [szV, if_pos (show A + B + E ≤ K by omega)]
            rw [show K - (A + B + E) = K - A - B - E by omega]
            generalize K - A = T at w1 w2 w3 h2 h3 ⊢
            generalize T - B = U at w2 w3 h3 ⊢
            generalize U - E = Z at w3 ⊢
            have hT : ((T : Int) < 0) = False := eq_false (by omega)
            have hU : ((U : Int) < 0) = False := eq_false (by omega)
            have hZ : ((Z : Int) < 0) = False := eq_false (by omega)
            simp [go_of FT_248 rfl, F248, w1, w2, w3, hT, hU, hZ]
          · simp only [szV, if_neg h3] at w3
            simp only [szV, if_neg (show ¬ A + B + E ≤ K by omega)]
            generalize K - A = T at w1 w2 w3 h2 h3
            generalize T - B = U at w2 w3 h3
            have hT : ((T : Int) < 0) = False := eq_false (by omega)
            have hU : ((U : Int) < 0) = False := eq_false (by omega)
            simp [go_of FT_248 rfl, F248, w1, w2, w3, hT, hU]
        · simp only [szV, if_neg h2] at w2
          simp only [szV, if_neg (show ¬ A + B + E ≤ K by omega)]
          generalize K - A = T at w1 w2 h2
          have hT : ((T : Int) < 0) = False := eq_false (by omega)
          simp [go_of FT_248 rfl, F248, w1, w2, hT]
      · have w1 := w1 K hK
        simp only [szV, if_neg h1] at w1
        simp only [szV, if_neg (show ¬ A + B + E ≤ K by omega)]
        simp [go_of FT_248 rfl, F248, w1]
    have := run_szS (f := 244) (sz := 6) (c := 248) (n := n + 2) rfl rfl rfl rfl rfl 0 rowW (armRows l) (armRows_all fun a _ => armRow_len a)
      (armRows_all fun a ha k hk s => by rw [rowX_arm]; exact key a ha k hk s) (by have := hm.1; omega) (by rw [armRows_map]; simp; omega) K hK s
    rw [← rowsW_map, show (armRows l).length = l.length by simp [armRows_map]] at this
    exact this
termination_by m => m
decreasing_by exact hdec
end Go.VM

/- The laws' own helpers over ladders: copies, and that what is the same is told to be. Conditions: none. -/
namespace Go.VM
set_option linter.unusedSimpArgs false
set_option linter.unusedVariables false
set_option maxHeartbeats 4000000

theorem to_arg {n : Nat} (a : Arg) (s : Sup) : go (n + 1) 241 [argX a] [] s = some ⟨argX a, [], []⟩ := by
  simp [go_of FT_241 rfl, F241]
theorem to_args {n : Nat} (l : List Arg) (hn : l.length + 3 ≤ n) (hl : l.length < 2 ^ 30) (s : Sup) : go n 237 [.w (asW l)] [] s = some ⟨.w (asW l), [], []⟩ := by
  obtain ⟨n, rfl⟩ : ∃ k, n = k + 2 := ⟨n - 2, by omega⟩
  have := run_toS (f := 237) (sz := 3) (bytes := 24) (zero := [iD 0, iD 0, iD 0]) (c := 241) (n := n + 1) rfl rfl rfl rfl rfl rfl 0 (fun r => r) (argRows l) (argRows_all fun a _ => argRow_len a) (argRows_all fun a _ => argRow_len a)
    (argRows_all fun a _ s => to_arg a s) (by omega) (by simp [argRows]; omega) (by simp [argRows]; omega) s
  rw [List.map_id'] at this
  exact this
theorem to_el {n : Nat} (e : El) (hn : e.as.length + 4 ≤ n) (hl : e.as.length < 2 ^ 30) (s : Sup) : go n 228 [elX e] [] s = some ⟨elX e, [], []⟩ := by
  obtain ⟨n, rfl⟩ : ∃ k, n = k + 1 := ⟨n - 1, by omega⟩
  have w := to_args (n := n) e.as (by omega) hl
  simp [go_of FT_228 rfl, F228, w]
theorem to_els {n : Nat} (l : List El) (hn : elsWt l + 6 ≤ n) (hl : elsWt l < 2 ^ 30) (s : Sup) : go n 252 [.w (csW l)] [] s = some ⟨.w (csW l), [], []⟩ := by
  obtain ⟨n, rfl⟩ : ∃ k, n = k + 2 := ⟨n - 2, by omega⟩
  have hlen := elsWt_len l
  have := run_toS (f := 252) (sz := 2) (bytes := 32) (zero := [iD 0, .l 0 []]) (c := 228) (n := n + 1) rfl rfl rfl rfl rfl rfl 0 (fun r => r) (elRows l) (elRows_all fun a _ => elRow_len a) (elRows_all fun a _ => elRow_len a)
    (elRows_all fun a ha s => to_el a (by have := elsWt_mem ha; simp only [El.wt] at this; omega) (by have := elsWt_mem ha; simp only [El.wt] at this; omega) s) (by omega) (by simp [elRows]; omega) (by simp [elRows]; omega) s
  rw [List.map_id'] at this
  exact this
theorem to_net : ∀ (m : Nat) (t : Net), t.wt ≤ m → m < 2 ^ 30 → ∀ (n : Nat), 2 * m + 6 ≤ n → ∀ s, go n 221 [netX t] [] s = some ⟨netX t, [], []⟩
  | 0, t, h, hm, n, hn, s => by have := t.wt_pos; omega
  | m + 1, .mk k op as ks, h, hm, n, hn, s => by
    obtain ⟨n, rfl⟩ : ∃ k, n = k + 3 := ⟨n - 3, by omega⟩
    simp only [Net.wt] at h
    have hlen := netsWt_len ks
    have w2 : ∀ s, go (n + 2) 229 [.w (nsW ks)] [] s = some ⟨.w (nsW ks), [], []⟩ := fun s => by
      have := run_toS (f := 229) (sz := 4) (bytes := 64) (zero := [iD 0, iD 0, .l 0 [], .l 0 []]) (c := 221) (n := n + 1) rfl rfl rfl rfl rfl rfl 0 (fun r => r) (netRows ks) (netRows_all fun a _ => netRow_len a) (netRows_all fun a _ => netRow_len a)
        (netRows_all fun a ha s => by rw [rowX_net]; exact to_net m a (by have := netsWt_mem ha; omega) (by omega) (n + 1) (by omega) s) (by omega) (by rw [netRows_map]; simp; omega) (by rw [netRows_map]; simp; omega) s
      rw [List.map_id'] at this
      exact this
    have w1 := to_el (n := n + 2) ⟨op, as⟩ (by simp only; omega) (by simp only; omega)
    simp [go_of FT_221 rfl, F221, w1, w2]
theorem to_arms : ∀ (m : Nat) (l : List Arm), armsWt l ≤ m → m < 2 ^ 29 → ∀ (n : Nat), 2 * m + 16 ≤ n → ∀ s, go n 245 [.w (ksW l)] [] s = some ⟨.w (ksW l), [], []⟩
  | m, l, h, hm, n, hn, s => by
    obtain ⟨n, rfl⟩ : ∃ k, n = k + 3 := ⟨n - 3, by omega⟩
    have hlen := armsWt_len l
    have key : ∀ a ∈ l, ∀ s, go (n + 2) 249 [armX a] [] s = some ⟨armX a, [], []⟩ := fun a ha s => by
      have hwa := armsWt_mem ha
      obtain ⟨⟨nk, op, as, nks⟩, cs, ks⟩ := a
      have hnp := (Net.mk nk op as nks).wt_pos
      simp only [Arm.wt] at hwa
      have hdec : m - 1 < m := by omega
      have w1 := to_net m (.mk nk op as nks) (by omega) (by omega) (n + 1) (by omega)
      have w2 := to_els (n := n + 1) cs (by omega) (by omega)
      have w3 := to_arms (m - 1) ks (by omega) (by omega) (n + 1) (by omega)
      simp [go_of FT_249 rfl, F249, w1, w2, w3]
    have := run_toS (f := 245) (sz := 6) (bytes := 112) (zero := [iD 0, iD 0, .l 0 [], .l 0 [], .l 0 [], .l 0 []]) (c := 249) (n := n + 2) rfl rfl rfl rfl rfl rfl 0 (fun r => r) (armRows l) (armRows_all fun a _ => armRow_len a) (armRows_all fun a _ => armRow_len a)
      (armRows_all fun a ha s => by rw [rowX_arm]; exact key a ha s) (by omega) (by rw [armRows_map]; simp; omega) (by rw [armRows_map]; simp; omega) s
    rw [List.map_id'] at this
    exact this
termination_by m => m
decreasing_by exact hdec

/-! what is the same is told to be -/
theorem same_arg {n : Nat} (a : Arg) (s : Sup) : go (n + 1) 242 [argX a, argX a] [] s = some ⟨bV true, [], []⟩ := by
  simp [go_of FT_242 rfl, F242]
theorem same_args {n : Nat} (l : List Arg) (hn : l.length + 3 ≤ n) (hl : l.length < 2 ^ 30) (s : Sup) : go n 238 [.w (asW l), .w (asW l)] [] s = some ⟨bV true, [], []⟩ := by
  obtain ⟨n, rfl⟩ : ∃ k, n = k + 2 := ⟨n - 2, by omega⟩
  exact run_eqT (f := 238) (sz := 3) (c := 242) (n := n + 1) rfl rfl rfl rfl rfl 0 0 (argRows l) (argRows l) rfl (argRows_all fun a _ => argRow_len a) (argRows_all fun a _ => argRow_len a)
    (fun i r r' h1 h2 s => by rw [h1] at h2; cases h2; exact argRows_all (p := fun r => go (n + 1) 242 [rowX r, rowX r] [] s = some ⟨bV true, [], []⟩) (fun a _ => same_arg a s) r (List.mem_of_getElem? h1)) (by simp [argRows]; omega) (by simp [argRows]; omega) s
theorem same_el {n : Nat} (e : El) (hn : e.as.length + 4 ≤ n) (hl : e.as.length < 2 ^ 30) (s : Sup) : go n 230 [elX e, elX e] [] s = some ⟨bV true, [], []⟩ := by
  obtain ⟨n, rfl⟩ : ∃ k, n = k + 1 := ⟨n - 1, by omega⟩
  have w := same_args (n := n) e.as (by omega) hl
  simp [go_of FT_230 rfl, F230, w]
theorem same_els {n : Nat} (l : List El) (hn : elsWt l + 6 ≤ n) (hl : elsWt l < 2 ^ 30) (s : Sup) : go n 253 [.w (csW l), .w (csW l)] [] s = some ⟨bV true, [], []⟩ := by
  obtain ⟨n, rfl⟩ : ∃ k, n = k + 2 := ⟨n - 2, by omega⟩
  have hlen := elsWt_len l
  exact run_eqT (f := 253) (sz := 2) (c := 230) (n := n + 1) rfl rfl rfl rfl rfl 0 0 (elRows l) (elRows l) rfl (elRows_all fun a _ => elRow_len a) (elRows_all fun a _ => elRow_len a)
    (fun i r r' h1 h2 s => by rw [h1] at h2; cases h2; exact elRows_all (p := fun r => go (n + 1) 230 [rowX r, rowX r] [] s = some ⟨bV true, [], []⟩) (fun a ha => same_el a (by have := elsWt_mem ha; simp only [El.wt] at this; omega) (by have := elsWt_mem ha; simp only [El.wt] at this; omega) s) r (List.mem_of_getElem? h1)) (by simp [elRows]; omega) (by simp [elRows]; omega) s
theorem same_net : ∀ (m : Nat) (t : Net), t.wt ≤ m → m < 2 ^ 30 → ∀ (n : Nat), 2 * m + 6 ≤ n → ∀ s, go n 223 [netX t, netX t] [] s = some ⟨bV true, [], []⟩
  | 0, t, h, hm, n, hn, s => by have := t.wt_pos; omega
  | m + 1, .mk k op as ks, h, hm, n, hn, s => by
    obtain ⟨n, rfl⟩ : ∃ k, n = k + 3 := ⟨n - 3, by omega⟩
    simp only [Net.wt] at h
    have hlen := netsWt_len ks
    have w2 : ∀ s, go (n + 2) 231 [.w (nsW ks), .w (nsW ks)] [] s = some ⟨bV true, [], []⟩ := fun s =>
      run_eqT (f := 231) (sz := 4) (c := 223) (n := n + 1) rfl rfl rfl rfl rfl 0 0 (netRows ks) (netRows ks) rfl (netRows_all fun a _ => netRow_len a) (netRows_all fun a _ => netRow_len a)
        (fun i r r' h1 h2 s => by rw [h1] at h2; cases h2; exact netRows_all (p := fun r => go (n + 1) 223 [rowX r, rowX r] [] s = some ⟨bV true, [], []⟩) (fun a ha => by rw [rowX_net]; exact same_net m a (by have := netsWt_mem ha; omega) (by omega) (n + 1) (by omega) s) r (List.mem_of_getElem? h1)) (by rw [netRows_map]; simp; omega) (by rw [netRows_map]; simp; omega) s
    have w1 := same_el (n := n + 2) ⟨op, as⟩ (by simp only; omega) (by simp only; omega)
    simp [go_of FT_223 rfl, F223, w1, w2]
theorem same_arms : ∀ (m : Nat) (l : List Arm), armsWt l ≤ m → m < 2 ^ 29 → ∀ (n : Nat), 2 * m + 16 ≤ n → ∀ s, go n 247 [.w (ksW l), .w (ksW l)] [] s = some ⟨bV true, [], []⟩
  | m, l, h, hm, n, hn, s => by
    obtain ⟨n, rfl⟩ : ∃ k, n = k + 3 := ⟨n - 3, by omega⟩
    have hlen := armsWt_len l
    have key : ∀ a ∈ l, ∀ s, go (n + 2) 250 [armX a, armX a] [] s = some ⟨bV true, [], []⟩ := fun a ha s => by
      have hwa := armsWt_mem ha
      obtain ⟨⟨nk, op, as, nks⟩, cs, ks⟩ := a
      have hnp := (Net.mk nk op as nks).wt_pos
      simp only [Arm.wt] at hwa
      have hdec : m - 1 < m := by omega
      have w1 := same_net m (.mk nk op as nks) (by omega) (by omega) (n + 1) (by omega)
      have w2 := same_els (n := n + 1) cs (by omega) (by omega)
      have w3 := same_arms (m - 1) ks (by omega) (by omega) (n + 1) (by omega)
      simp [go_of FT_250 rfl, F250, w1, w2, w3]
    exact run_eqT (f := 247) (sz := 6) (c := 250) (n := n + 2) rfl rfl rfl rfl rfl 0 0 (armRows l) (armRows l) rfl (armRows_all fun a _ => armRow_len a) (armRows_all fun a _ => armRow_len a)
      (fun i r r' h1 h2 s => by rw [h1] at h2; cases h2; exact armRows_all (p := fun r => go (n + 2) 250 [rowX r, rowX r] [] s = some ⟨bV true, [], []⟩) (fun a ha => by rw [rowX_arm]; exact key a ha s) r (List.mem_of_getElem? h1)) (by rw [armRows_map]; simp; omega) (by rw [armRows_map]; simp; omega) s
termination_by m => m
decreasing_by exact hdec
end Go.VM
