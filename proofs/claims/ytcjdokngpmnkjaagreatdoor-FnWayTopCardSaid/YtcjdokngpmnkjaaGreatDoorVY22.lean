/- WayDown, run. Conditions: none. -/
import Derived.Test.YtcjdokngpmnkjaaGreatDoorVY11
import Derived.Test.YtcjdokngpmnkjaaGreatDoorVY4

namespace Go.VM
set_option linter.unusedSimpArgs false
set_option linter.unusedVariables false
set_option maxHeartbeats 16000000
/-- What WayDown answers. -/
def downCode (l : List Arm) : Int := if treeCode l = 0 then if 16 < bitsOf (normOf l) ∨ 8 < forksOf (normOf l) then 2 else 0 else 1
def downList (l : List Arm) : List Ins := if downCode l = 0 then plainOf (normOf l) else []
theorem run_WayDown (l : List Arm) (hm : armsWt l < 2 ^ 25) (n : Nat) (hn : 6 * armsWt l + 500 ≤ n) (s : Sup) : go n 271 [.w (ksW l)] [] s = some ⟨.tup [(false, [isW (downList l)]), (false, [iW (downCode l)])], [], []⟩ := by
 obtain ⟨n, rfl⟩ : ∃ k, n = k + 2 := ⟨n - 2, by omega⟩
 have w1 := run_accepted l (by omega) (n + 1) (by omega)
 by_cases h : treeCode l = 0
 · have w2 := run_plain l hm (treeCode_right h) h (n + 1) (by omega)
   have e : normOf l = armsNorm l := by unfold normOf; rw [if_pos h]
   have w3 := run_WayBits l hm (n + 1) (by omega)
   have w4 := run_WayForks l hm (n + 1) (by omega)
   have hlp := len_plainOf (normOf l) (normOf_right l)
   have hsz := armsSize_le (normOf l)
   have hwt := normOf_wt l
   have w5 := run_clip (n := n) (plainOf (normOf l)) (by omega)
   rw [← e] at w2
   unfold downList downCode
   rw [if_pos h]
   generalize normOf l = y at w2 w3 w4 w5
   by_cases hb : 16 < bitsOf y
   · have hb' : ((16 : Int) < (bitsOf y : Int)) = True := eq_true (by omega)
     simp [go_of (n := n + 1) FT_271 rfl, F271, w1, h, w2, w3, w4, w5, hb, hb', insRows]
   · have hb' : ((16 : Int) < (bitsOf y : Int)) = False := eq_false (by omega)
     by_cases hf : 8 < forksOf y
     · have hf' : ((8 : Int) < (forksOf y : Int)) = True := eq_true (by omega)
       simp [go_of (n := n + 1) FT_271 rfl, F271, w1, h, w2, w3, w4, w5, hb, hb', hf, hf', insRows]
     · have hf' : ((8 : Int) < (forksOf y : Int)) = False := eq_false (by omega)
       simp [go_of (n := n + 1) FT_271 rfl, F271, w1, h, w2, w3, w4, w5, hb, hb', hf, hf']
 · unfold downList downCode
   rw [if_neg h]
   simp [go_of (n := n + 1) FT_271 rfl, F271, w1, h, insRows]
abbrev hX (s : Int × Int) : V := .agg [iW s.1, iW s.2]
def hRow (s : Int × Int) : List D := [iD s.1, iD s.2]
def hRows (l : List (Int × Int)) : List (List D) := l.map hRow
theorem hRows_length (l : List (Int × Int)) : (hRows l).length = l.length := by simp [hRows]
theorem hRows_get {l : List (Int × Int)} {i : Nat} {x : Int × Int} (h : l[i]? = some x) : (hRows l)[i]? = some [iD x.1, iD x.2] := by simp [hRows, h, hRow]
theorem heights_length (s : Int × Int) : ∀ l : List Ins, (heights s l).length = l.length
 | [] => rfl
 | i :: r => by simp only [heights, List.length_cons, heights_length (behind s i.c) r]
theorem lastH_take {l : List Ins} {i : Nat} {x : Ins} (s : Int × Int) (h : l[i]? = some x) : lastH s (l.take (i + 1)) = behind (lastH s (l.take i)) x.c := by
 rw [List.take_add_one, h, lastH_append]; rfl
theorem heights_take {l : List Ins} {i : Nat} {x : Ins} (s : Int × Int) (h : l[i]? = some x) : heights s (l.take (i + 1)) = heights s (l.take i) ++ [behind (lastH s (l.take i)) x.c] := by
 rw [List.take_add_one, h, heights_append]; rfl
theorem behind_bnd {s : Int × Int} {c k : Int} (h : -k ≤ s.1 ∧ s.1 ≤ k ∧ -k ≤ s.2 ∧ s.2 ≤ k) : -(k + 1) ≤ (behind s c).1 ∧ (behind s c).1 ≤ k + 1 ∧ -(k + 1) ≤ (behind s c).2 ∧ (behind s c).2 ≤ k + 1 := by
 unfold behind
 split
 · simp only; omega
 · split
   · simp only; omega
   · split
     · simp only; omega
     · split <;> (try simp only) <;> omega
theorem lastH_bnd : ∀ (l : List Ins) (s : Int × Int) (k : Int), -k ≤ s.1 ∧ s.1 ≤ k ∧ -k ≤ s.2 ∧ s.2 ≤ k → -(k + l.length) ≤ (lastH s l).1 ∧ (lastH s l).1 ≤ k + l.length ∧ -(k + l.length) ≤ (lastH s l).2 ∧ (lastH s l).2 ≤ k + l.length
 | [], s, k, h => by simpa [lastH] using h
 | i :: r, s, k, h => by
  have := lastH_bnd r (behind s i.c) (k + 1) (behind_bnd h)
  rw [show lastH s (i :: r) = lastH (behind s i.c) r from rfl, List.length_cons, show k + ((r.length + 1 : Nat) : Int) = k + 1 + r.length by omega]
  exact this
theorem run_behind {n : Nat} (s0 : Int × Int) (c : Int) (h : -(2 ^ 40) ≤ s0.1 ∧ s0.1 ≤ 2 ^ 40 ∧ -(2 ^ 40) ≤ s0.2 ∧ s0.2 ≤ 2 ^ 40) (s : Sup) : go (n + 1) 311 [hX s0, iV c] [] s = some ⟨hX (behind s0 c), [], []⟩ := by
 obtain ⟨b, f⟩ := s0
 simp only at h
 have w1 : IntKind.i64.wrap (b + 1) = b + 1 := wrap_id (by omega) (by omega)
 have w2 : IntKind.i64.wrap (b - 1) = b - 1 := wrap_id (by omega) (by omega)
 have w3 : IntKind.i64.wrap (f + 1) = f + 1 := wrap_id (by omega) (by omega)
 have w4 : IntKind.i64.wrap (f - 1) = f - 1 := wrap_id (by omega) (by omega)
 unfold behind
 by_cases c1 : c = 1
 · simp [go_of (n := n) FT_311 rfl, F311, c1, w1]
 by_cases c4 : c = 4
 · simp [go_of (n := n) FT_311 rfl, F311, c4, w2]
 by_cases c5 : c = 5
 · simp [go_of (n := n) FT_311 rfl, F311, c5, w2]
 by_cases c11 : c = 11
 · simp [go_of (n := n) FT_311 rfl, F311, c11, w2]
 by_cases c7 : c = 7
 · simp [go_of (n := n) FT_311 rfl, F311, c7, w3]
 by_cases c9 : c = 9
 · simp [go_of (n := n) FT_311 rfl, F311, c9, w4]
 simp [go_of (n := n) FT_311 rfl, F311, c1, c4, c5, c11, c7, c9]
theorem loop308_0 {n : Nat} (b q : Nat) (hbq : b ≠ q) (l : List Ins) (h4n : 1 ≤ n) (hn : l.length < n) (hl : l.length < 2 ^ 38) (st : St) (h3 : st.τ 3 = .w (.own b 0 l.length (some l.length))) (hB : st.H b = .row none 2 (List.replicate l.length [iD 0, iD 0]) 0) (h4 : st.τ 4 = .w (.ptr q 0)) (hQ : st.H q = .cells [iW 0, iW 0]) (h9 : st.τ 14 = .w (isW l)) (h10 : st.τ 15 = iV l.length) (h11 : st.τ 16 = iV 0) (hgg : b < st.g) (hgq : q < st.g) :
 ∃ e st', execC (go n) mode GT false 31 n F308_L0 st = some (e, st') ∧ e ≠ .normal ∧ (e = .exit 0 ∧ st'.τ 3 = .w (.own b 0 l.length (some l.length)) ∧ st'.H b = .row none 2 (hRows (heights (0, 0) l)) 0) := by
 rw [F308_L0, execC_loop]
 refine iter_rule (fun k st => ∃ i, i + k = l.length ∧ st.τ 3 = .w (.own b 0 l.length (some l.length)) ∧ st.H b = .row none 2 (hRows (heights (0, 0) (l.take i)) ++ List.replicate k [iD 0, iD 0]) 0 ∧ st.τ 4 = .w (.ptr q 0) ∧ st.H q = .cells [iW (lastH (0, 0) (l.take i)).1, iW (lastH (0, 0) (l.take i)).2] ∧ st.τ 14 = .w (isW l) ∧ st.τ 15 = iV l.length ∧ st.τ 16 = iV i ∧ b < st.g ∧ q < st.g) ?_ n l.length st hn ⟨0, by omega, h3, by simpa [hRows, heights] using hB, h4, by simpa [lastH] using hQ, h9, h10, by simpa using h11, hgg, hgq⟩
 clear h3 hB h4 hQ h9 h10 h11 hgg hgq
 rintro k ⟨τ, H, g, s⟩ ⟨i, hk, h3, hB, h4, hQ, h9, h10, h11, hgg, hgq⟩
 simp only at h3 hB h4 hQ h9 h10 h11 hgg hgq
 cases k with
 | zero =>
  have : i = l.length := by omega
  subst this
  rw [List.take_length] at hB
  refine ⟨.exit 0, ?_⟩
  simp [F308_B0, h3, h9, h10, h11, hB]
 | succ k =>
  have hlt : i < l.length := by omega
  have hlt' : ((i : Int) < (l.length : Int)) = True := eq_true (by omega)
  have hg := List.getElem?_eq_getElem hlt
  have hmem := List.getElem_mem hlt
  have hw := wrap_succ (i := i) (by omega)
  have hbn := lastH_bnd (l.take i) (0, 0) 0 (by simp)
  have hlL : (l.take i).length = i := by rw [List.length_take]; omega
  rw [hlL] at hbn
  have hlT : (hRows (heights (0, 0) (l.take i))).length = i := by rw [hRows_length, heights_length]; omega
  have s1 := lastH_take (0, 0) hg
  have s2 := heights_take (0, 0) hg
  obtain ⟨c, op, as, hx⟩ : ∃ c op as, l[i] = ⟨c, ⟨op, as⟩⟩ := ⟨_, _, _, rfl⟩
  rw [hx] at hg s1 s2
  simp only at s1 s2
  generalize lastH (0, 0) (l.take i) = u at hQ hbn s1 s2
  have w : ∀ s, go n 311 [hX u, iV c] [] s = some ⟨hX (behind u c), [], []⟩ := fun s => by
   have := run_behind (n := n - 1) u c (by omega) s
   rwa [show n - 1 + 1 = n by omega] at this
  generalize heights (0, 0) (l.take i) = R at hB hlT s2
  generalize behind u c = v at w s1 s2
  obtain ⟨u1, u2⟩ := u
  obtain ⟨v1, v2⟩ := v
  simp only at hQ w
  have hget := fill_get (k := k) hlT [iD 0, iD 0]
  have hset := fill_set (k := k) hlT [iD 0, iD 0] [iD v1, iD v2]
  have hb := insRows_get hg
  have fgX := far hgg
  have fqX := far hgq
  have e1 : (b = q) = False := eq_false hbq
  have e2 : (q = b) = False := eq_false fun e => hbq e.symm
  refine ⟨.normal, ?_⟩
  simp [-getElem?_pos, F308_B0, h3, h4, h9, h10, h11, hB, hQ, hlt, hlt', hb, w, hw, hget, hset, fgX, fqX, e1, e2]
  refine ⟨k, by omega, i + 1, by omega, ?_⟩
  rw [s1, s2]
  have eR : hRows (R ++ [(v1, v2)]) = hRows R ++ [[iD v1, iD v2]] := by simp [hRows, hRow]
  simp [eR, fgX, fqX, h3, h4, h9, h10, hgg, hgq, e1, e2]
  omega
theorem run_SureTrace {n : Nat} (l : List Ins) (hl : l.length < 2 ^ 29) (hn : l.length < n) (s : Sup) : go (n + 1) 308 [.w (isW l)] [] s = some ⟨.w (.d (.l 0 (hRows (if 1000 < l.length then [] else heights (0, 0) l)))), [], []⟩ := by
 by_cases h : 1000 < l.length
 · have hi : ((1000 : Int) < (l.length : Int)) = True := eq_true (by omega)
   simp [go_of (n := n) FT_308 rfl, F308, insRows_length, h, hi, hRows]
 · have hi : ((1000 : Int) < (l.length : Int)) = False := eq_false (by omega)
   rw [if_neg h]
   have rm : room l.length 16 = true := room_of (by omega) (by omega)
   simp [go_of (n := n) FT_308 rfl, F308, insRows_length, hi, rm]
   generalize hst : St.mk _ _ _ _ = st
   obtain ⟨e, ⟨τ', H', g', s'⟩, hx, -, rfl, h3, hB⟩ := loop308_0 (n := n) 384 576 (by omega) l (by omega) hn (by omega) st (by simp [← hst]) (by simp [← hst]) (by simp [← hst]) (by simp [← hst]) (by simp [← hst]) (by simp [← hst]) (by simp [← hst]) (by simp [← hst]) (by simp [← hst])
   simp only at h3 hB
   clear hst
   have tk : List.take l.length (hRows (heights (0, 0) l)) = hRows (heights (0, 0) l) := List.take_of_length_le (by rw [hRows_length, heights_length]; omega)
   simp [hx, h3, hB, tk, hRows_length, heights_length]
theorem topH_take {l : List (Int × Int)} {i : Nat} {x : Int × Int} (m : Int × Int) (h : l[i]? = some x) : topH m (l.take (i + 1)) = (max (topH m (l.take i)).1 x.1, max (topH m (l.take i)).2 x.2) := by
 rw [List.take_add_one, h, topH_append]; rfl
theorem loop282_0 {n : Nat} (p : Nat) (l : List (Int × Int)) (hn : l.length < n) (hl : l.length < 2 ^ 38) (st : St) (h3 : st.τ 3 = .w (.ptr p 0)) (hB : st.H p = .cells [iW 0, iW 0]) (h9 : st.τ 8 = .w (.d (.l 0 (hRows l)))) (h10 : st.τ 9 = iV l.length) (h11 : st.τ 10 = iV 0) (hgg : p < st.g) (h2 : st.τ 2 = .w (.ptr 0 0)) (hp : p ≠ 0) (h2g : 0 < st.g) (h2c : st.H 0 = .cells [iW 0, iW 0]) :
 ∃ e st', execC (go n) mode GT false 27 n F282_L0 st = some (e, st') ∧ e ≠ .normal ∧ (e = .exit 0 ∧ st'.τ 3 = .w (.ptr p 0) ∧ st'.H p = .cells [iW (topH (0, 0) l).1, iW (topH (0, 0) l).2] ∧ st'.τ 2 = .w (.ptr 0 0) ∧ p < st'.g ∧ 0 < st'.g ∧ st'.H 0 = .cells [iW 0, iW 0]) := by
 rw [F282_L0, execC_loop]
 refine iter_rule (fun k st => ∃ i, i + k = l.length ∧ st.τ 3 = .w (.ptr p 0) ∧ st.H p = .cells [iW (topH (0, 0) (l.take i)).1, iW (topH (0, 0) (l.take i)).2] ∧ st.τ 8 = .w (.d (.l 0 (hRows l))) ∧ st.τ 9 = iV l.length ∧ st.τ 10 = iV i ∧ p < st.g ∧ st.τ 2 = .w (.ptr 0 0) ∧ 0 < st.g ∧ st.H 0 = .cells [iW 0, iW 0]) ?_ n l.length st hn ⟨0, by omega, h3, by simpa [topH] using hB, h9, h10, by simpa using h11, hgg, h2, h2g, h2c⟩
 clear h3 hB h9 h10 h11 hgg h2 h2g h2c
 rintro k ⟨τ, H, g, s⟩ ⟨i, hk, h3, hB, h9, h10, h11, hgg, h2, h2g, h2c⟩
 simp only at h3 hB h9 h10 h11 hgg h2 h2g h2c
 cases k with
 | zero =>
  have : i = l.length := by omega
  subst this
  rw [List.take_length] at hB
  refine ⟨.exit 0, ?_⟩
  simp [F282_B0, h3, h9, h10, h11, hB, h2, h2c]
  omega
 | succ k =>
  have hlt : i < l.length := by omega
  have hlt' : ((i : Int) < (l.length : Int)) = True := eq_true (by omega)
  have hg := List.getElem?_eq_getElem hlt
  have hw := wrap_succ (i := i) (by omega)
  have s1 := topH_take (0, 0) hg
  have hb := hRows_get hg
  generalize l[i] = v at hb s1
  obtain ⟨v1, v2⟩ := v
  generalize topH (0, 0) (l.take i) = u at hB s1
  obtain ⟨u1, u2⟩ := u
  simp only at hB s1 hb
  have fgX := far hgg
  have f2X := far h2g
  have e1 : (p = 0) = False := eq_false hp
  have e2 : (0 = p) = False := eq_false fun e => hp e.symm
  refine ⟨.normal, ?_⟩
  simp [-getElem?_pos, F282_B0, h3, h9, h10, h11, hB, hlt, hlt', hb, hw, fgX, f2X, e1, e2]
  refine ⟨k, by omega, i + 1, by omega, ?_⟩
  rw [s1]
  simp [fgX, f2X, e1, e2, h3, h9, h10, h2, h2c]
  refine ⟨⟨by split <;> omega, by split <;> omega⟩, by omega⟩
theorem run_SurePeak {n : Nat} (l : List Ins) (hl : l.length < 2 ^ 29) (hn : l.length + 2 < n) (s : Sup) : go (n + 1) 282 [.w (isW l)] [] s = some ⟨hX (if 1000 < l.length then (0, 0) else peakOf l), [], []⟩ := by
 obtain ⟨n, rfl⟩ : ∃ k, n = k + 1 := ⟨n - 1, by omega⟩
 have w := run_SureTrace (n := n) l hl (by omega)
 have e : (if 1000 < l.length then (0, 0) else peakOf l) = topH (0, 0) (if 1000 < l.length then [] else heights (0, 0) l) := by split <;> rfl
 have hlen : (if 1000 < l.length then [] else heights (0, 0) l).length ≤ l.length := by split <;> simp [heights_length]
 rw [e]
 generalize (if 1000 < l.length then [] else heights (0, 0) l) = L at w hlen
 simp [go_of (n := n + 1) FT_282 rfl, F282, w, hRows_length]
 generalize hst : St.mk _ _ _ _ = st
 obtain ⟨e, ⟨τ', H', g', s'⟩, hx, -, rfl, h3, hB, h2, hg1, hg2, hc⟩ := loop282_0 (n := n + 1) 128 L (by omega) (by omega) st (by simp [← hst]) (by simp [← hst]) (by simp [← hst]) (by simp [← hst]) (by simp [← hst]) (by simp [← hst]) (by simp [← hst]) (by simp [← hst]) (by simp [← hst]) (by simp [← hst])
 simp only at h3 hB h2 hg1 hg2 hc
 clear hst
 simp [hx, h3, hB, h2, hc]
end Go.VM
