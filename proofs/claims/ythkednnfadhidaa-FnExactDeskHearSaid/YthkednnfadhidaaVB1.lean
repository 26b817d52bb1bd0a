/- The lists of bytes of the laws' own words, reckoned. Conditions: none. -/
import Derived.Test.YthkednnfadhidaaVM31

namespace Go.VM
set_option linter.unusedSimpArgs false
set_option maxHeartbeats 4000000

/-- Bytes as rows. -/
def byt (l : List Int) : List (List D) := l.map fun n => [.s (.int .u8 n)]
@[simp] theorem byt_length (l : List Int) : (byt l).length = l.length := by simp [byt]

@[simp] theorem take_byt (l : List Int) : List.take l.length (byt l) = byt l := by rw [← byt_length l, List.take_length]

def szB (left : Int) (n : Nat) : Int := if IntKind.wrap .i64 (left - n) < 0 then -1 else IntKind.wrap .i64 (left - n)

theorem run_szByteS {n : Nat} (hn : 1 ≤ n) (st : Nat) (rows : List (List D)) (left : Int) (s : Sup) :
    go n 87 [.w (.d (.l st rows)), .w (.d (.s (.int .i64 left)))] [] s = some ⟨sV (.int .i64 (szB left rows.length)), [], []⟩ := by
  obtain ⟨n, rfl⟩ : ∃ k, n = k + 1 := ⟨n - 1, by omega⟩
  unfold szB
  by_cases h : IntKind.wrap .i64 (left - rows.length) < 0 <;> simp [go_of FT_87 rfl, F87, h]

theorem wrap_nat {i : Nat} (h : i < 2 ^ 62) : IntKind.wrap .i64 (i : Int) = i := by
  simp [IntKind.wrap, IntKind.bits]; omega
theorem wrap_succ {i : Nat} (h : i < 2 ^ 62) : IntKind.wrap .i64 ((i : Int) + 1) = ((i + 1 : Nat) : Int) := by
  simp [IntKind.wrap, IntKind.bits]; omega
theorem byt_get {l : List Int} {i : Nat} {a : Int} (h : l[i]? = some a) : (byt l)[i]? = some [.s (.int .u8 a)] := by simp [byt, h]

/-- A copy, byte by byte. -/
theorem loop88 {n : Nat} (l : List Int) (hn : l.length < n) (hl : l.length < 2 ^ 62) (st0 : Nat) (st : St) (h0 : st.τ 0 = .w (.d (.l st0 (byt l)))) (h3 : st.τ 3 = .w (.own 192 0 l.length (some l.length))) (h4 : st.τ 4 = sV (.int .i64 0))
    (hH : st.H 192 = .row none 1 (List.replicate l.length [.s (.int .u8 0)]) 0) :
    ∃ e st', execC (go n) mode (fun _ => none) false 22 n F88_L0 st = some (e, st') ∧ e ≠ .normal ∧ (e = .exit 0 ∧ st'.τ 3 = .w (.own 192 0 l.length (some l.length)) ∧ st'.H 192 = .row none 1 (byt l) 0) := by
  rw [F88_L0, execC_loop]
  refine iter_rule (fun k st => ∃ i, i + k = l.length ∧ st.τ 0 = .w (.d (.l st0 (byt l))) ∧ st.τ 3 = .w (.own 192 0 l.length (some l.length)) ∧ st.τ 4 = sV (.int .i64 i) ∧
    st.H 192 = .row none 1 (byt (l.take i) ++ List.replicate k [.s (.int .u8 0)]) 0) ?_ n l.length st hn ⟨0, by omega, h0, h3, by simpa using h4, by simpa [byt] using hH⟩
  rintro k ⟨τ, H, g, s⟩ ⟨i, hk, h0, h3, h4, hH⟩
  simp only at h0 h3 h4 hH
  cases k with
  | zero =>
    have : i = l.length := by omega
    subst this
    refine ⟨.exit 0, ?_⟩
    simp [F88_B0, h0, h3, h4, hH]
  | succ k =>
    have hlt : i < l.length := by omega
    have hg := List.getElem?_eq_getElem hlt
    have hb := byt_get hg
    have hw := wrap_succ (i := i) (by omega)
    have hrow : (byt (l.take i) ++ List.replicate (k + 1) [D.s (.int .u8 0)])[i]? = some [D.s (.int .u8 0)] := by
      rw [List.getElem?_append_right (by simp; omega)]
      have e1 : i - (byt (l.take i)).length = 0 := by simp; omega
      rw [e1]; rfl
    have hset : (byt (l.take i) ++ List.replicate (k + 1) [D.s (.int .u8 0)]).set i [D.s (.int .u8 l[i])] = byt (l.take (i + 1)) ++ List.replicate k [D.s (.int .u8 0)] := by
      rw [List.set_append_right _ _ (by simp; omega)]
      have e1 : i - (byt (l.take i)).length = 0 := by simp; omega
      have e2 : byt (l.take (i + 1)) = byt (l.take i) ++ [[D.s (.int .u8 l[i])]] := by rw [List.take_add_one, hg]; simp only [byt, Option.toList_some, List.map_append, List.map_cons, List.map_nil]
      rw [e1, e2]
      simp [List.replicate_succ]
    refine ⟨.normal, ?_⟩
    simp [-getElem?_pos, F88_B0, h0, h3, h4, hH, hlt, hb, hw, hrow, hset]
    exact ⟨k, by omega, i + 1, by omega, rfl, rfl⟩

theorem run_toByteS {n : Nat} (l : List Int) (hn : l.length + 2 ≤ n) (hl : room l.length 1 = true) (st0 : Nat) (s : Sup) :
    go n 88 [.w (.d (.l st0 (byt l)))] [] s = some ⟨.w (.own 0 0 l.length (some l.length)), [], [.row none 1 (byt l) 0]⟩ := by
  obtain ⟨n, rfl⟩ : ∃ k, n = k + 1 := ⟨n - 1, by omega⟩
  have hlt : l.length < 2 ^ 62 := by simp [room] at hl; omega
  simp [go_of FT_88 rfl, F88, hl]
  generalize hst : St.mk _ _ _ _ = st
  obtain ⟨e, st', hx, -, rfl, h3, hH⟩ := loop88 (n := n) l (by omega) hlt st0 st (by simp [← hst]) (by simp [← hst]) (by simp [← hst]) (by simp [← hst])
  simp [hx, h3, hH]

/-- Two lists of bytes compared. -/
theorem loop80 {n : Nat} (l m : List Int) (hlm : l.length = m.length) (hn : l.length < n) (hl : l.length < 2 ^ 62) (s0 s1 : Nat) (st : St) (h0 : st.τ 0 = .w (.d (.l s0 (byt l)))) (h1 : st.τ 1 = .w (.d (.l s1 (byt m)))) (h5 : st.τ 5 = sV (.int .i64 0)) :
    ∃ e st', execC (go n) mode (fun _ => none) false 26 n F80_L0 st = some (e, st') ∧ e ≠ .normal ∧ ((l = m ∧ e = .exit 0) ∨ (l ≠ m ∧ e = .ret ∧ st'.τ 4 = sV (.bool false))) := by
  rw [F80_L0, execC_loop]
  refine iter_rule (fun k st => ∃ i, i + k = l.length ∧ l.take i = m.take i ∧ st.τ 0 = .w (.d (.l s0 (byt l))) ∧ st.τ 1 = .w (.d (.l s1 (byt m))) ∧ st.τ 5 = sV (.int .i64 i)) ?_ n l.length st hn ⟨0, by omega, rfl, h0, h1, by simpa using h5⟩
  rintro k ⟨τ, H, g, s⟩ ⟨i, hk, ht, h0, h1, h5⟩
  simp only at h0 h1 h5
  cases k with
  | zero =>
    have : i = l.length := by omega
    subst this
    refine ⟨.exit 0, ?_⟩
    have hlm2 : l = m := by rw [List.take_length, hlm, List.take_length] at ht; exact ht
    simp [F80_B0, h0, h1, h5, hlm2]
  | succ k =>
    have hlt : i < l.length := by omega
    have hg := List.getElem?_eq_getElem hlt
    have hb := byt_get hg
    have hltm : i < m.length := by omega
    have hgm := List.getElem?_eq_getElem hltm
    have hbm := byt_get hgm
    have hw := wrap_succ (i := i) (by omega)
    by_cases he : l[i] = m[i]
    · refine ⟨.normal, ?_⟩
      have he' := eq_true he
      simp [-getElem?_pos, F80_B0, h0, h1, h5, hlt, hb, hbm, hw, he']
      exact ⟨k, by omega, i + 1, by omega, by rw [List.take_add_one, List.take_add_one, ht, hg, hgm, he], rfl⟩
    · refine ⟨.ret, ?_⟩
      have he' := eq_false he
      simp [-getElem?_pos, F80_B0, h0, h1, h5, hlt, hb, hbm, hw, he']
      rintro rfl
      exact he rfl

theorem run_eqByteS {n : Nat} (l m : List Int) (hn : l.length + 2 ≤ n) (hl : l.length < 2 ^ 62) (s0 s1 : Nat) (s : Sup) :
    go n 80 [.w (.d (.l s0 (byt l))), .w (.d (.l s1 (byt m)))] [] s = some ⟨sV (.bool (decide (l = m))), [], []⟩ := by
  obtain ⟨n, rfl⟩ : ∃ k, n = k + 1 := ⟨n - 1, by omega⟩
  by_cases hlm : l.length = m.length
  · simp [go_of FT_80 rfl, F80, hlm]
    generalize hst : St.mk _ _ _ _ = st
    obtain ⟨e, st', hx, -, ⟨he, rfl⟩ | ⟨he, rfl, h4⟩⟩ := loop80 (n := n) l m hlm (by omega) hl s0 s1 st (by simp [← hst]) (by simp [← hst]) (by simp [← hst])
    · simp [hx, he]
    · simp [hx, he, h4]
  · have : l ≠ m := fun e => hlm (by rw [e])
    have h2 : ((l.length : Int) = (m.length : Int)) = False := eq_false (by omega)
    simp [go_of FT_80 rfl, F80, h2, this]

end Go.VM
