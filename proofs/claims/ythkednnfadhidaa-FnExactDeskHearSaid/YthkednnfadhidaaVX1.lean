/- The value machine: how the laws of exactness are run: calls borrow, marks write. Conditions: none. -/
import Derived.Test.YthkednnfadhidaaVM41
import Derived.Test.YthkednnfadhidaaVB1

namespace Go.VM
set_option linter.unusedSimpArgs false
set_option linter.unusedVariables false
set_option maxHeartbeats 4000000

def specIds : List Nat := [20, 30, 34, 26, 50]
def implIds : List Nat := [21, 12, 25, 35, 51]
def markIds : List Nat := [22, 63, 81, 32, 76, 47, 37]
def modeI (_ : Nat) : Mode := ⟨false, false, true⟩
def modeT (f : Nat) : Mode := ⟨false, false, !specIds.contains f⟩
def goM (n : Nat) : CallT := run FT (fun _ => false) ans modeI (fun _ => none) n
def goB (n : Nat) : CallT := fun f args bs s => if implIds.contains f then (match FT f with | some F => runMv (go n) mode (fun _ => none) n F args bs s | none => none) else go n f args bs s
def goX (n : Nat) : CallT := fun f args bs s => if markIds.contains f then goM n f args bs s else if specIds.contains f then go n f args bs s else brw (goB n) f args bs s
def goT (n : Nat) : CallT := fun f args bs s => match FT f with | some F => runF (goX n) modeT (fun _ => none) n f F args bs s | none => none

theorem goM_of {f : Nat} {F : Fn} (hF : FT f = some F) {n : Nat} {args : List V} {bs : List Box} {s : Sup} : goM (n + 1) f args bs s = runF (goM n) modeI (fun _ => none) n f F args bs s := by
  unfold goM
  simp [run, hF]
theorem goT_of {f : Nat} {F : Fn} (hF : FT f = some F) {n : Nat} {args : List V} {bs : List Box} {s : Sup} : goT n f args bs s = runF (goX n) modeT (fun _ => none) n f F args bs s := by
  unfold goT
  simp [hF]
theorem goX_mark {f : Nat} (h : markIds.contains f = true) {n : Nat} {args : List V} {bs : List Box} {s : Sup} : goX n f args bs s = goM n f args bs s := by
  unfold goX; rw [if_pos h]
theorem goX_spec {f : Nat} (h : markIds.contains f = false) (h2 : specIds.contains f = true) {n : Nat} {args : List V} {bs : List Box} {s : Sup} : goX n f args bs s = go n f args bs s := by
  unfold goX; rw [if_neg (by rw [h]; simp), if_pos h2]
theorem goX_else {f : Nat} (h : markIds.contains f = false) (h2 : specIds.contains f = false) (h3 : implIds.contains f = false) {n : Nat} {args : List V} {bs : List Box} {s : Sup} : goX n f args bs s = brw (go n) f args bs s := by
  unfold goX; rw [if_neg (by rw [h]; simp), if_neg (by rw [h2]; simp)]
  unfold brw goB
  simp only [h3]
  rfl
theorem goX_impl {f : Nat} {F : Fn} (hF : FT f = some F) (h : markIds.contains f = false) (h2 : specIds.contains f = false) (h3 : implIds.contains f = true) {n : Nat} {args : List V} {bs : List Box} {s : Sup} :
    goX n f args bs s = brw (fun _ args bs s => runMv (go n) mode (fun _ => none) n F args bs s) f args bs s := by
  unfold goX; rw [if_neg (by rw [h]; simp), if_neg (by rw [h2]; simp)]
  unfold brw goB
  simp only [h3, hF, if_true]

theorem runMv_at (call : CallT) (M : Nat → Mode) (G : Nat → Option (List D)) (n : Nat) (F : Fn) (args : List V) (bs : List Box) (s : Sup) : runMv call M G n F args bs s = if args.length ≤ F.ntmps then
    behindF (execC call M G false F.ntmps n F.code ⟨nth (.tup []) args, nth .dead bs, bs.length, s⟩) (endF false true bs.length F.res)
  else none := by
  have := runF_at call (fun g => ⟨false, true, (M g).inout⟩) G n s 0 F args bs
  simp only [← execC_mode (M := M) (M' := fun g => ⟨false, true, (M g).inout⟩) (fun _ => rfl)] at this
  rw [← this]
  unfold runF runMv
  simp only [← execC_mode (M := M) (M' := fun g => ⟨false, true, (M g).inout⟩) (fun _ => rfl)]
  rfl

def brwEnd (bs : List Box) (r : Res) (news : List Box) : Option Res := if r.bs.isEmpty && r.v.flat then some ⟨r.v.ren (fun k => k + bs.length), bs, news⟩ else none
def brwCall (call : CallT) (f : Nat) (bs : List Box) (s : Sup) (args : List V) : Option Res :=
  if args.all (fun x => x.names.isEmpty) then bnd (call f args [] (fun k => s (2 * k + 1))) fun r => bnd (cleanL r.news) (brwEnd bs r) else none
theorem brw_at (call : CallT) (f : Nat) (args : List V) (bs : List Box) (s : Sup) :
    brw call f args bs s = bnd2 (frzA false (fun k => s (2 * k)) ⟨nth .dead bs, 0, []⟩ args) fun args' _ => brwCall call f bs s args' := by
  unfold brw
  rw [show (fun b => bs.getD b .dead) = nth .dead bs from funext (nth_eq _ _)]
  cases frzA false (fun k => s (2 * k)) ⟨nth .dead bs, 0, []⟩ args with
  | none => rfl
  | some p =>
    obtain ⟨a, z⟩ := p
    simp only [bnd2_some, brwCall]
    split
    · generalize call f a [] (fun k => s (2 * k + 1)) = x
      cases x with
      | none => rfl
      | some r =>
        simp only [bnd_some]
        generalize cleanL r.news = y
        cases y <;> rfl
    · rfl
@[simp] theorem cleanL_nil : cleanL [] = some [] := rfl
@[simp] theorem cleanL_cons (b : Box) (r : List Box) : cleanL (b :: r) = bnd (cleanB b) fun x => bnd (cleanL r) fun l => some (x :: l) := by
  rw [cleanL]
  cases cleanB b with
  | none => rfl
  | some x => cases cleanL r <;> rfl
@[simp] theorem cleanB_byt (st : Option Nat) (l : List Int) (ro : Nat) : cleanB (.row st 1 (byt l) ro) = some (.row none 1 (byt l) 0) := by
  simp [cleanB, byt, D.flat]

/-! ### marks -/
def markL (k : Int) : Nat → List Int
  | 0 => []
  | n + 1 => markL k n ++ [IntKind.wrap .u8 (k + n)]
@[simp] theorem markL_len (k : Int) (n : Nat) : (markL k n).length = n := by
  induction n with
  | zero => rfl
  | succ n ih => simp [markL, ih]
theorem markL_get (k : Int) : ∀ (n i : Nat), i < n → (markL k n)[i]? = some (IntKind.wrap .u8 (k + i))
  | n + 1, i, h => by
    simp only [markL]
    by_cases hi : i < n
    · rw [List.getElem?_append_left (by simpa using hi)]; exact markL_get k n i hi
    · have : i = n := by omega
      subst this
      rw [List.getElem?_append_right (by simp)]; simp

theorem loop81 {n : Nat} (l : List Int) (hn : l.length < n) (hl : l.length < 2 ^ 40) (k0 : Nat) (hk0 : k0 < 2 ^ 40) (c : Option Nat) (st : St) (t0 : st.τ 0 = .w (.own 0 0 l.length c)) (t1 : st.τ 1 = sV (.int .i64 k0)) (t5 : st.τ 5 = sV (.int .i64 0)) (h0 : st.H 0 = .row none 1 (byt l) 0) (hg : 0 < st.g) :
    ∃ e st', execC (goM n) modeI (fun _ => none) false 20 n F81_L0 st = some (e, st') ∧ e ≠ .normal ∧ (e = .exit 0 ∧ st'.τ 1 = sV (.int .i64 (k0 + l.length : Nat)) ∧ st'.H 0 = .row none 1 (byt (markL k0 l.length)) 0) := by
  rw [F81_L0, execC_loop]
  refine iter_rule (fun k s1 => ∃ i, i + k = l.length ∧ s1.τ 0 = .w (.own 0 0 l.length c) ∧ s1.τ 1 = sV (.int .i64 (k0 + i : Nat)) ∧ s1.τ 5 = sV (.int .i64 i) ∧ s1.H 0 = .row none 1 (byt (markL k0 i ++ l.drop i)) 0 ∧ 0 < s1.g) ?_ n l.length st hn
    ⟨0, by omega, t0, by simpa using t1, by simpa using t5, by simpa [markL] using h0, hg⟩
  rintro k ⟨τ, H, g, s⟩ ⟨i, hk, t0, t1, t5, h0, hg⟩
  simp only at t0 t1 t5 h0 hg
  cases k with
  | zero =>
    have : i = l.length := by omega
    subst this
    refine ⟨.exit 0, ?_⟩
    rw [List.drop_length, List.append_nil] at h0
    simp [F81_B0, t0, t1, t5]
    exact h0
  | succ k =>
    have hlt : i < l.length := by omega
    have hlt' : ((i : Int) < (l.length : Int)) = True := eq_true (by omega)
    have hg1 := List.getElem?_eq_getElem hlt
    have hdrop : l.drop i = l[i] :: l.drop (i + 1) := List.drop_eq_getElem_cons hlt
    have hrow : (byt (markL k0 i ++ l.drop i))[i]? = some [.s (.int .u8 l[i])] := by
      rw [hdrop]
      refine byt_get ?_
      rw [List.getElem?_append_right (by simp)]
      simp
    have hset : (byt (markL k0 i ++ l.drop i)).set i [.s (.int .u8 (IntKind.wrap .u8 ((k0 : Int) + i)))] = byt (markL k0 (i + 1) ++ l.drop (i + 1)) := by
      have hA : (byt (markL k0 i)).length = i := by simp
      have e1 : byt (markL k0 i ++ l[i] :: l.drop (i + 1)) = byt (markL k0 i) ++ ([.s (.int .u8 l[i])] :: byt (l.drop (i + 1))) := by simp only [byt, List.map_append, List.map_cons]
      rw [hdrop, e1, List.set_append_right _ _ (by omega), hA, Nat.sub_self]
      show byt (markL k0 i) ++ ([.s (.int .u8 (IntKind.wrap .u8 ((k0 : Int) + i)))] :: byt (l.drop (i + 1))) = _
      simp only [byt, markL, List.map_append, List.map_cons, List.map_nil, List.append_assoc, List.cons_append, List.nil_append]
    have hw := wrap_succ (i := i) (by omega)
    have hw2 := wrap_succ (i := k0 + i) (by omega)
    refine ⟨.normal, ?_⟩
    have hc1 : ((k0 + i : Nat) : Int) = (k0 : Int) + i := by omega
    rw [hc1] at t1 hw2
    simp [-getElem?_pos, F81_B0, t0, t1, t5, h0, hlt', hrow, hw, hw2, hset, hlt]
    exact ⟨k, by omega, i + 1, by omega, by omega, by omega, rfl⟩


theorem run_markByte {n : Nat} (l : List Int) (hn : l.length + 2 ≤ n) (hl : l.length < 2 ^ 40) (k0 : Nat) (hk0 : k0 < 2 ^ 40) (c : Option Nat) (s : Sup) :
    goM n 81 [.w (.own 0 0 l.length c), .w (.d (.s (.int .i64 k0)))] [.row none 1 (byt l) 0] s = some ⟨sV (.int .i64 (k0 + l.length : Nat)), [.row none 1 (byt (markL k0 l.length)) 0], []⟩ := by
  obtain ⟨n, rfl⟩ : ∃ k, n = k + 1 := ⟨n - 1, by omega⟩
  simp [goM_of FT_81, F81]
  generalize hst : St.mk _ _ _ _ = st1
  obtain ⟨e, ⟨τ1, H1, g1, s1⟩, hx1, -, rfl, t1, h0⟩ := loop81 (n := n) l (by omega) hl k0 hk0 c st1 (by simp [← hst]) (by simp [← hst]) (by simp [← hst]) (by simp [← hst]) (by simp [← hst])
  clear hst
  simp only [Int.natCast_add] at t1 h0
  simp [hx1, t1, h0, modeI]
theorem run_markNil {n : Nat} (hn : 3 ≤ n) (k0 : Nat) (s : Sup) : goM n 81 [.w .nil, .w (.d (.s (.int .i64 k0)))] [] s = some ⟨sV (.int .i64 k0), [], []⟩ := by
  obtain ⟨n, rfl⟩ : ∃ k, n = k + 2 := ⟨n - 2, by omega⟩
  simp [goM_of FT_81, F81, F81_L0, execC_loop, iter, F81_B0, modeI]

/-- Marks that are read back. -/
theorem loop82 {n : Nat} (m : Nat) (hn : m < n) (hl : m < 2 ^ 40) (k0 : Nat) (hk0 : k0 < 2 ^ 40) (st0 : Nat) (st : St) (t0 : st.τ 0 = .w (.d (.l st0 (byt (markL k0 m))))) (t1 : st.τ 1 = sV (.int .i64 k0)) (t5 : st.τ 5 = sV (.int .i64 0)) :
    ∃ e st', execC (go n) mode (fun _ => none) false 22 n F82_L0 st = some (e, st') ∧ e ≠ .normal ∧ (e = .exit 0 ∧ st'.τ 1 = sV (.int .i64 (k0 + m : Nat))) := by
  rw [F82_L0, execC_loop]
  refine iter_rule (fun k s1 => ∃ i, i + k = m ∧ s1.τ 0 = .w (.d (.l st0 (byt (markL k0 m)))) ∧ s1.τ 1 = sV (.int .i64 (k0 + i : Nat)) ∧ s1.τ 5 = sV (.int .i64 i)) ?_ n m st hn ⟨0, by omega, t0, by simpa using t1, by simpa using t5⟩
  rintro k ⟨τ, H, g, s⟩ ⟨i, hk, t0, t1, t5⟩
  simp only at t0 t1 t5
  cases k with
  | zero =>
    have : i = m := by omega
    subst this
    refine ⟨.exit 0, ?_⟩
    simp [F82_B0, t0, t1, t5]
  | succ k =>
    have hlt' : ((i : Int) < (m : Int)) = True := eq_true (by omega)
    have hrow := byt_get (markL_get k0 m i (by omega))
    have hw := wrap_succ (i := i) (by omega)
    have hw2 := wrap_succ (i := k0 + i) (by omega)
    refine ⟨.normal, ?_⟩
    have hc1 : ((k0 + i : Nat) : Int) = (k0 : Int) + i := by omega
    rw [hc1] at t1 hw2
    have him : (i < m) = True := eq_true (by omega)
    simp [-getElem?_pos, F82_B0, t0, t1, t5, hlt', him, hrow, hw, hw2]
    exact ⟨k, by omega, i + 1, by omega, by omega, by omega⟩

theorem run_heldByte {n : Nat} (m : Nat) (hn : m + 2 ≤ n) (hl : m < 2 ^ 40) (k0 : Nat) (hk0 : k0 < 2 ^ 40) (st0 : Nat) (s : Sup) :
    go n 82 [.w (.d (.l st0 (byt (markL k0 m)))), .w (.d (.s (.int .i64 k0)))] [] s = some ⟨sV (.int .i64 (k0 + m : Nat)), [], []⟩ := by
  obtain ⟨n, rfl⟩ : ∃ k, n = k + 1 := ⟨n - 1, by omega⟩
  simp [go_of FT_82 rfl, F82]
  generalize hst : St.mk _ _ _ _ = st1
  obtain ⟨e, ⟨τ1, H1, g1, s1⟩, hx1, -, rfl, t1⟩ := loop82 (n := n) m (by omega) hl k0 hk0 st0 st1 (by simp [← hst]) (by simp [← hst]) (by simp [← hst])
  clear hst
  simp only [Int.natCast_add] at t1
  simp [hx1, t1]

end Go.VM
