/- Ladders: arms, their normal form; in plain words. Conditions: none. -/
import Derived.Test.YtfpkfcfiihfopaaDoorBVN1
import Derived.Test.YtfpkfcfiihfopaaDoorBVQ3
import Derived.Test.YtfpkfcfiihfopaaDoorBVQ4

namespace Go.VM
set_option linter.unusedVariables false
set_option linter.unusedSimpArgs false
def Arm.net : Arm → Net | .mk n _ _ => n
def Arm.coils : Arm → List El | .mk _ c _ => c
def Arm.kids : Arm → List Arm | .mk _ _ ks => ks
mutual
def Arm.size : Arm → Nat
 | .mk n cs ks => 1 + cs.length + (if n.none then 0 else n.size) + armsSize ks
def armsSize : List Arm → Nat
 | [] => 0
 | a :: r => a.size + armsSize r
end
mutual
def Arm.wrong (rung : Bool) : Arm → Int
 | .mk n cs ks => if rung && n.none then 4 else if n.none = false ∧ n.wrong ≠ 0 then n.wrong else if cs.all El.coil = false then 3 else if cs.length = 0 ∧ ks.length = 0 then 5 else armsWrong ks
def armsWrong : List Arm → Int
 | [] => 0
 | a :: r => if a.wrong false ≠ 0 then a.wrong false else armsWrong r
end
mutual
def Arm.wn : Arm → Bool
 | .mk n cs ks => (decide (n.kind = 0) || n.wn) && armsWn ks && (decide (ks.length ≠ 1) || (decide (0 < cs.length) && ks.all fun k => !decide (k.net.kind = 0)))
def armsWn : List Arm → Bool
 | [] => true
 | a :: r => a.wn && armsWn r
end
theorem Net.none_eq {n : Net} (h : n.none = true) : n = .mk 0 0 [] [] := by
 obtain ⟨k, op, as, ks⟩ := n; have h' : k = 0 ∧ op = 0 ∧ as = [] ∧ ks.length = 0 := of_decide_eq_true h; obtain ⟨rfl, rfl, rfl, h2⟩ := h'; rw [List.eq_nil_of_length_eq_zero h2]
theorem none_none : Net.none (.mk 0 0 [] []) = true := by simp [Net.none, Net.kind, Net.op, Net.as, Net.kids]
theorem right_kind {n : Net} (h : n.wrong = 0) : n.kind = 1 ∨ n.kind = 2 ∨ n.kind = 3 ∨ n.kind = 4 := by
 obtain ⟨k, op, as, ks⟩ := n
 by_cases hk : k = 1
 · exact .inl hk
 · have := (right_kids h hk).1
   simp only [Net.kind]; omega
theorem right_some {n : Net} (h : n.wrong = 0) : n.none = false := by
 have := right_kind h; simp only [Net.none, decide_eq_false_iff_not]; omega
def NetFine (n : Net) : Prop := n.none = true ∨ n.wrong = 0
theorem NetFine.kind {n : Net} (h : NetFine n) : (n.kind = 0 ↔ n.none = true) := by
 rcases h with h | h
 · rw [Net.none_eq h]; simp [Net.kind, none_none]
 · have := right_kind h
   rw [right_some h]; constructor
   · intro e; omega
   · intro e; simp at e
end Go.VM

/- Nets, reckoned: how large, whether right; what the program and what the document says. Conditions: none. -/
namespace Go.VM
set_option linter.unusedSimpArgs false
set_option linter.unusedVariables false
set_option maxHeartbeats 8000000
abbrev nsW (l : List Net) : W := .d (.l 0 (netRows l))
abbrev asW (l : List Arg) : W := .d (.l 0 (argRows l))
abbrev netX : Net → V | .mk k op as ks => .agg [iW k, iW op, asW as, nsW ks]
theorem netsSize_take {l : List Net} {i : Nat} {x : Net} (h : l[i]? = some x) : netsSize (l.take (i + 1)) = netsSize (l.take i) + x.size := by
 rw [List.take_add_one, h]; simp [netsSize_append, netsSize]
mutual
theorem size_le : ∀ n : Net, n.size ≤ n.wt
 | .mk k op as ks => by have := netsSize_le ks; simp [Net.size, Net.wt]; omega
theorem netsSize_le : ∀ l : List Net, netsSize l ≤ netsWt l
 | [] => by simp [netsSize]
 | n :: r => by have := size_le n; have := netsSize_le r; simp [netsSize, netsWt]; omega
end
theorem netsSize_take_le (l : List Net) (i : Nat) : netsSize (l.take i) ≤ netsSize l := by
 have := netsSize_append (l.take i) (l.drop i); rw [List.take_append_drop] at this; omega
theorem wrap_cast {a : Int} {m : Nat} (h : a = m) (hm : m < 2 ^ 62) : IntKind.wrap .i64 a = m := by rw [h]; exact wrap_id (by omega) (by omega)
theorem loop118_0 {n : Nat} (l : List Net) (hc : ∀ x ∈ l, ∀ s, go n 118 [netX x] [] s = some ⟨iV x.size, [], []⟩) (hsz : netsSize l < 2 ^ 40) (hn : l.length < n) (hl : l.length < 2 ^ 40) (st : St) (h3 : st.τ 3 = iV 1) (h7 : st.τ 7 = .w (nsW l)) (h8 : st.τ 8 = iV l.length) (h9 : st.τ 9 = iV 0) :
 ∃ e st', execC (go n) mode GT false 19 n F118_L0 st = some (e, st') ∧ e ≠ .normal ∧ (e = .exit 0 ∧ st'.τ 3 = iV (1 + netsSize l : Nat)) := by
 rw [F118_L0, execC_loop]; refine iter_rule (fun k st => ∃ i, i + k = l.length ∧ st.τ 3 = iV (1 + netsSize (l.take i) : Nat) ∧ st.τ 7 = .w (nsW l) ∧ st.τ 8 = iV l.length ∧ st.τ 9 = iV i) ?_ n l.length st hn ⟨0, by omega, by simpa [netsSize] using h3, h7, h8, by simpa using h9⟩
 rintro k ⟨τ, H, g, s⟩ ⟨i, hk, h3, h7, h8, h9⟩; simp only at h3 h7 h8 h9; cases k with
 | zero =>
  have : i = l.length := by omega
  subst this; refine ⟨.exit 0, ?_⟩
  rw [List.take_length] at h3; simp [F118_B0, h3, h7, h8, h9]
 | succ k =>
  have hlt : i < l.length := by omega
  have hlt' := ltT hlt; have hg := List.getElem?_eq_getElem hlt; have hmem := List.getElem_mem hlt; have hw := wrap_succ (i := i) (by omega); have w := hc _ hmem; have hs := netsSize_take hg; have hs2 := netsSize_take_le l (i + 1); obtain ⟨k', op, as, ks, hx⟩ : ∃ k' op as ks, l[i] = .mk k' op as ks := by cases l[i]; exact ⟨_, _, _, _, rfl⟩
  rw [hx] at hg w hs; have hb := netRows_get hg; have hadd : IntKind.wrap .i64 ((1 + netsSize (l.take i) : Nat) + (Net.size (.mk k' op as ks) : Int)) = (1 + netsSize (l.take (i + 1)) : Nat) := wrap_cast (by omega) (by omega); refine ⟨.normal, ?_⟩
  simp [-getElem?_pos, -Int.natCast_add, F118_B0, h3, h7, h8, h9, hlt, hlt', hb, w, hw, hadd]; exact ⟨k, by omega, i + 1, by omega, rfl, rfl⟩
theorem loop144_0 {n : Nat} (l : List Net) (hc : ∀ x ∈ l, ∀ s, go n 144 [netX x] [] s = some ⟨iV x.size, [], []⟩) (hsz : netsSize l < 2 ^ 40) (k0 op0 : W) (as0 : W) (hn : l.length < n) (hl : l.length < 2 ^ 40) (st : St) (h1 : st.τ 1 = .w (.ptr 0 0)) (hH : st.H 0 = .cells [k0, op0, as0, nsW l]) (h3 : st.τ 3 = iV 1) (h4 : st.τ 4 = iV 0) :
 ∃ e st', execC (go n) mode GT false 21 n F144_L0 st = some (e, st') ∧ e ≠ .normal ∧ (e = .exit 0 ∧ st'.τ 3 = iV (1 + netsSize l : Nat)) := by
 rw [F144_L0, execC_loop]; refine iter_rule (fun k st => ∃ i, i + k = l.length ∧ st.τ 1 = .w (.ptr 0 0) ∧ st.H 0 = .cells [k0, op0, as0, nsW l] ∧ st.τ 3 = iV (1 + netsSize (l.take i) : Nat) ∧ st.τ 4 = iV i) ?_ n l.length st hn ⟨0, by omega, h1, hH, by simpa [netsSize] using h3, by simpa using h4⟩
 rintro k ⟨τ, H, g, s⟩ ⟨i, hk, h1, hH, h3, h4⟩; simp only at h1 hH h3 h4; cases k with
 | zero =>
  have : i = l.length := by omega
  subst this; refine ⟨.exit 0, ?_⟩
  rw [List.take_length] at h3; simp [F144_B0, h1, hH, h3, h4]
 | succ k =>
  have hlt : i < l.length := by omega
  have hlt' := ltT hlt; have hg := List.getElem?_eq_getElem hlt; have hmem := List.getElem_mem hlt; have hw := wrap_succ (i := i) (by omega); have w := hc _ hmem; have hs := netsSize_take hg; have hs2 := netsSize_take_le l (i + 1); obtain ⟨k', op, as, ks, hx⟩ : ∃ k' op as ks, l[i] = .mk k' op as ks := by cases l[i]; exact ⟨_, _, _, _, rfl⟩
  rw [hx] at hg w hs; have hb := netRows_get hg; have hadd : IntKind.wrap .i64 ((1 + netsSize (l.take i) : Nat) + (Net.size (.mk k' op as ks) : Int)) = (1 + netsSize (l.take (i + 1)) : Nat) := wrap_cast (by omega) (by omega); refine ⟨.normal, ?_⟩
  simp [-getElem?_pos, -Int.natCast_add, F144_B0, h1, hH, h3, h4, hlt, hlt', hb, w, hw, hadd]; exact ⟨k, by omega, i + 1, by omega, rfl, rfl⟩
theorem run_size : ∀ (m : Nat) (t : Net), t.wt ≤ m → m < 2 ^ 40 → ∀ (n : Nat), m + 4 ≤ n → ∀ s, go n 118 [netX t] [] s = some ⟨iV t.size, [], []⟩
 | 0, t, h, hm, n, hn, s => by have := t.wt_pos; omega
 | m + 1, .mk k op as ks, h, hm, n, hn, s => by
  obtain ⟨n, rfl⟩ : ∃ k, n = k + 1 := ⟨n - 1, by omega⟩; have hlen := netsWt_len ks; have hsl := netsSize_le ks; simp only [Net.wt] at h; have hc : ∀ x ∈ ks, ∀ s, go n 118 [netX x] [] s = some ⟨iV x.size, [], []⟩ := fun x hx s => run_size m x (by have := netsWt_mem hx; omega) (by omega) n (by omega) s
  simp [go_of FT_118 rfl, F118]; generalize hst : St.mk _ _ _ _ = st; obtain ⟨e, ⟨τ', H', g', s'⟩, hx, -, rfl, h3⟩ := loop118_0 (n := n) ks hc (by omega) (by omega) (by omega) st (by simp [← hst]) (by simp [← hst]) (by simp [← hst]) (by simp [← hst]); simp only at h3; simp [-Int.natCast_add, hx, h3, Net.size]
theorem run_sizeS : ∀ (m : Nat) (t : Net), t.wt ≤ m → m < 2 ^ 40 → ∀ (n : Nat), m + 4 ≤ n → ∀ s, go n 144 [netX t] [] s = some ⟨iV t.size, [], []⟩
 | 0, t, h, hm, n, hn, s => by have := t.wt_pos; omega
 | m + 1, .mk k op as ks, h, hm, n, hn, s => by
  obtain ⟨n, rfl⟩ : ∃ k, n = k + 1 := ⟨n - 1, by omega⟩; have hlen := netsWt_len ks; have hsl := netsSize_le ks; simp only [Net.wt] at h; have hc : ∀ x ∈ ks, ∀ s, go n 144 [netX x] [] s = some ⟨iV x.size, [], []⟩ := fun x hx s => run_sizeS m x (by have := netsWt_mem hx; omega) (by omega) n (by omega) s
  simp [go_of FT_144 rfl, F144]; generalize hst : St.mk _ _ _ _ = st; obtain ⟨e, ⟨τ', H', g', s'⟩, hx, -, rfl, h3⟩ := loop144_0 (n := n) ks hc (by omega) (iW k) (iW op) (asW as) (by omega) (by omega) st (by simp [← hst]) (by simp [← hst]) (by simp [← hst]) (by simp [← hst]); simp only at h3; simp [-Int.natCast_add, hx, h3, Net.size]
theorem len_beq {α : Type} (l : List α) : ((l.length : Int) == 0) = decide (l = []) := by
 cases l with
 | nil => rfl
 | cons a r => simp; omega
theorem run_bare {n : Nat} (hn : 1 ≤ n) (op : Int) (as : List Arg) (s : Sup) : go n 138 [elX ⟨op, as⟩] [] s = some ⟨sV (.bool (decide (op = 0 ∧ as = []))), [], []⟩ := by
 obtain ⟨n, rfl⟩ : ∃ k, n = k + 1 := ⟨n - 1, by omega⟩
 by_cases h : op = 0
 · simp [go_of FT_138 rfl, F138, h, len_beq]
 · simp [go_of FT_138 rfl, F138, h, len_beq]
theorem run_none {n : Nat} (hn : 2 ≤ n) (t : Net) (s : Sup) : go n 173 [netX t] [] s = some ⟨sV (.bool t.none), [], []⟩ := by
 obtain ⟨n, rfl⟩ : ∃ k, n = k + 1 := ⟨n - 1, by omega⟩; obtain ⟨k, op, as, ks⟩ := t; have w := run_bare (n := n) (by omega) op as; unfold Net.none Net.kind Net.op Net.as Net.kids
 by_cases h : k = 0
 · by_cases h2 : op = 0 ∧ as = []
   · have h2' := eq_true h2
     simp only [h2, and_self, decide_true] at w; simp [go_of FT_173 rfl, F173, h, w, h2, len_beq]
   · have e : decide (op = 0 ∧ as = []) = false := by simp [h2]
     rw [e] at w; have e2 : ∀ q : Prop, (op = 0 ∧ as = [] ∧ q) = False := fun q => eq_false fun ⟨a, b, _⟩ => h2 ⟨a, b⟩
     simp [go_of FT_173 rfl, F173, h, w, e2]
 · simp [go_of FT_173 rfl, F173, h]
abbrev bV (b : Bool) : V := .w (.d (.s (.bool b)))
theorem netRow_len (t : Net) : t.row.length = 4 := by cases t; simp [Net.row]
theorem all_len3 (l : List Arg) : (argRows l).all (fun r => r.length == 3) = true := by simp [argRows, Arg.row]
@[simp] theorem take_netRows (l : List Net) : List.take l.length (netRows l) = netRows l := by rw [← netRows_length l, List.take_length]
@[simp] theorem take_armRows (l : List Arm) : List.take l.length (armRows l) = armRows l := by rw [← armRows_length l, List.take_length]
@[simp] theorem take_elRows (l : List El) : List.take l.length (elRows l) = elRows l := by rw [← elRows_length l, List.take_length]
@[simp] theorem take_argRows (l : List Arg) : List.take l.length (argRows l) = argRows l := by rw [← argRows_length l, List.take_length]
theorem netRows_append : ∀ l m : List Net, netRows (l ++ m) = netRows l ++ netRows m
 | [], m => by simp [netRows]
 | a :: r, m => by simp [netRows, netRows_append r m]
theorem room_of {n b : Nat} (h : n < 2 ^ 30) (hb : b ≤ 128) : room n b = true := by
 simp only [room, Bool.and_eq_true, decide_eq_true_eq]; exact ⟨Nat.le_trans (Nat.mul_le_mul (Nat.le_of_lt h) hb) (by decide), by omega⟩
theorem run_cloneA {n : Nat} (hn : 3 ≤ n) (l : List Arg) (hl : l.length < 2 ^ 30) (s : Sup) :
 go n 186 [.w (asW l)] [] s = some ⟨.w (.own 0 0 l.length (some l.length)), [], [.row none 3 (argRows l) 0]⟩ := by
 obtain ⟨n, rfl⟩ : ∃ k, n = k + 2 := ⟨n - 2, by omega⟩; have hr : room l.length 24 = true := room_of hl (by omega); have C : ∀ s, go (n + 1) 197 [.w (asW l)] [] s = some ⟨.w (.own 0 0 l.length none), [], [.row none 3 (argRows l) 0]⟩ := fun s => by
  rw [go_orc rfl, show ans 197 [.w (asW l)] = (if ((argRows l).all (fun r => r.length == 3) && room (argRows l).length 24) = true then some ⟨.w (.own 0 0 (argRows l).length none), [], [.row none 3 (argRows l) 0]⟩ else none) from rfl]; rw [all_len3 l, argRows_length, hr]; rfl
 have D : ∀ s, go (n + 1) 198 [.w (.own 0 0 l.length none)] [.row none 3 (argRows l) 0] s = some ⟨.w (.own 0 0 l.length (some l.length)), [.row none 3 (argRows l) 0], []⟩ := fun s => by
  simp [go_of FT_198 rfl, F198]
 simp [go_of FT_186 rfl, F186, C, D]
theorem fill_get {R : List (List D)} {i k : Nat} (h : R.length = i) (z : List D) : (R ++ List.replicate (k + 1) z)[i]? = some z := by
 rw [List.getElem?_append_right (by omega), h, Nat.sub_self]; rfl
theorem fill_set {R : List (List D)} {i k : Nat} (h : R.length = i) (z x : List D) : (R ++ List.replicate (k + 1) z).set i x = (R ++ [x]) ++ List.replicate k z := by
 rw [List.set_append_right _ _ (by omega), h, Nat.sub_self, List.append_assoc]; rfl
theorem netRows_take {l : List Net} {i : Nat} {x : Net} (h : l[i]? = some x) : netRows (l.take i) ++ [x.row] = netRows (l.take (i + 1)) := by
 rw [List.take_add_one, h]; simp [netRows_append, netRows]
theorem far {b g : Nat} (h : b < g) : ((b = g) = False) ∧
 ((g = b) = False) ∧
 ((g ≤ b) = False) ∧
 (∀ x : Nat, (b = g + x) = False) ∧
 (∀ x : Nat, (g + x = b) = False) ∧
 (∀ x : Nat, (g + x ≤ b) = False) ∧
 (∀ x y : Nat, (b = g + x + y) = False) ∧
 (∀ x y : Nat, (g + x + y = b) = False) ∧
 (∀ x y : Nat, (g + x + y ≤ b) = False) ∧
 (∀ x y z : Nat, (b = g + x + y + z) = False) ∧
 (∀ x y z : Nat, (g + x + y + z = b) = False) ∧
 (∀ x y z : Nat, (g + x + y + z ≤ b) = False) ∧
 (∀ x y z u : Nat, (b = g + x + y + z + u) = False) ∧
 (∀ x y z u : Nat, (g + x + y + z + u = b) = False) ∧
 (∀ x y z u : Nat, (g + x + y + z + u ≤ b) = False) ∧
 (∀ x y z u v : Nat, (b = g + x + y + z + u + v) = False) ∧
 (∀ x y z u v : Nat, (g + x + y + z + u + v = b) = False) ∧
 (∀ x y z u v : Nat, (g + x + y + z + u + v ≤ b) = False) ∧
 (∀ x y z u v w : Nat, (b = g + x + y + z + u + v + w) = False) ∧
 (∀ x y z u v w : Nat, (g + x + y + z + u + v + w = b) = False) ∧
 (∀ x y z u v w : Nat, (g + x + y + z + u + v + w ≤ b) = False) ∧
 (∀ m : Nat, m ≤ b → (m < g) = True) ∧
 (∀ m : Nat, m ≤ b → (g ≤ m) = False) ∧
 (∀ m : Nat, m ≤ b → (g = m) = False) :=
 ⟨eq_false (by omega),
  eq_false (by omega),
  eq_false (by omega),
  fun x => eq_false (by omega),
  fun x => eq_false (by omega),
  fun x => eq_false (by omega),
  fun x y => eq_false (by omega),
  fun x y => eq_false (by omega),
  fun x y => eq_false (by omega),
  fun x y z => eq_false (by omega),
  fun x y z => eq_false (by omega),
  fun x y z => eq_false (by omega),
  fun x y z u => eq_false (by omega),
  fun x y z u => eq_false (by omega),
  fun x y z u => eq_false (by omega),
  fun x y z u v => eq_false (by omega),
  fun x y z u v => eq_false (by omega),
  fun x y z u v => eq_false (by omega),
  fun x y z u v w => eq_false (by omega),
  fun x y z u v w => eq_false (by omega),
  fun x y z u v w => eq_false (by omega),
  fun m h => eq_true (by omega),
  fun m h => eq_false (by omega),
  fun m h => eq_false (by omega)⟩
set_option maxHeartbeats 16000000
end Go.VM
