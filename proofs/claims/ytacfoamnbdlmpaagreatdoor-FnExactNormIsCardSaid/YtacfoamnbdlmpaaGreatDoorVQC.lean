/- Nets copied and brought to normal form, reckoned. Conditions: none. -/
import Derived.Test.YtacfoamnbdlmpaaGreatDoorVQB

namespace Go.VM
set_option linter.unusedSimpArgs false
set_option linter.unusedVariables false
set_option maxHeartbeats 8000000

/-! clones -/
theorem netRow_len (t : Net) : t.row.length = 4 := by cases t; simp [Net.row]
theorem all_len4 (l : List Net) : (netRows l).all (fun r => r.length == 4) = true := by
  rw [netRows_map]; simp [netRow_len]
theorem all_len2 (l : List El) : (elRows l).all (fun r => r.length == 2) = true := by simp [elRows, El.row]
theorem all_len3 (l : List Arg) : (argRows l).all (fun r => r.length == 3) = true := by simp [argRows, Arg.row]
theorem armRow_len (t : Arm) : t.row.length = 6 := by
  obtain ⟨⟨_, _, _, _⟩, _, _⟩ := t; simp [Arm.row]
theorem all_len6 (l : List Arm) : (armRows l).all (fun r => r.length == 6) = true := by
  rw [armRows_map]; simp [armRow_len]
@[simp] theorem take_netRows (l : List Net) : List.take l.length (netRows l) = netRows l := by rw [← netRows_length l, List.take_length]
@[simp] theorem take_armRows (l : List Arm) : List.take l.length (armRows l) = armRows l := by rw [← armRows_length l, List.take_length]
@[simp] theorem take_elRows (l : List El) : List.take l.length (elRows l) = elRows l := by rw [← elRows_length l, List.take_length]
@[simp] theorem take_argRows (l : List Arg) : List.take l.length (argRows l) = argRows l := by rw [← argRows_length l, List.take_length]
theorem netRows_append : ∀ l m : List Net, netRows (l ++ m) = netRows l ++ netRows m
  | [], m => by simp [netRows]
  | a :: r, m => by simp [netRows, netRows_append r m]
theorem armRows_append : ∀ l m : List Arm, armRows (l ++ m) = armRows l ++ armRows m
  | [], m => by simp [armRows]
  | a :: r, m => by simp [armRows, armRows_append r m]
theorem elRows_append (l m : List El) : elRows (l ++ m) = elRows l ++ elRows m := by simp [elRows]
theorem room_of {n b : Nat} (h : n < 2 ^ 30) (hb : b ≤ 128) : room n b = true := by
  simp only [room, Bool.and_eq_true, decide_eq_true_eq]
  exact ⟨Nat.le_trans (Nat.mul_le_mul (Nat.le_of_lt h) hb) (by decide), by omega⟩


theorem run_cloneA {n : Nat} (hn : 3 ≤ n) (l : List Arg) (hl : l.length < 2 ^ 30) (s : Sup) :
    go n 186 [.w (asW l)] [] s = some ⟨.w (.own 0 0 l.length (some l.length)), [], [.row none 3 (argRows l) 0]⟩ := by
  obtain ⟨n, rfl⟩ : ∃ k, n = k + 2 := ⟨n - 2, by omega⟩
  have hr : room l.length 24 = true := room_of hl (by omega)
  have C : ∀ s, go (n + 1) 197 [.w (asW l)] [] s = some ⟨.w (.own 0 0 l.length none), [], [.row none 3 (argRows l) 0]⟩ := fun s => by
    rw [go_orc rfl, show ans 197 [.w (asW l)] = (if ((argRows l).all (fun r => r.length == 3) && room (argRows l).length 24) = true then some ⟨.w (.own 0 0 (argRows l).length none), [], [.row none 3 (argRows l) 0]⟩ else none) from rfl]
    rw [all_len3 l, argRows_length, hr]; rfl
  have D : ∀ s, go (n + 1) 198 [.w (.own 0 0 l.length none)] [.row none 3 (argRows l) 0] s = some ⟨.w (.own 0 0 l.length (some l.length)), [.row none 3 (argRows l) 0], []⟩ := fun s => by
    simp [go_of FT_198 rfl, F198]
  simp [go_of FT_186 rfl, F186, C, D]


theorem run_cloneE {n : Nat} (hn : 3 ≤ n) (l : List El) (hl : l.length < 2 ^ 30) (s : Sup) :
    go n 174 [.w (csW l)] [] s = some ⟨.w (.own 0 0 l.length (some l.length)), [], [.row none 2 (elRows l) 0]⟩ := by
  obtain ⟨n, rfl⟩ : ∃ k, n = k + 2 := ⟨n - 2, by omega⟩
  have hr : room l.length 32 = true := room_of hl (by omega)
  have C : ∀ s, go (n + 1) 191 [.w (csW l)] [] s = some ⟨.w (.own 0 0 l.length none), [], [.row none 2 (elRows l) 0]⟩ := fun s => by
    rw [go_orc rfl, show ans 191 [.w (csW l)] = (if ((elRows l).all (fun r => r.length == 2) && room (elRows l).length 32) = true then some ⟨.w (.own 0 0 (elRows l).length none), [], [.row none 2 (elRows l) 0]⟩ else none) from rfl]
    rw [all_len2 l, elRows_length, hr]; rfl
  have D : ∀ s, go (n + 1) 192 [.w (.own 0 0 l.length none)] [.row none 2 (elRows l) 0] s = some ⟨.w (.own 0 0 l.length (some l.length)), [.row none 2 (elRows l) 0], []⟩ := fun s => by
    simp [go_of FT_192 rfl, F192]
  simp [go_of FT_174 rfl, F174, C, D]


theorem run_cloneN {n : Nat} (hn : 3 ≤ n) (l : List Net) (hl : l.length < 2 ^ 30) (s : Sup) :
    go n 140 [.w (nsW l)] [] s = some ⟨.w (.own 0 0 l.length (some l.length)), [], [.row none 4 (netRows l) 0]⟩ := by
  obtain ⟨n, rfl⟩ : ∃ k, n = k + 2 := ⟨n - 2, by omega⟩
  have hr : room l.length 64 = true := room_of hl (by omega)
  have C : ∀ s, go (n + 1) 164 [.w (nsW l)] [] s = some ⟨.w (.own 0 0 l.length none), [], [.row none 4 (netRows l) 0]⟩ := fun s => by
    rw [go_orc rfl, show ans 164 [.w (nsW l)] = (if ((netRows l).all (fun r => r.length == 4) && room (netRows l).length 64) = true then some ⟨.w (.own 0 0 (netRows l).length none), [], [.row none 4 (netRows l) 0]⟩ else none) from rfl]
    rw [all_len4 l, netRows_length, hr]; rfl
  have D : ∀ s, go (n + 1) 165 [.w (.own 0 0 l.length none)] [.row none 4 (netRows l) 0] s = some ⟨.w (.own 0 0 l.length (some l.length)), [.row none 4 (netRows l) 0], []⟩ := fun s => by
    simp [go_of FT_165 rfl, F165]
  simp [go_of FT_140 rfl, F140, C, D]


theorem run_elemCopy {n : Nat} (hn : 4 ≤ n) (e : El) (hl : e.as.length < 2 ^ 30) (s : Sup) : go n 163 [elX e] [] s = some ⟨elX e, [], []⟩ := by
  obtain ⟨n, rfl⟩ : ∃ k, n = k + 1 := ⟨n - 1, by omega⟩
  obtain ⟨op, as⟩ := e
  have w := run_cloneA (n := n) (by omega) as hl
  simp [go_of FT_163 rfl, F163, w]

/-! lists that are filled -/
theorem fill_get {R : List (List D)} {i k : Nat} (h : R.length = i) (z : List D) : (R ++ List.replicate (k + 1) z)[i]? = some z := by
  rw [List.getElem?_append_right (by omega), h, Nat.sub_self]; rfl
theorem fill_set {R : List (List D)} {i k : Nat} (h : R.length = i) (z x : List D) : (R ++ List.replicate (k + 1) z).set i x = (R ++ [x]) ++ List.replicate k z := by
  rw [List.set_append_right _ _ (by omega), h, Nat.sub_self, List.append_assoc]; rfl
theorem netRows_take {l : List Net} {i : Nat} {x : Net} (h : l[i]? = some x) : netRows (l.take i) ++ [x.row] = netRows (l.take (i + 1)) := by
  rw [List.take_add_one, h]; simp [netRows_append, netRows]
theorem armRows_take {l : List Arm} {i : Nat} {x : Arm} (h : l[i]? = some x) : armRows (l.take i) ++ [x.row] = armRows (l.take (i + 1)) := by
  rw [List.take_add_one, h]; simp [armRows_append, armRows]
theorem elRows_take {l : List El} {i : Nat} {x : El} (h : l[i]? = some x) : elRows (l.take i) ++ [x.row] = elRows (l.take (i + 1)) := by
  rw [List.take_add_one, h]; simp [elRows]
/-- A new box is none of the old ones. -/
theorem far {b g : Nat} (h : b < g) : ((b = g) = False) ∧
    ((g = b) = False) ∧
    ((g ≤ b) = False) ∧
    (∀ x : Nat, (b = g + x) = False) ∧
    (∀ x : Nat, (g + x = b) = False) ∧
    (∀ x : Nat, (g + x ≤ b) = False) ∧
    (∀ x y : Nat, (b = g + x + y) = False) ∧
    (∀ x y : Nat, (g + x + y = b) = False) ∧
    (∀ x y : Nat, (g + x + y ≤ b) = False) ∧
    (∀ x y z : Nat, (b = g + x + y + z) = False) ∧
    (∀ x y z : Nat, (g + x + y + z = b) = False) ∧
    (∀ x y z : Nat, (g + x + y + z ≤ b) = False) ∧
    (∀ x y z u : Nat, (b = g + x + y + z + u) = False) ∧
    (∀ x y z u : Nat, (g + x + y + z + u = b) = False) ∧
    (∀ x y z u : Nat, (g + x + y + z + u ≤ b) = False) ∧
    (∀ x y z u v : Nat, (b = g + x + y + z + u + v) = False) ∧
    (∀ x y z u v : Nat, (g + x + y + z + u + v = b) = False) ∧
    (∀ x y z u v : Nat, (g + x + y + z + u + v ≤ b) = False) ∧
    (∀ x y z u v w : Nat, (b = g + x + y + z + u + v + w) = False) ∧
    (∀ x y z u v w : Nat, (g + x + y + z + u + v + w = b) = False) ∧
    (∀ x y z u v w : Nat, (g + x + y + z + u + v + w ≤ b) = False) ∧
    (∀ m : Nat, m ≤ b → (m < g) = True) ∧
    (∀ m : Nat, m ≤ b → (g ≤ m) = False) ∧
    (∀ m : Nat, m ≤ b → (g = m) = False) :=
  ⟨eq_false (by omega),
    eq_false (by omega),
    eq_false (by omega),
    fun x => eq_false (by omega),
    fun x => eq_false (by omega),
    fun x => eq_false (by omega),
    fun x y => eq_false (by omega),
    fun x y => eq_false (by omega),
    fun x y => eq_false (by omega),
    fun x y z => eq_false (by omega),
    fun x y z => eq_false (by omega),
    fun x y z => eq_false (by omega),
    fun x y z u => eq_false (by omega),
    fun x y z u => eq_false (by omega),
    fun x y z u => eq_false (by omega),
    fun x y z u v => eq_false (by omega),
    fun x y z u v => eq_false (by omega),
    fun x y z u v => eq_false (by omega),
    fun x y z u v w => eq_false (by omega),
    fun x y z u v w => eq_false (by omega),
    fun x y z u v w => eq_false (by omega),
    fun m h => eq_true (by omega),
    fun m h => eq_false (by omega),
    fun m h => eq_false (by omega)⟩

theorem loop139_0 {n : Nat} (l : List Net) (hc : ∀ x ∈ l, ∀ s, go n 139 [netX x] [] s = some ⟨netX x, [], []⟩) (k0 op0 : Int) (as0 : List Arg) (hn : l.length < n) (hl : l.length < 2 ^ 40) (st : St) (h3 : st.τ 3 = .w (.ptr 768 0)) (hA : st.H 768 = .cells [iW k0, iW op0, asW as0, .own 640 0 l.length (some l.length)]) (hB : st.H 640 = .row none 4 (List.replicate l.length [iD 0, iD 0, .l 0 [], .l 0 []]) 0) (h17 : st.τ 17 = .w (nsW l)) (h18 : st.τ 18 = iV l.length) (h19 : st.τ 19 = iV 0) (hgg : 768 < st.g) (h2 : st.τ 2 = .w (.ptr 64 0)) (hC : st.H 64 = .cells [iW 0, iW 0, .nil, .nil]) :
    ∃ e st', execC (go n) mode GT false 32 n F139_L0 st = some (e, st') ∧ e ≠ .normal ∧ (e = .exit 0 ∧ st'.τ 3 = .w (.ptr 768 0) ∧ st'.H 768 = .cells [iW k0, iW op0, asW as0, .own 640 0 l.length (some l.length)] ∧ st'.H 640 = .row none 4 (netRows l) 0 ∧ st'.τ 2 = .w (.ptr 64 0) ∧ st'.H 64 = .cells [iW 0, iW 0, .nil, .nil]) := by
  rw [F139_L0, execC_loop]
  refine iter_rule (fun k st => ∃ i, i + k = l.length ∧ st.τ 3 = .w (.ptr 768 0) ∧ st.H 768 = .cells [iW k0, iW op0, asW as0, .own 640 0 l.length (some l.length)] ∧ st.H 640 = .row none 4 (netRows (l.take i) ++ List.replicate k [iD 0, iD 0, .l 0 [], .l 0 []]) 0 ∧ st.τ 17 = .w (nsW l) ∧ st.τ 18 = iV l.length ∧ st.τ 19 = iV i ∧ 768 < st.g ∧ st.τ 2 = .w (.ptr 64 0) ∧ st.H 64 = .cells [iW 0, iW 0, .nil, .nil]) ?_ n l.length st hn ⟨0, by omega, h3, hA, by simpa [netRows] using hB, h17, h18, by simpa using h19, hgg, h2, hC⟩
  rintro k ⟨τ, H, g, s⟩ ⟨i, hk, h3, hA, hB, h17, h18, h19, hgg, h2, hC⟩
  simp only at h3 hA hB h17 h18 h19 hgg h2 hC
  cases k with
  | zero =>
    have : i = l.length := by omega
    subst this
    refine ⟨.exit 0, ?_⟩
    rw [List.take_length] at hB
    simp [F139_B0, h3, h17, h18, h19, hA, hB, h2, hC]
  | succ k =>
    have hlt : i < l.length := by omega
    have hlt' : ((i : Int) < (l.length : Int)) = True := eq_true (by omega)
    have hg := List.getElem?_eq_getElem hlt
    have hmem := List.getElem_mem hlt
    have hw := wrap_succ (i := i) (by omega)
    have w := hc _ hmem
    have hlT : (netRows (l.take i)).length = i := by simp; omega
    have hget := fill_get (k := k) hlT [iD 0, iD 0, .l 0 [], .l 0 []]
    have hset := fill_set (k := k) hlT [iD 0, iD 0, .l 0 [], .l 0 []]
    have htk := netRows_take hg
    obtain ⟨k', op, as, ks, hx⟩ : ∃ k' op as ks, l[i] = .mk k' op as ks := by cases l[i]; exact ⟨_, _, _, _, rfl⟩
    rw [hx] at hg w htk
    have hb := netRows_get hg
    have hset := hset (Net.row (.mk k' op as ks))
    rw [htk] at hset
    simp only [Net.row] at hset
    have fgX := far hgg
    have feX := far (show 640 < g by omega)
    have fcX := far (show 64 < g by omega)
    have glt : ∀ m : Nat, m ≤ 768 → (m < g) = True := fun m h => eq_true (by omega)
    have gle : ∀ m : Nat, m ≤ 768 → (g ≤ m) = False := fun m h => eq_false (by omega)
    refine ⟨.normal, ?_⟩
    simp [-getElem?_pos, F139_B0, glt, gle, h3, h17, h18, h19, hA, hB, hlt, hlt', hb, w, hw, hget, hset, h2, hC, fgX, feX, fcX]
    exact ⟨k, by omega, i + 1, by omega, by first | exact rfl | exact ⟨rfl, rfl⟩ | exact ⟨rfl, rfl, by omega⟩⟩


theorem run_netCopy : ∀ (m : Nat) (t : Net), t.wt ≤ m → m < 2 ^ 30 → ∀ (n : Nat), m + 8 ≤ n → ∀ s, go n 139 [netX t] [] s = some ⟨netX t, [], []⟩
  | 0, t, h, hm, n, hn, s => by have := t.wt_pos; omega
  | m + 1, .mk k op as ks, h, hm, n, hn, s => by
    obtain ⟨n, rfl⟩ : ∃ k, n = k + 1 := ⟨n - 1, by omega⟩
    have hlen := netsWt_len ks
    simp only [Net.wt] at h
    have hc : ∀ x ∈ ks, ∀ s, go n 139 [netX x] [] s = some ⟨netX x, [], []⟩ := fun x hx s => run_netCopy m x (by have := netsWt_mem hx; omega) (by omega) n (by omega) s
    have w := run_elemCopy (n := n) (by omega) ⟨op, as⟩ (by simp only; omega)
    have hr : room ks.length 64 = true := room_of (by omega) (by omega)
    simp [go_of FT_139 rfl, F139, w, hr]
    generalize hst : St.mk _ _ _ _ = st
    obtain ⟨e, ⟨τ', H', g', s'⟩, hx, -, rfl, h3, hA, hB, h2, hC⟩ := loop139_0 (n := n) ks hc k op as (by omega) (by omega) st (by simp [← hst]) (by simp [← hst]) (by simp [← hst]) (by simp [← hst]) (by simp [← hst]) (by simp [← hst]) (by simp [← hst]) (by simp [← hst]) (by simp [← hst])
    simp only at h3 hA hB h2 hC
    simp [hx, h3, hA, hB, h2, hC]


/-! the normal form of a net -/
def accN (k : Int) (l : List Net) (i : Nat) : List Net := (netsNorm (l.take i)).flatMap (Net.open k)
theorem accN_step {k : Int} {l : List Net} {i : Nat} {x : Net} (h : l[i]? = some x) : accN k l (i + 1) = accN k l i ++ Net.open k x.norm := by
  unfold accN
  rw [List.take_add_one, h]
  simp [netsNorm_map]
theorem accN_wt {k : Int} {l : List Net} (hr : ∀ x ∈ l, x.wrong = 0) (i : Nat) : netsWt (accN k l i) ≤ netsWt l := by
  have h1 := netsWt_flat_le (k := k) (netsNorm (l.take i))
  have h2 := (norms_ok (l.take i) fun x hx => hr x (List.mem_of_mem_take hx)).2.2
  have h3 := netsWt_append (l.take i) (l.drop i)
  rw [List.take_append_drop] at h3
  unfold accN
  omega
theorem len_of4 (l : List Net) : ∀ x ∈ netRows l, x.length = 4 := fun x hx => by
  rw [netRows_map] at hx
  obtain ⟨a, _, rfl⟩ := List.mem_map.1 hx
  exact netRow_len a

theorem loop120 {n : Nat} (l : List Net) (k0 op0 : Int) (as0 : List Arg) (hc : ∀ x ∈ l, ∀ s, go n 120 [netX x] [] s = some ⟨netX x.norm, [], []⟩) (hr : ∀ x ∈ l, x.wrong = 0) (hwt : netsWt l < 2 ^ 29) (hn : l.length < n) (hl : l.length < 2 ^ 40) (st : St)
    (h1 : st.τ 1 = .w (.ptr 0 0)) (h0 : st.H 0 = .cells [iW k0, iW op0, asW as0, nsW l]) (h2 : st.τ 2 = .w (.ptr 64 0)) (hC : st.H 64 = .cells [iW 0, iW 0, .nil, .nil]) (h3 : st.τ 3 = .w (.ptr 704 0)) (hA : st.H 704 = .cells [iW k0, iW 0, .nil, .nil])
    (h26 : st.τ 26 = .w (nsW l)) (h27 : st.τ 27 = iV l.length) (h28 : st.τ 28 = iV 0) (hgg : 704 < st.g) :
    ∃ e st', execC (go n) mode GT false 65 n F120_L0 st = some (e, st') ∧ e ≠ .normal ∧ (e = .exit 1 ∧ st'.τ 2 = .w (.ptr 64 0) ∧ st'.H 64 = .cells [iW 0, iW 0, .nil, .nil] ∧ st'.τ 3 = .w (.ptr 704 0) ∧ ∃ cw, st'.H 704 = .cells [iW k0, iW 0, .nil, cw] ∧
      ((accN k0 l l.length = [] ∧ cw = .nil) ∨ ∃ b, 704 < b ∧ b < st'.g ∧ cw = .own b 0 (accN k0 l l.length).length none ∧ st'.H b = .row none 4 (netRows (accN k0 l l.length)) 0)) := by
  rw [F120_L0, execC_loop]
  refine iter_rule (fun k st => ∃ i, i + k = l.length ∧ st.τ 1 = .w (.ptr 0 0) ∧ st.H 0 = .cells [iW k0, iW op0, asW as0, nsW l] ∧ st.τ 2 = .w (.ptr 64 0) ∧ st.H 64 = .cells [iW 0, iW 0, .nil, .nil] ∧ st.τ 3 = .w (.ptr 704 0) ∧
      st.τ 26 = .w (nsW l) ∧ st.τ 27 = iV l.length ∧ st.τ 28 = iV i ∧ 704 < st.g ∧ ∃ cw, st.H 704 = .cells [iW k0, iW 0, .nil, cw] ∧
      ((accN k0 l i = [] ∧ cw = .nil) ∨ ∃ b, 704 < b ∧ b < st.g ∧ cw = .own b 0 (accN k0 l i).length none ∧ st.H b = .row none 4 (netRows (accN k0 l i)) 0)) ?_ n l.length st hn
    ⟨0, by omega, h1, h0, h2, hC, h3, h26, h27, by simpa using h28, hgg, .nil, hA, .inl ⟨by simp [accN, netsNorm], rfl⟩⟩
  rintro k ⟨τ, H, g, s⟩ ⟨i, hk, h1, h0, h2, hC, h3, h26, h27, h28, hgg, cw, hA, hcw⟩
  simp only at h1 h0 h2 hC h3 h26 h27 h28 hgg hA hcw
  cases k with
  | zero =>
    have : i = l.length := by omega
    subst this
    refine ⟨.exit 1, ⟨upd τ 29 (.w (.d (.s (.bool false)))), H, g + 64, restS s⟩, ?_, by simp, fun _ => ⟨rfl, by simpa using h2, hC, by simpa using h3, cw, hA, ?_⟩⟩
    · simp [F120_B0, h1, h2, h3, h26, h27, h28]
    · rcases hcw with hcw | ⟨b, hb1, hb2, hb3, hb4⟩
      · exact .inl hcw
      · exact .inr ⟨b, hb1, by simp only; omega, hb3, hb4⟩
  | succ k =>
    have hlt : i < l.length := by omega
    have hlt' : ((i : Int) < (l.length : Int)) = True := eq_true (by omega)
    have hg := List.getElem?_eq_getElem hlt
    have hmem := List.getElem_mem hlt
    have hw := wrap_succ (i := i) (by omega)
    have w := hc _ hmem
    have hstep := accN_step (k := k0) hg
    have hwtA := accN_wt (k := k0) hr (i + 1)
    rw [hstep, netsWt_append] at hwtA
    have hlA := netsWt_len (accN k0 l i)
    obtain ⟨k', op, as, ks, hx⟩ : ∃ k' op as ks, l[i] = .mk k' op as ks := by cases l[i]; exact ⟨_, _, _, _, rfl⟩
    rw [hx] at hg w hstep hwtA
    generalize Net.norm (.mk k' op as ks) = y at w hstep hwtA
    obtain ⟨k2, op2, as2, ks2⟩ := y
    have hb := netRows_get hg
    have fgX := far hgg
    have fcX := far (show 64 < g by omega)
    have fzX := far (show 0 < g by omega)
    have glt : ∀ m : Nat, m ≤ 704 → (m < g) = True := fun m h => eq_true (by omega)
    have gle : ∀ m : Nat, m ≤ 704 → (g ≤ m) = False := fun m h => eq_false (by omega)
    generalize accN k0 l i = A at hcw hstep hwtA hlA
    by_cases hkk : k2 = k0
    · subst hkk
      have ho : Net.open k2 (.mk k2 op2 as2 ks2) = ks2 := by simp [Net.open, Net.kind, Net.kids]
      rw [ho] at hstep hwtA
      have hl2 := netsWt_len ks2
      have al := eq_true (len_of4 ks2)
      have rm : room (A.length + ks2.length) 64 = true := room_of (by omega) (by omega)
      have rm2 : room ks2.length 64 = true := room_of (by omega) (by omega)
      refine ⟨.normal, ?_⟩
      rcases hcw with ⟨rfl, rfl⟩ | ⟨b, hb1, hb2, rfl, hB⟩
      · simp [-getElem?_pos, F120_B0, h1, h0, h2, hC, h3, h26, h27, h28, hA, hlt, hlt', hb, w, hw, al, rm2, fgX, fcX, fzX, glt, gle]
        refine ⟨k, by omega, i + 1, by omega, rfl, _, ?_, ?_, ⟨rfl, ?_⟩, ?_⟩
        · omega
        · omega
        · rw [hstep]; simp
        · rw [if_neg (by omega), if_pos rfl, hstep]; simp [netRows_append, netRows, Net.row]
      · have fbX := far hb2
        have b1 : (704 = b) = False := eq_false (by omega)
        have b2 : (64 = b) = False := eq_false (by omega)
        have b3 : (0 = b) = False := eq_false (by omega)
        have b4 : (b = 704) = False := eq_false (by omega)
        simp [-getElem?_pos, F120_B0, h1, h0, h2, hC, h3, h26, h27, h28, hA, hB, hlt, hlt', hb, w, hw, al, rm, fgX, fcX, fzX, fbX, b1, b2, b3, b4, glt, gle]
        refine ⟨k, by omega, i + 1, by omega, rfl, _, ?_, ?_, ⟨rfl, ?_⟩, ?_⟩
        · omega
        · omega
        · rw [hstep]; simp
        · rw [if_neg (by omega), if_pos rfl, hstep]; simp [netRows_append, netRows, Net.row]
    · have ho : Net.open k0 (.mk k2 op2 as2 ks2) = [.mk k2 op2 as2 ks2] := by simp [Net.open, Net.kind, hkk]
      rw [ho] at hstep hwtA
      have hkk' := eq_false hkk
      have rm : room (A.length + 1) 64 = true := room_of (by simp [netsWt] at hwtA; omega) (by omega)
      have rm2 : room 1 64 = true := by decide
      refine ⟨.normal, ?_⟩
      rcases hcw with ⟨rfl, rfl⟩ | ⟨b, hb1, hb2, rfl, hB⟩
      · simp [-getElem?_pos, F120_B0, h1, h0, h2, hC, h3, h26, h27, h28, hA, hlt, hlt', hb, w, hw, rm2, hkk', fgX, fcX, fzX, glt, gle]
        refine ⟨k, by omega, i + 1, by omega, rfl, _, ?_, ?_, ⟨rfl, ?_⟩, ?_⟩
        · omega
        · omega
        · rw [hstep]; simp
        · rw [if_neg (by omega), if_pos rfl, hstep]; simp [netRows_append, netRows, Net.row]
      · have fbX := far hb2
        have b1 : (704 = b) = False := eq_false (by omega)
        have b2 : (64 = b) = False := eq_false (by omega)
        have b3 : (0 = b) = False := eq_false (by omega)
        have b4 : (b = 704) = False := eq_false (by omega)
        simp [-getElem?_pos, F120_B0, h1, h0, h2, hC, h3, h26, h27, h28, hA, hB, hlt, hlt', hb, w, hw, rm, rm2, hkk', fgX, fcX, fzX, fbX, b1, b2, b3, b4, glt, gle]
        refine ⟨k, by omega, i + 1, by omega, rfl, _, ?_, ?_, ⟨rfl, ?_⟩, ?_⟩
        · omega
        · omega
        · rw [hstep]; simp
        · rw [if_neg (by omega), if_pos rfl, hstep]; simp [netRows_append, netRows, Net.row]


theorem flat_ne {k : Int} (hk : k ≠ 1) {l : List Net} (hr : ∀ x ∈ l, x.wrong = 0) (hne : l ≠ []) : (netsNorm l).flatMap (Net.open k) ≠ [] := by
  intro e0
  obtain ⟨y, hy⟩ : ∃ y, y ∈ netsNorm l := by
    cases l with
    | nil => exact absurd rfl hne
    | cons a r => exact ⟨a.norm, by simp [netsNorm]⟩
  have hy' := List.flatMap_eq_nil_iff.1 e0 y hy
  unfold Net.open at hy'
  split at hy'
  · rename_i hyk
    obtain ⟨yk, yo, ya, yks⟩ := y
    simp only [Net.kind] at hyk
    subst hyk
    exact (right_kids ((norms_ok l hr).1 _ hy).1 hk).2.2.2.1 hy'
  · cases hy'

theorem run_netNorm : ∀ (m : Nat) (t : Net), t.wt ≤ m → m < 2 ^ 29 → t.wrong = 0 → ∀ (n : Nat), m + 12 ≤ n → ∀ s, go n 120 [netX t] [] s = some ⟨netX t.norm, [], []⟩
  | 0, t, h, hm, hr, n, hn, s => by have := t.wt_pos; omega
  | m + 1, .mk k op as ks, h, hm, hr, n, hn, s => by
    obtain ⟨n, rfl⟩ : ∃ k, n = k + 1 := ⟨n - 1, by omega⟩
    have hlen := netsWt_len ks
    have hw0 := h
    simp only [Net.wt] at h
    by_cases hk : k = 1
    · subst hk
      have w := run_netCopy (m + 1) (.mk 1 op as ks) hw0 (by omega) n (by omega)
      simp [go_of FT_120 rfl, F120, w, Net.norm]
    · obtain ⟨h1, rfl, rfl, h4, h5, h6⟩ := right_kids hr hk
      have hc : ∀ x ∈ ks, ∀ s, go n 120 [netX x] [] s = some ⟨netX x.norm, [], []⟩ := fun x hx s => run_netNorm m x (by have := netsWt_mem hx; omega) (by omega) (h6 x hx) n (by omega) s
      by_cases hk4 : k = 4
      · subst hk4
        have hl1 := h5 rfl
        match ks, hl1, hc with
        | [x], _, hc =>
          have w := hc x (by simp)
          have e : Net.norm (.mk 4 0 [] [x]) = .mk 4 0 [] [x.norm] := by simp [Net.norm, netsNorm]
          rw [e]
          generalize x.norm = y at w
          obtain ⟨k1, op1, as1, ks1⟩ := x
          obtain ⟨k2, op2, as2, ks2⟩ := y
          simp [go_of FT_120 rfl, F120, netRows, Net.row, w]
          rfl
      · have e : Net.norm (.mk k 0 [] ks) = netOf k ((netsNorm ks).flatMap (Net.open k)) := by simp [Net.norm, hk, hk4]
        rw [e]
        have hfl := flat_ne hk h6 h4
        have hacc : accN k ks ks.length = (netsNorm ks).flatMap (Net.open k) := by unfold accN; rw [List.take_length]
        have hwa := accN_wt (k := k) h6 ks.length
        simp [go_of FT_120 rfl, F120, hk, hk4]
        generalize hst : St.mk _ _ _ _ = st
        obtain ⟨e, ⟨τ', H', g', s'⟩, hx, -, rfl, h2, hC, h3, cw, hA, hcw⟩ := loop120 (n := n) ks k 0 [] hc h6 (by omega) (by omega) (by omega) st (by simp [← hst]) (by simp [← hst]) (by simp [← hst]) (by simp [← hst]) (by simp [← hst]) (by simp [← hst]) (by simp [← hst]) (by simp [← hst]) (by simp [← hst]) (by simp [← hst])
        rw [hacc] at hcw hwa
        simp only at h2 hC h3 hA hcw
        rcases hcw with ⟨h0, _⟩ | ⟨b, hb1, hb2, rfl, hB⟩
        · exact absurd h0 hfl
        · have hla := netsWt_len ((netsNorm ks).flatMap (Net.open k))
          generalize (netsNorm ks).flatMap (Net.open k) = A at hfl hB hA hwa hla ⊢
          clear hst
          have b1 : (704 = b) = False := eq_false (by omega)
          have b2 : (64 = b) = False := eq_false (by omega)
          have b3 : (b = 704) = False := eq_false (by omega)
          have b4 : (b = 64) = False := eq_false (by omega)
          have fgX := far hb2
          have fcX := far (show 704 < g' by omega)
          have feX := far (show 64 < g' by omega)
          match A, hfl with
          | [x], _ =>
            obtain ⟨k1, op1, as1, ks1⟩ := x
            simp [hx, h2, hC, h3, hA, hB, netRows, Net.row, netOf]
          | x :: y :: r, _ =>
            have w := run_cloneN (n := n) (by omega) (x :: y :: r) (by omega)
            have hl2 : ((((x :: y :: r).length : Nat) : Int) = 1) = False := eq_false (by simp; omega)
            have hl3 : ((x :: y :: r).length = 1) = False := eq_false (by simp)
            have hno : netOf k (x :: y :: r) = .mk k 0 [] (x :: y :: r) := rfl
            rw [hno]
            generalize x :: y :: r = A at w hA hB hl2 hl3 hwa hla ⊢
            simp [hx, h2, hC, h3, hA, hB, w, hl2, hl3, b1, b2, b3, b4, fgX, fcX, feX]
            rfl

end Go.VM

/- Arms copied and brought to normal form, reckoned. Conditions: none. -/
namespace Go.VM
set_option linter.unusedSimpArgs false
set_option linter.unusedVariables false
set_option maxHeartbeats 16000000

theorem loop147_0 {n : Nat} (l : List El) (h4 : 4 ≤ n) (hsm : elsWt l < 2 ^ 30) (hn : l.length < n) (hl : l.length < 2 ^ 40) (st : St) (h3 : st.τ 3 = .w (.own 192 0 l.length (some l.length))) (hB : st.H 192 = .row none 2 (List.replicate l.length [iD 0, .l 0 []]) 0) (h9 : st.τ 9 = .w (csW l)) (h10 : st.τ 10 = iV l.length) (h11 : st.τ 11 = iV 0) (hgg : 192 < st.g) :
    ∃ e st', execC (go n) mode GT false 23 n F147_L0 st = some (e, st') ∧ e ≠ .normal ∧ (e = .exit 0 ∧ st'.τ 3 = .w (.own 192 0 l.length (some l.length)) ∧ st'.H 192 = .row none 2 (elRows l) 0) := by
  rw [F147_L0, execC_loop]
  refine iter_rule (fun k st => ∃ i, i + k = l.length ∧ st.τ 3 = .w (.own 192 0 l.length (some l.length)) ∧ st.H 192 = .row none 2 (elRows (l.take i) ++ List.replicate k [iD 0, .l 0 []]) 0 ∧ st.τ 9 = .w (csW l) ∧ st.τ 10 = iV l.length ∧ st.τ 11 = iV i ∧ 192 < st.g) ?_ n l.length st hn ⟨0, by omega, h3, by simpa [elRows] using hB, h9, h10, by simpa using h11, hgg⟩
  rintro k ⟨τ, H, g, s⟩ ⟨i, hk, h3, hB, h9, h10, h11, hgg⟩
  simp only at h3 hB h9 h10 h11 hgg
  cases k with
  | zero =>
    have : i = l.length := by omega
    subst this
    refine ⟨.exit 0, ?_⟩
    rw [List.take_length] at hB
    simp [F147_B0, h3, h9, h10, h11, hB]
  | succ k =>
    have hlt : i < l.length := by omega
    have hlt' : ((i : Int) < (l.length : Int)) = True := eq_true (by omega)
    have hg := List.getElem?_eq_getElem hlt
    have hmem := List.getElem_mem hlt
    have hw := wrap_succ (i := i) (by omega)
    have hlT : (elRows (l.take i)).length = i := by simp; omega
    have hget := fill_get (k := k) hlT [iD 0, .l 0 []]
    have hset := fill_set (k := k) hlT [iD 0, .l 0 []]
    have hwt := elsWt_mem hmem
    have hb := elRows_get hg
    have w := run_elemCopy (n := n) h4 l[i] (by simp only [El.wt] at hwt; omega)
    have hset := hset (El.row l[i])
    rw [elRows_take hg] at hset
    simp only [El.row] at hset
    have fgX := far hgg
    refine ⟨.normal, ?_⟩
    simp [-getElem?_pos, F147_B0, h3, h9, h10, h11, hB, hlt, hlt', hb, w, hw, hget, hset, fgX]
    exact ⟨k, by omega, i + 1, by omega, by first | exact rfl | exact ⟨rfl, rfl⟩ | exact ⟨rfl, rfl, by omega⟩ | exact ⟨rfl, by omega⟩⟩


theorem run_copyElems {n : Nat} (l : List El) (hn : elsWt l + 6 ≤ n) (hl : elsWt l < 2 ^ 30) (s : Sup) : go n 147 [.w (csW l)] [] s = some ⟨.w (.own 0 0 l.length (some l.length)), [], [.row none 2 (elRows l) 0]⟩ := by
  obtain ⟨n, rfl⟩ : ∃ k, n = k + 1 := ⟨n - 1, by omega⟩
  have hlen := elsWt_len l
  have hr : room l.length 32 = true := room_of (by omega) (by omega)
  simp [go_of FT_147 rfl, F147, hr]
  generalize hst : St.mk _ _ _ _ = st
  obtain ⟨e, ⟨τ', H', g', s'⟩, hx, -, rfl, h3, hB⟩ := loop147_0 (n := n) l (by omega) hl (by omega) (by omega) st (by simp [← hst]) (by simp [← hst]) (by simp [← hst]) (by simp [← hst]) (by simp [← hst]) (by simp [← hst])
  simp only at h3 hB
  simp [hx, h3, hB]

theorem loop125_0 {n : Nat} (l : List Arm) (hc : ∀ x ∈ l, ∀ s, go n 125 [.w (ksW x.kids)] [] s = some ⟨.w (ksW x.kids), [], []⟩) (hsm : armsWt l < 2 ^ 29) (hnn : armsWt l + 20 ≤ n) (hn : l.length < n) (hl : l.length < 2 ^ 40) (st : St) (h3 : st.τ 3 = .w (.own 192 0 l.length (some l.length))) (hB : st.H 192 = .row none 6 (List.replicate l.length [iD 0, iD 0, .l 0 [], .l 0 [], .l 0 [], .l 0 []]) 0) (h9 : st.τ 9 = .w (ksW l)) (h10 : st.τ 10 = iV l.length) (h11 : st.τ 11 = iV 0) (hgg : 192 < st.g) :
    ∃ e st', execC (go n) mode GT false 31 n F125_L0 st = some (e, st') ∧ e ≠ .normal ∧ (e = .exit 0 ∧ st'.τ 3 = .w (.own 192 0 l.length (some l.length)) ∧ st'.H 192 = .row none 6 (armRows l) 0) := by
  rw [F125_L0, execC_loop]
  refine iter_rule (fun k st => ∃ i, i + k = l.length ∧ st.τ 3 = .w (.own 192 0 l.length (some l.length)) ∧ st.H 192 = .row none 6 (armRows (l.take i) ++ List.replicate k [iD 0, iD 0, .l 0 [], .l 0 [], .l 0 [], .l 0 []]) 0 ∧ st.τ 9 = .w (ksW l) ∧ st.τ 10 = iV l.length ∧ st.τ 11 = iV i ∧ 192 < st.g) ?_ n l.length st hn ⟨0, by omega, h3, by simpa [armRows] using hB, h9, h10, by simpa using h11, hgg⟩
  rintro k ⟨τ, H, g, s⟩ ⟨i, hk, h3, hB, h9, h10, h11, hgg⟩
  simp only at h3 hB h9 h10 h11 hgg
  cases k with
  | zero =>
    have : i = l.length := by omega
    subst this
    refine ⟨.exit 0, ?_⟩
    rw [List.take_length] at hB
    simp [F125_B0, h3, h9, h10, h11, hB]
  | succ k =>
    have hlt : i < l.length := by omega
    have hlt' : ((i : Int) < (l.length : Int)) = True := eq_true (by omega)
    have hg := List.getElem?_eq_getElem hlt
    have hmem := List.getElem_mem hlt
    have hw := wrap_succ (i := i) (by omega)
    have hlT : (armRows (l.take i)).length = i := by simp; omega
    have hget := fill_get (k := k) hlT [iD 0, iD 0, .l 0 [], .l 0 [], .l 0 [], .l 0 []]
    have hset := fill_set (k := k) hlT [iD 0, iD 0, .l 0 [], .l 0 [], .l 0 [], .l 0 []]
    have hwt := armsWt_mem hmem
    have w := hc _ hmem
    have hset := hset (Arm.row l[i])
    rw [armRows_take hg] at hset
    obtain ⟨k', op, as, nks, cs, ks, hx⟩ : ∃ k' op as nks cs ks, l[i] = .mk (.mk k' op as nks) cs ks := by
      cases hq : l[i] with | mk nn cs ks => cases nn; exact ⟨_, _, _, _, _, _, rfl⟩
    rw [hx] at hg w hset hwt
    have hb := armRows_get hg
    simp only [Arm.row] at hset
    simp only [Arm.kids] at w
    simp only [Arm.wt] at hwt
    have w2 := run_netCopy (Net.wt (.mk k' op as nks)) (.mk k' op as nks) (Nat.le_refl _) (by omega) n (by omega)
    have w3 := run_copyElems (n := n) cs (by omega) (by omega)
    have fgX := far hgg
    have hcm : (g < g + 64 + 384) = True := eq_true (by omega)
    refine ⟨.normal, ?_⟩
    simp [-getElem?_pos, F125_B0, hcm, h3, h9, h10, h11, hB, hlt, hlt', hb, w, w2, w3, hw, hget, hset, fgX]
    exact ⟨k, by omega, i + 1, by omega, by first | exact rfl | exact ⟨rfl, rfl⟩ | exact ⟨rfl, rfl, by omega⟩ | exact ⟨rfl, by omega⟩⟩


theorem run_copyArms : ∀ (m : Nat) (l : List Arm), armsWt l ≤ m → m < 2 ^ 29 → ∀ (n : Nat), 2 * m + 24 ≤ n → ∀ s, go n 125 [.w (ksW l)] [] s = some ⟨.w (ksW l), [], []⟩ := by
  intro m
  induction m with
  | zero =>
    intro l h hm n hn s
    obtain ⟨n, rfl⟩ : ∃ k, n = k + 2 := ⟨n - 2, by omega⟩
    have e : l = [] := by
      cases l with
      | nil => rfl
      | cons a r => have := a.wt_pos; simp [armsWt] at h; omega
    subst e
    have hr : room 0 112 = true := by decide
    simp [go_of FT_125 rfl, F125, F125_L0, execC_loop, iter, F125_B0, armRows, hr]
  | succ m ih =>
    intro l h hm n hn s
    obtain ⟨n, rfl⟩ : ∃ k, n = k + 1 := ⟨n - 1, by omega⟩
    have hlen := armsWt_len l
    have hr : room l.length 112 = true := room_of (by omega) (by omega)
    have hc : ∀ x ∈ l, ∀ s, go n 125 [.w (ksW x.kids)] [] s = some ⟨.w (ksW x.kids), [], []⟩ := fun x hx s => ih x.kids (by have := armsWt_mem hx; cases x; simp [Arm.wt] at this; simp [Arm.kids]; omega) (by omega) n (by omega) s
    simp [go_of FT_125 rfl, F125, hr]
    generalize hst : St.mk _ _ _ _ = st
    obtain ⟨e, ⟨τ', H', g', s'⟩, hx, -, rfl, h3, hB⟩ := loop125_0 (n := n) l hc (by omega) (by omega) (by omega) (by omega) st (by simp [← hst]) (by simp [← hst]) (by simp [← hst]) (by simp [← hst]) (by simp [← hst]) (by simp [← hst])
    simp only at h3 hB
    simp [hx, h3, hB]

theorem loop146_0 {n : Nat} (l : List Arm) (hc : ∀ x ∈ l, ∀ s, go n 146 [armX x] [] s = some ⟨armX x.norm, [], []⟩) (c0 c1 c2 c3 : W) (cs : List El) (hn : l.length < n) (hl : l.length < 2 ^ 40) (st : St) (h2 : st.τ 2 = .w (.ptr 64 0)) (hC : st.H 64 = .cells [iW 0, iW 0, .nil, .nil, .nil, .nil]) (h3 : st.τ 3 = .w (.ptr 640 0)) (hA : st.H 640 = .cells [c0, c1, c2, c3, .own 256 0 cs.length (some cs.length), .own 512 0 l.length (some l.length)]) (hD : st.H 256 = .row none 2 (elRows cs) 0) (hB : st.H 512 = .row none 6 (List.replicate l.length [iD 0, iD 0, .l 0 [], .l 0 [], .l 0 [], .l 0 []]) 0) (h24 : st.τ 24 = .w (ksW l)) (h25 : st.τ 25 = iV l.length) (h26 : st.τ 26 = iV 0) (hgg : 640 < st.g) :
    ∃ e st', execC (go n) mode GT false 91 n F146_L0 st = some (e, st') ∧ e ≠ .normal ∧ (e = .exit 0 ∧ st'.τ 2 = .w (.ptr 64 0) ∧ st'.H 64 = .cells [iW 0, iW 0, .nil, .nil, .nil, .nil] ∧ st'.τ 3 = .w (.ptr 640 0) ∧ st'.H 640 = .cells [c0, c1, c2, c3, .own 256 0 cs.length (some cs.length), .own 512 0 l.length (some l.length)] ∧ st'.H 256 = .row none 2 (elRows cs) 0 ∧ st'.H 512 = .row none 6 (armRows (armsNorm l)) 0 ∧ 640 < st'.g) := by
  rw [F146_L0, execC_loop]
  refine iter_rule (fun k st => ∃ i, i + k = l.length ∧ st.τ 2 = .w (.ptr 64 0) ∧ st.H 64 = .cells [iW 0, iW 0, .nil, .nil, .nil, .nil] ∧ st.τ 3 = .w (.ptr 640 0) ∧ st.H 640 = .cells [c0, c1, c2, c3, .own 256 0 cs.length (some cs.length), .own 512 0 l.length (some l.length)] ∧ st.H 256 = .row none 2 (elRows cs) 0 ∧ st.H 512 = .row none 6 (armRows ((armsNorm l).take i) ++ List.replicate k [iD 0, iD 0, .l 0 [], .l 0 [], .l 0 [], .l 0 []]) 0 ∧ st.τ 24 = .w (ksW l) ∧ st.τ 25 = iV l.length ∧ st.τ 26 = iV i ∧ 640 < st.g) ?_ n l.length st hn ⟨0, by omega, h2, hC, h3, hA, hD, by simpa [armRows] using hB, h24, h25, by simpa using h26, hgg⟩
  rintro k ⟨τ, H, g, s⟩ ⟨i, hk, h2, hC, h3, hA, hD, hB, h24, h25, h26, hgg⟩
  simp only at h2 hC h3 hA hD hB h24 h25 h26 hgg
  cases k with
  | zero =>
    have : i = l.length := by omega
    subst this
    refine ⟨.exit 0, ?_⟩
    have hll : (armsNorm l).take l.length = armsNorm l := List.take_of_length_le (by simp [armsNorm_map])
    rw [hll] at hB
    simp [F146_B0, h2, hC, h3, hA, hD, h24, h25, h26, hB]
    omega
  | succ k =>
    have hlt : i < l.length := by omega
    have hlt' : ((i : Int) < (l.length : Int)) = True := eq_true (by omega)
    have hg := List.getElem?_eq_getElem hlt
    have hmem := List.getElem_mem hlt
    have hw := wrap_succ (i := i) (by omega)
    have hlT : (armRows ((armsNorm l).take i)).length = i := by simp [armsNorm_map]; omega
    have hget := fill_get (k := k) hlT [iD 0, iD 0, .l 0 [], .l 0 [], .l 0 [], .l 0 []]
    have hset := fill_set (k := k) hlT [iD 0, iD 0, .l 0 [], .l 0 [], .l 0 [], .l 0 []]
    have w := hc _ hmem
    have hgn : (armsNorm l)[i]? = some l[i].norm := by simp [armsNorm_map, hlt]
    have hset := hset (Arm.row l[i].norm)
    rw [armRows_take hgn] at hset
    generalize l[i].norm = y at w hset
    obtain ⟨k', op, as, nks, cs, ks, hx⟩ : ∃ k' op as nks cs ks, l[i] = .mk (.mk k' op as nks) cs ks := by
      cases hq : l[i] with | mk nn cs ks => cases nn; exact ⟨_, _, _, _, _, _, rfl⟩
    rw [hx] at hg w
    have hb := armRows_get hg
    obtain ⟨⟨yk, yo, ya, yn⟩, yc, ys⟩ := y
    simp only [Arm.row] at hset
    have fgX := far hgg
    have feX := far (show 512 < g by omega)
    have fcX := far (show 256 < g by omega)
    have fzX := far (show 64 < g by omega)
    refine ⟨.normal, ?_⟩
    simp [-getElem?_pos, F146_B0, h2, hC, h3, hA, hD, h24, h25, h26, hB, hlt, hlt', hb, w, hw, hget, hset, fgX, feX, fcX, fzX]
    exact ⟨k, by omega, i + 1, by omega, by first | exact rfl | exact ⟨rfl, rfl⟩ | exact ⟨rfl, rfl, by omega⟩ | exact ⟨rfl, by omega⟩⟩

end Go.VM

/- The normal form of an arm, reckoned. Conditions: none. -/
namespace Go.VM
set_option linter.unusedSimpArgs false
set_option linter.unusedVariables false
set_option maxHeartbeats 16000000

theorem join_fine {a b : Net} (ha : NetFine a) (hb : NetFine b) : NetFine (a.join b) ∧ (a.join b).wt ≤ a.wt + b.wt + 1 := by
  unfold Net.join
  by_cases h1 : a.none = true
  · rw [if_pos h1]; exact ⟨hb, by omega⟩
  · rw [if_neg h1]
    by_cases h2 : b.none = true
    · rw [if_pos h2]; exact ⟨ha, by omega⟩
    · rw [if_neg h2]
      have ra : a.wrong = 0 := by rcases ha with h | h; exact absurd h h1; exact h
      have rb : b.wrong = 0 := by rcases hb with h | h; exact absurd h h2; exact h
      have hr : Net.wrong (.mk 2 0 [] [a, b]) = 0 := right_mk (.inl rfl) (by simp) (fun e => by omega) (by simp [ra, rb])
      obtain ⟨k1, _, _, k4⟩ := norm_ok _ hr
      simp only [Net.wt, netsWt, List.length_nil] at k4
      exact ⟨.inr k1, by omega⟩
theorem fine_right {n : Net} (h : NetFine n) (hn : n.none = false) : n.wrong = 0 := by
  rcases h with h | h
  · rw [hn] at h; cases h
  · exact h
theorem len_of2 (l : List El) : ∀ x ∈ elRows l, x.length = 2 := fun x hx => by
  simp only [elRows, List.mem_map] at hx
  obtain ⟨a, _, rfl⟩ := hx
  rfl

/-- How a net lies in an arm's box: written, or as it was made. -/
def NetAt (ca ck : W) (nk nop : Int) (nas : List Arg) (nks : List Net) : Prop := (ca = asW nas ∧ ck = nsW nks) ∨ (ca = .nil ∧ ck = .nil ∧ nk = 0 ∧ nop = 0 ∧ nas = [] ∧ nks = [])
@[simp] theorem elRows_nil : elRows [] = [] := rfl
def SqInv (R : Arm) (B : Nat) (st : St) (nk nop : Int) (nas : List Arg) (nks : List Net) (C : List El) (K : List Arm) (kw : W) (bc : Nat) (cap : Option Nat) : Prop :=
  squeeze (.mk nk nop nas nks) C K = R ∧ NetFine (.mk nk nop nas nks) ∧ (∀ a ∈ K, a.wrong false = 0) ∧ Net.wt (.mk nk nop nas nks) + elsWt C + armsWt K ≤ B ∧ st.τ 2 = .w (.ptr 64 0) ∧ st.H 64 = .cells [iW 0, iW 0, .nil, .nil, .nil, .nil] ∧ st.τ 3 = .w (.ptr 640 0) ∧
    (∃ ca ck, st.H 640 = .cells [iW nk, iW nop, ca, ck, .own bc 0 C.length cap, kw] ∧ NetAt ca ck nk nop nas nks) ∧ st.H bc = .row none 2 (elRows C) 0 ∧ (bc = 256 ∨ 640 < bc) ∧ bc < st.g ∧ 640 < st.g ∧ (kw = ksW K ∨ (kw = .own 512 0 K.length (some K.length) ∧ st.H 512 = .row none 6 (armRows K) 0))
def SqEx (R : Arm) (B k : Nat) (st : St) : Prop := ∃ nk nop nas nks C K kw bc cap, armsWt K ≤ k ∧ SqInv R B st nk nop nas nks C K kw bc cap
def SqFin (R : Arm) (B : Nat) (st : St) : Prop := ∃ nk nop nas nks C K kw bc cap, SqInv R B st nk nop nas nks C K kw bc cap ∧ R = .mk (.mk nk nop nas nks) C K


theorem loop146_1 {n : Nat} (R : Arm) (B : Nat) (hB30 : B < 2 ^ 28) (hn : B + 20 ≤ n) (st : St) (nk nop : Int) (nas : List Arg) (nks : List Net) (C : List El) (K : List Arm) (kw : W) (bc : Nat) (cap : Option Nat) (hI : SqInv R B st nk nop nas nks C K kw bc cap) :
    ∃ e st', execC (go n) mode GT false 91 n F146_L1 st = some (e, st') ∧ e ≠ .normal ∧ (e = .exit 2 ∧ SqFin R B st') := by
  rw [F146_L1, execC_loop]
  refine iter_rule (fun k st => SqEx R B k st) ?_ n (armsWt K) st (by have := hI.2.2.2.1; omega) ⟨nk, nop, nas, nks, C, K, kw, bc, cap, Nat.le_refl _, hI⟩
  clear hI
  rintro k ⟨τ, H, g, s⟩ ⟨nk, nop, nas, nks, C, K, kw, bc, cap, hk, hsq, hfn, hKr, hwt, h2, hC, h3, ⟨ca, ck, hA, hnet⟩, hB, hbc, hbg, hgg, hkw⟩
  simp only at h2 hC h3 hA hB hbg hgg hkw
  have fgX := far hgg
  have feX := far (show 512 < g by omega)
  have fbX := far hbg
  have fzX := far (show 64 < g by omega)
  have fxX := far (show 256 < g by omega)
  have b1 : (640 = bc) = False := eq_false (by omega)
  have b2 : (64 = bc) = False := eq_false (by omega)
  have b3 : (bc = 640) = False := eq_false (by omega)
  have b4 : (bc = 64) = False := eq_false (by omega)
  have b5 : (512 = bc) = False := eq_false (by omega)
  have b6 : (bc = 512) = False := eq_false (by omega)
  have b7 : (256 < g) = True := eq_true (by omega)
  have b8 : (512 < g) = True := eq_true (by omega)
  have w := run_none (n := n) (by omega) (.mk nk nop nas nks)
  by_cases hK1 : K.length = 1
  · obtain ⟨kid, rfl⟩ : ∃ x, K = [x] := by
      match K, hK1 with
      | [x], _ => exact ⟨x, rfl⟩
    obtain ⟨⟨kk, ko, ka, kn⟩, kc, ks⟩ := kid
    have hkid := hKr _ (List.mem_singleton.2 rfl)
    obtain ⟨q1, q2, q3, q4, q5⟩ := arm_right hkid
    have q5' := (armsWrong_all _).1 q5
    have wk := run_none (n := n) (by omega) (.mk kk ko ka kn)
    have hcl := elsWt_len C
    have hkl := elsWt_len kc
    have hks := armsWt_len ks
    simp only [armsWt, Arm.wt] at hwt hk
    have hjf := join_fine hfn q2
    have hsq0 := hsq
    rw [squeeze] at hsq
    by_cases hcond : C.length = 0 ∨ Net.none (.mk kk ko ka kn) = true
    · rw [if_pos hcond] at hsq
      have rm : room (C.length + kc.length) 32 = true := room_of (by omega) (by omega)
      have al := eq_true (len_of2 kc)
      have wc := run_cloneE (n := n) (by omega) (C ++ kc) (by simp; omega)
      simp only [csW, elRows_append, List.length_append] at wc
      have tk : List.take (C.length + kc.length) (elRows C ++ elRows kc) = elRows C ++ elRows kc := by rw [List.take_of_length_le (by simp)]
      have hjn : Net.none (.mk nk nop nas nks) = false → Net.none (.mk kk ko ka kn) = false → ∀ s, go n 120 [.agg [iW 2, iW 0, .d (.l 0 []), .d (.l 0 [[iD nk, iD nop, .l 0 (argRows nas), .l 0 (netRows nks)], [iD kk, iD ko, .l 0 (argRows ka), .l 0 (netRows kn)]])]] [] s = some ⟨netX (Net.norm (.mk 2 0 [] [.mk nk nop nas nks, .mk kk ko ka kn])), [], []⟩ := fun e1 e2 s => by
        have r1 := fine_right hfn e1
        have r2 := fine_right q2 e2
        have := run_netNorm (B + 2) (.mk 2 0 [] [.mk nk nop nas nks, .mk kk ko ka kn]) (by simp only [Net.wt, netsWt, List.length_nil] at hwt ⊢; omega) (by omega) (right_mk (.inl rfl) (by simp) (fun e => by omega) (by simp [r1, r2])) n (by omega) s
        have e : netX (.mk 2 0 [] [.mk nk nop nas nks, .mk kk ko ka kn]) = .agg [iW 2, iW 0, .d (.l 0 []), .d (.l 0 [[iD nk, iD nop, .l 0 (argRows nas), .l 0 (netRows nks)], [iD kk, iD ko, .l 0 (argRows ka), .l 0 (netRows kn)]])] := by simp only [netX, netRows, Net.row, argRows, List.map_nil]; rfl
        rw [e] at this; exact this
      have fin : ∀ (st' : St) (n2 : Net), n2 = (Net.mk nk nop nas nks).join (.mk kk ko ka kn) → ∀ bc', 640 < bc' → st'.τ 2 = .w (.ptr 64 0) → st'.H 64 = .cells [iW 0, iW 0, .nil, .nil, .nil, .nil] → st'.τ 3 = .w (.ptr 640 0) →
          st'.H 640 = .cells [iW n2.kind, iW n2.op, asW n2.as, nsW n2.kids, .own bc' 0 (C.length + kc.length) (some (C.length + kc.length)), ksW ks] → st'.H bc' = .row none 2 (elRows C ++ elRows kc) 0 → bc' < st'.g → 640 < st'.g →
          ∃ k', k' < k ∧ SqEx R B k' st' := by
        intro st' n2 hn2 bc' hb' e1 e2 e3 e4 e5 e6 e7
        obtain ⟨nk2, nop2, nas2, nks2⟩ := n2
        simp only [Net.kind, Net.op, Net.as, Net.kids] at e4
        refine ⟨armsWt ks, by omega, nk2, nop2, nas2, nks2, C ++ kc, ks, ksW ks, bc', some (C.length + kc.length), Nat.le_refl _, ?_, ?_, q5', ?_, e1, e2, e3, ?_, ?_, .inr hb', e6, e7, .inl rfl⟩
        · rw [hn2]; exact hsq
        · rw [hn2]; exact hjf.1
        · rw [hn2, elsWt_append]
          have := hjf.2
          omega
        · rw [List.length_append]; exact ⟨_, _, e4, .inl ⟨rfl, rfl⟩⟩
        · rw [elRows_append]; exact e5
      refine ⟨.normal, ?_⟩
      have hjoin : (Net.mk nk nop nas nks).join (.mk kk ko ka kn) = if Net.none (.mk nk nop nas nks) then .mk kk ko ka kn else if Net.none (.mk kk ko ka kn) then .mk nk nop nas nks else Net.norm (.mk 2 0 [] [.mk nk nop nas nks, .mk kk ko ka kn]) := rfl
      generalize hn1 : Net.none (.mk nk nop nas nks) = z1 at w hjoin hjn
      generalize hn2 : Net.none (.mk kk ko ka kn) = z2 at wk hjoin hjn hcond
      generalize hNN : Net.norm (.mk 2 0 [] [.mk nk nop nas nks, .mk kk ko ka kn]) = NN at hjoin hjn
      obtain ⟨Nk, No, Na, Nn⟩ := NN
      rcases hnet with ⟨rfl, rfl⟩ | ⟨rfl, rfl, rfl, rfl, rfl, rfl⟩
      · rcases hkw with rfl | ⟨rfl, hKB⟩
        · by_cases hC0 : C.length = 0
          · have hC0e : C = [] := List.eq_nil_of_length_eq_zero hC0
            subst hC0e
            have rm0 : room kc.length 32 = true := by simpa using rm
            have wc0 := wc
            simp only [List.length_nil, Nat.zero_add, elRows_nil, List.nil_append] at wc0
            have tk0 := tk
            simp only [List.length_nil, Nat.zero_add, elRows_nil, List.nil_append] at tk0
            cases z1
            · cases z2
              · simp [-getElem?_pos, F146_B1, h2, hC, h3, hA, hB, b1, b2, b3, b4, b5, b6, b7, b8, w, wk, fgX, feX, fbX, fzX, fxX, rm, al, wc, tk, armRows, Arm.row, hjn, rm0, wc0, tk0]
                exact fin _ (.mk Nk No Na Nn) (by rw [hjoin]; rfl) (g + 1152 + 384 + 256 + 320 + 576 + 320) (by omega) (by simp [h2]) (by simp [hC, b2, b4, fgX, feX, fbX, fzX, fxX]) (by simp [h3]) (by simp [Net.kind, Net.op, Net.as, Net.kids, fgX, feX, fbX, fzX, fxX]) (by simp [fgX, feX, fbX, fzX, fxX]) (by simp only; omega) (by simp only; omega)
              · simp [-getElem?_pos, F146_B1, h2, hC, h3, hA, hB, b1, b2, b3, b4, b5, b6, b7, b8, w, wk, fgX, feX, fbX, fzX, fxX, rm, al, wc, tk, armRows, Arm.row, hjn, rm0, wc0, tk0]
                exact fin _ (.mk nk nop nas nks) (by rw [hjoin]; rfl) (g + 1152 + 384 + 256 + 320 + 320) (by omega) (by simp [h2]) (by simp [hC, b2, b4, fgX, feX, fbX, fzX, fxX]) (by simp [h3]) (by simp [Net.kind, Net.op, Net.as, Net.kids, fgX, feX, fbX, fzX, fxX]) (by simp [fgX, feX, fbX, fzX, fxX]) (by simp only; omega) (by simp only; omega)
            · simp [-getElem?_pos, F146_B1, h2, hC, h3, hA, hB, b1, b2, b3, b4, b5, b6, b7, b8, w, wk, fgX, feX, fbX, fzX, fxX, rm, al, wc, tk, armRows, Arm.row, hjn, rm0, wc0, tk0]
              exact fin _ (.mk kk ko ka kn) (by rw [hjoin]; rfl) (g + 1152 + 384 + 256 + 256 + 320) (by omega) (by simp [h2]) (by simp [hC, b2, b4, fgX, feX, fbX, fzX, fxX]) (by simp [h3]) (by simp [Net.kind, Net.op, Net.as, Net.kids, fgX, feX, fbX, fzX, fxX]) (by simp [fgX, feX, fbX, fzX, fxX]) (by simp only; omega) (by simp only; omega)
          · have hz2 : z2 = true := by rcases hcond with h | h; exact absurd h hC0; exact h
            subst hz2
            have hCi : ((C.length : Int) = 0) = False := eq_false (by omega)
            have hCe : C ≠ [] := fun e => hC0 (by rw [e]; rfl)
            cases z1
            · simp [-getElem?_pos, F146_B1, h2, hC, h3, hA, hB, b1, b2, b3, b4, b5, b6, b7, b8, w, wk, fgX, feX, fbX, fzX, fxX, rm, al, wc, tk, armRows, Arm.row, hC0, hCi, hCe]
              exact fin _ (.mk nk nop nas nks) (by rw [hjoin]; rfl) (g + 1152 + 384 + 256 + 320 + 320) (by omega) (by simp [h2]) (by simp [hC, b2, b4, fgX, feX, fbX, fzX, fxX]) (by simp [h3]) (by simp [Net.kind, Net.op, Net.as, Net.kids, fgX, feX, fbX, fzX, fxX]) (by simp [fgX, feX, fbX, fzX, fxX]) (by simp only; omega) (by simp only; omega)
            · simp [-getElem?_pos, F146_B1, h2, hC, h3, hA, hB, b1, b2, b3, b4, b5, b6, b7, b8, w, wk, fgX, feX, fbX, fzX, fxX, rm, al, wc, tk, armRows, Arm.row, hC0, hCi, hCe]
              exact fin _ (.mk kk ko ka kn) (by rw [hjoin]; rfl) (g + 1152 + 384 + 256 + 256 + 320) (by omega) (by simp [h2]) (by simp [hC, b2, b4, fgX, feX, fbX, fzX, fxX]) (by simp [h3]) (by simp [Net.kind, Net.op, Net.as, Net.kids, fgX, feX, fbX, fzX, fxX]) (by simp [fgX, feX, fbX, fzX, fxX]) (by simp only; omega) (by simp only; omega)
        · by_cases hC0 : C.length = 0
          · have hC0e : C = [] := List.eq_nil_of_length_eq_zero hC0
            subst hC0e
            have rm0 : room kc.length 32 = true := by simpa using rm
            have wc0 := wc
            simp only [List.length_nil, Nat.zero_add, elRows_nil, List.nil_append] at wc0
            have tk0 := tk
            simp only [List.length_nil, Nat.zero_add, elRows_nil, List.nil_append] at tk0
            cases z1
            · cases z2
              · simp [-getElem?_pos, F146_B1, h2, hC, h3, hA, hB, b1, b2, b3, b4, b5, b6, b7, b8, w, wk, fgX, feX, fbX, fzX, fxX, rm, al, wc, tk, armRows, Arm.row, hKB, hjn, rm0, wc0, tk0]
                exact fin _ (.mk Nk No Na Nn) (by rw [hjoin]; rfl) (g + 1152 + 384 + 256 + 320 + 576 + 320) (by omega) (by simp [h2]) (by simp [hC, b2, b4, fgX, feX, fbX, fzX, fxX]) (by simp [h3]) (by simp [Net.kind, Net.op, Net.as, Net.kids, fgX, feX, fbX, fzX, fxX]) (by simp [fgX, feX, fbX, fzX, fxX]) (by simp only; omega) (by simp only; omega)
              · simp [-getElem?_pos, F146_B1, h2, hC, h3, hA, hB, b1, b2, b3, b4, b5, b6, b7, b8, w, wk, fgX, feX, fbX, fzX, fxX, rm, al, wc, tk, armRows, Arm.row, hKB, hjn, rm0, wc0, tk0]
                exact fin _ (.mk nk nop nas nks) (by rw [hjoin]; rfl) (g + 1152 + 384 + 256 + 320 + 320) (by omega) (by simp [h2]) (by simp [hC, b2, b4, fgX, feX, fbX, fzX, fxX]) (by simp [h3]) (by simp [Net.kind, Net.op, Net.as, Net.kids, fgX, feX, fbX, fzX, fxX]) (by simp [fgX, feX, fbX, fzX, fxX]) (by simp only; omega) (by simp only; omega)
            · simp [-getElem?_pos, F146_B1, h2, hC, h3, hA, hB, b1, b2, b3, b4, b5, b6, b7, b8, w, wk, fgX, feX, fbX, fzX, fxX, rm, al, wc, tk, armRows, Arm.row, hKB, hjn, rm0, wc0, tk0]
              exact fin _ (.mk kk ko ka kn) (by rw [hjoin]; rfl) (g + 1152 + 384 + 256 + 256 + 320) (by omega) (by simp [h2]) (by simp [hC, b2, b4, fgX, feX, fbX, fzX, fxX]) (by simp [h3]) (by simp [Net.kind, Net.op, Net.as, Net.kids, fgX, feX, fbX, fzX, fxX]) (by simp [fgX, feX, fbX, fzX, fxX]) (by simp only; omega) (by simp only; omega)
          · have hz2 : z2 = true := by rcases hcond with h | h; exact absurd h hC0; exact h
            subst hz2
            have hCi : ((C.length : Int) = 0) = False := eq_false (by omega)
            have hCe : C ≠ [] := fun e => hC0 (by rw [e]; rfl)
            cases z1
            · simp [-getElem?_pos, F146_B1, h2, hC, h3, hA, hB, b1, b2, b3, b4, b5, b6, b7, b8, w, wk, fgX, feX, fbX, fzX, fxX, rm, al, wc, tk, armRows, Arm.row, hKB, hC0, hCi, hCe]
              exact fin _ (.mk nk nop nas nks) (by rw [hjoin]; rfl) (g + 1152 + 384 + 256 + 320 + 320) (by omega) (by simp [h2]) (by simp [hC, b2, b4, fgX, feX, fbX, fzX, fxX]) (by simp [h3]) (by simp [Net.kind, Net.op, Net.as, Net.kids, fgX, feX, fbX, fzX, fxX]) (by simp [fgX, feX, fbX, fzX, fxX]) (by simp only; omega) (by simp only; omega)
            · simp [-getElem?_pos, F146_B1, h2, hC, h3, hA, hB, b1, b2, b3, b4, b5, b6, b7, b8, w, wk, fgX, feX, fbX, fzX, fxX, rm, al, wc, tk, armRows, Arm.row, hKB, hC0, hCi, hCe]
              exact fin _ (.mk kk ko ka kn) (by rw [hjoin]; rfl) (g + 1152 + 384 + 256 + 256 + 320) (by omega) (by simp [h2]) (by simp [hC, b2, b4, fgX, feX, fbX, fzX, fxX]) (by simp [h3]) (by simp [Net.kind, Net.op, Net.as, Net.kids, fgX, feX, fbX, fzX, fxX]) (by simp [fgX, feX, fbX, fzX, fxX]) (by simp only; omega) (by simp only; omega)
      · obtain rfl : z1 = true := by rw [← hn1]; exact none_none
        simp only [netX, asW, nsW, netRows, argRows, List.map_nil] at w
        rcases hkw with rfl | ⟨rfl, hKB⟩
        · by_cases hC0 : C.length = 0
          · have hC0e : C = [] := List.eq_nil_of_length_eq_zero hC0
            subst hC0e
            have rm0 : room kc.length 32 = true := by simpa using rm
            have wc0 := wc
            simp only [List.length_nil, Nat.zero_add, elRows_nil, List.nil_append] at wc0
            have tk0 := tk
            simp only [List.length_nil, Nat.zero_add, elRows_nil, List.nil_append] at tk0
            simp [-getElem?_pos, F146_B1, h2, hC, h3, hA, hB, b1, b2, b3, b4, b5, b6, b7, b8, w, wk, fgX, feX, fbX, fzX, fxX, rm, al, wc, tk, armRows, Arm.row, rm0, wc0, tk0]
            exact fin _ (.mk kk ko ka kn) (by rw [hjoin]; rfl) (g + 1152 + 384 + 256 + 256 + 320) (by omega) (by simp [h2]) (by simp [hC, b2, b4, fgX, feX, fbX, fzX, fxX]) (by simp [h3]) (by simp [Net.kind, Net.op, Net.as, Net.kids, fgX, feX, fbX, fzX, fxX]) (by simp [fgX, feX, fbX, fzX, fxX]) (by simp only; omega) (by simp only; omega)
          · have hz2 : z2 = true := by rcases hcond with h | h; exact absurd h hC0; exact h
            subst hz2
            have hCi : ((C.length : Int) = 0) = False := eq_false (by omega)
            have hCe : C ≠ [] := fun e => hC0 (by rw [e]; rfl)
            simp [-getElem?_pos, F146_B1, h2, hC, h3, hA, hB, b1, b2, b3, b4, b5, b6, b7, b8, w, wk, fgX, feX, fbX, fzX, fxX, rm, al, wc, tk, armRows, Arm.row, hC0, hCi, hCe]
            exact fin _ (.mk kk ko ka kn) (by rw [hjoin]; rfl) (g + 1152 + 384 + 256 + 256 + 320) (by omega) (by simp [h2]) (by simp [hC, b2, b4, fgX, feX, fbX, fzX, fxX]) (by simp [h3]) (by simp [Net.kind, Net.op, Net.as, Net.kids, fgX, feX, fbX, fzX, fxX]) (by simp [fgX, feX, fbX, fzX, fxX]) (by simp only; omega) (by simp only; omega)
        · by_cases hC0 : C.length = 0
          · have hC0e : C = [] := List.eq_nil_of_length_eq_zero hC0
            subst hC0e
            have rm0 : room kc.length 32 = true := by simpa using rm
            have wc0 := wc
            simp only [List.length_nil, Nat.zero_add, elRows_nil, List.nil_append] at wc0
            have tk0 := tk
            simp only [List.length_nil, Nat.zero_add, elRows_nil, List.nil_append] at tk0
            simp [-getElem?_pos, F146_B1, h2, hC, h3, hA, hB, b1, b2, b3, b4, b5, b6, b7, b8, w, wk, fgX, feX, fbX, fzX, fxX, rm, al, wc, tk, armRows, Arm.row, hKB, rm0, wc0, tk0]
            exact fin _ (.mk kk ko ka kn) (by rw [hjoin]; rfl) (g + 1152 + 384 + 256 + 256 + 320) (by omega) (by simp [h2]) (by simp [hC, b2, b4, fgX, feX, fbX, fzX, fxX]) (by simp [h3]) (by simp [Net.kind, Net.op, Net.as, Net.kids, fgX, feX, fbX, fzX, fxX]) (by simp [fgX, feX, fbX, fzX, fxX]) (by simp only; omega) (by simp only; omega)
          · have hz2 : z2 = true := by rcases hcond with h | h; exact absurd h hC0; exact h
            subst hz2
            have hCi : ((C.length : Int) = 0) = False := eq_false (by omega)
            have hCe : C ≠ [] := fun e => hC0 (by rw [e]; rfl)
            simp [-getElem?_pos, F146_B1, h2, hC, h3, hA, hB, b1, b2, b3, b4, b5, b6, b7, b8, w, wk, fgX, feX, fbX, fzX, fxX, rm, al, wc, tk, armRows, Arm.row, hKB, hC0, hCi, hCe]
            exact fin _ (.mk kk ko ka kn) (by rw [hjoin]; rfl) (g + 1152 + 384 + 256 + 256 + 320) (by omega) (by simp [h2]) (by simp [hC, b2, b4, fgX, feX, fbX, fzX, fxX]) (by simp [h3]) (by simp [Net.kind, Net.op, Net.as, Net.kids, fgX, feX, fbX, fzX, fxX]) (by simp [fgX, feX, fbX, fzX, fxX]) (by simp only; omega) (by simp only; omega)
    · rw [if_neg hcond] at hsq
      simp only [not_or, Bool.not_eq_true] at hcond
      obtain ⟨hC0, hz2⟩ := hcond
      rw [hz2] at wk
      have hCi : ((C.length : Int) = 0) = False := eq_false (by omega)
      have hCe : C ≠ [] := fun e => hC0 (by rw [e]; rfl)
      refine ⟨.exit 2, ?_⟩
      rcases hkw with rfl | ⟨rfl, hKB⟩
      · simp [-getElem?_pos, F146_B1, h2, hC, h3, hA, hB, b1, b2, b3, b4, b5, b6, b7, b8, w, wk, fgX, feX, fbX, fzX, fxX, armRows, Arm.row, hC0, hCi, hCe]
        exact ⟨nk, nop, nas, nks, C, _, _, bc, cap, ⟨hsq0, hfn, hKr, by simp only [armsWt, Arm.wt]; omega, by simp [h2], hC, by simp [h3], ⟨ca, ck, hA, hnet⟩, hB, hbc, by simp only; omega, by simp only; omega, .inl rfl⟩, hsq.symm⟩
      · simp [-getElem?_pos, F146_B1, h2, hC, h3, hA, hB, b1, b2, b3, b4, b5, b6, b7, b8, w, wk, fgX, feX, fbX, fzX, fxX, hKB, armRows, Arm.row, hC0, hCi, hCe]
        exact ⟨nk, nop, nas, nks, C, _, _, bc, cap, ⟨hsq0, hfn, hKr, by simp only [armsWt, Arm.wt]; omega, by simp [h2], hC, by simp [h3], ⟨ca, ck, hA, hnet⟩, hB, hbc, by simp only; omega, by simp only; omega, .inr ⟨rfl, hKB⟩⟩, hsq.symm⟩
  · have hKi : ((K.length : Int) = 1) = False := eq_false (by omega)
    have hfix : squeeze (.mk nk nop nas nks) C K = .mk (.mk nk nop nas nks) C K := by
      match K, hK1 with
      | [], _ => rw [squeeze]; simp
      | a :: b :: r, _ => rw [squeeze]; simp
    refine ⟨.exit 2, ?_⟩
    rcases hkw with rfl | ⟨rfl, hKB⟩
    · simp [-getElem?_pos, F146_B1, h2, hC, h3, hA, hB, hK1, hKi]
      exact ⟨nk, nop, nas, nks, C, K, _, bc, cap, ⟨hsq, hfn, hKr, hwt, by simp [h2], hC, by simp [h3], ⟨ca, ck, hA, hnet⟩, hB, hbc, by simp only; omega, by simp only; omega, .inl rfl⟩, by rw [← hsq, hfix]⟩
    · simp [-getElem?_pos, F146_B1, h2, hC, h3, hA, hB, hKB, hK1, hKi]
      exact ⟨nk, nop, nas, nks, C, K, _, bc, cap, ⟨hsq, hfn, hKr, hwt, by simp [h2], hC, by simp [h3], ⟨ca, ck, hA, hnet⟩, hB, hbc, by simp only; omega, by simp only; omega, .inr ⟨rfl, hKB⟩⟩, by rw [← hsq, hfix]⟩

end Go.VM

/- Ladders brought to normal form, reckoned. Conditions: none. -/
namespace Go.VM
set_option linter.unusedSimpArgs false
set_option linter.unusedVariables false
set_option maxHeartbeats 16000000

theorem squeeze_wt_le : ∀ (n : Net) (cs : List El) (ks : List Arm), NetFine n → (∀ k ∈ ks, k.wrong false = 0) → (squeeze n cs ks).wt ≤ (Arm.mk n cs ks).wt
  | n, cs, [.mk kn kc kk], hn, hk => by
    obtain ⟨g1, g2, g3, g4, g5⟩ := arm_right (hk (.mk kn kc kk) (by simp))
    by_cases hc : cs.length = 0 ∨ kn.none = true
    · rw [squeeze, if_pos hc]
      have hj := join_fine hn g2
      have := squeeze_wt_le (n.join kn) (cs ++ kc) kk hj.1 ((armsWrong_all _).1 g5)
      simp only [Arm.wt, armsWt, elsWt_append] at this ⊢
      omega
    · rw [squeeze, if_neg hc]; exact Nat.le_refl _
  | n, cs, [], hn, hk => by rw [squeeze]; exact Nat.le_refl _; simp
  | n, cs, x :: y :: r, hn, hk => by rw [squeeze]; exact Nat.le_refl _; simp
termination_by n cs ks => armsWt ks
decreasing_by
  simp [armsWt, Arm.wt]; omega


theorem run_armNorm : ∀ (m : Nat) (a : Arm), a.wt ≤ m → m < 2 ^ 27 → ∀ b, a.wrong b = 0 → ∀ (n : Nat), 2 * m + 40 ≤ n → ∀ s, go n 146 [armX a] [] s = some ⟨armX a.norm, [], []⟩
  | 0, t, h, hm, b, hr, n, hn, s => by have := t.wt_pos; omega
  | m + 1, .mk (.mk k op as nks) cs ks, h, hm, b, hr, n, hn, s => by
    obtain ⟨n, rfl⟩ : ∃ k, n = k + 1 := ⟨n - 1, by omega⟩
    obtain ⟨r1, r2, r3, r4, r5⟩ := arm_right hr
    have r5' := (armsWrong_all _).1 r5
    have hlen := armsWt_len ks
    have hcl := elsWt_len cs
    have hwt := h
    simp only [Arm.wt] at h
    have hc : ∀ x ∈ ks, ∀ s, go n 146 [armX x] [] s = some ⟨armX x.norm, [], []⟩ := fun x hx s => run_armNorm m x (by have := armsWt_mem hx; omega) (by omega) false (r5' x hx) n (by omega) s
    have w1 := run_none (n := n) (by omega) (.mk k op as nks)
    have w2 := run_copyElems (n := n) cs (by omega) (by omega)
    have hrm : room ks.length 112 = true := room_of (by omega) (by omega)
    have hkn := arms_norm_ok ks r5'
    have e0 : Arm.norm (.mk (.mk k op as nks) cs ks) = squeeze (if Net.none (.mk k op as nks) then .mk k op as nks else Net.norm (.mk k op as nks)) cs (armsNorm ks) := by simp [Arm.norm]
    rw [e0]
    have key : ∀ (st2 : St) (nk nop : Int) (nas : List Arg) (nks2 : List Net) (ca ck : W), NetAt ca ck nk nop nas nks2 → NetFine (.mk nk nop nas nks2) → Net.wt (.mk nk nop nas nks2) ≤ Net.wt (.mk k op as nks) → st2.τ 2 = .w (.ptr 64 0) → st2.H 64 = .cells [iW 0, iW 0, .nil, .nil, .nil, .nil] → st2.τ 3 = .w (.ptr 640 0) →
        st2.H 640 = .cells [iW nk, iW nop, ca, ck, .own 256 0 cs.length (some cs.length), .own 512 0 ks.length (some ks.length)] → st2.H 256 = .row none 2 (elRows cs) 0 → st2.H 512 = .row none 6 (armRows (armsNorm ks)) 0 → 640 < st2.g →
        ∃ e st', execC (go n) mode GT false 91 n F146_L1 st2 = some (e, st') ∧ e ≠ .normal ∧ (e = .exit 2 ∧ SqFin (squeeze (.mk nk nop nas nks2) cs (armsNorm ks)) (m + 1) st') := by
      intro st2 nk nop nas nks2 ca ck hnet hf hw e1 e2 e3 e4 e5 e6 e7
      have hl2 : (armsNorm ks).length = ks.length := by simp [armsNorm_map]
      refine loop146_1 (squeeze (.mk nk nop nas nks2) cs (armsNorm ks)) (m + 1) (by omega) (by omega) st2 nk nop nas nks2 cs (armsNorm ks) (.own 512 0 ks.length (some ks.length)) 256 (some cs.length)
        ⟨rfl, hf, fun a ha => (hkn.1 a ha).1, by have := hkn.2.2; omega, e1, e2, e3, ⟨ca, ck, e4, hnet⟩, e5, .inl rfl, by omega, e7, .inr ⟨by rw [hl2], e6⟩⟩
    have close : ∀ (st' : St) (R : Arm), SqFin R (m + 1) st' → ∃ c0 c1 c2 c3 kw bc cap, st'.τ 2 = .w (.ptr 64 0) ∧ st'.H 64 = .cells [iW 0, iW 0, .nil, .nil, .nil, .nil] ∧ st'.τ 3 = .w (.ptr 640 0) ∧ ∃ C K, R = .mk (.mk c0 c1 c2 c3) C K ∧
        (∃ ca ck, st'.H 640 = .cells [iW c0, iW c1, ca, ck, .own bc 0 C.length cap, kw] ∧ NetAt ca ck c0 c1 c2 c3) ∧ st'.H bc = .row none 2 (elRows C) 0 ∧ (bc = 256 ∨ 640 < bc) ∧ (kw = ksW K ∨ (kw = .own 512 0 K.length (some K.length) ∧ st'.H 512 = .row none 6 (armRows K) 0)) := by
      rintro st' R ⟨nk, nop, nas, nks, C, K, kw, bc, cap, ⟨h1, h2, h3, h4, h5, h6, h7, h8, h9, h10, h11, h12, h13⟩, hR⟩
      exact ⟨nk, nop, nas, nks, kw, bc, cap, h5, h6, h7, C, K, hR, h8, h9, h10, h13⟩
    cases hnn : Net.none (.mk k op as nks)
    · rw [hnn] at w1
      have hnr := fine_right r2 hnn
      have w3 := run_netNorm (m + 1) (.mk k op as nks) (by omega) (by omega) hnr n (by omega)
      have hno := norm_ok _ hnr
      simp only [Bool.false_eq_true, if_false]
      generalize Net.norm (.mk k op as nks) = N at w3 hno
      obtain ⟨nk, nop, nas, nks2⟩ := N
      have kf : NetFine (.mk nk nop nas nks2) := .inr hno.1
      have kw := hno.2.2.2
      simp [go_of FT_146 rfl, F146, w1, w2, w3, hrm]
      generalize hst : St.mk _ _ _ _ = st
      obtain ⟨e, ⟨τ', H', g', s'⟩, hx, -, rfl, h2, hC, h3, hA, hD, hB, hgg⟩ := loop146_0 (n := n) ks hc (iW nk) (iW nop) (asW nas) (nsW nks2) cs (by omega) (by omega) st (by simp [← hst]) (by simp [← hst]) (by simp [← hst]) (by simp [← hst]) (by simp [← hst]) (by simp [← hst]) (by simp [← hst]) (by simp [← hst]) (by simp [← hst]) (by simp [← hst])
      simp only at h2 hC h3 hA hD hB hgg
      clear hst
      simp [hx]
      generalize hst2 : St.mk _ _ _ _ = st2
      obtain ⟨e, ⟨τ3, H3, g3, s3⟩, hx3, -, rfl, hf⟩ := key st2 nk nop nas nks2 (asW nas) (nsW nks2) (.inl ⟨rfl, rfl⟩) kf kw (by simp [← hst2, h2]) (by simp [← hst2, hC]) (by simp [← hst2, h3]) (by simp [← hst2, hA]) (by simp [← hst2, hD]) (by simp [← hst2, hB]) (by simp [← hst2]; try omega)
      obtain ⟨c0, c1, c2, c3, kw, bc, cap, k2, kC, k3, C, K, hR, ⟨ca, ck, kA, hnet⟩, kB, hbc, hkw⟩ := close _ _ hf
      simp only at k2 kC k3 kA kB hkw
      rw [hR]
      have b1 : (640 = bc) = False := eq_false (by omega)
      have b2 : (64 = bc) = False := eq_false (by omega)
      have b3 : (bc = 640) = False := eq_false (by omega)
      have b4 : (bc = 64) = False := eq_false (by omega)
      have b5 : (512 = bc) = False := eq_false (by omega)
      have b6 : (bc = 512) = False := eq_false (by omega)
      rcases hnet with ⟨rfl, rfl⟩ | ⟨rfl, rfl, rfl, rfl, rfl, rfl⟩
      · rcases hkw with rfl | ⟨rfl, hKB⟩
        · simp [hx3, k2, kC, k3, kA, kB, b1, b2, b3, b4, b5, b6]
        · simp [hx3, k2, kC, k3, kA, kB, hKB, b1, b2, b3, b4, b5, b6]
      · rcases hkw with rfl | ⟨rfl, hKB⟩
        · simp [hx3, k2, kC, k3, kA, kB, b1, b2, b3, b4, b5, b6, argRows, netRows]
        · simp [hx3, k2, kC, k3, kA, kB, hKB, b1, b2, b3, b4, b5, b6, argRows, netRows]
    · rw [hnn] at w1
      have hno := Net.none_eq hnn
      cases hno
      have kf : NetFine (.mk 0 0 [] []) := .inl hnn
      simp only [if_true]
      simp [go_of FT_146 rfl, F146, w1, w2, hrm]
      generalize hst : St.mk _ _ _ _ = st
      obtain ⟨e, ⟨τ', H', g', s'⟩, hx, -, rfl, h2, hC, h3, hA, hD, hB, hgg⟩ := loop146_0 (n := n) ks hc (iW 0) (iW 0) .nil .nil cs (by omega) (by omega) st (by simp [← hst]) (by simp [← hst]) (by simp [← hst]) (by simp [← hst]) (by simp [← hst]) (by simp [← hst]) (by simp [← hst]) (by simp [← hst]) (by simp [← hst]) (by simp [← hst])
      simp only at h2 hC h3 hA hD hB hgg
      clear hst
      simp [hx]
      generalize hst2 : St.mk _ _ _ _ = st2
      obtain ⟨e, ⟨τ3, H3, g3, s3⟩, hx3, -, rfl, hf⟩ := key st2 0 0 [] [] .nil .nil (.inr ⟨rfl, rfl, rfl, rfl, rfl, rfl⟩) kf (Nat.le_refl _) (by simp [← hst2, h2]) (by simp [← hst2, hC]) (by simp [← hst2, h3]) (by simp [← hst2, hA]) (by simp [← hst2, hD]) (by simp [← hst2, hB]) (by simp [← hst2]; try omega)
      obtain ⟨c0, c1, c2, c3, kw, bc, cap, k2, kC, k3, C, K, hR, ⟨ca, ck, kA, hnet⟩, kB, hbc, hkw⟩ := close _ _ hf
      simp only at k2 kC k3 kA kB hkw
      rw [hR]
      have b1 : (640 = bc) = False := eq_false (by omega)
      have b2 : (64 = bc) = False := eq_false (by omega)
      have b3 : (bc = 640) = False := eq_false (by omega)
      have b4 : (bc = 64) = False := eq_false (by omega)
      have b5 : (512 = bc) = False := eq_false (by omega)
      have b6 : (bc = 512) = False := eq_false (by omega)
      rcases hnet with ⟨rfl, rfl⟩ | ⟨rfl, rfl, rfl, rfl, rfl, rfl⟩
      · rcases hkw with rfl | ⟨rfl, hKB⟩
        · simp [hx3, k2, kC, k3, kA, kB, b1, b2, b3, b4, b5, b6]
        · simp [hx3, k2, kC, k3, kA, kB, hKB, b1, b2, b3, b4, b5, b6]
      · rcases hkw with rfl | ⟨rfl, hKB⟩
        · simp [hx3, k2, kC, k3, kA, kB, b1, b2, b3, b4, b5, b6, argRows, netRows]
        · simp [hx3, k2, kC, k3, kA, kB, hKB, b1, b2, b3, b4, b5, b6, argRows, netRows]
end Go.VM

/- The normal form of nets and ladders, reckoned; as a normal form is. Conditions: none. -/
namespace Go.VM
set_option linter.unusedSimpArgs false
set_option linter.unusedVariables false
set_option maxHeartbeats 16000000

@[simp] theorem argRows_nil : argRows [] = [] := rfl
@[simp] theorem netRows_nil : netRows [] = [] := by simp [netRows]
@[simp] theorem armRows_nil : armRows [] = [] := by simp [armRows]

theorem loop124_0 {n : Nat} (l : List Arm) (hc : ∀ x ∈ l, ∀ s, go n 146 [armX x] [] s = some ⟨armX x.norm, [], []⟩) (hn : l.length < n) (hl : l.length < 2 ^ 40) (st : St) (h3 : st.τ 3 = .w (.own 192 0 l.length (some l.length))) (hB : st.H 192 = .row none 6 (List.replicate l.length [iD 0, iD 0, .l 0 [], .l 0 [], .l 0 [], .l 0 []]) 0) (h9 : st.τ 9 = .w (ksW l)) (h10 : st.τ 10 = iV l.length) (h11 : st.τ 11 = iV 0) (hgg : 192 < st.g) :
    ∃ e st', execC (go n) mode GT false 23 n F124_L0 st = some (e, st') ∧ e ≠ .normal ∧ (e = .exit 0 ∧ st'.τ 3 = .w (.own 192 0 l.length (some l.length)) ∧ st'.H 192 = .row none 6 (armRows (armsNorm l)) 0) := by
  rw [F124_L0, execC_loop]
  refine iter_rule (fun k st => ∃ i, i + k = l.length ∧ st.τ 3 = .w (.own 192 0 l.length (some l.length)) ∧ st.H 192 = .row none 6 (armRows ((armsNorm l).take i) ++ List.replicate k [iD 0, iD 0, .l 0 [], .l 0 [], .l 0 [], .l 0 []]) 0 ∧ st.τ 9 = .w (ksW l) ∧ st.τ 10 = iV l.length ∧ st.τ 11 = iV i ∧ 192 < st.g) ?_ n l.length st hn ⟨0, by omega, h3, by simpa [armRows] using hB, h9, h10, by simpa using h11, hgg⟩
  rintro k ⟨τ, H, g, s⟩ ⟨i, hk, h3, hB, h9, h10, h11, hgg⟩
  simp only at h3 hB h9 h10 h11 hgg
  cases k with
  | zero =>
    have : i = l.length := by omega
    subst this
    refine ⟨.exit 0, ?_⟩
    have hll : (armsNorm l).take l.length = armsNorm l := List.take_of_length_le (by simp [armsNorm_map])
    rw [hll] at hB
    simp [F124_B0, h3, h9, h10, h11, hB]
  | succ k =>
    have hlt : i < l.length := by omega
    have hlt' : ((i : Int) < (l.length : Int)) = True := eq_true (by omega)
    have hg := List.getElem?_eq_getElem hlt
    have hmem := List.getElem_mem hlt
    have hw := wrap_succ (i := i) (by omega)
    have hlT : (armRows ((armsNorm l).take i)).length = i := by simp [armsNorm_map]; omega
    have hget := fill_get (k := k) hlT [iD 0, iD 0, .l 0 [], .l 0 [], .l 0 [], .l 0 []]
    have hset := fill_set (k := k) hlT [iD 0, iD 0, .l 0 [], .l 0 [], .l 0 [], .l 0 []]
    have w := hc _ hmem
    have hgn : (armsNorm l)[i]? = some l[i].norm := by simp [armsNorm_map, hlt]
    have hset := hset (Arm.row l[i].norm)
    rw [armRows_take hgn] at hset
    generalize l[i].norm = y at w hset
    obtain ⟨k', op, as, nks, cs, ks, hx⟩ : ∃ k' op as nks cs ks, l[i] = .mk (.mk k' op as nks) cs ks := by
      cases hq : l[i] with | mk nn cs ks => cases nn; exact ⟨_, _, _, _, _, _, rfl⟩
    rw [hx] at hg w
    have hb := armRows_get hg
    obtain ⟨⟨yk, yo, ya, yn⟩, yc, ys⟩ := y
    simp only [Arm.row] at hset
    have fgX := far hgg
    refine ⟨.normal, ?_⟩
    simp [-getElem?_pos, F124_B0, h3, h9, h10, h11, hB, hlt, hlt', hb, w, hw, hget, hset, fgX]
    exact ⟨k, by omega, i + 1, by omega, by first | exact rfl | exact ⟨rfl, rfl⟩ | exact ⟨rfl, rfl, by omega⟩ | exact ⟨rfl, by omega⟩⟩


theorem run_normed (l : List Arm) (hm : armsWt l < 2 ^ 27) (hr : ∀ a ∈ l, a.wrong true = 0) (n : Nat) (hn : 2 * armsWt l + 41 ≤ n) (s : Sup) : go n 124 [.w (ksW l)] [] s = some ⟨.w (ksW (armsNorm l)), [], []⟩ := by
  obtain ⟨n, rfl⟩ : ∃ k, n = k + 1 := ⟨n - 1, by omega⟩
  have hlen := armsWt_len l
  have hrm : room l.length 112 = true := room_of (by omega) (by omega)
  have hll : (armsNorm l).length = l.length := by simp [armsNorm_map]
  have hc : ∀ x ∈ l, ∀ s, go n 146 [armX x] [] s = some ⟨armX x.norm, [], []⟩ := fun x hx s => run_armNorm (armsWt l) x (armsWt_mem hx) hm true (hr x hx) n (by omega) s
  simp [go_of FT_124 rfl, F124, hrm]
  generalize hst : St.mk _ _ _ _ = st
  obtain ⟨e, ⟨τ', H', g', s'⟩, hx, -, rfl, h3, hB⟩ := loop124_0 (n := n) l hc (by omega) (by omega) st (by simp [← hst]) (by simp [← hst]) (by simp [← hst]) (by simp [← hst]) (by simp [← hst]) (by simp [← hst])
  simp only at h3 hB
  have htk : List.take l.length (armRows (armsNorm l)) = armRows (armsNorm l) := by rw [← hll, take_armRows]
  simp [hx, h3, hB, hll, htk]
theorem run_NormMake (l : List Arm) (hm : armsWt l < 2 ^ 27) (n : Nat) (hn : 2 * armsWt l + 100 ≤ n) (s : Sup) : go n 108 [.w (ksW l)] [] s = some ⟨.w (ksW (if treeCode l = 0 then armsNorm l else [])), [], []⟩ := by
  obtain ⟨n, rfl⟩ : ∃ k, n = k + 1 := ⟨n - 1, by omega⟩
  have w1 := run_accepted l (by omega) n (by omega)
  by_cases h : treeCode l = 0
  · rw [decide_eq_true h] at w1
    have hr : ∀ a ∈ l, a.wrong true = 0 := by
      unfold treeCode at h
      split at h
      · simp at h
      · exact (rungsWrong_all l).1 h
    have w2 := run_normed l hm hr n (by omega)
    have hwt := (arms_norm_ok l fun a ha => arm_weak (hr a ha)).2.2
    have w3 := run_copyArms (armsWt l) (armsNorm l) hwt (by omega) n (by omega)
    rw [if_pos h]
    simp [go_of FT_108 rfl, F108, w1, w2, w3]
  · rw [decide_eq_false h] at w1
    rw [if_neg h]
    simp [go_of FT_108 rfl, F108, w1]
theorem netsWn_take {k : Int} {l : List Net} {i : Nat} {x : Net} (h : l[i]? = some x) (h0 : netsWn k (l.take i) = true) : netsWn k (l.take (i + 1)) = (!(decide (x.kind = k ∧ k ≠ 4)) && x.wn) := by
  have e : ∀ l m : List Net, netsWn k (l ++ m) = (netsWn k l && netsWn k m) := by
    intro l m
    induction l with
    | nil => simp [netsWn]
    | cons a r ih => simp only [List.cons_append, netsWn, ih, Bool.and_assoc]
  rw [List.take_add_one, h]
  simp only [Option.toList_some, e, h0, netsWn, Bool.true_and, Bool.and_true]
theorem netsWn_hit {k : Int} {l : List Net} {i : Nat} {x : Net} (h : l[i]? = some x) (hx : (!(decide (x.kind = k ∧ k ≠ 4)) && x.wn) = false) : netsWn k l = false := by
  have hm : x ∈ l := List.mem_of_getElem? h
  cases hw : netsWn k l with
  | false => rfl
  | true =>
    have := (netsWn_all k l).1 hw x hm
    have e : decide (x.kind = k ∧ k ≠ 4) = false := decide_eq_false this.1
    rw [e, this.2] at hx
    simp at hx

theorem loop110_0 {n : Nat} (l : List Net) (hc : ∀ x ∈ l, ∀ s, go n 110 [netX x] [] s = some ⟨bV x.wn, [], []⟩) (k0 : Int) (op0 as0 : W) (hn : l.length < n) (hl : l.length < 2 ^ 40) (st : St) (hx0 : True) (h1 : st.τ 1 = .w (.ptr 0 0)) (hH : st.H 0 = .cells [iW k0, op0, as0, nsW l]) (h3 : st.τ 3 = iV 0) :
    ∃ e st', execC (go n) mode GT false 48 n F110_L0 st = some (e, st') ∧ e ≠ .normal ∧ ((e = .exit 0 ∧ netsWn k0 l = true ∧ st'.τ 1 = .w (.ptr 0 0) ∧ st'.H 0 = .cells [iW k0, op0, as0, nsW l]) ∨ (e = .ret ∧ netsWn k0 l = false ∧ st'.τ 2 = bV false)) := by
  rw [F110_L0, execC_loop]
  refine iter_rule (fun k st => ∃ i, i + k = l.length ∧ netsWn k0 (l.take i) = true ∧ st.τ 1 = .w (.ptr 0 0) ∧ st.H 0 = .cells [iW k0, op0, as0, nsW l] ∧ st.τ 3 = iV i) ?_ n l.length st hn ⟨0, by omega, by simp [netsWn], h1, hH, by simpa using h3⟩
  rintro k ⟨τ, H, g, s⟩ ⟨i, hk, hx0, h1, hH, h3⟩
  simp only at hx0 h1 hH h3
  cases k with
  | zero =>
    have : i = l.length := by omega
    subst this
    refine ⟨.exit 0, ?_⟩
    rw [List.take_length] at hx0
    simp [F110_B0, h1, hH, h3, hx0]
  | succ k =>
    have hlt : i < l.length := by omega
    have hlt' : ((i : Int) < (l.length : Int)) = True := eq_true (by omega)
    have hg := List.getElem?_eq_getElem hlt
    have hmem := List.getElem_mem hlt
    have hw := wrap_succ (i := i) (by omega)
    have w := hc _ hmem
    have htk := netsWn_take hg hx0
    have hhit := netsWn_hit (k := k0) hg
    generalize hwn : l[i].wn = wn at w htk hhit
    obtain ⟨k', op, as, ks, hx⟩ : ∃ k' op as ks, l[i] = .mk k' op as ks := by cases l[i]; exact ⟨_, _, _, _, rfl⟩
    rw [hx] at hg w htk hhit
    have hb := netRows_get hg
    simp only [Net.kind] at htk hhit
    by_cases c1 : k' = k0
    · subst c1
      by_cases c2 : k' = 4
      · subst c2
        cases wn
        · refine ⟨.ret, ?_⟩
          simp [-getElem?_pos, F110_B0, h1, hH, h3, hlt, hlt', hb, w, hw, hhit]
        · refine ⟨.normal, ?_⟩
          simp [-getElem?_pos, F110_B0, h1, hH, h3, hlt, hlt', hb, w, hw]
          exact ⟨k, by omega, i + 1, by omega, by rw [htk]; simp, rfl⟩
      · refine ⟨.ret, ?_⟩
        simp [-getElem?_pos, F110_B0, h1, hH, h3, hlt, hlt', hb, w, hw, c2, hhit]
    · have c1' := eq_false c1
      cases wn
      · refine ⟨.ret, ?_⟩
        simp [-getElem?_pos, F110_B0, h1, hH, h3, hlt, hlt', hb, w, hw, c1', hhit]
      · refine ⟨.normal, ?_⟩
        simp [-getElem?_pos, F110_B0, h1, hH, h3, hlt, hlt', hb, w, hw, c1']
        exact ⟨k, by omega, i + 1, by omega, by rw [htk]; simp [c1], rfl⟩


theorem run_wnNet : ∀ (m : Nat) (t : Net), t.wt ≤ m → m < 2 ^ 40 → ∀ (n : Nat), m + 4 ≤ n → ∀ s, go n 110 [netX t] [] s = some ⟨bV t.wn, [], []⟩
  | 0, t, h, hm, n, hn, s => by have := t.wt_pos; omega
  | m + 1, .mk k op as ks, h, hm, n, hn, s => by
    obtain ⟨n, rfl⟩ : ∃ k, n = k + 1 := ⟨n - 1, by omega⟩
    have hlen := netsWt_len ks
    simp only [Net.wt] at h
    have hc : ∀ x ∈ ks, ∀ s, go n 110 [netX x] [] s = some ⟨bV x.wn, [], []⟩ := fun x hx s => run_wnNet m x (by have := netsWt_mem hx; omega) (by omega) n (by omega) s
    unfold Net.wn
    simp [go_of FT_110 rfl, F110]
    generalize hst : St.mk _ _ _ _ = st
    obtain ⟨e, ⟨τ', H', g', s'⟩, hx, -, ⟨rfl, h0, h1, hH⟩ | ⟨rfl, h0, h2⟩⟩ := loop110_0 (n := n) ks hc k (iW op) (asW as) (by omega) (by omega) st trivial (by simp [← hst]) (by simp [← hst]) (by simp [← hst])
    · simp only at h1 hH
      by_cases c1 : k = 1
      · rw [c1] at h0 hH
        simp [hx, h0, h1, hH, c1]
      · by_cases c2 : k = 4
        · rw [c2] at h0 hH
          simp [hx, h0, h1, hH, c2]
        · have e : decide ((1 : Int) < ks.length) = decide (1 < ks.length) := by
            by_cases h : 1 < ks.length
            · rw [decide_eq_true h]; exact decide_eq_true (by omega)
            · rw [decide_eq_false h]; exact decide_eq_false (by omega)
          simp [hx, h0, h1, hH, c1, c2, e]
    · simp only at h2
      simp [hx, h0, h2]

end Go.VM
