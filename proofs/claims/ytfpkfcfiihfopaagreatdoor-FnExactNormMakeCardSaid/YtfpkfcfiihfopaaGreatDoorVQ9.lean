/- Nets copied and brought to normal form, reckoned. Conditions: none. -/
import Derived.Test.YtfpkfcfiihfopaaGreatDoorVQ8

namespace Go.VM
set_option linter.unusedSimpArgs false
set_option linter.unusedVariables false
set_option maxHeartbeats 8000000
theorem netRow_len (t : Net) : t.row.length = 4 := by cases t; simp [Net.row]
theorem all_len4 (l : List Net) : (netRows l).all (fun r => r.length == 4) = true := by
 rw [netRows_map]; simp [netRow_len]
theorem all_len2 (l : List El) : (elRows l).all (fun r => r.length == 2) = true := by simp [elRows, El.row]
theorem all_len3 (l : List Arg) : (argRows l).all (fun r => r.length == 3) = true := by simp [argRows, Arg.row]
theorem armRow_len (t : Arm) : t.row.length = 6 := by
 obtain ⟨⟨_, _, _, _⟩, _, _⟩ := t; simp [Arm.row]
@[simp] theorem take_netRows (l : List Net) : List.take l.length (netRows l) = netRows l := by rw [← netRows_length l, List.take_length]
@[simp] theorem take_armRows (l : List Arm) : List.take l.length (armRows l) = armRows l := by rw [← armRows_length l, List.take_length]
@[simp] theorem take_elRows (l : List El) : List.take l.length (elRows l) = elRows l := by rw [← elRows_length l, List.take_length]
@[simp] theorem take_argRows (l : List Arg) : List.take l.length (argRows l) = argRows l := by rw [← argRows_length l, List.take_length]
theorem netRows_append : ∀ l m : List Net, netRows (l ++ m) = netRows l ++ netRows m
 | [], m => by simp [netRows]
 | a :: r, m => by simp [netRows, netRows_append r m]
theorem armRows_append : ∀ l m : List Arm, armRows (l ++ m) = armRows l ++ armRows m
 | [], m => by simp [armRows]
 | a :: r, m => by simp [armRows, armRows_append r m]
theorem elRows_append (l m : List El) : elRows (l ++ m) = elRows l ++ elRows m := by simp [elRows]
theorem room_of {n b : Nat} (h : n < 2 ^ 30) (hb : b ≤ 128) : room n b = true := by
 simp only [room, Bool.and_eq_true, decide_eq_true_eq]; exact ⟨Nat.le_trans (Nat.mul_le_mul (Nat.le_of_lt h) hb) (by decide), by omega⟩
theorem run_cloneA {n : Nat} (hn : 3 ≤ n) (l : List Arg) (hl : l.length < 2 ^ 30) (s : Sup) :
 go n 186 [.w (asW l)] [] s = some ⟨.w (.own 0 0 l.length (some l.length)), [], [.row none 3 (argRows l) 0]⟩ := by
 obtain ⟨n, rfl⟩ : ∃ k, n = k + 2 := ⟨n - 2, by omega⟩; have hr : room l.length 24 = true := room_of hl (by omega); have C : ∀ s, go (n + 1) 197 [.w (asW l)] [] s = some ⟨.w (.own 0 0 l.length none), [], [.row none 3 (argRows l) 0]⟩ := fun s => by
  rw [go_orc rfl, show ans 197 [.w (asW l)] = (if ((argRows l).all (fun r => r.length == 3) && room (argRows l).length 24) = true then some ⟨.w (.own 0 0 (argRows l).length none), [], [.row none 3 (argRows l) 0]⟩ else none) from rfl]; rw [all_len3 l, argRows_length, hr]; rfl
 have D : ∀ s, go (n + 1) 198 [.w (.own 0 0 l.length none)] [.row none 3 (argRows l) 0] s = some ⟨.w (.own 0 0 l.length (some l.length)), [.row none 3 (argRows l) 0], []⟩ := fun s => by
  simp [go_of FT_198 rfl, F198]
 simp [go_of FT_186 rfl, F186, C, D]
theorem run_cloneE {n : Nat} (hn : 3 ≤ n) (l : List El) (hl : l.length < 2 ^ 30) (s : Sup) :
 go n 174 [.w (csW l)] [] s = some ⟨.w (.own 0 0 l.length (some l.length)), [], [.row none 2 (elRows l) 0]⟩ := by
 obtain ⟨n, rfl⟩ : ∃ k, n = k + 2 := ⟨n - 2, by omega⟩; have hr : room l.length 32 = true := room_of hl (by omega); have C : ∀ s, go (n + 1) 191 [.w (csW l)] [] s = some ⟨.w (.own 0 0 l.length none), [], [.row none 2 (elRows l) 0]⟩ := fun s => by
  rw [go_orc rfl, show ans 191 [.w (csW l)] = (if ((elRows l).all (fun r => r.length == 2) && room (elRows l).length 32) = true then some ⟨.w (.own 0 0 (elRows l).length none), [], [.row none 2 (elRows l) 0]⟩ else none) from rfl]; rw [all_len2 l, elRows_length, hr]; rfl
 have D : ∀ s, go (n + 1) 192 [.w (.own 0 0 l.length none)] [.row none 2 (elRows l) 0] s = some ⟨.w (.own 0 0 l.length (some l.length)), [.row none 2 (elRows l) 0], []⟩ := fun s => by
  simp [go_of FT_192 rfl, F192]
 simp [go_of FT_174 rfl, F174, C, D]
theorem run_cloneN {n : Nat} (hn : 3 ≤ n) (l : List Net) (hl : l.length < 2 ^ 30) (s : Sup) :
 go n 140 [.w (nsW l)] [] s = some ⟨.w (.own 0 0 l.length (some l.length)), [], [.row none 4 (netRows l) 0]⟩ := by
 obtain ⟨n, rfl⟩ : ∃ k, n = k + 2 := ⟨n - 2, by omega⟩; have hr : room l.length 64 = true := room_of hl (by omega); have C : ∀ s, go (n + 1) 164 [.w (nsW l)] [] s = some ⟨.w (.own 0 0 l.length none), [], [.row none 4 (netRows l) 0]⟩ := fun s => by
  rw [go_orc rfl, show ans 164 [.w (nsW l)] = (if ((netRows l).all (fun r => r.length == 4) && room (netRows l).length 64) = true then some ⟨.w (.own 0 0 (netRows l).length none), [], [.row none 4 (netRows l) 0]⟩ else none) from rfl]; rw [all_len4 l, netRows_length, hr]; rfl
 have D : ∀ s, go (n + 1) 165 [.w (.own 0 0 l.length none)] [.row none 4 (netRows l) 0] s = some ⟨.w (.own 0 0 l.length (some l.length)), [.row none 4 (netRows l) 0], []⟩ := fun s => by
  simp [go_of FT_165 rfl, F165]
 simp [go_of FT_140 rfl, F140, C, D]
theorem run_elemCopy {n : Nat} (hn : 4 ≤ n) (e : El) (hl : e.as.length < 2 ^ 30) (s : Sup) : go n 163 [elX e] [] s = some ⟨elX e, [], []⟩ := by
 obtain ⟨n, rfl⟩ : ∃ k, n = k + 1 := ⟨n - 1, by omega⟩; obtain ⟨op, as⟩ := e; have w := run_cloneA (n := n) (by omega) as hl; simp [go_of FT_163 rfl, F163, w]
theorem fill_get {R : List (List D)} {i k : Nat} (h : R.length = i) (z : List D) : (R ++ List.replicate (k + 1) z)[i]? = some z := by
 rw [List.getElem?_append_right (by omega), h, Nat.sub_self]; rfl
theorem fill_set {R : List (List D)} {i k : Nat} (h : R.length = i) (z x : List D) : (R ++ List.replicate (k + 1) z).set i x = (R ++ [x]) ++ List.replicate k z := by
 rw [List.set_append_right _ _ (by omega), h, Nat.sub_self, List.append_assoc]; rfl
theorem netRows_take {l : List Net} {i : Nat} {x : Net} (h : l[i]? = some x) : netRows (l.take i) ++ [x.row] = netRows (l.take (i + 1)) := by
 rw [List.take_add_one, h]; simp [netRows_append, netRows]
theorem armRows_take {l : List Arm} {i : Nat} {x : Arm} (h : l[i]? = some x) : armRows (l.take i) ++ [x.row] = armRows (l.take (i + 1)) := by
 rw [List.take_add_one, h]; simp [armRows_append, armRows]
theorem elRows_take {l : List El} {i : Nat} {x : El} (h : l[i]? = some x) : elRows (l.take i) ++ [x.row] = elRows (l.take (i + 1)) := by
 rw [List.take_add_one, h]; simp [elRows]
theorem far {b g : Nat} (h : b < g) : ((b = g) = False) ∧
 ((g = b) = False) ∧
 ((g ≤ b) = False) ∧
 (∀ x : Nat, (b = g + x) = False) ∧
 (∀ x : Nat, (g + x = b) = False) ∧
 (∀ x : Nat, (g + x ≤ b) = False) ∧
 (∀ x y : Nat, (b = g + x + y) = False) ∧
 (∀ x y : Nat, (g + x + y = b) = False) ∧
 (∀ x y : Nat, (g + x + y ≤ b) = False) ∧
 (∀ x y z : Nat, (b = g + x + y + z) = False) ∧
 (∀ x y z : Nat, (g + x + y + z = b) = False) ∧
 (∀ x y z : Nat, (g + x + y + z ≤ b) = False) ∧
 (∀ x y z u : Nat, (b = g + x + y + z + u) = False) ∧
 (∀ x y z u : Nat, (g + x + y + z + u = b) = False) ∧
 (∀ x y z u : Nat, (g + x + y + z + u ≤ b) = False) ∧
 (∀ x y z u v : Nat, (b = g + x + y + z + u + v) = False) ∧
 (∀ x y z u v : Nat, (g + x + y + z + u + v = b) = False) ∧
 (∀ x y z u v : Nat, (g + x + y + z + u + v ≤ b) = False) ∧
 (∀ x y z u v w : Nat, (b = g + x + y + z + u + v + w) = False) ∧
 (∀ x y z u v w : Nat, (g + x + y + z + u + v + w = b) = False) ∧
 (∀ x y z u v w : Nat, (g + x + y + z + u + v + w ≤ b) = False) ∧
 (∀ m : Nat, m ≤ b → (m < g) = True) ∧
 (∀ m : Nat, m ≤ b → (g ≤ m) = False) ∧
 (∀ m : Nat, m ≤ b → (g = m) = False) :=
 ⟨eq_false (by omega),
  eq_false (by omega),
  eq_false (by omega),
  fun x => eq_false (by omega),
  fun x => eq_false (by omega),
  fun x => eq_false (by omega),
  fun x y => eq_false (by omega),
  fun x y => eq_false (by omega),
  fun x y => eq_false (by omega),
  fun x y z => eq_false (by omega),
  fun x y z => eq_false (by omega),
  fun x y z => eq_false (by omega),
  fun x y z u => eq_false (by omega),
  fun x y z u => eq_false (by omega),
  fun x y z u => eq_false (by omega),
  fun x y z u v => eq_false (by omega),
  fun x y z u v => eq_false (by omega),
  fun x y z u v => eq_false (by omega),
  fun x y z u v w => eq_false (by omega),
  fun x y z u v w => eq_false (by omega),
  fun x y z u v w => eq_false (by omega),
  fun m h => eq_true (by omega),
  fun m h => eq_false (by omega),
  fun m h => eq_false (by omega)⟩
theorem loop139_0 {n : Nat} (l : List Net) (hc : ∀ x ∈ l, ∀ s, go n 139 [netX x] [] s = some ⟨netX x, [], []⟩) (k0 op0 : Int) (as0 : List Arg) (hn : l.length < n) (hl : l.length < 2 ^ 40) (st : St) (h3 : st.τ 3 = .w (.ptr 768 0)) (hA : st.H 768 = .cells [iW k0, iW op0, asW as0, .own 640 0 l.length (some l.length)]) (hB : st.H 640 = .row none 4 (List.replicate l.length [iD 0, iD 0, .l 0 [], .l 0 []]) 0) (h17 : st.τ 17 = .w (nsW l)) (h18 : st.τ 18 = iV l.length) (h19 : st.τ 19 = iV 0) (hgg : 768 < st.g) (h2 : st.τ 2 = .w (.ptr 64 0)) (hC : st.H 64 = .cells [iW 0, iW 0, .nil, .nil]) :
 ∃ e st', execC (go n) mode GT false 32 n F139_L0 st = some (e, st') ∧ e ≠ .normal ∧ (e = .exit 0 ∧ st'.τ 3 = .w (.ptr 768 0) ∧ st'.H 768 = .cells [iW k0, iW op0, asW as0, .own 640 0 l.length (some l.length)] ∧ st'.H 640 = .row none 4 (netRows l) 0 ∧ st'.τ 2 = .w (.ptr 64 0) ∧ st'.H 64 = .cells [iW 0, iW 0, .nil, .nil]) := by
 rw [F139_L0, execC_loop]; refine iter_rule (fun k st => ∃ i, i + k = l.length ∧ st.τ 3 = .w (.ptr 768 0) ∧ st.H 768 = .cells [iW k0, iW op0, asW as0, .own 640 0 l.length (some l.length)] ∧ st.H 640 = .row none 4 (netRows (l.take i) ++ List.replicate k [iD 0, iD 0, .l 0 [], .l 0 []]) 0 ∧ st.τ 17 = .w (nsW l) ∧ st.τ 18 = iV l.length ∧ st.τ 19 = iV i ∧ 768 < st.g ∧ st.τ 2 = .w (.ptr 64 0) ∧ st.H 64 = .cells [iW 0, iW 0, .nil, .nil]) ?_ n l.length st hn ⟨0, by omega, h3, hA, by simpa [netRows] using hB, h17, h18, by simpa using h19, hgg, h2, hC⟩
 rintro k ⟨τ, H, g, s⟩ ⟨i, hk, h3, hA, hB, h17, h18, h19, hgg, h2, hC⟩; simp only at h3 hA hB h17 h18 h19 hgg h2 hC; cases k with
 | zero =>
  have : i = l.length := by omega
  subst this; refine ⟨.exit 0, ?_⟩
  rw [List.take_length] at hB; simp [F139_B0, h3, h17, h18, h19, hA, hB, h2, hC]
 | succ k =>
  have hlt : i < l.length := by omega
  have hlt' := ltT hlt; have hg := List.getElem?_eq_getElem hlt; have hmem := List.getElem_mem hlt; have hw := wrap_succ (i := i) (by omega); have w := hc _ hmem; have hlT : (netRows (l.take i)).length = i := by simp; omega
  have hget := fill_get (k := k) hlT [iD 0, iD 0, .l 0 [], .l 0 []]; have hset := fill_set (k := k) hlT [iD 0, iD 0, .l 0 [], .l 0 []]; have htk := netRows_take hg; obtain ⟨k', op, as, ks, hx⟩ : ∃ k' op as ks, l[i] = .mk k' op as ks := by cases l[i]; exact ⟨_, _, _, _, rfl⟩
  rw [hx] at hg w htk; have hb := netRows_get hg; have hset := hset (Net.row (.mk k' op as ks)); rw [htk] at hset; simp only [Net.row] at hset; have fgX := far hgg; have feX := far (show 640 < g by omega); have fcX := far (show 64 < g by omega); have glt : ∀ m : Nat, m ≤ 768 → (m < g) = True := fun m h => eq_true (by omega)
  have gle : ∀ m : Nat, m ≤ 768 → (g ≤ m) = False := fun m h => eq_false (by omega)
  refine ⟨.normal, ?_⟩
  simp [-getElem?_pos, F139_B0, glt, gle, h3, h17, h18, h19, hA, hB, hlt, hlt', hb, w, hw, hget, hset, h2, hC, fgX, feX, fcX]; exact ⟨k, by omega, i + 1, by omega, by first | exact rfl | exact ⟨rfl, rfl⟩ | exact ⟨rfl, rfl, by omega⟩⟩
theorem run_netCopy : ∀ (m : Nat) (t : Net), t.wt ≤ m → m < 2 ^ 30 → ∀ (n : Nat), m + 8 ≤ n → ∀ s, go n 139 [netX t] [] s = some ⟨netX t, [], []⟩
 | 0, t, h, hm, n, hn, s => by have := t.wt_pos; omega
 | m + 1, .mk k op as ks, h, hm, n, hn, s => by
  obtain ⟨n, rfl⟩ : ∃ k, n = k + 1 := ⟨n - 1, by omega⟩; have hlen := netsWt_len ks; simp only [Net.wt] at h; have hc : ∀ x ∈ ks, ∀ s, go n 139 [netX x] [] s = some ⟨netX x, [], []⟩ := fun x hx s => run_netCopy m x (by have := netsWt_mem hx; omega) (by omega) n (by omega) s
  have w := run_elemCopy (n := n) (by omega) ⟨op, as⟩ (by simp only; omega); have hr : room ks.length 64 = true := room_of (by omega) (by omega); simp [go_of FT_139 rfl, F139, w, hr]; generalize hst : St.mk _ _ _ _ = st; obtain ⟨e, ⟨τ', H', g', s'⟩, hx, -, rfl, h3, hA, hB, h2, hC⟩ := loop139_0 (n := n) ks hc k op as (by omega) (by omega) st (by simp [← hst]) (by simp [← hst]) (by simp [← hst]) (by simp [← hst]) (by simp [← hst]) (by simp [← hst]) (by simp [← hst]) (by simp [← hst]) (by simp [← hst]); simp only at h3 hA hB h2 hC; simp [hx, h3, hA, hB, h2, hC]
def accN (k : Int) (l : List Net) (i : Nat) : List Net := (netsNorm (l.take i)).flatMap (Net.open k)
theorem accN_step {k : Int} {l : List Net} {i : Nat} {x : Net} (h : l[i]? = some x) : accN k l (i + 1) = accN k l i ++ Net.open k x.norm := by
 unfold accN; rw [List.take_add_one, h]; simp [netsNorm_map]
theorem accN_wt {k : Int} {l : List Net} (hr : ∀ x ∈ l, x.wrong = 0) (i : Nat) : netsWt (accN k l i) ≤ netsWt l := by
 have h1 := netsWt_flat_le (k := k) (netsNorm (l.take i)); have h2 := (norms_ok (l.take i) fun x hx => hr x (List.mem_of_mem_take hx)).2.2; have h3 := netsWt_append (l.take i) (l.drop i); rw [List.take_append_drop] at h3; unfold accN; omega
theorem len_of4 (l : List Net) : ∀ x ∈ netRows l, x.length = 4 := fun x hx => by
 rw [netRows_map] at hx; obtain ⟨a, _, rfl⟩ := List.mem_map.1 hx; exact netRow_len a
theorem loop120 {n : Nat} (l : List Net) (k0 op0 : Int) (as0 : List Arg) (hc : ∀ x ∈ l, ∀ s, go n 120 [netX x] [] s = some ⟨netX x.norm, [], []⟩) (hr : ∀ x ∈ l, x.wrong = 0) (hwt : netsWt l < 2 ^ 29) (hn : l.length < n) (hl : l.length < 2 ^ 40) (st : St)
 (h1 : st.τ 1 = .w (.ptr 0 0)) (h0 : st.H 0 = .cells [iW k0, iW op0, asW as0, nsW l]) (h2 : st.τ 2 = .w (.ptr 64 0)) (hC : st.H 64 = .cells [iW 0, iW 0, .nil, .nil]) (h3 : st.τ 3 = .w (.ptr 704 0)) (hA : st.H 704 = .cells [iW k0, iW 0, .nil, .nil])
 (h26 : st.τ 26 = .w (nsW l)) (h27 : st.τ 27 = iV l.length) (h28 : st.τ 28 = iV 0) (hgg : 704 < st.g) :
 ∃ e st', execC (go n) mode GT false 65 n F120_L0 st = some (e, st') ∧ e ≠ .normal ∧ (e = .exit 1 ∧ st'.τ 2 = .w (.ptr 64 0) ∧ st'.H 64 = .cells [iW 0, iW 0, .nil, .nil] ∧ st'.τ 3 = .w (.ptr 704 0) ∧ ∃ cw, st'.H 704 = .cells [iW k0, iW 0, .nil, cw] ∧
  ((accN k0 l l.length = [] ∧ cw = .nil) ∨ ∃ b, 704 < b ∧ b < st'.g ∧ cw = .own b 0 (accN k0 l l.length).length none ∧ st'.H b = .row none 4 (netRows (accN k0 l l.length)) 0)) := by
 rw [F120_L0, execC_loop]; refine iter_rule (fun k st => ∃ i, i + k = l.length ∧ st.τ 1 = .w (.ptr 0 0) ∧ st.H 0 = .cells [iW k0, iW op0, asW as0, nsW l] ∧ st.τ 2 = .w (.ptr 64 0) ∧ st.H 64 = .cells [iW 0, iW 0, .nil, .nil] ∧ st.τ 3 = .w (.ptr 704 0) ∧
  st.τ 26 = .w (nsW l) ∧ st.τ 27 = iV l.length ∧ st.τ 28 = iV i ∧ 704 < st.g ∧ ∃ cw, st.H 704 = .cells [iW k0, iW 0, .nil, cw] ∧
  ((accN k0 l i = [] ∧ cw = .nil) ∨ ∃ b, 704 < b ∧ b < st.g ∧ cw = .own b 0 (accN k0 l i).length none ∧ st.H b = .row none 4 (netRows (accN k0 l i)) 0)) ?_ n l.length st hn
  ⟨0, by omega, h1, h0, h2, hC, h3, h26, h27, by simpa using h28, hgg, .nil, hA, .inl ⟨by simp [accN, netsNorm], rfl⟩⟩
 rintro k ⟨τ, H, g, s⟩ ⟨i, hk, h1, h0, h2, hC, h3, h26, h27, h28, hgg, cw, hA, hcw⟩; simp only at h1 h0 h2 hC h3 h26 h27 h28 hgg hA hcw; cases k with
 | zero =>
  have : i = l.length := by omega
  subst this; refine ⟨.exit 1, ⟨upd τ 29 (.w (.d (.s (.bool false)))), H, g + 64, restS s⟩, ?_, by simp, fun _ => ⟨rfl, by simpa using h2, hC, by simpa using h3, cw, hA, ?_⟩⟩
  · simp [F120_B0, h1, h2, h3, h26, h27, h28]
  · rcases hcw with hcw | ⟨b, hb1, hb2, hb3, hb4⟩
    · exact .inl hcw
    · exact .inr ⟨b, hb1, by simp only; omega, hb3, hb4⟩
 | succ k =>
  have hlt : i < l.length := by omega
  have hlt' := ltT hlt; have hg := List.getElem?_eq_getElem hlt; have hmem := List.getElem_mem hlt; have hw := wrap_succ (i := i) (by omega); have w := hc _ hmem; have hstep := accN_step (k := k0) hg; have hwtA := accN_wt (k := k0) hr (i + 1); rw [hstep, netsWt_append] at hwtA; have hlA := netsWt_len (accN k0 l i); obtain ⟨k', op, as, ks, hx⟩ : ∃ k' op as ks, l[i] = .mk k' op as ks := by cases l[i]; exact ⟨_, _, _, _, rfl⟩
  rw [hx] at hg w hstep hwtA; generalize Net.norm (.mk k' op as ks) = y at w hstep hwtA; obtain ⟨k2, op2, as2, ks2⟩ := y; have hb := netRows_get hg; have fgX := far hgg; have fcX := far (show 64 < g by omega); have fzX := far (show 0 < g by omega); have glt : ∀ m : Nat, m ≤ 704 → (m < g) = True := fun m h => eq_true (by omega)
  have gle : ∀ m : Nat, m ≤ 704 → (g ≤ m) = False := fun m h => eq_false (by omega)
  generalize accN k0 l i = A at hcw hstep hwtA hlA
  by_cases hkk : k2 = k0
  · subst hkk
    have ho : Net.open k2 (.mk k2 op2 as2 ks2) = ks2 := by simp [Net.open, Net.kind, Net.kids]
    rw [ho] at hstep hwtA; have hl2 := netsWt_len ks2; have al := eq_true (len_of4 ks2); have rm : room (A.length + ks2.length) 64 = true := room_of (by omega) (by omega); have rm2 : room ks2.length 64 = true := room_of (by omega) (by omega); refine ⟨.normal, ?_⟩
    rcases hcw with ⟨rfl, rfl⟩ | ⟨b, hb1, hb2, rfl, hB⟩
    · simp [-getElem?_pos, F120_B0, h1, h0, h2, hC, h3, h26, h27, h28, hA, hlt, hlt', hb, w, hw, al, rm2, fgX, fcX, fzX, glt, gle]
      refine ⟨k, by omega, i + 1, by omega, rfl, _, ?_, ?_, ⟨rfl, ?_⟩, ?_⟩
      · omega
      · omega
      · rw [hstep]; simp
      · rw [if_neg (by omega), if_pos rfl, hstep]; simp [netRows_append, netRows, Net.row]
    · have fbX := far hb2
      have b1 : (704 = b) = False := eq_false (by omega); have b2 : (64 = b) = False := eq_false (by omega); have b3 : (0 = b) = False := eq_false (by omega); have b4 : (b = 704) = False := eq_false (by omega); simp [-getElem?_pos, F120_B0, h1, h0, h2, hC, h3, h26, h27, h28, hA, hB, hlt, hlt', hb, w, hw, al, rm, fgX, fcX, fzX, fbX, b1, b2, b3, b4, glt, gle]; refine ⟨k, by omega, i + 1, by omega, rfl, _, ?_, ?_, ⟨rfl, ?_⟩, ?_⟩
      · omega
      · omega
      · rw [hstep]; simp
      · rw [if_neg (by omega), if_pos rfl, hstep]; simp [netRows_append, netRows, Net.row]
  · have ho : Net.open k0 (.mk k2 op2 as2 ks2) = [.mk k2 op2 as2 ks2] := by simp [Net.open, Net.kind, hkk]
    rw [ho] at hstep hwtA; have hkk' := eq_false hkk; have rm : room (A.length + 1) 64 = true := room_of (by simp [netsWt] at hwtA; omega) (by omega); have rm2 : room 1 64 = true := by decide
    refine ⟨.normal, ?_⟩
    rcases hcw with ⟨rfl, rfl⟩ | ⟨b, hb1, hb2, rfl, hB⟩
    · simp [-getElem?_pos, F120_B0, h1, h0, h2, hC, h3, h26, h27, h28, hA, hlt, hlt', hb, w, hw, rm2, hkk', fgX, fcX, fzX, glt, gle]
      refine ⟨k, by omega, i + 1, by omega, rfl, _, ?_, ?_, ⟨rfl, ?_⟩, ?_⟩
      · omega
      · omega
      · rw [hstep]; simp
      · rw [if_neg (by omega), if_pos rfl, hstep]; simp [netRows_append, netRows, Net.row]
    · have fbX := far hb2
      have b1 : (704 = b) = False := eq_false (by omega); have b2 : (64 = b) = False := eq_false (by omega); have b3 : (0 = b) = False := eq_false (by omega); have b4 : (b = 704) = False := eq_false (by omega); simp [-getElem?_pos, F120_B0, h1, h0, h2, hC, h3, h26, h27, h28, hA, hB, hlt, hlt', hb, w, hw, rm, rm2, hkk', fgX, fcX, fzX, fbX, b1, b2, b3, b4, glt, gle]; refine ⟨k, by omega, i + 1, by omega, rfl, _, ?_, ?_, ⟨rfl, ?_⟩, ?_⟩
      · omega
      · omega
      · rw [hstep]; simp
      · rw [if_neg (by omega), if_pos rfl, hstep]; simp [netRows_append, netRows, Net.row]
theorem flat_ne {k : Int} (hk : k ≠ 1) {l : List Net} (hr : ∀ x ∈ l, x.wrong = 0) (hne : l ≠ []) : (netsNorm l).flatMap (Net.open k) ≠ [] := by
 intro e0; obtain ⟨y, hy⟩ : ∃ y, y ∈ netsNorm l := by
  cases l with
  | nil => exact absurd rfl hne
  | cons a r => exact ⟨a.norm, by simp [netsNorm]⟩
 have hy' := List.flatMap_eq_nil_iff.1 e0 y hy; unfold Net.open at hy'; split at hy'
 · rename_i hyk
   obtain ⟨yk, yo, ya, yks⟩ := y; simp only [Net.kind] at hyk; subst hyk; exact (right_kids ((norms_ok l hr).1 _ hy).1 hk).2.2.2.1 hy'
 · cases hy'
theorem run_netNorm : ∀ (m : Nat) (t : Net), t.wt ≤ m → m < 2 ^ 29 → t.wrong = 0 → ∀ (n : Nat), m + 12 ≤ n → ∀ s, go n 120 [netX t] [] s = some ⟨netX t.norm, [], []⟩
 | 0, t, h, hm, hr, n, hn, s => by have := t.wt_pos; omega
 | m + 1, .mk k op as ks, h, hm, hr, n, hn, s => by
  obtain ⟨n, rfl⟩ : ∃ k, n = k + 1 := ⟨n - 1, by omega⟩; have hlen := netsWt_len ks; have hw0 := h; simp only [Net.wt] at h
  by_cases hk : k = 1
  · subst hk
    have w := run_netCopy (m + 1) (.mk 1 op as ks) hw0 (by omega) n (by omega); simp [go_of FT_120 rfl, F120, w, Net.norm]
  · obtain ⟨h1, rfl, rfl, h4, h5, h6⟩ := right_kids hr hk
    have hc : ∀ x ∈ ks, ∀ s, go n 120 [netX x] [] s = some ⟨netX x.norm, [], []⟩ := fun x hx s => run_netNorm m x (by have := netsWt_mem hx; omega) (by omega) (h6 x hx) n (by omega) s
    by_cases hk4 : k = 4
    · subst hk4
      have hl1 := h5 rfl
      match ks, hl1, hc with
      | [x], _, hc =>
       have w := hc x (by simp); have e : Net.norm (.mk 4 0 [] [x]) = .mk 4 0 [] [x.norm] := by simp [Net.norm, netsNorm]
       rw [e]; generalize x.norm = y at w; obtain ⟨k1, op1, as1, ks1⟩ := x; obtain ⟨k2, op2, as2, ks2⟩ := y; simp [go_of FT_120 rfl, F120, netRows, Net.row, w]
       rfl
    · have e : Net.norm (.mk k 0 [] ks) = netOf k ((netsNorm ks).flatMap (Net.open k)) := by simp [Net.norm, hk, hk4]
      rw [e]; have hfl := flat_ne hk h6 h4; have hacc : accN k ks ks.length = (netsNorm ks).flatMap (Net.open k) := by unfold accN; rw [List.take_length]
      have hwa := accN_wt (k := k) h6 ks.length; simp [go_of FT_120 rfl, F120, hk, hk4]; generalize hst : St.mk _ _ _ _ = st; obtain ⟨e, ⟨τ', H', g', s'⟩, hx, -, rfl, h2, hC, h3, cw, hA, hcw⟩ := loop120 (n := n) ks k 0 [] hc h6 (by omega) (by omega) (by omega) st (by simp [← hst]) (by simp [← hst]) (by simp [← hst]) (by simp [← hst]) (by simp [← hst]) (by simp [← hst]) (by simp [← hst]) (by simp [← hst]) (by simp [← hst]) (by simp [← hst]); rw [hacc] at hcw hwa; simp only at h2 hC h3 hA hcw; rcases hcw with ⟨h0, _⟩ | ⟨b, hb1, hb2, rfl, hB⟩
      · exact absurd h0 hfl
      · have hla := netsWt_len ((netsNorm ks).flatMap (Net.open k))
        generalize (netsNorm ks).flatMap (Net.open k) = A at hfl hB hA hwa hla ⊢; clear hst; have b1 : (704 = b) = False := eq_false (by omega); have b2 : (64 = b) = False := eq_false (by omega); have b3 : (b = 704) = False := eq_false (by omega); have b4 : (b = 64) = False := eq_false (by omega); have fgX := far hb2; have fcX := far (show 704 < g' by omega); have feX := far (show 64 < g' by omega)
        match A, hfl with
        | [x], _ =>
         obtain ⟨k1, op1, as1, ks1⟩ := x; simp [hx, h2, hC, h3, hA, hB, netRows, Net.row, netOf]
        | x :: y :: r, _ =>
         have w := run_cloneN (n := n) (by omega) (x :: y :: r) (by omega); have hl2 : ((((x :: y :: r).length : Nat) : Int) = 1) = False := eq_false (by simp; omega); have hl3 : ((x :: y :: r).length = 1) = False := eq_false (by simp); have hno : netOf k (x :: y :: r) = .mk k 0 [] (x :: y :: r) := rfl; rw [hno]; generalize x :: y :: r = A at w hA hB hl2 hl3 hwa hla ⊢; simp [hx, h2, hC, h3, hA, hB, w, hl2, hl3, b1, b2, b3, b4, fgX, fcX, feX]
         rfl
end Go.VM
