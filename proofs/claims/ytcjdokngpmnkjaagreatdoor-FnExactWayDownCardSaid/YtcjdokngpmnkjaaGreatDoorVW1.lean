/- The laws' own helpers over ladders: copies, and that what is the same is told to be. Conditions: none. -/
import Derived.Test.YtcjdokngpmnkjaaGreatDoorVLX
import Derived.Test.YtcjdokngpmnkjaaGreatDoorVN1
import Derived.Test.YtcjdokngpmnkjaaGreatDoorVN2

namespace Go.VM
set_option linter.unusedSimpArgs false
set_option linter.unusedVariables false
set_option maxHeartbeats 4000000
theorem to_arg {n : Nat} (a : Arg) (s : Sup) : go (n + 1) 241 [argX a] [] s = some ⟨argX a, [], []⟩ := by
 simp [go_of FT_241 rfl, F241]
theorem same_arg {n : Nat} (a : Arg) (s : Sup) : go (n + 1) 242 [argX a, argX a] [] s = some ⟨bV true, [], []⟩ := by
 simp [go_of FT_242 rfl, F242]
theorem same_args {n : Nat} (l : List Arg) (hn : l.length + 3 ≤ n) (hl : l.length < 2 ^ 30) (s : Sup) : go n 238 [.w (asW l), .w (asW l)] [] s = some ⟨bV true, [], []⟩ := by
 obtain ⟨n, rfl⟩ : ∃ k, n = k + 2 := ⟨n - 2, by omega⟩; exact run_eqT (f := 238) (sz := 3) (c := 242) (n := n + 1) rfl rfl rfl rfl rfl 0 0 (argRows l) (argRows l) rfl (argRows_all fun a _ => argRow_len a) (argRows_all fun a _ => argRow_len a)
  (fun i r r' h1 h2 s => by rw [h1] at h2; cases h2; exact argRows_all (p := fun r => go (n + 1) 242 [rowX r, rowX r] [] s = some ⟨bV true, [], []⟩) (fun a _ => same_arg a s) r (List.mem_of_getElem? h1)) (by simp [argRows]; omega) (by simp [argRows]; omega) s
theorem same_el {n : Nat} (e : El) (hn : e.as.length + 4 ≤ n) (hl : e.as.length < 2 ^ 30) (s : Sup) : go n 230 [elX e, elX e] [] s = some ⟨bV true, [], []⟩ := by
 obtain ⟨n, rfl⟩ : ∃ k, n = k + 1 := ⟨n - 1, by omega⟩; have w := same_args (n := n) e.as (by omega) hl; simp [go_of FT_230 rfl, F230, w]
theorem same_els {n : Nat} (l : List El) (hn : elsWt l + 6 ≤ n) (hl : elsWt l < 2 ^ 30) (s : Sup) : go n 253 [.w (csW l), .w (csW l)] [] s = some ⟨bV true, [], []⟩ := by
 obtain ⟨n, rfl⟩ : ∃ k, n = k + 2 := ⟨n - 2, by omega⟩; have hlen := elsWt_len l; exact run_eqT (f := 253) (sz := 2) (c := 230) (n := n + 1) rfl rfl rfl rfl rfl 0 0 (elRows l) (elRows l) rfl (elRows_all fun a _ => elRow_len a) (elRows_all fun a _ => elRow_len a)
  (fun i r r' h1 h2 s => by rw [h1] at h2; cases h2; exact elRows_all (p := fun r => go (n + 1) 230 [rowX r, rowX r] [] s = some ⟨bV true, [], []⟩) (fun a ha => same_el a (by have := elsWt_mem ha; simp only [El.wt] at this; omega) (by have := elsWt_mem ha; simp only [El.wt] at this; omega) s) r (List.mem_of_getElem? h1)) (by simp [elRows]; omega) (by simp [elRows]; omega) s
theorem same_net : ∀ (m : Nat) (t : Net), t.wt ≤ m → m < 2 ^ 30 → ∀ (n : Nat), 2 * m + 6 ≤ n → ∀ s, go n 223 [netX t, netX t] [] s = some ⟨bV true, [], []⟩
 | 0, t, h, hm, n, hn, s => by have := t.wt_pos; omega
 | m + 1, .mk k op as ks, h, hm, n, hn, s => by
  obtain ⟨n, rfl⟩ : ∃ k, n = k + 3 := ⟨n - 3, by omega⟩; simp only [Net.wt] at h; have hlen := netsWt_len ks; have w2 : ∀ s, go (n + 2) 231 [.w (nsW ks), .w (nsW ks)] [] s = some ⟨bV true, [], []⟩ := fun s =>
   run_eqT (f := 231) (sz := 4) (c := 223) (n := n + 1) rfl rfl rfl rfl rfl 0 0 (netRows ks) (netRows ks) rfl (netRows_all fun a _ => netRow_len a) (netRows_all fun a _ => netRow_len a)
    (fun i r r' h1 h2 s => by rw [h1] at h2; cases h2; exact netRows_all (p := fun r => go (n + 1) 223 [rowX r, rowX r] [] s = some ⟨bV true, [], []⟩) (fun a ha => by rw [rowX_net]; exact same_net m a (by have := netsWt_mem ha; omega) (by omega) (n + 1) (by omega) s) r (List.mem_of_getElem? h1)) (by rw [netRows_map]; simp; omega) (by rw [netRows_map]; simp; omega) s
  have w1 := same_el (n := n + 2) ⟨op, as⟩ (by simp only; omega) (by simp only; omega); simp [go_of FT_223 rfl, F223, w1, w2]
theorem same_arms : ∀ (m : Nat) (l : List Arm), armsWt l ≤ m → m < 2 ^ 29 → ∀ (n : Nat), 2 * m + 16 ≤ n → ∀ s, go n 247 [.w (ksW l), .w (ksW l)] [] s = some ⟨bV true, [], []⟩
 | m, l, h, hm, n, hn, s => by
  obtain ⟨n, rfl⟩ : ∃ k, n = k + 3 := ⟨n - 3, by omega⟩; have hlen := armsWt_len l; have key : ∀ a ∈ l, ∀ s, go (n + 2) 250 [armX a, armX a] [] s = some ⟨bV true, [], []⟩ := fun a ha s => by
   have hwa := armsWt_mem ha; obtain ⟨⟨nk, op, as, nks⟩, cs, ks⟩ := a; have hnp := (Net.mk nk op as nks).wt_pos; simp only [Arm.wt] at hwa; have hdec : m - 1 < m := by omega
   have w1 := same_net m (.mk nk op as nks) (by omega) (by omega) (n + 1) (by omega); have w2 := same_els (n := n + 1) cs (by omega) (by omega); have w3 := same_arms (m - 1) ks (by omega) (by omega) (n + 1) (by omega); simp [go_of FT_250 rfl, F250, w1, w2, w3]
  exact run_eqT (f := 247) (sz := 6) (c := 250) (n := n + 2) rfl rfl rfl rfl rfl 0 0 (armRows l) (armRows l) rfl (armRows_all fun a _ => armRow_len a) (armRows_all fun a _ => armRow_len a)
   (fun i r r' h1 h2 s => by rw [h1] at h2; cases h2; exact armRows_all (p := fun r => go (n + 2) 250 [rowX r, rowX r] [] s = some ⟨bV true, [], []⟩) (fun a ha => by rw [rowX_arm]; exact key a ha s) r (List.mem_of_getElem? h1)) (by rw [armRows_map]; simp; omega) (by rw [armRows_map]; simp; omega) s
termination_by m => m
decreasing_by exact hdec
@[simp] theorem stamp_new (s : Sup) (k : Nat) : stampOf true s k none = s k := (rfl)
def Makes (n c : Nat) (args : List V) (sz : Nat) (r : List D) : Prop :=
 ∃ o : Sup → List D, ∀ s, goS n c args [] s = some ⟨rowX (o s), [], []⟩ ∧ (o s).length = sz ∧ erL (o s) = r ∧ (Inj s → Fr s (stsL (o s)))
def MakesL (n c : Nat) (args : List V) (R0 : List (List D)) : Prop :=
 ∃ (t : Sup → Nat) (R : Sup → List (List D)), ∀ s, goS n c args [] s = some ⟨.w (.d (.l (t s) (R s))), [], []⟩ ∧ erR (R s) = R0 ∧ (Inj s → Fr s (D.l (t s) (R s)).sts)
theorem MakesL.of {n c : Nat} {args : List V} {R0 : List (List D)} (h : ∀ s, ∃ t R, goS n c args [] s = some ⟨.w (.d (.l t R)), [], []⟩ ∧ erR R = R0 ∧ (Inj s → Fr s (D.l t R).sts)) : MakesL n c args R0 :=
 ⟨fun s => (h s).choose, fun s => (h s).choose_spec.choose, fun s => (h s).choose_spec.choose_spec⟩
theorem Makes.of {n c : Nat} {args : List V} {sz : Nat} {r : List D} (h : ∀ s, ∃ o, goS n c args [] s = some ⟨rowX o, [], []⟩ ∧ o.length = sz ∧ erL o = r ∧ (Inj s → Fr s (stsL o))) : Makes n c args sz r :=
 ⟨fun s => (h s).choose, fun s => (h s).choose_spec⟩
theorem Past.lastL {s0 s : Sup} {R : List (List D)} (h : Past s0 s (stsR R)) (k : Nat) : Fr s0 (D.l (s k) R).sts := by
 rw [sts_l]; split
 · exact ⟨by simp, by simp⟩
 · exact h.last k
def ToInv (rows : List (List D)) (tgt : List D → List D) (zero : List D) (sz bx st0 : Nat) (s0 : Sup) (k : Nat) (st : St) : Prop :=
 ∃ (i : Nat) (R : List (List D)), i + k = rows.length ∧ st.τ 0 = .w (.d (.l st0 rows)) ∧ st.τ 3 = .w (.own bx 0 rows.length (some rows.length)) ∧ st.τ 4 = iV i ∧ st.H bx = .row none sz (R ++ List.replicate k zero) 0 ∧ bx < st.g ∧
  erR R = (rows.take i).map tgt ∧ R.length = i ∧ (Inj s0 → Past s0 st.s (stsR R))
theorem runS_toS_L (sz bytes c n : Nat) (zero : List D) (hz : zero.length = sz) (hci : (modeT c).inout = false) (st0 : Nat) (tgt : List D → List D) (rows : List (List D)) (hr : ∀ r ∈ rows, r.length = sz)
 (hc : ∀ r ∈ rows, Makes n c [rowX r] sz (tgt r)) (hl : rows.length < 2 ^ 40) (hn : rows.length < n) (s0 : Sup) (st : St) (bx : Nat)
 (h0 : st.τ 0 = .w (.d (.l st0 rows))) (h3 : st.τ 3 = .w (.own bx 0 rows.length (some rows.length))) (h4 : st.τ 4 = iV 0) (hB : st.H bx = .row none sz (List.replicate rows.length zero) 0) (hg : bx < st.g) (hp : Inj s0 → Past s0 st.s []) :
 ∃ e st', execC (goS n) modeT GT true 23 n (toS_L0 sz bytes zero c) st = some (e, st') ∧ e ≠ .normal ∧ (e = .exit 0 ∧ ∃ R, st'.τ 3 = .w (.own bx 0 rows.length (some rows.length)) ∧ st'.H bx = .row none sz R 0 ∧ erR R = rows.map tgt ∧ R.length = rows.length ∧ (Inj s0 → Past s0 st'.s (stsR R))) := by
 rw [toS_L0, execC_loop]; refine iter_rule (ToInv rows tgt zero sz bx st0 s0) ?_ n rows.length st hn ⟨0, [], by omega, h0, h3, by simpa using h4, by simpa using hB, hg, by simp [erR], rfl, by simpa [stsR] using hp⟩
 clear h0 h3 h4 hB hg hp; rintro k ⟨τ, H, g, s⟩ ⟨i, R, hk, h0, h3, h4, hB, hg, hR, hRl, hp⟩; simp only at h0 h3 h4 hB hg hp; cases k with
 | zero =>
  have : i = rows.length := by omega
  subst this; rw [List.take_length] at hR; simp only [List.replicate_zero, List.append_nil] at hB; refine ⟨.exit 0, ?_⟩
  simp [toS_B0, h0, h3, h4, hB]; exact ⟨hR, hRl, fun hi => (hp hi).weak⟩
 | succ k =>
  have hlt : i < rows.length := by omega
  have hlt' : ((i : Int) < (rows.length : Int)) = True := eq_true (by omega); have hgt := List.getElem?_eq_getElem hlt; have hmem := List.getElem_mem hlt; have hw := wrap_succ (i := i) (by omega); have hrl := hr _ hmem; obtain ⟨o, ho⟩ := hc _ hmem; generalize rows[i] = r at hgt hrl ho; have w := fun s => (ho s).1
  have hol := fun s => (ho s).2.1
  have hget := fill_get (k := k) hRl zero; have hset := fun x => fill_set (k := k) hRl zero x
  have pf : List.take sz r = r := List.take_of_length_le (by omega); have sp : List.drop sz zero = [] := List.drop_of_length_le (by omega); have fgX := far hg; refine ⟨.normal, ?_⟩
  simp [-getElem?_pos, -List.map_take, -modeT, hci, toS_B0, h0, h3, h4, hB, hlt, hlt', hgt, hrl, hol, pf, mkV, w, hw, hget, hset, frzL_map, ren_comp, ren_map, datas_map, sp, hz, wnames_map, fnames_map, fgX]; refine ⟨k, by omega, i + 1, R ++ [o fun k => subS (restS s) 6 (2 * k + 1)], by omega, by simp [upd, h0], by simp [upd, h3], by simp [upd], by simp [upd], by show bx < g + 256 + 576 + 192; omega, ?_, by simp [hRl], fun hi => ?_⟩
  · rw [erR_append, hR, List.take_add_one, hgt]
    simp [erR, (ho _).2.2.1]
  · have h1 := (hp hi).weak
    have h2 := (ho (fun k => subS (restS s) 6 (2 * k + 1))).2.2.2 (inj_arg (inj_sub h1.inj 6)); have h3 := (h1.one 6 (Fr.sub (f := fun k => 2 * k + 1) h2)).weak; rw [stsR_append]
    simpa [stsR] using h3
theorem runS_toS {f sz bytes c n : Nat} {zero : List D} (hF : FT f = some (toS sz bytes zero c)) (hz : zero.length = sz) (hs : isS f = true := by rfl) (hm : modeT f = { stamp := true } := by rfl) (hci : (modeT c).inout = false := by rfl) (st0 : Nat) (tgt : List D → List D) (rows : List (List D)) (hr : ∀ r ∈ rows, r.length = sz)
 (hc : ∀ r ∈ rows, Makes n c [rowX r] sz (tgt r)) (hb : bytes ≤ 128) (hl : rows.length < 2 ^ 30) (hn : rows.length < n) : MakesL (n + 1) f [.w (.d (.l st0 rows))] (rows.map tgt) := by
 refine .of fun s => ?_
 have hrm : room rows.length bytes = true := room_of (by omega) (by omega); simp [-modeT, gos_of hF hs, toS, hm, hrm, hz]; generalize hst : St.mk _ _ _ _ = st; obtain ⟨e, ⟨τ', H', g', s'⟩, hx, -, rfl, R, h3, hB, hR, hRl, hp⟩ := runS_toS_L sz bytes c n zero hz hci st0 tgt rows hr hc (by omega) (by omega) s st 192 (by simp [← hst]) (by simp [← hst]) (by simp [← hst]) (by simp [← hst]) (by simp [← hst]) (by rw [← hst]; exact fun hi => (past_0 hi).weak.weak.weak); simp only at h3 hB hp; clear hst; have tk : List.take rows.length R = R := List.take_of_length_le (by omega); refine ⟨restS s' 0, R, ?_, hR, fun hi => (hp hi).weak.lastL 0⟩
 simp [-modeT, hx, h3, hB, hm, tk, hRl]
end Go.VM

/- Lists of instructions out of ladders, in plain words: how many bits and forks they want. Conditions: none. -/
namespace Go.VM
set_option linter.unusedVariables false
structure Ins where
 c : Int
 e : El
 deriving DecidableEq
abbrev Ins.bare (c : Int) : Ins := ⟨c, ⟨0, []⟩⟩
def Ins.row (i : Ins) : List D := [iD i.c, iD i.e.op, .l 0 (argRows i.e.as)]
def insRows (l : List Ins) : List (List D) := l.map Ins.row
mutual
def Net.begins : Net → List Ins
 | .mk k op as [] => [⟨1, ⟨op, as⟩⟩]
 | .mk k op as (x :: r) => x.begins ++ (if k = 4 then [Ins.bare 6] else netsTaken k r)
def netsTaken (k : Int) : List Net → List Ins
 | [] => []
 | x :: r => (if x.kind = 1 then [⟨k, ⟨x.op, x.as⟩⟩] else x.begins ++ [Ins.bare (k + 2)]) ++ netsTaken k r
end
def Net.taken (k : Int) (x : Net) : List Ins := if x.kind = 1 then [⟨k, ⟨x.op, x.as⟩⟩] else x.begins ++ [Ins.bare (k + 2)]
theorem netsTaken_cons (k : Int) (x : Net) (r : List Net) : netsTaken k (x :: r) = x.taken k ++ netsTaken k r := by simp [netsTaken, Net.taken]
theorem netsTaken_append (k : Int) : ∀ a b : List Net, netsTaken k (a ++ b) = netsTaken k a ++ netsTaken k b
 | [], b => by simp [netsTaken]
 | x :: r, b => by rw [List.cons_append, netsTaken_cons, netsTaken_cons, netsTaken_append k r b, List.append_assoc]
def Net.parts (n : Net) : List Net := if n.none then [] else if n.kind = 2 then n.kids else [n]
def sepI (n i : Nat) : List Ins := if n = 1 then [] else if i = 0 then [Ins.bare 7] else if i + 1 = n then [Ins.bare 9] else [Ins.bare 8]
def coilsI (l : List El) : List Ins := l.map fun e => ⟨10, e⟩
mutual
def Arm.tail : Arm → List Ins
 | .mk n cs ks => coilsI cs ++ armsTail ks.length 0 ks
def armsTail (n i : Nat) : List Arm → List Ins
 | [] => []
 | a :: r => sepI n i ++ netsTaken 2 a.net.parts ++ a.tail ++ armsTail n (i + 1) r
end
def Arm.plain (a : Arm) : List Ins := a.net.begins ++ a.tail ++ [Ins.bare 11]
def plainOf (l : List Arm) : List Ins := l.flatMap Arm.plain
mutual
def Net.bb : Net → Nat
 | .mk k op as [] => 1
 | .mk k op as (x :: r) => if k = 4 then x.bb else max x.bb (netsTb r)
def netsTb : List Net → Nat
 | [] => 0
 | x :: r => max (if x.kind = 1 then 1 else x.bb + 1) (netsTb r)
end
def Net.tb (x : Net) : Nat := if x.kind = 1 then 1 else x.bb + 1
mutual
def Arm.tb : Arm → Nat
 | .mk n cs ks => max 1 (armsTb ks)
def armsTb : List Arm → Nat
 | [] => 0
 | a :: r => max (max (netsTb a.net.parts) a.tb) (armsTb r)
end
mutual
def Arm.forks : Arm → Nat
 | .mk n cs ks => armsForks ks
def armsForks : List Arm → Nat
 | [] => 0
 | a :: r => max (if r.length = 0 then a.forks else a.forks + 1) (armsForks r)
end
def bitsOf (l : List Arm) : Nat := l.foldr (fun a m => max (max a.net.bb a.tb) m) 0
def forksOf (l : List Arm) : Nat := l.foldr (fun a m => max a.forks m) 0
def behind (s : Int × Int) (c : Int) : Int × Int :=
 if c = 1 then (s.1 + 1, s.2) else if c = 4 ∨ c = 5 ∨ c = 11 then (s.1 - 1, s.2) else if c = 7 then (s.1, s.2 + 1) else if c = 9 then (s.1, s.2 - 1) else s
def heights (s : Int × Int) : List Ins → List (Int × Int)
 | [] => []
 | i :: r => behind s i.c :: heights (behind s i.c) r
def lastH (s : Int × Int) (l : List Ins) : Int × Int := l.foldl (fun s i => behind s i.c) s
def topH (m : Int × Int) (l : List (Int × Int)) : Int × Int := l.foldl (fun m s => (max m.1 s.1, max m.2 s.2)) m
theorem heights_append (s : Int × Int) : ∀ a b : List Ins, heights s (a ++ b) = heights s a ++ heights (lastH s a) b
 | [], b => rfl
 | i :: r, b => by simp only [List.cons_append, heights, heights_append (behind s i.c) r b]; rfl
theorem lastH_append (s : Int × Int) (a b : List Ins) : lastH s (a ++ b) = lastH (lastH s a) b := by simp [lastH]
theorem topH_append (m : Int × Int) (a b : List (Int × Int)) : topH m (a ++ b) = topH (topH m a) b := by simp [topH]
def Runs (l : List Ins) (s t : Int × Int) (b f : Int) : Prop :=
 lastH s l = t ∧ s.1 ≤ b ∧ s.2 ≤ f ∧ t.1 ≤ b ∧ t.2 ≤ f ∧ ∀ m : Int × Int, s.1 ≤ m.1 → s.2 ≤ m.2 → topH m (heights s l) = (max m.1 b, max m.2 f)
theorem Runs.append {l l' : List Ins} {s t u : Int × Int} {b f b' f' : Int} (h : Runs l s t b f) (h' : Runs l' t u b' f') : Runs (l ++ l') s u (max b b') (max f f') := by
 obtain ⟨h1, h2, h3, h4, h5, h6⟩ := h; obtain ⟨k1, k2, k3, k4, k5, k6⟩ := h'; refine ⟨by rw [lastH_append, h1, k1], by omega, by omega, by omega, by omega, fun m m1 m2 => ?_⟩
 rw [heights_append, topH_append, h6 m m1 m2, h1, k6 _ (by simp only; omega) (by simp only; omega)]; simp only [Prod.mk.injEq]; omega
theorem Runs.nil (b f : Int) : Runs [] (b, f) (b, f) b f := by
 refine ⟨rfl, Int.le_refl _, Int.le_refl _, Int.le_refl _, Int.le_refl _, fun m m1 m2 => ?_⟩
 simp only at m1 m2; simp only [heights, topH, List.foldl_nil]; rw [Int.max_eq_left m1, Int.max_eq_left m2]
theorem Runs.one {i : Ins} {b f b' f' : Int} (h : behind (b, f) i.c = (b', f')) : Runs [i] (b, f) (b', f') (max b b') (max f f') := by
 refine ⟨by simpa [lastH] using h, by simp only; omega, by simp only; omega, by simp only; omega, by simp only; omega, fun m m1 m2 => ?_⟩
 simp only at m1 m2; simp only [heights, topH, h, List.foldl_cons, List.foldl_nil, Prod.mk.injEq]; omega
theorem Runs.weak {l : List Ins} {s t : Int × Int} {b f b' f' : Int} (h : Runs l s t b f) (h1 : b = b') (h2 : f = f') : Runs l s t b' f' := by subst h1 h2; exact h
theorem kids_right {k op : Int} {as : List Arg} {x : Net} {r : List Net} (h : Net.wrong (.mk k op as (x :: r)) = 0) : (k = 2 ∨ k = 3 ∨ k = 4) ∧ x.wrong = 0 ∧ (∀ y ∈ r, y.wrong = 0) ∧ op = 0 ∧ as = [] ∧ (k = 4 → r = []) := by
 by_cases hk : k = 1
 · subst hk
   simp [Net.wrong] at h
 · obtain ⟨h1, h2, h3, h4, h5, h6⟩ := right_kids h hk
   refine ⟨h1, h6 x (List.mem_cons_self ..), fun y hy => h6 y (List.mem_cons_of_mem _ hy), h2, h3, fun e => ?_⟩
   have := h5 e
   simpa using this
theorem leaf_right {k op : Int} {as : List Arg} (h : Net.wrong (.mk k op as []) = 0) : k = 1 ∧ El.contact ⟨op, as⟩ = true := by
 by_cases hk : k = 1
 · subst hk
   refine ⟨rfl, ?_⟩
   simp only [Net.wrong, List.length_nil, Nat.lt_irrefl, if_false, if_true] at h
   by_cases hc : El.contact ⟨op, as⟩ = true
   · exact hc
   · simp [hc] at h
 · exact absurd rfl (right_kids h hk).2.2.2.1
theorem parts_right {n : Net} (h : NetFine n) : ∀ y ∈ n.parts, y.wrong = 0 := by
 unfold Net.parts
 by_cases h0 : n.none = true
 · rw [if_pos h0]; simp
 · rw [if_neg h0]
   have hw : n.wrong = 0 := by rcases h with h | h; exact absurd h h0; exact h
   by_cases h2 : n.kind = 2
   · rw [if_pos h2]
     obtain ⟨k, op, as, ks⟩ := n; simp only [Net.kind] at h2; exact (right_kids hw (by omega)).2.2.2.2.2
   · rw [if_neg h2]
     simpa using hw
end Go.VM

/- Lists of instructions out of ladders, in plain words: they pass the check exactly when they fit; they fall apart into rungs. Conditions: none. -/
namespace Go.VM
set_option linter.unusedVariables false
def needsI (c : Int) : Int := if c = 1 then 0 else if c = 4 ∨ c = 5 then 2 else 1
def El.bareB (e : El) : Bool := decide (e.op = 0 ∧ e.as = [])
def Ins.ok (i : Ins) : Bool := if 1 ≤ i.c ∧ i.c ≤ 3 then i.e.contact else if i.c = 10 then i.e.coil else decide (4 ≤ i.c ∧ i.c ≤ 11) && i.e.bareB
structure CS where
 b : Int
 f : Int
 based : Bool
 coil : Bool
def CS.wrong (s : CS) (i : Ins) : Int :=
 if i.ok = false then 2 else if s.b < needsI i.c then 3 else if i.c = 1 ∧ 16 ≤ s.b then 4 else if 7 ≤ i.c ∧ 1 < s.b then 5
 else if s.based = true ∧ ((i.c = 3 ∨ i.c = 6) ∧ s.b = 1 ∨ i.c = 5 ∧ s.b = 2) then 6
 else if (i.c = 7 ∧ 8 ≤ s.f) ∨ ((i.c = 8 ∨ i.c = 9) ∧ s.f = 0) ∨ (i.c = 11 ∧ s.f ≠ 0) then 7
 else if (i.c = 8 ∨ i.c = 9 ∨ i.c = 11) ∧ s.coil = false then 8 else 0
def CS.next (s : CS) (i : Ins) : CS :=
 ⟨(behind (s.b, s.f) i.c).1, (behind (s.b, s.f) i.c).2, decide (i.c ≠ 11) && (s.based || decide (i.c = 10) || decide (i.c = 7)), decide (i.c = 10)⟩
def checkFrom (s : CS) (k : Nat) : List Ins → Int × Nat
 | [] => if s.b ≠ 0 then (9, k) else (0, 0)
 | i :: r => if s.wrong i ≠ 0 then (s.wrong i, k) else checkFrom (s.next i) (k + 1) r
def Pass (l : List Ins) (s t : CS) : Prop := ∀ (k : Nat) (r : List Ins), checkFrom s k (l ++ r) = checkFrom t (k + l.length) r
theorem Pass.nil (s : CS) : Pass [] s s := fun k r => rfl
theorem Pass.append {l l' : List Ins} {s t u : CS} (h : Pass l s t) (h' : Pass l' t u) : Pass (l ++ l') s u := fun k r => by
 rw [List.append_assoc, h, h', List.length_append, Nat.add_assoc]
theorem Pass.one {i : Ins} {s t : CS} (h : s.wrong i = 0) (ht : s.next i = t) : Pass [i] s t := fun k r => by
 show checkFrom s k (i :: r) = _
 rw [checkFrom, if_neg (by simp [h]), ht]
 rfl
mutual
theorem len_begins : ∀ n : Net, n.begins.length + 1 ≤ 2 * n.size
 | .mk k op as [] => by simp [Net.begins, Net.size, netsSize]
 | .mk k op as (x :: r) => by
  have h1 := len_begins x; have h2 := len_taken r k; simp only [Net.begins, Net.size, netsSize, List.length_append]; split
  · simp only [List.length_cons, List.length_nil]; omega
  · omega
theorem len_taken : ∀ (l : List Net) (k : Int), (netsTaken k l).length ≤ 2 * netsSize l
 | [], k => by simp [netsTaken]
 | x :: r, k => by
  have h1 := len_begins x; have h2 := len_taken r k; simp only [netsTaken, netsSize, List.length_append]; split
  · simp only [List.length_cons, List.length_nil]; omega
  · simp only [List.length_append, List.length_cons, List.length_nil]; omega
end
def Net.sz0 (n : Net) : Nat := if n.none then 0 else n.size
theorem armSize_eq (n : Net) (cs : List El) (ks : List Arm) : Arm.size (.mk n cs ks) = 1 + cs.length + n.sz0 + armsSize ks := by simp only [Arm.size]; rfl
theorem len_parts (n : Net) : netsSize n.parts ≤ n.sz0 := by
 unfold Net.parts Net.sz0
 by_cases h0 : n.none = true
 · simp [h0, netsSize]
 · rw [if_neg h0, if_neg h0]
   split
   · obtain ⟨k, op, as, ks⟩ := n
     simp only [Net.kids, Net.size]; omega
   · simp [netsSize]
mutual
theorem len_tail : ∀ a : Arm, a.tail.length + 2 * a.net.sz0 + 2 ≤ 2 * a.size
 | .mk n cs ks => by
  have h := len_arms ks 0 ks.length; rw [armSize_eq]; simp only [Arm.tail, Arm.net, List.length_append, coilsI, List.length_map]; omega
theorem len_arms : ∀ (l : List Arm) (i N : Nat), (armsTail N i l).length ≤ 2 * armsSize l
 | [], i, N => by simp [armsTail]
 | a :: r, i, N => by
  have h1 := len_tail a; have h2 := len_arms r (i + 1) N; have h3 := len_taken a.net.parts 2; have h4 := len_parts a.net; have h5 : (sepI N i).length ≤ 1 := by unfold sepI; split; simp; split; simp; split <;> simp
  simp only [armsTail, armsSize, List.length_append]; omega
end
theorem len_plainOf : ∀ l : List Arm, (∀ a ∈ l, a.wrong true = 0) → (plainOf l).length ≤ 2 * armsSize l
 | [], h => by simp [plainOf]
 | a :: r, h => by
  have h1 := len_tail a; have h2 := len_plainOf r fun x hx => h x (List.mem_cons_of_mem _ hx)
  have ha := h a (List.mem_cons_self ..); obtain ⟨n, cs, ks⟩ := a; have hn := (arm_right ha).1 rfl; have h3 := len_begins n; have e : plainOf (.mk n cs ks :: r) = (Arm.mk n cs ks).plain ++ plainOf r := by simp [plainOf]
  have h4 : n.sz0 = n.size := by unfold Net.sz0; rw [hn]; rfl
  rw [e]; simp only [Arm.net, h4] at h1; simp only [Arm.plain, Arm.net, List.length_append, armsSize, List.length_cons, List.length_nil]; omega
end Go.VM
