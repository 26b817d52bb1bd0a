/- The laws' helpers to.., run with stamps: what they make is new, every slice under a stamp of its own. Conditions: none. -/
import Derived.Test.YtfpkfcfiihfopaaDoorBVN1
import Derived.Test.YtfpkfcfiihfopaaDoorBVLY
import Derived.Test.YtfpkfcfiihfopaaDoorBVZ1

namespace Go.VM
set_option linter.unusedSimpArgs false
set_option linter.unusedVariables false
set_option maxHeartbeats 4000000
@[simp] theorem stamp_new (s : Sup) (k : Nat) : stampOf true s k none = s k := (rfl)
def Makes (n c : Nat) (args : List V) (sz : Nat) (r : List D) : Prop :=
 ∃ o : Sup → List D, ∀ s, goS n c args [] s = some ⟨rowX (o s), [], []⟩ ∧ (o s).length = sz ∧ erL (o s) = r ∧ (Inj s → Fr s (stsL (o s)))
def MakesL (n c : Nat) (args : List V) (R0 : List (List D)) : Prop :=
 ∃ (t : Sup → Nat) (R : Sup → List (List D)), ∀ s, goS n c args [] s = some ⟨.w (.d (.l (t s) (R s))), [], []⟩ ∧ erR (R s) = R0 ∧ (Inj s → Fr s (D.l (t s) (R s)).sts)
theorem MakesL.of {n c : Nat} {args : List V} {R0 : List (List D)} (h : ∀ s, ∃ t R, goS n c args [] s = some ⟨.w (.d (.l t R)), [], []⟩ ∧ erR R = R0 ∧ (Inj s → Fr s (D.l t R).sts)) : MakesL n c args R0 :=
 ⟨fun s => (h s).choose, fun s => (h s).choose_spec.choose, fun s => (h s).choose_spec.choose_spec⟩
theorem Makes.of {n c : Nat} {args : List V} {sz : Nat} {r : List D} (h : ∀ s, ∃ o, goS n c args [] s = some ⟨rowX o, [], []⟩ ∧ o.length = sz ∧ erL o = r ∧ (Inj s → Fr s (stsL o))) : Makes n c args sz r :=
 ⟨fun s => (h s).choose, fun s => (h s).choose_spec⟩
theorem Past.lastL {s0 s : Sup} {R : List (List D)} (h : Past s0 s (stsR R)) (k : Nat) : Fr s0 (D.l (s k) R).sts := by
 rw [sts_l]; split
 · exact ⟨by simp, by simp⟩
 · exact h.last k
def ToInv (rows : List (List D)) (tgt : List D → List D) (zero : List D) (sz bx st0 : Nat) (s0 : Sup) (k : Nat) (st : St) : Prop :=
 ∃ (i : Nat) (R : List (List D)), i + k = rows.length ∧ st.τ 0 = .w (.d (.l st0 rows)) ∧ st.τ 3 = .w (.own bx 0 rows.length (some rows.length)) ∧ st.τ 4 = iV i ∧ st.H bx = .row none sz (R ++ List.replicate k zero) 0 ∧ bx < st.g ∧
  erR R = (rows.take i).map tgt ∧ R.length = i ∧ (Inj s0 → Past s0 st.s (stsR R))
theorem runS_toS_L (sz bytes c n : Nat) (zero : List D) (hz : zero.length = sz) (hci : (modeT c).inout = false) (st0 : Nat) (tgt : List D → List D) (rows : List (List D)) (hr : ∀ r ∈ rows, r.length = sz)
 (hc : ∀ r ∈ rows, Makes n c [rowX r] sz (tgt r)) (hl : rows.length < 2 ^ 40) (hn : rows.length < n) (s0 : Sup) (st : St) (bx : Nat)
 (h0 : st.τ 0 = .w (.d (.l st0 rows))) (h3 : st.τ 3 = .w (.own bx 0 rows.length (some rows.length))) (h4 : st.τ 4 = iV 0) (hB : st.H bx = .row none sz (List.replicate rows.length zero) 0) (hg : bx < st.g) (hp : Inj s0 → Past s0 st.s []) :
 ∃ e st', execC (goS n) modeT GT true 23 n (toS_L0 sz bytes zero c) st = some (e, st') ∧ e ≠ .normal ∧ (e = .exit 0 ∧ ∃ R, st'.τ 3 = .w (.own bx 0 rows.length (some rows.length)) ∧ st'.H bx = .row none sz R 0 ∧ erR R = rows.map tgt ∧ R.length = rows.length ∧ (Inj s0 → Past s0 st'.s (stsR R))) := by
 rw [toS_L0, execC_loop]; refine iter_rule (ToInv rows tgt zero sz bx st0 s0) ?_ n rows.length st hn ⟨0, [], by omega, h0, h3, by simpa using h4, by simpa using hB, hg, by simp [erR], rfl, by simpa [stsR] using hp⟩
 clear h0 h3 h4 hB hg hp; rintro k ⟨τ, H, g, s⟩ ⟨i, R, hk, h0, h3, h4, hB, hg, hR, hRl, hp⟩; simp only at h0 h3 h4 hB hg hp; cases k with
 | zero =>
  have : i = rows.length := by omega
  subst this; rw [List.take_length] at hR; simp only [List.replicate_zero, List.append_nil] at hB; refine ⟨.exit 0, ?_⟩
  simp [toS_B0, h0, h3, h4, hB]; exact ⟨hR, hRl, fun hi => (hp hi).weak⟩
 | succ k =>
  have hlt : i < rows.length := by omega
  have hlt' : ((i : Int) < (rows.length : Int)) = True := eq_true (by omega); have hgt := List.getElem?_eq_getElem hlt; have hmem := List.getElem_mem hlt; have hw := wrap_succ (i := i) (by omega); have hrl := hr _ hmem; obtain ⟨o, ho⟩ := hc _ hmem; generalize rows[i] = r at hgt hrl ho; have w := fun s => (ho s).1
  have hol := fun s => (ho s).2.1
  have hget := fill_get (k := k) hRl zero; have hset := fun x => fill_set (k := k) hRl zero x
  have pf : List.take sz r = r := List.take_of_length_le (by omega); have sp : List.drop sz zero = [] := List.drop_of_length_le (by omega); have fgX := far hg; refine ⟨.normal, ?_⟩
  simp [-getElem?_pos, -List.map_take, -modeT, hci, toS_B0, h0, h3, h4, hB, hlt, hlt', hgt, hrl, hol, pf, mkV, w, hw, hget, hset, frzL_map, ren_comp, ren_map, datas_map, sp, hz, wnames_map, fnames_map, fgX]; refine ⟨k, by omega, i + 1, R ++ [o fun k => subS (restS s) 6 (2 * k + 1)], by omega, by simp [upd, h0], by simp [upd, h3], by simp [upd], by simp [upd], by show bx < g + 256 + 576 + 192; omega, ?_, by simp [hRl], fun hi => ?_⟩
  · rw [erR_append, hR, List.take_add_one, hgt]
    simp [erR, (ho _).2.2.1]
  · have h1 := (hp hi).weak
    have h2 := (ho (fun k => subS (restS s) 6 (2 * k + 1))).2.2.2 (inj_arg (inj_sub h1.inj 6)); have h3 := (h1.one 6 (Fr.sub (f := fun k => 2 * k + 1) h2)).weak; rw [stsR_append]
    simpa [stsR] using h3
theorem runS_toS {f sz bytes c n : Nat} {zero : List D} (hF : FT f = some (toS sz bytes zero c)) (hz : zero.length = sz) (hs : isS f = true := by rfl) (hm : modeT f = { stamp := true } := by rfl) (hci : (modeT c).inout = false := by rfl) (st0 : Nat) (tgt : List D → List D) (rows : List (List D)) (hr : ∀ r ∈ rows, r.length = sz)
 (hc : ∀ r ∈ rows, Makes n c [rowX r] sz (tgt r)) (hb : bytes ≤ 128) (hl : rows.length < 2 ^ 30) (hn : rows.length < n) : MakesL (n + 1) f [.w (.d (.l st0 rows))] (rows.map tgt) := by
 refine .of fun s => ?_
 have hrm : room rows.length bytes = true := room_of (by omega) (by omega); simp [-modeT, gos_of hF hs, toS, hm, hrm, hz]; generalize hst : St.mk _ _ _ _ = st; obtain ⟨e, ⟨τ', H', g', s'⟩, hx, -, rfl, R, h3, hB, hR, hRl, hp⟩ := runS_toS_L sz bytes c n zero hz hci st0 tgt rows hr hc (by omega) (by omega) s st 192 (by simp [← hst]) (by simp [← hst]) (by simp [← hst]) (by simp [← hst]) (by simp [← hst]) (by rw [← hst]; exact fun hi => (past_0 hi).weak.weak.weak); simp only at h3 hB hp; clear hst; have tk : List.take rows.length R = R := List.take_of_length_le (by omega); refine ⟨restS s' 0, R, ?_, hR, fun hi => (hp hi).weak.lastL 0⟩
 simp [-modeT, hx, h3, hB, hm, tk, hRl]
end Go.VM

/- Lists of instructions out of ladders, in plain words: how many bits and forks they want. Conditions: none. -/
namespace Go.VM
set_option linter.unusedVariables false
structure Ins where
 c : Int
 e : El
 deriving DecidableEq
abbrev Ins.bare (c : Int) : Ins := ⟨c, ⟨0, []⟩⟩
def Ins.row (i : Ins) : List D := [iD i.c, iD i.e.op, .l 0 (argRows i.e.as)]
def insRows (l : List Ins) : List (List D) := l.map Ins.row
mutual
def Net.begins : Net → List Ins
 | .mk k op as [] => [⟨1, ⟨op, as⟩⟩]
 | .mk k op as (x :: r) => x.begins ++ (if k = 4 then [Ins.bare 6] else netsTaken k r)
def netsTaken (k : Int) : List Net → List Ins
 | [] => []
 | x :: r => (if x.kind = 1 then [⟨k, ⟨x.op, x.as⟩⟩] else x.begins ++ [Ins.bare (k + 2)]) ++ netsTaken k r
end
def Net.taken (k : Int) (x : Net) : List Ins := if x.kind = 1 then [⟨k, ⟨x.op, x.as⟩⟩] else x.begins ++ [Ins.bare (k + 2)]
theorem netsTaken_cons (k : Int) (x : Net) (r : List Net) : netsTaken k (x :: r) = x.taken k ++ netsTaken k r := by simp [netsTaken, Net.taken]
theorem netsTaken_append (k : Int) : ∀ a b : List Net, netsTaken k (a ++ b) = netsTaken k a ++ netsTaken k b
 | [], b => by simp [netsTaken]
 | x :: r, b => by rw [List.cons_append, netsTaken_cons, netsTaken_cons, netsTaken_append k r b, List.append_assoc]
def Net.parts (n : Net) : List Net := if n.none then [] else if n.kind = 2 then n.kids else [n]
def sepI (n i : Nat) : List Ins := if n = 1 then [] else if i = 0 then [Ins.bare 7] else if i + 1 = n then [Ins.bare 9] else [Ins.bare 8]
def coilsI (l : List El) : List Ins := l.map fun e => ⟨10, e⟩
mutual
def Arm.tail : Arm → List Ins
 | .mk n cs ks => coilsI cs ++ armsTail ks.length 0 ks
def armsTail (n i : Nat) : List Arm → List Ins
 | [] => []
 | a :: r => sepI n i ++ netsTaken 2 a.net.parts ++ a.tail ++ armsTail n (i + 1) r
end
def Arm.plain (a : Arm) : List Ins := a.net.begins ++ a.tail ++ [Ins.bare 11]
mutual
def Net.bb : Net → Nat
 | .mk k op as [] => 1
 | .mk k op as (x :: r) => if k = 4 then x.bb else max x.bb (netsTb r)
def netsTb : List Net → Nat
 | [] => 0
 | x :: r => max (if x.kind = 1 then 1 else x.bb + 1) (netsTb r)
end
def Net.tb (x : Net) : Nat := if x.kind = 1 then 1 else x.bb + 1
mutual
def Arm.tb : Arm → Nat
 | .mk n cs ks => max 1 (armsTb ks)
def armsTb : List Arm → Nat
 | [] => 0
 | a :: r => max (max (netsTb a.net.parts) a.tb) (armsTb r)
end
mutual
def Arm.forks : Arm → Nat
 | .mk n cs ks => armsForks ks
def armsForks : List Arm → Nat
 | [] => 0
 | a :: r => max (if r.length = 0 then a.forks else a.forks + 1) (armsForks r)
end
def behind (s : Int × Int) (c : Int) : Int × Int :=
 if c = 1 then (s.1 + 1, s.2) else if c = 4 ∨ c = 5 ∨ c = 11 then (s.1 - 1, s.2) else if c = 7 then (s.1, s.2 + 1) else if c = 9 then (s.1, s.2 - 1) else s
def heights (s : Int × Int) : List Ins → List (Int × Int)
 | [] => []
 | i :: r => behind s i.c :: heights (behind s i.c) r
def lastH (s : Int × Int) (l : List Ins) : Int × Int := l.foldl (fun s i => behind s i.c) s
def topH (m : Int × Int) (l : List (Int × Int)) : Int × Int := l.foldl (fun m s => (max m.1 s.1, max m.2 s.2)) m
theorem heights_append (s : Int × Int) : ∀ a b : List Ins, heights s (a ++ b) = heights s a ++ heights (lastH s a) b
 | [], b => rfl
 | i :: r, b => by simp only [List.cons_append, heights, heights_append (behind s i.c) r b]; rfl
theorem lastH_append (s : Int × Int) (a b : List Ins) : lastH s (a ++ b) = lastH (lastH s a) b := by simp [lastH]
theorem topH_append (m : Int × Int) (a b : List (Int × Int)) : topH m (a ++ b) = topH (topH m a) b := by simp [topH]
def Runs (l : List Ins) (s t : Int × Int) (b f : Int) : Prop :=
 lastH s l = t ∧ s.1 ≤ b ∧ s.2 ≤ f ∧ t.1 ≤ b ∧ t.2 ≤ f ∧ ∀ m : Int × Int, s.1 ≤ m.1 → s.2 ≤ m.2 → topH m (heights s l) = (max m.1 b, max m.2 f)
theorem Runs.append {l l' : List Ins} {s t u : Int × Int} {b f b' f' : Int} (h : Runs l s t b f) (h' : Runs l' t u b' f') : Runs (l ++ l') s u (max b b') (max f f') := by
 obtain ⟨h1, h2, h3, h4, h5, h6⟩ := h; obtain ⟨k1, k2, k3, k4, k5, k6⟩ := h'; refine ⟨by rw [lastH_append, h1, k1], by omega, by omega, by omega, by omega, fun m m1 m2 => ?_⟩
 rw [heights_append, topH_append, h6 m m1 m2, h1, k6 _ (by simp only; omega) (by simp only; omega)]; simp only [Prod.mk.injEq]; omega
theorem Runs.nil (b f : Int) : Runs [] (b, f) (b, f) b f := by
 refine ⟨rfl, Int.le_refl _, Int.le_refl _, Int.le_refl _, Int.le_refl _, fun m m1 m2 => ?_⟩
 simp only at m1 m2; simp only [heights, topH, List.foldl_nil]; rw [Int.max_eq_left m1, Int.max_eq_left m2]
theorem Runs.one {i : Ins} {b f b' f' : Int} (h : behind (b, f) i.c = (b', f')) : Runs [i] (b, f) (b', f') (max b b') (max f f') := by
 refine ⟨by simpa [lastH] using h, by simp only; omega, by simp only; omega, by simp only; omega, by simp only; omega, fun m m1 m2 => ?_⟩
 simp only at m1 m2; simp only [heights, topH, h, List.foldl_cons, List.foldl_nil, Prod.mk.injEq]; omega
theorem Runs.weak {l : List Ins} {s t : Int × Int} {b f b' f' : Int} (h : Runs l s t b f) (h1 : b = b') (h2 : f = f') : Runs l s t b' f' := by subst h1 h2; exact h
end Go.VM
