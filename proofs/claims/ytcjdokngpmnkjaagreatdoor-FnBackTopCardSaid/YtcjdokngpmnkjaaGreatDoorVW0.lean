/- Lists of instructions out of ladders, in plain words: how many bits and forks they want. Conditions: none. -/
import Derived.Test.YtcjdokngpmnkjaaGreatDoorVN2

namespace Go.VM
set_option linter.unusedVariables false
structure Ins where
 c : Int
 e : El
 deriving DecidableEq
abbrev Ins.bare (c : Int) : Ins := ⟨c, ⟨0, []⟩⟩
def Ins.row (i : Ins) : List D := [iD i.c, iD i.e.op, .l 0 (argRows i.e.as)]
def insRows (l : List Ins) : List (List D) := l.map Ins.row
mutual
def Net.begins : Net → List Ins
 | .mk k op as [] => [⟨1, ⟨op, as⟩⟩]
 | .mk k op as (x :: r) => x.begins ++ (if k = 4 then [Ins.bare 6] else netsTaken k r)
def netsTaken (k : Int) : List Net → List Ins
 | [] => []
 | x :: r => (if x.kind = 1 then [⟨k, ⟨x.op, x.as⟩⟩] else x.begins ++ [Ins.bare (k + 2)]) ++ netsTaken k r
end
def Net.taken (k : Int) (x : Net) : List Ins := if x.kind = 1 then [⟨k, ⟨x.op, x.as⟩⟩] else x.begins ++ [Ins.bare (k + 2)]
theorem kb8 (k : Int) (x : Net) (r : List Net) : netsTaken k (x :: r) = x.taken k ++ netsTaken k r := by simp [netsTaken, Net.taken]
theorem k43 (k : Int) : ∀ a b : List Net, netsTaken k (a ++ b) = netsTaken k a ++ netsTaken k b
 | [], b => by simp [netsTaken]
 | x :: r, b => by rw [List.cons_append, kb8, kb8, k43 k r b, List.append_assoc]
def Net.parts (n : Net) : List Net := if n.none then [] else if n.kind = 2 then n.kids else [n]
def sepI (n i : Nat) : List Ins := if n = 1 then [] else if i = 0 then [Ins.bare 7] else if i + 1 = n then [Ins.bare 9] else [Ins.bare 8]
def coilsI (l : List El) : List Ins := l.map fun e => ⟨10, e⟩
mutual
def Arm.tail : Arm → List Ins
 | .mk n cs ks => coilsI cs ++ armsTail ks.length 0 ks
def armsTail (n i : Nat) : List Arm → List Ins
 | [] => []
 | a :: r => sepI n i ++ netsTaken 2 a.net.parts ++ a.tail ++ armsTail n (i + 1) r
end
def Arm.plain (a : Arm) : List Ins := a.net.begins ++ a.tail ++ [Ins.bare 11]
def plainOf (l : List Arm) : List Ins := l.flatMap Arm.plain
mutual
def Net.bb : Net → Nat
 | .mk k op as [] => 1
 | .mk k op as (x :: r) => if k = 4 then x.bb else max x.bb (netsTb r)
def netsTb : List Net → Nat
 | [] => 0
 | x :: r => max (if x.kind = 1 then 1 else x.bb + 1) (netsTb r)
end
def Net.tb (x : Net) : Nat := if x.kind = 1 then 1 else x.bb + 1
mutual
def Arm.tb : Arm → Nat
 | .mk n cs ks => max 1 (armsTb ks)
def armsTb : List Arm → Nat
 | [] => 0
 | a :: r => max (max (netsTb a.net.parts) a.tb) (armsTb r)
end
mutual
def Arm.forks : Arm → Nat
 | .mk n cs ks => armsForks ks
def armsForks : List Arm → Nat
 | [] => 0
 | a :: r => max (if r.length = 0 then a.forks else a.forks + 1) (armsForks r)
end
def bitsOf (l : List Arm) : Nat := l.foldr (fun a m => max (max a.net.bb a.tb) m) 0
def forksOf (l : List Arm) : Nat := l.foldr (fun a m => max a.forks m) 0
def behind (s : Int × Int) (c : Int) : Int × Int :=
 if c = 1 then (s.1 + 1, s.2) else if c = 4 ∨ c = 5 ∨ c = 11 then (s.1 - 1, s.2) else if c = 7 then (s.1, s.2 + 1) else if c = 9 then (s.1, s.2 - 1) else s
def heights (s : Int × Int) : List Ins → List (Int × Int)
 | [] => []
 | i :: r => behind s i.c :: heights (behind s i.c) r
def lastH (s : Int × Int) (l : List Ins) : Int × Int := l.foldl (fun s i => behind s i.c) s
def topH (m : Int × Int) (l : List (Int × Int)) : Int × Int := l.foldl (fun m s => (max m.1 s.1, max m.2 s.2)) m
def peakOf (l : List Ins) : Int × Int := topH (0, 0) (heights (0, 0) l)
theorem ki7 (s : Int × Int) : ∀ a b : List Ins, heights s (a ++ b) = heights s a ++ heights (lastH s a) b
 | [], b => rfl
 | i :: r, b => by simp only [List.cons_append, heights, ki7 (behind s i.c) r b]; rfl
theorem lastH_append (s : Int × Int) (a b : List Ins) : lastH s (a ++ b) = lastH (lastH s a) b := by simp [lastH]
theorem topH_append (m : Int × Int) (a b : List (Int × Int)) : topH m (a ++ b) = topH (topH m a) b := by simp [topH]
def Runs (l : List Ins) (s t : Int × Int) (b f : Int) : Prop :=
 lastH s l = t ∧ s.1 ≤ b ∧ s.2 ≤ f ∧ t.1 ≤ b ∧ t.2 ≤ f ∧ ∀ m : Int × Int, s.1 ≤ m.1 → s.2 ≤ m.2 → topH m (heights s l) = (max m.1 b, max m.2 f)
theorem Runs.append {l l' : List Ins} {s t u : Int × Int} {b f b' f' : Int} (h : Runs l s t b f) (h' : Runs l' t u b' f') : Runs (l ++ l') s u (max b b') (max f f') := by
 obtain ⟨h1, h2, h3, h4, h5, h6⟩ := h; obtain ⟨k1, k2, k3, k4, k5, k6⟩ := h'; refine ⟨by rw [lastH_append, h1, k1], by omega, by omega, by omega, by omega, fun m m1 m2 => ?_⟩
 rw [ki7, topH_append, h6 m m1 m2, h1, k6 _ (by simp only; omega) (by simp only; omega)]; simp only [Prod.mk.injEq]; omega
theorem Runs.nil (b f : Int) : Runs [] (b, f) (b, f) b f := by
 refine ⟨rfl, Int.le_refl _, Int.le_refl _, Int.le_refl _, Int.le_refl _, fun m m1 m2 => ?_⟩
 simp only at m1 m2; simp only [heights, topH, List.foldl_nil]; rw [Int.max_eq_left m1, Int.max_eq_left m2]
theorem Runs.one {i : Ins} {b f b' f' : Int} (h : behind (b, f) i.c = (b', f')) : Runs [i] (b, f) (b', f') (max b b') (max f f') := by
 refine ⟨by simpa [lastH] using h, by simp only; omega, by simp only; omega, by simp only; omega, by simp only; omega, fun m m1 m2 => ?_⟩
 simp only at m1 m2; simp only [heights, topH, h, List.foldl_cons, List.foldl_nil, Prod.mk.injEq]; omega
theorem Runs.weak {l : List Ins} {s t : Int × Int} {b f b' f' : Int} (h : Runs l s t b f) (h1 : b = b') (h2 : f = f') : Runs l s t b' f' := by subst h1 h2; exact h
theorem Net.bb_pos : ∀ n : Net, 0 < n.bb
 | .mk k op as [] => by simp [Net.bb]
 | .mk k op as (x :: r) => by
  have := Net.bb_pos x; simp only [Net.bb]; split <;> omega
theorem k66 {k op : Int} {as : List Arg} {x : Net} {r : List Net} (h : Net.wrong (.mk k op as (x :: r)) = 0) : (k = 2 ∨ k = 3 ∨ k = 4) ∧ x.wrong = 0 ∧ (∀ y ∈ r, y.wrong = 0) ∧ op = 0 ∧ as = [] ∧ (k = 4 → r = []) := by
 by_cases hk : k = 1
 · subst hk
   simp [Net.wrong] at h
 · obtain ⟨h1, h2, h3, h4, h5, h6⟩ := k45 h hk
   refine ⟨h1, h6 x (List.mem_cons_self ..), fun y hy => h6 y (List.mem_cons_of_mem _ hy), h2, h3, fun e => ?_⟩
   have := h5 e
   simpa using this
theorem k75 {k op : Int} {as : List Arg} (h : Net.wrong (.mk k op as []) = 0) : k = 1 ∧ El.contact ⟨op, as⟩ = true := by
 by_cases hk : k = 1
 · subst hk
   refine ⟨rfl, ?_⟩
   simp only [Net.wrong, List.length_nil, Nat.lt_irrefl, if_false, if_true] at h
   by_cases hc : El.contact ⟨op, as⟩ = true
   · exact hc
   · simp [hc] at h
 · exact absurd rfl (k45 h hk).2.2.2.1
theorem kk5 {b f c : Int} (h1 : c ≠ 1) (h2 : c ≠ 4) (h3 : c ≠ 5) (h4 : c ≠ 11) (h5 : c ≠ 7) (h6 : c ≠ 9) : behind (b, f) c = (b, f) := by
 simp [behind, h1, h2, h3, h4, h5, h6]
theorem behind_down {b f c : Int} (h : c = 4 ∨ c = 5) : behind (b, f) c = (b - 1, f) := by
 rcases h with rfl | rfl <;> simp [behind]
mutual
theorem kj5 : ∀ (n : Net) (b f : Int), n.wrong = 0 → Runs n.begins (b, f) (b + 1, f) (b + n.bb) f
 | .mk k op as [], b, f, hr => by
  have := Runs.one (i := ⟨1, ⟨op, as⟩⟩) (b := b) (f := f) (b' := b + 1) (f' := f) (by simp [behind]); simp only [Net.begins, Net.bb]; exact this.weak (by omega) (by omega)
 | .mk k op as (x :: r), b, f, hr => by
  obtain ⟨hk, hx, hall, -, -, -⟩ := k66 hr; have h1 := kj5 x b f hx; have hp := x.bb_pos; simp only [Net.begins, Net.bb]
  by_cases h4 : k = 4
  · rw [if_pos h4, if_pos h4]
    have h2 := Runs.one (i := Ins.bare 6) (b := b + 1) (f := f) (b' := b + 1) (f' := f) (kk5 (by decide) (by decide) (by decide) (by decide) (by decide) (by decide)); exact (h1.append h2).weak (by omega) (by omega)
  · rw [if_neg h4, if_neg h4]
    have h2 := k97 r k (b + 1) f (by omega) hall; exact (h1.append h2).weak (by omega) (by omega)
theorem k97 : ∀ (l : List Net) (k b f : Int), k = 2 ∨ k = 3 → (∀ y ∈ l, y.wrong = 0) → Runs (netsTaken k l) (b, f) (b, f) (max b (b - 1 + netsTb l)) f
 | [], k, b, f, hk, h => by
  simp only [netsTaken, netsTb]; exact (Runs.nil b f).weak (by omega) rfl
 | x :: r, k, b, f, hk, h => by
  have hx := h x (List.mem_cons_self ..); have h2 := k97 r k b f hk fun y hy => h y (List.mem_cons_of_mem _ hy)
  have hp := x.bb_pos; simp only [netsTaken, netsTb]
  by_cases h1 : x.kind = 1
  · rw [if_pos h1, if_pos h1]
    have h3 := Runs.one (i := ⟨k, ⟨x.op, x.as⟩⟩) (b := b) (f := f) (b' := b) (f' := f) (kk5 (by simp only; omega) (by simp only; omega) (by simp only; omega) (by simp only; omega) (by simp only; omega) (by simp only; omega)); exact (h3.append h2).weak (by omega) (by omega)
  · rw [if_neg h1, if_neg h1]
    have h3 := kj5 x b f hx; have h4 := Runs.one (i := Ins.bare (k + 2)) (b := b + 1) (f := f) (b' := b + 1 - 1) (f' := f) (behind_down (by simp only; omega)); rw [show b + 1 - 1 = b by omega] at h4; exact ((h3.append h4).append h2).weak (by omega) (by omega)
end
theorem k36 {n : Net} (h : NetFine n) : ∀ y ∈ n.parts, y.wrong = 0 := by
 unfold Net.parts
 by_cases h0 : n.none = true
 · rw [if_pos h0]; simp
 · rw [if_neg h0]
   have hw : n.wrong = 0 := by rcases h with h | h; exact absurd h h0; exact h
   by_cases h2 : n.kind = 2
   · rw [if_pos h2]
     obtain ⟨k, op, as, ks⟩ := n; simp only [Net.kind] at h2; exact (k45 hw (by omega)).2.2.2.2.2
   · rw [if_neg h2]
     simpa using hw
theorem kv9 : ∀ (l : List El) (f : Int), Runs (coilsI l) (1, f) (1, f) 1 f
 | [], f => Runs.nil 1 f
 | e :: r, f => by
  have h1 := Runs.one (i := ⟨10, e⟩) (b := 1) (f := f) (b' := 1) (f' := f) (kk5 (by simp) (by simp) (by simp) (by simp) (by simp) (by simp)); exact (h1.append (kv9 r f)).weak (by omega) (by omega)
theorem Arm.tb_pos (a : Arm) : 0 < a.tb := by cases a; simp only [Arm.tb]; omega
mutual
theorem kf2 : ∀ (a : Arm) (f : Int), a.wrong false = 0 → Runs a.tail (1, f) (1, f) a.tb (f + a.forks)
 | .mk n cs ks, f, h => by
  obtain ⟨-, -, -, -, hk⟩ := k13 h; have h1 := kv9 cs f; have h2 := runs_kids ks f ((k20 ks).1 hk); simp only [Arm.tail, Arm.tb, Arm.forks]; exact (h1.append h2).weak (by omega) (by omega)
theorem runs_kids : ∀ (l : List Arm) (f : Int), (∀ a ∈ l, a.wrong false = 0) → Runs (armsTail l.length 0 l) (1, f) (1, f) (max 1 (armsTb l)) (f + armsForks l)
 | [], f, h => by
  simp only [armsTail, armsTb, armsForks]; exact (Runs.nil 1 f).weak (by omega) (by omega)
 | [a], f, h => by
  have ha := h a (List.mem_cons_self ..); have h1 := k97 a.net.parts 2 1 f (.inl rfl) (k36 (by obtain ⟨n, cs, ks⟩ := a; exact (k13 ha).2.1)); have h2 := kf2 a f ha; have := a.tb_pos; simp only [armsTail, armsTb, armsForks, List.length_cons, List.length_nil, sepI, List.append_nil, List.nil_append, if_true]; exact (h1.append h2).weak (by omega) (by simp; omega)
 | a :: b :: r, f, h => by
  have ha := h a (List.mem_cons_self ..); have h0 := Runs.one (i := Ins.bare 7) (b := 1) (f := f) (b' := 1) (f' := f + 1) (by simp [behind]); have h1 := k97 a.net.parts 2 1 (f + 1) (.inl rfl) (k36 (by obtain ⟨n, cs, ks⟩ := a; exact (k13 ha).2.1)); have h2 := kf2 a (f + 1) ha; have h3 := kB7 (r.length + 2) (b :: r) 1 f (Nat.le_refl _) (by simp only [List.length_cons]; omega) (by simp) (fun x hx => h x (List.mem_cons_of_mem _ hx)); have := a.tb_pos; have e : sepI (r.length + 2) 0 = [Ins.bare 7] := by simp [sepI]
  have e2 : (a :: b :: r).length = r.length + 2 := by simp
  rw [e2]; rw [armsTail, e]; rw [armsTb, armsForks, if_neg (by simp)]; exact (((h0.append h1).append h2).append h3).weak (by omega) (by omega)
theorem kB7 (N : Nat) : ∀ (l : List Arm) (i : Nat) (f : Int), 1 ≤ i → i + l.length = N → l ≠ [] → (∀ a ∈ l, a.wrong false = 0) → Runs (armsTail N i l) (1, f + 1) (1, f) (max 1 (armsTb l)) (max (f + 1) (f + armsForks l))
 | [], i, f, hi, hN, hne, h => absurd rfl hne
 | [a], i, f, hi, hN, hne, h => by
  have ha := h a (List.mem_cons_self ..); have h0 := Runs.one (i := Ins.bare 9) (b := 1) (f := f + 1) (b' := 1) (f' := f) (by simp [behind]); have h1 := k97 a.net.parts 2 1 f (.inl rfl) (k36 (by obtain ⟨n, cs, ks⟩ := a; exact (k13 ha).2.1)); have h2 := kf2 a f ha; have := a.tb_pos; simp only [List.length_cons, List.length_nil] at hN; have e : sepI N i = [Ins.bare 9] := by unfold sepI; rw [if_neg (by omega), if_neg (by omega), if_pos (by omega)]
  simp only [armsTail, e, armsTb, armsForks, List.append_nil]; exact ((h0.append h1).append h2).weak (by omega) (by simp; omega)
 | a :: b :: r, i, f, hi, hN, hne, h => by
  have ha := h a (List.mem_cons_self ..); have h0 := Runs.one (i := Ins.bare 8) (b := 1) (f := f + 1) (b' := 1) (f' := f + 1) (by simp [behind]); have h1 := k97 a.net.parts 2 1 (f + 1) (.inl rfl) (k36 (by obtain ⟨n, cs, ks⟩ := a; exact (k13 ha).2.1)); have h2 := kf2 a (f + 1) ha; simp only [List.length_cons] at hN; have h3 := kB7 N (b :: r) (i + 1) f (by omega) (by simp only [List.length_cons]; omega) (by simp) (fun x hx => h x (List.mem_cons_of_mem _ hx)); have := a.tb_pos; have e : sepI N i = [Ins.bare 8] := by unfold sepI; rw [if_neg (by omega), if_neg (by omega), if_neg (by omega)]
  rw [armsTail, e]; rw [armsTb, armsForks, if_neg (by simp)]; exact (((h0.append h1).append h2).append h3).weak (by omega) (by omega)
end
theorem runs_plain (a : Arm) (h : a.wrong true = 0) : Runs a.plain (0, 0) (0, 0) ((max a.net.bb a.tb : Nat) : Int) a.forks := by
 obtain ⟨n, cs, ks⟩ := a; obtain ⟨h1, h2, -, -, -⟩ := k13 h; have hn : n.wrong = 0 := by rcases h2 with h2 | h2; rw [h1 rfl] at h2; cases h2; exact h2
 have k1 := kj5 n 0 0 hn; have k2 := kf2 (.mk n cs ks) 0 (k95 h); have k3 := Runs.one (i := Ins.bare 11) (b := 1) (f := 0) (b' := 0) (f' := 0) (by simp [behind]); rw [show (0 : Int) + 1 = 1 from rfl] at k1; have hp := (Arm.mk n cs ks).tb_pos; exact ((k1.append k2).append k3).weak (by simp only [Arm.net]; omega) (by omega)
theorem ko9 : ∀ l : List Arm, (∀ a ∈ l, a.wrong true = 0) → Runs (plainOf l) (0, 0) (0, 0) (bitsOf l) (forksOf l)
 | [], h => (Runs.nil 0 0).weak (by simp [bitsOf]) (by simp [forksOf])
 | a :: r, h => by
  have h1 := runs_plain a (h a (List.mem_cons_self ..)); have h2 := ko9 r fun x hx => h x (List.mem_cons_of_mem _ hx)
  have e : plainOf (a :: r) = a.plain ++ plainOf r := by simp [plainOf]
  rw [e]; exact (h1.append h2).weak (by simp only [bitsOf, List.foldr_cons]; omega) (by simp only [forksOf, List.foldr_cons]; omega)
theorem peak_plain (l : List Arm) (h : ∀ a ∈ l, a.wrong true = 0) : peakOf (plainOf l) = ((bitsOf l : Int), (forksOf l : Int)) := by
 have := (ko9 l h).2.2.2.2.2 (0, 0) (Int.le_refl _) (Int.le_refl _); unfold peakOf; rw [this]; simp only [Prod.mk.injEq]; omega
end Go.VM
