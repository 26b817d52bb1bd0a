/- Nets read out of lists of instructions, in plain words: what is read is right and in normal form, is no longer, and is read again. Conditions: none. -/
import Derived.Test.YtcjdokngpmnkjaaGreatDoorVW2

namespace Go.VM
set_option linter.unusedVariables false
set_option linter.unusedSimpArgs false
def backGo (s : List Net) : List Ins → Option (List Net)
 | [] => some s
 | i :: r => if i.ok = false ∨ 6 < i.c ∨ (s.length : Int) < needsI i.c then none else backGo (stepR s i) r
def backNetL (l : List Ins) : Option Net := if 1000 < l.length then none else match backGo [] l with
 | some [n] => if n.size ≤ 400 then some n else none
 | _ => none
def bLen : List Net → Nat
 | [] => 0
 | x :: r => x.begins.length + bLen r
def GoodS (s : List Net) : Prop := ∀ x ∈ s, x.wrong = 0 ∧ x.wn = true
theorem leaf_wrong {op : Int} {as : List Arg} (h : El.contact ⟨op, as⟩ = true) : (Net.mk 1 op as []).wrong = 0 ∧ (Net.mk 1 op as []).wn = true := by
 constructor
 · simp [Net.wrong, h]
 · simp [Net.wn, netsWn]
theorem open_good {k : Int} {x : Net} (hk : k = 2 ∨ k = 3) (h : x.wrong = 0 ∧ x.wn = true) : ∀ y ∈ x.open k, y.wrong = 0 ∧ y.wn = true ∧ y.kind ≠ k := by
 unfold Net.open
 by_cases e : x.kind = k
 · rw [if_pos e]
   obtain ⟨xk, xo, xa, xs⟩ := x; simp only [Net.kind] at e; subst e; have h1 := right_kids h.1 (by omega); have h2 := wn_kids h.2; intro y hy; simp only [Net.kids] at hy; have := h2.1 y hy; exact ⟨h1.2.2.2.2.2 y hy, this.2, fun e => this.1 ⟨e, by omega⟩⟩
 · rw [if_neg e]
   intro y hy; rw [List.mem_singleton.1 hy]; exact ⟨h.1, h.2, e⟩
theorem open_pos {k : Int} {x : Net} (hk : k = 2 ∨ k = 3) (h : x.wrong = 0 ∧ x.wn = true) : x.open k ≠ [] := by
 unfold Net.open
 by_cases e : x.kind = k
 · rw [if_pos e]
   obtain ⟨xk, xo, xa, xs⟩ := x; simp only [Net.kind] at e; subst e; exact (right_kids h.1 (by omega)).2.2.2.1
 · rw [if_neg e]; simp
theorem together_good {k : Int} {a b : Net} (hk : k = 2 ∨ k = 3) (ha : a.wrong = 0 ∧ a.wn = true) (hb : b.wrong = 0 ∧ b.wn = true) : (together k a b).wrong = 0 ∧ (together k a b).wn = true := by
 have hn : a.none = false := right_some ha.1; unfold together; rw [hn, if_neg (by simp)]; have h1 := open_good hk ha; have h2 := open_good hk hb; have p1 := open_pos hk ha; have p2 := open_pos hk hb; have hall : ∀ y ∈ a.open k ++ b.open k, y.wrong = 0 ∧ y.wn = true ∧ y.kind ≠ k := fun y hy => by
  rcases List.mem_append.1 hy with h | h
  · exact h1 y h
  · exact h2 y h
 constructor
 · exact right_mk (by omega) (by simp [p1]) (by omega) fun y hy => (hall y hy).1
 · simp only [Net.wn, Bool.and_eq_true, decide_eq_true_eq]
   refine ⟨(netsWn_all k _).2 fun y hy => ⟨fun h => (hall y hy).2.2 h.1, (hall y hy).2.1⟩, .inr (.inr ?_)⟩
   have := List.length_pos_iff.2 p1; have := List.length_pos_iff.2 p2; rw [List.length_append]; omega
theorem begins_and {k op : Int} {as : List Arg} {x : Net} {r : List Net} (hk : k = 2 ∨ k = 3) : (Net.mk k op as (x :: r)).begins = x.begins ++ netsTaken k r := by
 simp only [Net.begins]; rw [if_neg (by omega)]
theorem taken_len (k : Int) (x : Net) : (x.taken k).length ≤ x.begins.length + 1 := by
 unfold Net.taken; split
 · simp
 · simp
theorem together_len {k : Int} {a b : Net} (hk : k = 2 ∨ k = 3) (ha : a.wrong = 0 ∧ a.wn = true) (hb : b.wrong = 0 ∧ b.wn = true) : (together k a b).begins.length ≤ a.begins.length + b.begins.length + 1 ∧ (b.kind = 1 → (together k a b).begins.length = a.begins.length + 1) := by
 have hn : a.none = false := right_some ha.1; have p1 := open_pos hk ha; unfold together; rw [hn, if_neg (by simp)]; have hA : ∃ x r, a.open k = x :: r ∧ x.begins.length + (netsTaken k r).length = a.begins.length := by
  unfold Net.open at p1 ⊢
  by_cases e : a.kind = k
  · rw [if_pos e] at p1 ⊢
    obtain ⟨ak, ao, aa, as⟩ := a; simp only [Net.kind, Net.kids] at e p1 ⊢; subst e; cases as with
    | nil => exact absurd rfl p1
    | cons x r => exact ⟨x, r, rfl, by rw [begins_and hk, List.length_append]⟩
  · rw [if_neg e]
    exact ⟨a, [], rfl, by simp [netsTaken]⟩
 have hB : (netsTaken k (b.open k)).length ≤ b.begins.length + 1 ∧ (b.kind = 1 → (netsTaken k (b.open k)).length = 1) := by
  unfold Net.open
  by_cases e : b.kind = k
  · rw [if_pos e]
    refine ⟨?_, fun h => by omega⟩
    obtain ⟨bk, bo, ba, bs⟩ := b; simp only [Net.kind, Net.kids] at e ⊢; subst e; cases bs with
    | nil => simp [netsTaken]
    | cons x r =>
     rw [begins_and hk, netsTaken_cons, List.length_append, List.length_append]; have := taken_len bk x; omega
  · rw [if_neg e, netsTaken_cons, show netsTaken k [] = [] by simp [netsTaken], List.append_nil]
    refine ⟨taken_len k b, fun h => by unfold Net.taken; rw [if_pos h]; rfl⟩
 obtain ⟨x, r, e, hl⟩ := hA; rw [e, List.cons_append, begins_and hk, netsTaken_append, List.length_append, List.length_append]; refine ⟨by omega, fun h => ?_⟩
 have := hB.2 h; omega
theorem step_good {s : List Net} {i : Ins} (hs : GoodS s) (h : ¬ (i.ok = false ∨ 6 < i.c ∨ (s.length : Int) < needsI i.c)) : GoodS (stepR s i) ∧ bLen (stepR s i) ≤ bLen s + 1 := by
 have hok : i.ok = true := by simpa using fun e => h (.inl e)
 have hc : i.c ≤ 6 := by have : ¬ 6 < i.c := fun e => h (.inr (.inl e)); omega
 have hn : needsI i.c ≤ s.length := by have : ¬ (s.length : Int) < needsI i.c := fun e => h (.inr (.inr e)); omega
 have hleaf : 1 ≤ i.c ∧ i.c ≤ 3 → (Net.mk 1 i.e.op i.e.as []).wrong = 0 ∧ (Net.mk 1 i.e.op i.e.as []).wn = true := fun h3 => by
  have hok2 := hok; unfold Ins.ok at hok2; rw [if_pos h3] at hok2; exact leaf_wrong hok2
 have hrange : 1 ≤ i.c := by
  have hok2 := hok; unfold Ins.ok at hok2; split at hok2
  · omega
  · split at hok2
    · omega
    · simp only [Bool.and_eq_true, decide_eq_true_eq] at hok2; omega
 unfold stepR
 by_cases c1 : i.c = 1
 · rw [if_pos c1]
   refine ⟨fun x hx => ?_, by simp only [bLen, Net.begins, List.length_singleton]; omega⟩
   rcases List.mem_cons.1 hx with rfl | hx
   · exact hleaf (by omega)
   · exact hs x hx
 rw [if_neg c1]
 by_cases c2 : i.c = 2 ∨ i.c = 3
 · rw [if_pos c2]
   cases s with
   | nil => unfold needsI at hn; rw [if_neg c1, if_neg (by omega)] at hn; simp at hn
   | cons a r =>
    have ha := hs a (List.mem_cons_self ..); have hl := hleaf (by omega); have hg := together_good c2 ha hl; have hlen := (together_len c2 ha hl).2 rfl; refine ⟨fun x hx => ?_, by simp only [bLen]; omega⟩
    rcases List.mem_cons.1 hx with rfl | hx
    · exact hg
    · exact hs x (List.mem_cons_of_mem _ hx)
 rw [if_neg c2]
 by_cases c4 : i.c = 4 ∨ i.c = 5
 · rw [if_pos c4]
   match s, hs, hn with
   | [], hs, hn => unfold needsI at hn; rw [if_neg c1, if_pos c4] at hn; simp at hn
   | [x], hs, hn => unfold needsI at hn; rw [if_neg c1, if_pos c4] at hn; simp at hn
   | b :: a :: r, hs, hn =>
    have hb := hs b (List.mem_cons_self ..); have ha := hs a (List.mem_cons_of_mem _ (List.mem_cons_self ..)); have hk : i.c - 2 = 2 ∨ i.c - 2 = 3 := by omega
    have hg := together_good hk ha hb; have hlen := (together_len hk ha hb).1; refine ⟨fun x hx => ?_, by simp only [bLen]; omega⟩
    rcases List.mem_cons.1 hx with rfl | hx
    · exact hg
    · exact hs x (List.mem_cons_of_mem _ (List.mem_cons_of_mem _ hx))
 rw [if_neg c4, if_pos (by omega)]; cases s with
 | nil => unfold needsI at hn; rw [if_neg c1, if_neg c4] at hn; simp at hn
 | cons a r =>
  have ha := hs a (List.mem_cons_self ..); refine ⟨fun x hx => ?_, by simp only [bLen, Net.begins, if_true, List.length_append, List.length_singleton]; omega⟩
  rcases List.mem_cons.1 hx with rfl | hx
  · refine ⟨right_mk (.inr (.inr rfl)) (by simp) (by simp) fun n hn => by rw [List.mem_singleton.1 hn]; exact ha.1, ?_⟩
    simp only [Net.wn, Bool.and_eq_true, decide_eq_true_eq]; exact ⟨(netsWn_all 4 _).2 fun n hn => ⟨fun h => h.2 rfl, by rw [List.mem_singleton.1 hn]; exact ha.2⟩, .inr (.inl trivial)⟩
  · exact hs x (List.mem_cons_of_mem _ hx)
theorem back_good : ∀ (l : List Ins) (s t : List Net), GoodS s → backGo s l = some t → GoodS t ∧ bLen t ≤ bLen s + l.length
 | [], s, t, hs, h => by simp only [backGo, Option.some.injEq] at h; subst h; exact ⟨hs, by simp⟩
 | i :: r, s, t, hs, h => by
  simp only [backGo] at h; split at h
  · cases h
  · rename_i hc
    obtain ⟨h1, h2⟩ := step_good hs hc; obtain ⟨h3, h4⟩ := back_good r _ t h1 h; exact ⟨h3, by simp only [List.length_cons]; omega⟩
theorem back_step {s : List Net} {i : Ins} {R : List Ins} (h : ¬ (i.ok = false ∨ 6 < i.c ∨ (s.length : Int) < needsI i.c)) : backGo s (i :: R) = backGo (stepR s i) R := by
 simp only [backGo]; rw [if_neg h]
theorem leaf_ok {x : Net} {k : Int} (h : x.wrong = 0) (hx : x.kind = 1) (hk : 1 ≤ k ∧ k ≤ 3) : (⟨k, ⟨x.op, x.as⟩⟩ : Ins).ok = true := by
 unfold Ins.ok; rw [if_pos hk]; exact leaf_contact h hx
mutual
theorem back_begins : ∀ (n : Net) (s : List Net) (R : List Ins), n.wrong = 0 → n.wn = true → backGo s (n.begins ++ R) = backGo (n :: s) R
 | .mk k op as [], s, R, hr, hw => by
  obtain ⟨rfl, hc⟩ := leaf_right hr; simp only [Net.begins, List.singleton_append]; rw [back_step]
  · simp [stepR]
  · unfold Ins.ok needsI
    simp [hc]
 | .mk k op as (x :: r), s, R, hr, hw => by
  obtain ⟨hk, hx, hall, rfl, rfl, h4⟩ := kids_right hr; obtain ⟨hkids, hlen⟩ := wn_kids hw; have hxk := hkids x (List.mem_cons_self ..); have h1 := fun R => back_begins x s R hx hxk.2
  simp only [Net.begins, List.append_assoc]; rw [h1]
  by_cases e : k = 4
  · subst e
    rw [if_pos rfl, h4 rfl, List.singleton_append, back_step]
    · simp [stepR]
    · simp [Ins.ok, needsI, El.bareB]
      omega
  · rw [if_neg e]
    have hr2 : ∀ y ∈ r, y.kind ≠ k := fun y hy e2 => (hkids y (List.mem_cons_of_mem _ hy)).1 ⟨e2, e⟩
    rw [back_taken r k x s R (by omega) hall (fun y hy => (hkids y (List.mem_cons_of_mem _ hy)).2) hr2]
    match r, hlen, hr2 with
    | [], hlen, hr2 => simp at hlen; omega
    | y :: q, hlen, hr2 =>
     rw [List.foldl_cons, together_new (right_some hx) (fun e2 => hxk.1 ⟨e2, e⟩) (hr2 y (List.mem_cons_self ..)), fold_together (by omega) _ q fun z hz => hr2 z (List.mem_cons_of_mem _ hz)]; simp
theorem back_taken : ∀ (l : List Net) (k : Int) (acc : Net) (s : List Net) (R : List Ins), k = 2 ∨ k = 3 → (∀ y ∈ l, y.wrong = 0) → (∀ y ∈ l, y.wn = true) → (∀ y ∈ l, y.kind ≠ k) → backGo (acc :: s) (netsTaken k l ++ R) = backGo (l.foldl (together k) acc :: s) R
 | [], k, acc, s, R, hk, h, hw, hkd => by simp [netsTaken]
 | x :: r, k, acc, s, R, hk, h, hw, hkd => by
  have hx := h x (List.mem_cons_self ..); have h2 := back_taken r k (together k acc x) s R hk (fun y hy => h y (List.mem_cons_of_mem _ hy)) (fun y hy => hw y (List.mem_cons_of_mem _ hy)) (fun y hy => hkd y (List.mem_cons_of_mem _ hy)); simp only [netsTaken, List.foldl_cons, List.append_assoc]
  by_cases h1 : x.kind = 1
  · rw [if_pos h1, List.singleton_append, back_step]
    · have e : stepR (acc :: s) (⟨k, ⟨x.op, x.as⟩⟩ : Ins) = together k acc x :: s := by
       have := leaf_eq hx h1; simp only [stepR]; rw [if_neg (by omega), if_pos hk, ← this]
      rw [e, h2]
    · have ho := leaf_ok (k := k) hx h1 (by omega)
      rw [ho]; have : needsI k = 1 := by unfold needsI; rw [if_neg (by omega), if_neg (by omega)]
      simp only [this]; simp; omega
  · rw [if_neg h1, List.append_assoc, back_begins x (acc :: s) _ hx (hw x (List.mem_cons_self ..)), List.singleton_append, back_step]
    · have e : stepR (x :: acc :: s) (Ins.bare (k + 2)) = together k acc x :: s := by
       simp only [stepR, Ins.bare]; rw [if_neg (by omega), if_neg (by omega), if_pos (by omega), show k + 2 - 2 = k by omega]
      rw [e, h2]
    · have ho : (Ins.bare (k + 2)).ok = true := bare_ok (by omega)
      rw [ho]; have : needsI (Ins.bare (k + 2)).c = 2 := by unfold needsI; simp only [Ins.bare]; rw [if_neg (by omega), if_pos (by omega)]
      rw [this]; simp only [Ins.bare]; simp; omega
end
theorem back_again {n : Net} (h : n.wrong = 0) (hw : n.wn = true) (hs : n.size ≤ 400) (hl : n.begins.length ≤ 1000) : backNetL n.begins = some n := by
 unfold backNetL; rw [if_neg (by omega)]; have := back_begins n [] [] h hw; rw [List.append_nil] at this; rw [this]; simp [backGo, hs]
theorem backNet_good {l : List Ins} {n : Net} (h : backNetL l = some n) : n.wrong = 0 ∧ n.wn = true ∧ n.size ≤ 400 ∧ n.begins.length ≤ l.length ∧ l.length ≤ 1000 := by
 unfold backNetL at h; split at h
 · cases h
 · split at h
   · rename_i m hm
     split at h
     · rename_i hsz
       cases h
       obtain ⟨h1, h2⟩ := back_good l [] _ (fun x hx => by cases hx) hm; have h3 := h1 n (List.mem_singleton.2 rfl); simp only [bLen] at h2; exact ⟨h3.1, h3.2, hsz, by omega, by omega⟩
     · cases h
   · cases h
end Go.VM
