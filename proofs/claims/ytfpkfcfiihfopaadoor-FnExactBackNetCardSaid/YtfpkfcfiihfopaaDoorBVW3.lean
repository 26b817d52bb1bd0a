/- Reading lists back: the nets of an arm. Conditions: none. -/
import Derived.Test.YtfpkfcfiihfopaaDoorBVY29
import Derived.Test.YtfpkfcfiihfopaaDoorBVW2

namespace Go.VM
set_option linter.unusedSimpArgs false
set_option linter.unusedVariables false
set_option maxHeartbeats 16000000
theorem ne2 {a b : Nat} (h : a ≠ b) : (a = b) = False ∧ (b = a) = False := ⟨eq_false h, eq_false fun e => h e.symm⟩
def insWt (i : Ins) : Nat := 2 + i.e.as.length
def lWt : List Ins → Nat
 | [] => 0
 | i :: r => insWt i + lWt r
theorem together_wt (k : Int) (a b : Net) : (together k a b).wt ≤ a.wt + b.wt + 1 := by
 unfold together; split
 · omega
 · have h : ∀ x : Net, netsWt (x.open k) ≤ x.wt := fun x => by
    unfold Net.open; obtain ⟨xk, xo, xa, xs⟩ := x; split
    · simp only [Net.kids, Net.wt]; omega
    · simp only [netsWt, Net.wt]; omega
   have h1 := h a; have h2 := h b; simp only [Net.wt, netsWt_append, List.length_nil]; omega
theorem step_wt (s : List Net) (i : Ins) : netsWt (stepR s i) ≤ netsWt s + insWt i := by
 unfold stepR insWt; split
 · simp only [netsWt, Net.wt]; omega
 · split
   · cases s with
     | nil => simp [netsWt]
     | cons a r =>
      have := together_wt i.c a (.mk 1 i.e.op i.e.as []); simp only [netsWt, Net.wt] at this ⊢; omega
   · split
     · match s with
       | [] => simp [netsWt]
       | [x] => simp [netsWt]
       | b :: a :: r =>
        have := together_wt (i.c - 2) a b; simp only [netsWt] at this ⊢; omega
     · split
       · cases s with
         | nil => simp [netsWt]
         | cons a r => simp only [netsWt, Net.wt]; simp; omega
       · omega
theorem netsLen_wt (s : List Net) : s.length ≤ netsWt s := by have := netsWt_len s; omega
def StkAt (st : St) (t p q : Nat) (s : List Net) : Prop := (s = [] ∧ st.τ t = .w .nil) ∨ ∃ b c R, b ≠ 0 ∧ b ≠ p ∧ b ≠ q ∧ b < st.g ∧ st.τ t = .w (.own b 0 s.length c) ∧ st.H b = .row none 4 R 0 ∧ R.take s.length = netRows s.reverse
theorem StkAt.keep {st st' : St} {t p q : Nat} {s : List Net} (h : StkAt st t p q s) (e : st'.τ t = st.τ t) (eH : ∀ b, b < st.g → b ≠ 0 → b ≠ p → b ≠ q → st'.H b = st.H b) (hg : st.g ≤ st'.g) : StkAt st' t p q s := by
 rcases h with ⟨h1, h2⟩ | ⟨b, c, R, h1, h2, h3, h4, h5, h6, h7⟩
 · exact .inl ⟨h1, e.trans h2⟩
 · exact .inr ⟨b, c, R, h1, h2, h3, by omega, e.trans h5, (eH b h4 h1 h2 h3).trans h6, h7⟩
end Go.VM

/- Lists of instructions as arguments of the laws of exactness. Conditions: none. -/
namespace Go.VM
set_option linter.unusedVariables false
set_option linter.unusedSimpArgs false
set_option maxHeartbeats 4000000
theorem ins_W (x : Ins) : rowW x.row = x.e.as.length := by
 simp [Ins.row, rowW, dW, args_rowsW]
theorem sz_ins {n : Nat} (x : Ins) (hl : x.e.as.length < 2 ^ 63) (K : Nat) (hK : K < 2 ^ 40) (s : Sup) : go (n + 3) 320 [rowX x.row, iV K] [] s = some ⟨szV (rowW x.row) K, [], []⟩ := by
 have w := sz_el (n := n) x.e hl K hK; rw [ins_W]; rw [el_W] at w
 by_cases h : x.e.as.length ≤ K
 · simp only [szV, if_pos h] at w ⊢
   generalize K - x.e.as.length = T at w ⊢; have hT : ((T : Int) < 0) = False := eq_false (by omega); simp [go_of FT_320 rfl, F320, Ins.row, w, hT]
 · simp only [szV, if_neg h] at w ⊢
   simp [go_of FT_320 rfl, F320, Ins.row, w]
abbrev listD (l : List Ins) : Nat := l.length + rowsW (insRows l)
theorem sz_list {n : Nat} (l : List Ins) (hl : dFits (.l 0 (insRows l))) (hn : l.length + 4 ≤ n) (K : Nat) (hK : K < 2 ^ 40) (s : Sup) : go n 289 [.w (isW l), iV K] [] s = some ⟨szV (listD l) K, [], []⟩ := by
 obtain ⟨n, rfl⟩ : ∃ k, n = k + 4 := ⟨n - 4, by omega⟩; have := run_szS (f := 289) (sz := 3) (c := 320) (n := n + 3) rfl rfl rfl rfl rfl 0 rowW (insRows l) (insRows_all fun a _ => rfl)
  (fun r hr k hk s => by
   have hf := rowsFits_mem hl.2 hr; simp only [insRows, List.mem_map] at hr; obtain ⟨a, ha, rfl⟩ := hr; simp only [Ins.row, rowFits, dFits, argRows, List.length_map] at hf; exact sz_ins (n := n) a (by omega) k hk s) (by have := hl.1; omega) (by simp [insRows]; omega) K hK s
 rw [← rowsW_map, show (insRows l).length = l.length by simp [insRows]] at this; exact this
theorem list_mem {l : List Ins} {x : Ins} (h : x ∈ l) : x.e.as.length ≤ rowsW (insRows l) := by
 induction l with
 | nil => cases h
 | cons a r ih =>
  simp only [insRows, List.map_cons, rowsW] at ih ⊢; rcases List.mem_cons.1 h with rfl | h
  · rw [ins_W]; omega
  · have := ih h; omega
theorem list_lWt : ∀ l : List Ins, lWt l ≤ 2 * l.length + rowsW (insRows l)
 | [] => by simp [lWt]
 | a :: r => by
  have := list_lWt r; simp only [insRows, List.map_cons, rowsW, ins_W, lWt, insWt, List.length_cons] at this ⊢; omega
section
variable {P : Program} {fid : Nat → FuncId} {cid : FuncId → Nat} {w0 w : World}
theorem sz_callL (E : Env P fid cid) (hg : Glob GT (ctxN w0.heap.size w0)) {l : List Ins} (hf : dFits (.l 0 (insRows l))) {a : Value} (ha : Rd w0.heap.size w0 a (.l 0 (insRows l))) :
 MC P fid 289 [a, .int .i64 1048576] w0 fun v w' => Tou Old w0 w' ∧ ∃ k : Int, v = .int .i64 k ∧ (0 ≤ k → listD l ≤ 2 ^ 20) := by
 have h := sz_list l hf (Nat.le_refl _) 1048576 (by omega) sup0; refine (E.call hg (Tou.refl _ _) h rfl (vs := [a, .int .i64 1048576]) fun i x hx => ?_).mono ?_
 · match i with
   | 0 => simp at hx; subst hx; exact ⟨a, rfl, ha.here⟩
   | 1 => simp at hx; subst hx; exact ⟨_, rfl, Rel.s _ rfl⟩
   | i + 2 => simp at hx
 · rintro v w' ⟨κ', rfl, O⟩
   refine ⟨out_tou O, _, out_s O, fun hk => ?_⟩
   by_cases hle : listD l ≤ 1048576
   · exact hle
   · rw [if_neg hle] at hk; omega
theorem sound_list (E : Env P fid cid) (hg : Glob GT (ctxN w0.heap.size w0)) {l : List Ins} (hl : listD l ≤ 2 ^ 20) {a : Value} (ha : Rd w0.heap.size w0 a (.l 0 (insRows l))) : Sound P fid w0 a (insRows l) 289 290 275 276 where
 to := fun w hw => by
  have hl' : l.length + rowsW (insRows l) ≤ 2 ^ 20 := hl; obtain ⟨t, R, h⟩ := mk_list l (2 ^ 20) (fun x hx => by have := list_mem hx; omega) (by omega) (Nat.le_refl _) (by omega); obtain ⟨h1, h2, h3⟩ := h sup0; refine (E.calls hg hw h1 (ha.tou hw fun _ h => h)).mono ?_
  rintro v w' ⟨κ', rfl, O⟩; exact ⟨κ'.ζ, _, _, out_own sup0_ne O (h3 sup0_inj), h2⟩
 eq := fun N M u v w hw hu hv => by
  have hl' : l.length + rowsW (insRows l) ≤ 2 ^ 20 := hl; exact (gives_ins E hg (m := 2 ^ 20) (fun x hx => by have := list_mem hx; omega) (by omega) (by omega)).1 N M u v w hw hu hv
 mark := fun R hR => by
  have hl' : l.length + rowsW (insRows l) ≤ 2 ^ 20 := hl; exact (gives_ins E hg (m := 2 ^ 20) (fun x hx => by have := list_mem hx; omega) (by omega) (by omega)).2 R hR
end
end Go.VM

/- Nets read out of lists of instructions, in plain words: what is read is right and in normal form, is no longer, and is read again. Conditions: none. -/
namespace Go.VM
set_option linter.unusedVariables false
set_option linter.unusedSimpArgs false
def backGo (s : List Net) : List Ins → Option (List Net)
 | [] => some s
 | i :: r => if i.ok = false ∨ 6 < i.c ∨ (s.length : Int) < needsI i.c then none else backGo (stepR s i) r
def backNetL (l : List Ins) : Option Net := if 1000 < l.length then none else match backGo [] l with
 | some [n] => if n.size ≤ 400 then some n else none
 | _ => none
def bLen : List Net → Nat
 | [] => 0
 | x :: r => x.begins.length + bLen r
def GoodS (s : List Net) : Prop := ∀ x ∈ s, x.wrong = 0 ∧ x.wn = true
theorem leaf_wrong {op : Int} {as : List Arg} (h : El.contact ⟨op, as⟩ = true) : (Net.mk 1 op as []).wrong = 0 ∧ (Net.mk 1 op as []).wn = true := by
 constructor
 · simp [Net.wrong, h]
 · simp [Net.wn, netsWn]
theorem open_good {k : Int} {x : Net} (hk : k = 2 ∨ k = 3) (h : x.wrong = 0 ∧ x.wn = true) : ∀ y ∈ x.open k, y.wrong = 0 ∧ y.wn = true ∧ y.kind ≠ k := by
 unfold Net.open
 by_cases e : x.kind = k
 · rw [if_pos e]
   obtain ⟨xk, xo, xa, xs⟩ := x; simp only [Net.kind] at e; subst e; have h1 := right_kids h.1 (by omega); have h2 := wn_kids h.2; intro y hy; simp only [Net.kids] at hy; have := h2.1 y hy; exact ⟨h1.2.2.2.2.2 y hy, this.2, fun e => this.1 ⟨e, by omega⟩⟩
 · rw [if_neg e]
   intro y hy; rw [List.mem_singleton.1 hy]; exact ⟨h.1, h.2, e⟩
theorem open_pos {k : Int} {x : Net} (hk : k = 2 ∨ k = 3) (h : x.wrong = 0 ∧ x.wn = true) : x.open k ≠ [] := by
 unfold Net.open
 by_cases e : x.kind = k
 · rw [if_pos e]
   obtain ⟨xk, xo, xa, xs⟩ := x; simp only [Net.kind] at e; subst e; exact (right_kids h.1 (by omega)).2.2.2.1
 · rw [if_neg e]; simp
theorem together_good {k : Int} {a b : Net} (hk : k = 2 ∨ k = 3) (ha : a.wrong = 0 ∧ a.wn = true) (hb : b.wrong = 0 ∧ b.wn = true) : (together k a b).wrong = 0 ∧ (together k a b).wn = true := by
 have hn : a.none = false := right_some ha.1; unfold together; rw [hn, if_neg (by simp)]; have h1 := open_good hk ha; have h2 := open_good hk hb; have p1 := open_pos hk ha; have p2 := open_pos hk hb; have hall : ∀ y ∈ a.open k ++ b.open k, y.wrong = 0 ∧ y.wn = true ∧ y.kind ≠ k := fun y hy => by
  rcases List.mem_append.1 hy with h | h
  · exact h1 y h
  · exact h2 y h
 constructor
 · exact right_mk (by omega) (by simp [p1]) (by omega) fun y hy => (hall y hy).1
 · simp only [Net.wn, Bool.and_eq_true, decide_eq_true_eq]
   refine ⟨(netsWn_all k _).2 fun y hy => ⟨fun h => (hall y hy).2.2 h.1, (hall y hy).2.1⟩, .inr (.inr ?_)⟩
   have := List.length_pos_iff.2 p1; have := List.length_pos_iff.2 p2; rw [List.length_append]; omega
theorem begins_and {k op : Int} {as : List Arg} {x : Net} {r : List Net} (hk : k = 2 ∨ k = 3) : (Net.mk k op as (x :: r)).begins = x.begins ++ netsTaken k r := by
 simp only [Net.begins]; rw [if_neg (by omega)]
theorem taken_len (k : Int) (x : Net) : (x.taken k).length ≤ x.begins.length + 1 := by
 unfold Net.taken; split
 · simp
 · simp
theorem together_len {k : Int} {a b : Net} (hk : k = 2 ∨ k = 3) (ha : a.wrong = 0 ∧ a.wn = true) (hb : b.wrong = 0 ∧ b.wn = true) : (together k a b).begins.length ≤ a.begins.length + b.begins.length + 1 ∧ (b.kind = 1 → (together k a b).begins.length = a.begins.length + 1) := by
 have hn : a.none = false := right_some ha.1; have p1 := open_pos hk ha; unfold together; rw [hn, if_neg (by simp)]; have hA : ∃ x r, a.open k = x :: r ∧ x.begins.length + (netsTaken k r).length = a.begins.length := by
  unfold Net.open at p1 ⊢
  by_cases e : a.kind = k
  · rw [if_pos e] at p1 ⊢
    obtain ⟨ak, ao, aa, as⟩ := a; simp only [Net.kind, Net.kids] at e p1 ⊢; subst e; cases as with
    | nil => exact absurd rfl p1
    | cons x r => exact ⟨x, r, rfl, by rw [begins_and hk, List.length_append]⟩
  · rw [if_neg e]
    exact ⟨a, [], rfl, by simp [netsTaken]⟩
 have hB : (netsTaken k (b.open k)).length ≤ b.begins.length + 1 ∧ (b.kind = 1 → (netsTaken k (b.open k)).length = 1) := by
  unfold Net.open
  by_cases e : b.kind = k
  · rw [if_pos e]
    refine ⟨?_, fun h => by omega⟩
    obtain ⟨bk, bo, ba, bs⟩ := b; simp only [Net.kind, Net.kids] at e ⊢; subst e; cases bs with
    | nil => simp [netsTaken]
    | cons x r =>
     rw [begins_and hk, netsTaken_cons, List.length_append, List.length_append]; have := taken_len bk x; omega
  · rw [if_neg e, netsTaken_cons, show netsTaken k [] = [] by simp [netsTaken], List.append_nil]
    refine ⟨taken_len k b, fun h => by unfold Net.taken; rw [if_pos h]; rfl⟩
 obtain ⟨x, r, e, hl⟩ := hA; rw [e, List.cons_append, begins_and hk, netsTaken_append, List.length_append, List.length_append]; refine ⟨by omega, fun h => ?_⟩
 have := hB.2 h; omega
theorem step_good {s : List Net} {i : Ins} (hs : GoodS s) (h : ¬ (i.ok = false ∨ 6 < i.c ∨ (s.length : Int) < needsI i.c)) : GoodS (stepR s i) ∧ bLen (stepR s i) ≤ bLen s + 1 := by
 have hok : i.ok = true := by simpa using fun e => h (.inl e)
 have hc : i.c ≤ 6 := by have : ¬ 6 < i.c := fun e => h (.inr (.inl e)); omega
 have hn : needsI i.c ≤ s.length := by have : ¬ (s.length : Int) < needsI i.c := fun e => h (.inr (.inr e)); omega
 have hleaf : 1 ≤ i.c ∧ i.c ≤ 3 → (Net.mk 1 i.e.op i.e.as []).wrong = 0 ∧ (Net.mk 1 i.e.op i.e.as []).wn = true := fun h3 => by
  have hok2 := hok; unfold Ins.ok at hok2; rw [if_pos h3] at hok2; exact leaf_wrong hok2
 have hrange : 1 ≤ i.c := by
  have hok2 := hok; unfold Ins.ok at hok2; split at hok2
  · omega
  · split at hok2
    · omega
    · simp only [Bool.and_eq_true, decide_eq_true_eq] at hok2; omega
 unfold stepR
 by_cases c1 : i.c = 1
 · rw [if_pos c1]
   refine ⟨fun x hx => ?_, by simp only [bLen, Net.begins, List.length_singleton]; omega⟩
   rcases List.mem_cons.1 hx with rfl | hx
   · exact hleaf (by omega)
   · exact hs x hx
 rw [if_neg c1]
 by_cases c2 : i.c = 2 ∨ i.c = 3
 · rw [if_pos c2]
   cases s with
   | nil => unfold needsI at hn; rw [if_neg c1, if_neg (by omega)] at hn; simp at hn
   | cons a r =>
    have ha := hs a (List.mem_cons_self ..); have hl := hleaf (by omega); have hg := together_good c2 ha hl; have hlen := (together_len c2 ha hl).2 rfl; refine ⟨fun x hx => ?_, by simp only [bLen]; omega⟩
    rcases List.mem_cons.1 hx with rfl | hx
    · exact hg
    · exact hs x (List.mem_cons_of_mem _ hx)
 rw [if_neg c2]
 by_cases c4 : i.c = 4 ∨ i.c = 5
 · rw [if_pos c4]
   match s, hs, hn with
   | [], hs, hn => unfold needsI at hn; rw [if_neg c1, if_pos c4] at hn; simp at hn
   | [x], hs, hn => unfold needsI at hn; rw [if_neg c1, if_pos c4] at hn; simp at hn
   | b :: a :: r, hs, hn =>
    have hb := hs b (List.mem_cons_self ..); have ha := hs a (List.mem_cons_of_mem _ (List.mem_cons_self ..)); have hk : i.c - 2 = 2 ∨ i.c - 2 = 3 := by omega
    have hg := together_good hk ha hb; have hlen := (together_len hk ha hb).1; refine ⟨fun x hx => ?_, by simp only [bLen]; omega⟩
    rcases List.mem_cons.1 hx with rfl | hx
    · exact hg
    · exact hs x (List.mem_cons_of_mem _ (List.mem_cons_of_mem _ hx))
 rw [if_neg c4, if_pos (by omega)]; cases s with
 | nil => unfold needsI at hn; rw [if_neg c1, if_neg c4] at hn; simp at hn
 | cons a r =>
  have ha := hs a (List.mem_cons_self ..); refine ⟨fun x hx => ?_, by simp only [bLen, Net.begins, if_true, List.length_append, List.length_singleton]; omega⟩
  rcases List.mem_cons.1 hx with rfl | hx
  · refine ⟨right_mk (.inr (.inr rfl)) (by simp) (by simp) fun n hn => by rw [List.mem_singleton.1 hn]; exact ha.1, ?_⟩
    simp only [Net.wn, Bool.and_eq_true, decide_eq_true_eq]; exact ⟨(netsWn_all 4 _).2 fun n hn => ⟨fun h => h.2 rfl, by rw [List.mem_singleton.1 hn]; exact ha.2⟩, .inr (.inl trivial)⟩
  · exact hs x (List.mem_cons_of_mem _ hx)
end Go.VM
