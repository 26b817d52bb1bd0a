/- Ladders: which operands, contacts, coils, nets and arms are right, and their normal form; in plain words. Conditions: none. -/
import Derived.Test.YtfpkfcfiihfopaaDoorXVT1

namespace Go.VM
set_option linter.unusedVariables false
set_option linter.unusedSimpArgs false
def devSize (k : Int) : Int :=
 if k = 1 then 32 else if k = 2 then 32 else if k = 3 then 64 else if k = 4 then 16 else if k = 5 then 32 else if k = 6 then 5 else if k = 7 then 16 else if k = 8 then 16 else if k = 9 then 32 else if k = 10 then 16 else 0
def Arg.ok (a : Arg) : Bool :=
 if a.k = 11 then decide (-32768 ≤ a.n ∧ a.n ≤ 32767 ∧ a.p = 0)
 else if a.k = 12 then decide (-999999999 ≤ a.n ∧ a.n ≤ 999999999 ∧ 1 ≤ a.p ∧ a.p ≤ 6 ∧ (a.p = 1 ∨ a.n.tmod 10 ≠ 0))
 else if a.k = 13 then decide (0 ≤ a.n ∧ a.n ≤ 3 ∧ a.p = 0)
 else decide (0 ≤ a.n ∧ a.n < devSize a.k ∧ a.p = 0)
def Arg.isK (a : Arg) (l : List Int) : Bool := a.ok && l.contains a.k
def Arg.bit (a : Arg) : Bool := a.isK [1, 2, 3, 4, 6, 7, 8]
def Arg.whole (a : Arg) : Bool := a.isK [7, 8, 9, 11]
def Arg.real (a : Arg) : Bool := a.isK [10, 12, 13]
def arity (op : Int) : Int :=
 if op = 1 ∨ op = 2 ∨ (21 ≤ op ∧ op ≤ 23) ∨ op = 25 then 1 else if 31 ≤ op ∧ op ≤ 35 then 3 else if (3 ≤ op ∧ op ≤ 10) ∨ (24 ≤ op ∧ op ≤ 37) then 2 else 0
def El.contact (e : El) : Bool := match e.as with
 | [a] => decide (e.op = 1 ∨ e.op = 2) && a.bit
 | [a, b] => if e.op = 3 ∨ e.op = 4 then a.bit && b.isK [5] else decide (5 ≤ e.op ∧ e.op ≤ 10) && (a.whole && b.whole || a.real && b.real)
 | _ => false
def Arg.preset (b : Arg) : Bool := b.isK [11] && decide (0 ≤ b.n)
def El.coil (e : El) : Bool := match e.as with
 | [a] => if e.op = 21 then a.isK [2, 3] else if e.op = 22 then a.isK [2, 3, 4] else if e.op = 23 then a.isK [2, 3, 4, 7, 8] else if e.op = 25 then a.isK [4] else false
 | [a, b] => if e.op = 24 then a.isK [2, 3] && b.isK [5] else if 26 ≤ e.op ∧ e.op ≤ 28 then a.isK [7] && b.preset else if e.op = 29 then a.isK [8] && b.preset
  else if e.op = 30 then a.isK [9] && b.whole || a.isK [10] && b.real else if e.op = 36 then a.isK [10] && b.whole else if e.op = 37 then a.isK [9] && b.real else false
 | [a, b, c] => if 31 ≤ e.op ∧ e.op ≤ 34 then a.isK [9] && (b.whole && c.whole) || a.isK [10] && (b.real && c.real) else if e.op = 35 then a.isK [9] && (b.whole && c.whole) else false
 | _ => false
def Net.kind : Net → Int | .mk k _ _ _ => k
def Net.op : Net → Int | .mk _ o _ _ => o
def Net.as : Net → List Arg | .mk _ _ a _ => a
def Net.kids : Net → List Net | .mk _ _ _ ks => ks
mutual
def Net.size : Net → Nat
 | .mk _ _ _ ks => 1 + netsSize ks
def netsSize : List Net → Nat
 | [] => 0
 | n :: r => n.size + netsSize r
end
def Net.none (n : Net) : Bool := decide (n.kind = 0 ∧ n.op = 0 ∧ n.as = [] ∧ n.kids.length = 0)
mutual
def Net.wrong : Net → Int
 | .mk k op as ks => if k = 1 then (if 0 < ks.length then 2 else if El.contact ⟨op, as⟩ then 0 else 3)
  else if ¬ (2 ≤ k ∧ k ≤ 4) ∨ ¬ (op = 0 ∧ as = []) ∨ ks.length = 0 ∨ (k = 4 ∧ 1 < ks.length) then 2 else netsWrong ks
def netsWrong : List Net → Int
 | [] => 0
 | n :: r => if n.wrong ≠ 0 then n.wrong else netsWrong r
end
mutual
theorem Net.wrong_or : ∀ n : Net, n.wrong = 0 ∨ n.wrong = 2 ∨ n.wrong = 3
 | .mk k op as ks => by
  have := netsWrong_or ks; unfold Net.wrong; split
  · split
    · simp
    · split <;> simp
  · split
    · simp
    · exact this
theorem netsWrong_or : ∀ l : List Net, netsWrong l = 0 ∨ netsWrong l = 2 ∨ netsWrong l = 3
 | [] => by simp [netsWrong]
 | n :: r => by
  have h1 := Net.wrong_or n; have h2 := netsWrong_or r; unfold netsWrong; split
  · exact h1
  · exact h2
end
theorem netsWrong_mem : ∀ {l : List Net}, netsWrong l = 0 → ∀ n ∈ l, n.wrong = 0
 | [], h, n, hn => by cases hn
 | m :: r, h, n, hn => by
  unfold netsWrong at h; split at h
  · rename_i hne; exact absurd h hne
  · rename_i hz
    rcases List.mem_cons.1 hn with rfl | hn
    · simpa using hz
    · exact netsWrong_mem h n hn
theorem netsWrong_of : ∀ {l : List Net}, (∀ n ∈ l, n.wrong = 0) → netsWrong l = 0
 | [], h => by simp [netsWrong]
 | m :: r, h => by
  unfold netsWrong; rw [if_neg (by simp [h m (List.mem_cons_self ..)])]; exact netsWrong_of fun n hn => h n (List.mem_cons_of_mem _ hn)
def Net.open (k : Int) (x : Net) : List Net := if x.kind = k then x.kids else [x]
def netOf (k : Int) (l : List Net) : Net := match l with
 | [x] => x
 | l => .mk k 0 [] l
mutual
def Net.norm : Net → Net
 | .mk k op as ks => if k = 1 then .mk k op as ks else if k = 4 then .mk 4 0 [] ((netsNorm ks).take 1) else netOf k ((netsNorm ks).flatMap (Net.open k))
def netsNorm : List Net → List Net
 | [] => []
 | n :: r => n.norm :: netsNorm r
end
theorem netsNorm_map : ∀ l : List Net, netsNorm l = l.map Net.norm
 | [] => by simp [netsNorm]
 | n :: r => by simp [netsNorm, netsNorm_map r]
/- As a normal form is. -/
mutual
def Net.wn : Net → Bool
 | .mk k op as ks => netsWn k ks && decide (k = 1 ∨ k = 4 ∨ 1 < ks.length)
def netsWn (k : Int) : List Net → Bool
 | [] => true
 | n :: r => !(decide (n.kind = k ∧ k ≠ 4)) && n.wn && netsWn k r
end
theorem netsWn_all (k : Int) : ∀ l : List Net, netsWn k l = true ↔ ∀ n ∈ l, ¬ (n.kind = k ∧ k ≠ 4) ∧ n.wn = true
 | [] => by simp [netsWn]
 | n :: r => by
  simp only [netsWn, netsWn_all k r, List.forall_mem_cons, Bool.and_eq_true, Bool.not_eq_true', decide_eq_false_iff_not]
theorem right_kids {k op : Int} {as : List Arg} {ks : List Net} (h : Net.wrong (.mk k op as ks) = 0) (hk : k ≠ 1) :
 (k = 2 ∨ k = 3 ∨ k = 4) ∧ op = 0 ∧ as = [] ∧ ks ≠ [] ∧ (k = 4 → ks.length = 1) ∧ ∀ n ∈ ks, n.wrong = 0 := by
 unfold Net.wrong at h; rw [if_neg hk] at h; split at h
 · simp at h
 · rename_i hc
   simp only [not_or, Decidable.not_not] at hc; obtain ⟨h1, h2, h3, h4⟩ := hc; refine ⟨by omega, h2.1, h2.2, fun e => h3 (by simp [e]), fun e => ?_, netsWrong_mem h⟩
   have : ¬ 1 < ks.length := fun hl => h4 ⟨e, hl⟩
   omega
theorem right_mk {k : Int} {ks : List Net} (hk : k = 2 ∨ k = 3 ∨ k = 4) (h0 : ks ≠ []) (h1 : k = 4 → ks.length = 1) (h : ∀ n ∈ ks, n.wrong = 0) : Net.wrong (.mk k 0 [] ks) = 0 := by
 unfold Net.wrong; rw [if_neg (by omega), if_neg ?_]
 · exact netsWrong_of h
 · have : ks.length ≠ 0 := fun e => h0 (List.eq_nil_of_length_eq_zero e)
   simp only [not_or, Decidable.not_not]; exact ⟨by omega, by simp, this, fun ⟨e, hl⟩ => by have := h1 e; omega⟩
theorem netsSize_append : ∀ l m : List Net, netsSize (l ++ m) = netsSize l + netsSize m
 | [], m => by simp [netsSize]
 | n :: r, m => by simp [netsSize, netsSize_append r m]; omega
theorem Net.size_eq (n : Net) : n.size = 1 + netsSize n.kids := by cases n; simp [Net.size, Net.kids]
theorem netsWt_flat_le {k : Int} : ∀ l : List Net, netsWt (l.flatMap (Net.open k)) ≤ netsWt l
 | [] => by simp [netsWt]
 | n :: r => by
  have ih := netsWt_flat_le (k := k) r; simp only [List.flatMap_cons, netsWt_append, netsWt]; have : netsWt (Net.open k n) ≤ n.wt := by
   unfold Net.open; split
   · cases n; simp [Net.kids, Net.wt]
   · simp [netsWt]
  omega
theorem netsSize_flat_le {k : Int} : ∀ l : List Net, netsSize (l.flatMap (Net.open k)) ≤ netsSize l
 | [] => by simp [netsSize]
 | n :: r => by
  have ih := netsSize_flat_le (k := k) r; simp only [List.flatMap_cons, netsSize_append, netsSize]; have : netsSize (Net.open k n) ≤ n.size := by
   unfold Net.open; split
   · rw [Net.size_eq]; omega
   · simp [netsSize]
  omega
/- What is right stays right in its normal form, which is as a normal form is, and not larger. -/
mutual
theorem norm_ok : ∀ n : Net, n.wrong = 0 → n.norm.wrong = 0 ∧ n.norm.wn = true ∧ n.norm.size ≤ n.size ∧ n.norm.wt ≤ n.wt
 | .mk k op as ks, h => by
  by_cases hk : k = 1
  · subst hk
    have hks : ks = [] := by
     unfold Net.wrong at h; rw [if_pos rfl] at h; cases ks with
     | nil => rfl
     | cons => simp at h
    subst hks; have e : Net.norm (.mk 1 op as []) = .mk 1 op as [] := by simp [Net.norm]
    rw [e]; exact ⟨h, by simp [Net.wn, netsWn], Nat.le_refl _, Nat.le_refl _⟩
  · obtain ⟨h1, rfl, rfl, h4, h5, h6⟩ := right_kids h hk
    have ih := norms_ok ks h6; have hlen : (netsNorm ks).length = ks.length := by simp [netsNorm_map]
    by_cases h4' : k = 4
    · subst h4'
      have h1l := h5 rfl; obtain ⟨x, rfl⟩ : ∃ x, ks = [x] := by
       match ks, h1l with
       | [x], _ => exact ⟨x, rfl⟩
      have e : Net.norm (.mk 4 0 [] [x]) = .mk 4 0 [] [x.norm] := by simp [Net.norm, netsNorm]
      obtain ⟨i1, i2, i3⟩ := ih; have j1 := i1 x.norm (by simp [netsNorm]); rw [e]; refine ⟨right_mk (.inr (.inr rfl)) (by simp) (fun _ => rfl) (by simpa using j1.1), ?_, ?_, ?_⟩
      · simp [Net.wn, netsWn, j1.2]
      · simp [Net.size, netsSize, netsNorm] at i2 ⊢; omega
      · simp [Net.wt, netsWt, netsNorm] at i3 ⊢; omega
    · have hk23 : k = 2 ∨ k = 3 := by omega
      have e : Net.norm (.mk k 0 [] ks) = netOf k ((netsNorm ks).flatMap (Net.open k)) := by simp [Net.norm, hk, h4']
      rw [e]; obtain ⟨i1, i2, i3⟩ := ih; have hmem : ∀ x ∈ (netsNorm ks).flatMap (Net.open k), x.wrong = 0 ∧ x.wn = true ∧ x.kind ≠ k := by
       intro x hx0; obtain ⟨y, hy, hx⟩ := List.mem_flatMap.1 hx0; obtain ⟨y1, y2⟩ := i1 y hy; unfold Net.open at hx; split at hx
       · rename_i hyk
         obtain ⟨yk, yo, ya, yks⟩ := y; simp only [Net.kind] at hyk; subst hyk; have hx : x ∈ yks := hx; have hr := (right_kids y1 hk).2.2.2.2.2 x hx; simp only [Net.wn, Bool.and_eq_true, netsWn_all] at y2; have := y2.1 x hx; exact ⟨hr, this.2, fun e => this.1 ⟨e, h4'⟩⟩
       · rename_i hyk
         simp only [List.mem_singleton] at hx; subst hx; exact ⟨y1, y2, hyk⟩
      have hne : (netsNorm ks).flatMap (Net.open k) ≠ [] := by
       intro e0; obtain ⟨y, hy⟩ : ∃ y, y ∈ netsNorm ks := by
        cases ks with
        | nil => exact absurd rfl h4
        | cons a r => exact ⟨a.norm, by simp [netsNorm]⟩
       have hy' := List.flatMap_eq_nil_iff.1 e0 y hy; unfold Net.open at hy'; split at hy'
       · rename_i hyk
         obtain ⟨yk, yo, ya, yks⟩ := y; simp only [Net.kind] at hyk; subst hyk; exact (right_kids (i1 _ hy).1 hk).2.2.2.1 hy'
       · cases hy'
      have hsz := netsSize_flat_le (k := k) (netsNorm ks); have hwt := netsWt_flat_le (k := k) (netsNorm ks); generalize (netsNorm ks).flatMap (Net.open k) = l at hmem hne hsz hwt ⊢
      match l, hne with
      | [x], _ =>
       have := hmem x (by simp); refine ⟨this.1, this.2.1, ?_, ?_⟩
       · simp [netOf, Net.size, netsSize] at hsz i2 ⊢; omega
       · simp [netOf, Net.wt, netsWt] at hwt i3 ⊢; omega
      | x :: y :: r, _ =>
       refine ⟨right_mk (by omega) (by simp) (fun e => absurd e h4') (fun n hn => (hmem n hn).1), ?_, ?_, ?_⟩
       · show Net.wn (.mk k 0 [] (x :: y :: r)) = true
         simp only [Net.wn, Bool.and_eq_true, netsWn_all]; exact ⟨fun n hn => ⟨fun e => (hmem n hn).2.2 e.1, (hmem n hn).2.1⟩, by simp⟩
       · show Net.size (.mk k 0 [] (x :: y :: r)) ≤ _
         simp only [Net.size]; omega
       · show Net.wt (.mk k 0 [] (x :: y :: r)) ≤ _
         simp only [Net.wt, List.length_nil]; omega
theorem norms_ok : ∀ l : List Net, (∀ n ∈ l, n.wrong = 0) → (∀ x ∈ netsNorm l, x.wrong = 0 ∧ x.wn = true) ∧ netsSize (netsNorm l) ≤ netsSize l ∧ netsWt (netsNorm l) ≤ netsWt l
 | [], h => ⟨by simp [netsNorm], by simp [netsNorm], by simp [netsNorm]⟩
 | n :: r, h => by
  have h1 := norm_ok n (h n (List.mem_cons_self ..)); have h2 := norms_ok r fun m hm => h m (List.mem_cons_of_mem _ hm)
  refine ⟨fun x hx => ?_, ?_, ?_⟩
  · simp only [netsNorm, List.mem_cons] at hx
    rcases hx with rfl | hx
    · exact ⟨h1.1, h1.2.1⟩
    · exact h2.1 x hx
  · simp only [netsNorm, netsSize]; have := h2.2.1; omega
  · simp only [netsNorm, netsWt]; have := h2.2.2; omega
end
/- What is right and as a normal form is, is its own normal form. -/
end Go.VM
