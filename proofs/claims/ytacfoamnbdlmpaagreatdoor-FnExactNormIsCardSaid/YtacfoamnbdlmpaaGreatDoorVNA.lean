/- Ladders as data: operands, contacts, nets, arms. Conditions: none. -/
import Derived.Test.YtacfoamnbdlmpaaGreatDoorVMA

namespace Go.VM
set_option linter.unusedVariables false

structure Arg where
  k : Int
  n : Int
  p : Int
  deriving DecidableEq
structure El where
  op : Int
  as : List Arg
  deriving DecidableEq
inductive Net where
  | mk (kind op : Int) (as : List Arg) (kids : List Net)
inductive Arm where
  | mk (net : Net) (coils : List El) (kids : List Arm)

abbrev iD (n : Int) : D := .s (.int .i64 n)
def Arg.row (a : Arg) : List D := [iD a.k, iD a.n, iD a.p]
def argRows (l : List Arg) : List (List D) := l.map Arg.row
def El.row (e : El) : List D := [iD e.op, .l 0 (argRows e.as)]
def elRows (l : List El) : List (List D) := l.map El.row
mutual
def Net.row : Net → List D
  | .mk k op as ks => [iD k, iD op, .l 0 (argRows as), .l 0 (netRows ks)]
def netRows : List Net → List (List D)
  | [] => []
  | n :: r => n.row :: netRows r
end
mutual
def Arm.row : Arm → List D
  | .mk (.mk k op as nks) cs ks => [iD k, iD op, .l 0 (argRows as), .l 0 (netRows nks), .l 0 (elRows cs), .l 0 (armRows ks)]
def armRows : List Arm → List (List D)
  | [] => []
  | n :: r => n.row :: armRows r
end
theorem netRows_map : ∀ l : List Net, netRows l = l.map Net.row
  | [] => by simp [netRows]
  | n :: r => by simp [netRows, netRows_map r]
theorem armRows_map : ∀ l : List Arm, armRows l = l.map Arm.row
  | [] => by simp [armRows]
  | n :: r => by simp [armRows, armRows_map r]

/-! how much there is of it -/
def El.wt (e : El) : Nat := 1 + e.as.length
def elsWt : List El → Nat
  | [] => 0
  | e :: r => e.wt + elsWt r
mutual
def Net.wt : Net → Nat
  | .mk _ _ as ks => 1 + as.length + netsWt ks
def netsWt : List Net → Nat
  | [] => 0
  | n :: r => n.wt + netsWt r
end
mutual
def Arm.wt : Arm → Nat
  | .mk n cs ks => 1 + n.wt + elsWt cs + armsWt ks
def armsWt : List Arm → Nat
  | [] => 0
  | n :: r => n.wt + armsWt r
end
theorem Net.wt_pos (n : Net) : 0 < n.wt := by cases n; simp [Net.wt]; omega
theorem Arm.wt_pos (a : Arm) : 0 < a.wt := by cases a with | mk n cs ks => simp [Arm.wt]; omega
theorem netsWt_len : ∀ l : List Net, l.length ≤ netsWt l
  | [] => by simp [netsWt]
  | n :: r => by have := netsWt_len r; have := n.wt_pos; simp [netsWt]; omega
theorem armsWt_len : ∀ l : List Arm, l.length ≤ armsWt l
  | [] => by simp [armsWt]
  | n :: r => by have := armsWt_len r; have := n.wt_pos; simp [armsWt]; omega
theorem elsWt_len : ∀ l : List El, l.length ≤ elsWt l
  | [] => by simp [elsWt]
  | n :: r => by have := elsWt_len r; simp [elsWt, El.wt]; omega
theorem netsWt_mem : ∀ {l : List Net} {n : Net}, n ∈ l → n.wt ≤ netsWt l
  | m :: r, n, h => by
    rcases List.mem_cons.1 h with rfl | h
    · simp [netsWt]
    · have := netsWt_mem h; simp [netsWt]; omega
theorem armsWt_mem : ∀ {l : List Arm} {n : Arm}, n ∈ l → n.wt ≤ armsWt l
  | m :: r, n, h => by
    rcases List.mem_cons.1 h with rfl | h
    · simp [armsWt]
    · have := armsWt_mem h; simp [armsWt]; omega
theorem elsWt_mem : ∀ {l : List El} {n : El}, n ∈ l → n.wt ≤ elsWt l
  | m :: r, n, h => by
    rcases List.mem_cons.1 h with rfl | h
    · simp [elsWt]
    · have := elsWt_mem h; simp [elsWt]; omega
theorem netsWt_append : ∀ l m : List Net, netsWt (l ++ m) = netsWt l + netsWt m
  | [], m => by simp [netsWt]
  | n :: r, m => by simp [netsWt, netsWt_append r m]; omega
theorem armsWt_append : ∀ l m : List Arm, armsWt (l ++ m) = armsWt l + armsWt m
  | [], m => by simp [armsWt]
  | n :: r, m => by simp [armsWt, armsWt_append r m]; omega
theorem elsWt_append : ∀ l m : List El, elsWt (l ++ m) = elsWt l + elsWt m
  | [], m => by simp [elsWt]
  | n :: r, m => by simp [elsWt, elsWt_append r m]; omega

@[simp] theorem argRows_length (l : List Arg) : (argRows l).length = l.length := by simp [argRows]
@[simp] theorem elRows_length (l : List El) : (elRows l).length = l.length := by simp [elRows]
@[simp] theorem netRows_length (l : List Net) : (netRows l).length = l.length := by simp [netRows_map]
@[simp] theorem armRows_length (l : List Arm) : (armRows l).length = l.length := by simp [armRows_map]
theorem argRows_get {l : List Arg} {i : Nat} {a : Arg} (h : l[i]? = some a) : (argRows l)[i]? = some [iD a.k, iD a.n, iD a.p] := by simp [argRows, h, Arg.row]
theorem elRows_get {l : List El} {i : Nat} {e : El} (h : l[i]? = some e) : (elRows l)[i]? = some [iD e.op, .l 0 (argRows e.as)] := by simp [elRows, h, El.row]
theorem netRows_get {l : List Net} {i : Nat} {k op : Int} {as : List Arg} {ks : List Net} (h : l[i]? = some (.mk k op as ks)) : (netRows l)[i]? = some [iD k, iD op, .l 0 (argRows as), .l 0 (netRows ks)] := by simp [netRows_map, h, Net.row]
theorem armRows_get {l : List Arm} {i : Nat} {k op : Int} {as : List Arg} {nks : List Net} {cs : List El} {ks : List Arm} (h : l[i]? = some (.mk (.mk k op as nks) cs ks)) :
    (armRows l)[i]? = some [iD k, iD op, .l 0 (argRows as), .l 0 (netRows nks), .l 0 (elRows cs), .l 0 (armRows ks)] := by simp [armRows_map, h, Arm.row]

end Go.VM

/- Ladders: which operands, contacts, coils, nets and arms are right, and their normal form; in plain words. Conditions: none. -/
namespace Go.VM
set_option linter.unusedVariables false
set_option linter.unusedSimpArgs false

def devSize (k : Int) : Int :=
  if k = 1 then 32 else if k = 2 then 32 else if k = 3 then 64 else if k = 4 then 16 else if k = 5 then 32 else if k = 6 then 5 else if k = 7 then 16 else if k = 8 then 16 else if k = 9 then 32 else if k = 10 then 16 else 0
def Arg.ok (a : Arg) : Bool :=
  if a.k = 11 then decide (-32768 ≤ a.n ∧ a.n ≤ 32767 ∧ a.p = 0)
  else if a.k = 12 then decide (-999999999 ≤ a.n ∧ a.n ≤ 999999999 ∧ 1 ≤ a.p ∧ a.p ≤ 6 ∧ (a.p = 1 ∨ a.n.tmod 10 ≠ 0))
  else if a.k = 13 then decide (0 ≤ a.n ∧ a.n ≤ 3 ∧ a.p = 0)
  else decide (0 ≤ a.n ∧ a.n < devSize a.k ∧ a.p = 0)
def Arg.isK (a : Arg) (l : List Int) : Bool := a.ok && l.contains a.k
def Arg.bit (a : Arg) : Bool := a.isK [1, 2, 3, 4, 6, 7, 8]
def Arg.whole (a : Arg) : Bool := a.isK [7, 8, 9, 11]
def Arg.real (a : Arg) : Bool := a.isK [10, 12, 13]
def arity (op : Int) : Int :=
  if op = 1 ∨ op = 2 ∨ (21 ≤ op ∧ op ≤ 23) ∨ op = 25 then 1 else if 31 ≤ op ∧ op ≤ 35 then 3 else if (3 ≤ op ∧ op ≤ 10) ∨ (24 ≤ op ∧ op ≤ 37) then 2 else 0
def El.contact (e : El) : Bool := match e.as with
  | [a] => decide (e.op = 1 ∨ e.op = 2) && a.bit
  | [a, b] => if e.op = 3 ∨ e.op = 4 then a.bit && b.isK [5] else decide (5 ≤ e.op ∧ e.op ≤ 10) && (a.whole && b.whole || a.real && b.real)
  | _ => false
def Arg.preset (b : Arg) : Bool := b.isK [11] && decide (0 ≤ b.n)
def El.coil (e : El) : Bool := match e.as with
  | [a] => if e.op = 21 then a.isK [2, 3] else if e.op = 22 then a.isK [2, 3, 4] else if e.op = 23 then a.isK [2, 3, 4, 7, 8] else if e.op = 25 then a.isK [4] else false
  | [a, b] => if e.op = 24 then a.isK [2, 3] && b.isK [5] else if 26 ≤ e.op ∧ e.op ≤ 28 then a.isK [7] && b.preset else if e.op = 29 then a.isK [8] && b.preset
    else if e.op = 30 then a.isK [9] && b.whole || a.isK [10] && b.real else if e.op = 36 then a.isK [10] && b.whole else if e.op = 37 then a.isK [9] && b.real else false
  | [a, b, c] => if 31 ≤ e.op ∧ e.op ≤ 34 then a.isK [9] && (b.whole && c.whole) || a.isK [10] && (b.real && c.real) else if e.op = 35 then a.isK [9] && (b.whole && c.whole) else false
  | _ => false

/-! ### nets -/
def Net.kind : Net → Int | .mk k _ _ _ => k
def Net.op : Net → Int | .mk _ o _ _ => o
def Net.as : Net → List Arg | .mk _ _ a _ => a
def Net.kids : Net → List Net | .mk _ _ _ ks => ks
mutual
def Net.size : Net → Nat
  | .mk _ _ _ ks => 1 + netsSize ks
def netsSize : List Net → Nat
  | [] => 0
  | n :: r => n.size + netsSize r
end
def Net.none (n : Net) : Bool := decide (n.kind = 0 ∧ n.op = 0 ∧ n.as = [] ∧ n.kids.length = 0)
mutual
def Net.wrong : Net → Int
  | .mk k op as ks => if k = 1 then (if 0 < ks.length then 2 else if El.contact ⟨op, as⟩ then 0 else 3)
    else if ¬ (2 ≤ k ∧ k ≤ 4) ∨ ¬ (op = 0 ∧ as = []) ∨ ks.length = 0 ∨ (k = 4 ∧ 1 < ks.length) then 2 else netsWrong ks
def netsWrong : List Net → Int
  | [] => 0
  | n :: r => if n.wrong ≠ 0 then n.wrong else netsWrong r
end
mutual
theorem Net.wrong_or : ∀ n : Net, n.wrong = 0 ∨ n.wrong = 2 ∨ n.wrong = 3
  | .mk k op as ks => by
    have := netsWrong_or ks
    unfold Net.wrong
    split
    · split
      · simp
      · split <;> simp
    · split
      · simp
      · exact this
theorem netsWrong_or : ∀ l : List Net, netsWrong l = 0 ∨ netsWrong l = 2 ∨ netsWrong l = 3
  | [] => by simp [netsWrong]
  | n :: r => by
    have h1 := Net.wrong_or n
    have h2 := netsWrong_or r
    unfold netsWrong
    split
    · exact h1
    · exact h2
end
theorem netsWrong_mem : ∀ {l : List Net}, netsWrong l = 0 → ∀ n ∈ l, n.wrong = 0
  | [], h, n, hn => by cases hn
  | m :: r, h, n, hn => by
    unfold netsWrong at h
    split at h
    · rename_i hne; exact absurd h hne
    · rename_i hz
      rcases List.mem_cons.1 hn with rfl | hn
      · simpa using hz
      · exact netsWrong_mem h n hn
theorem netsWrong_of : ∀ {l : List Net}, (∀ n ∈ l, n.wrong = 0) → netsWrong l = 0
  | [], h => by simp [netsWrong]
  | m :: r, h => by
    unfold netsWrong
    rw [if_neg (by simp [h m (List.mem_cons_self ..)])]
    exact netsWrong_of fun n hn => h n (List.mem_cons_of_mem _ hn)

/-- What a normal kid gives to the list of its parent of this kind. -/
def Net.open (k : Int) (x : Net) : List Net := if x.kind = k then x.kids else [x]
def netOf (k : Int) (l : List Net) : Net := match l with
  | [x] => x
  | l => .mk k 0 [] l
mutual
def Net.norm : Net → Net
  | .mk k op as ks => if k = 1 then .mk k op as ks else if k = 4 then .mk 4 0 [] ((netsNorm ks).take 1) else netOf k ((netsNorm ks).flatMap (Net.open k))
def netsNorm : List Net → List Net
  | [] => []
  | n :: r => n.norm :: netsNorm r
end
theorem netsNorm_map : ∀ l : List Net, netsNorm l = l.map Net.norm
  | [] => by simp [netsNorm]
  | n :: r => by simp [netsNorm, netsNorm_map r]

/- As a normal form is. -/
mutual
def Net.wn : Net → Bool
  | .mk k op as ks => netsWn k ks && decide (k = 1 ∨ k = 4 ∨ 1 < ks.length)
def netsWn (k : Int) : List Net → Bool
  | [] => true
  | n :: r => !(decide (n.kind = k ∧ k ≠ 4)) && n.wn && netsWn k r
end
theorem netsWn_all (k : Int) : ∀ l : List Net, netsWn k l = true ↔ ∀ n ∈ l, ¬ (n.kind = k ∧ k ≠ 4) ∧ n.wn = true
  | [] => by simp [netsWn]
  | n :: r => by
    simp only [netsWn, netsWn_all k r, List.forall_mem_cons, Bool.and_eq_true, Bool.not_eq_true', decide_eq_false_iff_not]

theorem right_kids {k op : Int} {as : List Arg} {ks : List Net} (h : Net.wrong (.mk k op as ks) = 0) (hk : k ≠ 1) :
    (k = 2 ∨ k = 3 ∨ k = 4) ∧ op = 0 ∧ as = [] ∧ ks ≠ [] ∧ (k = 4 → ks.length = 1) ∧ ∀ n ∈ ks, n.wrong = 0 := by
  unfold Net.wrong at h
  rw [if_neg hk] at h
  split at h
  · simp at h
  · rename_i hc
    simp only [not_or, Decidable.not_not] at hc
    obtain ⟨h1, h2, h3, h4⟩ := hc
    refine ⟨by omega, h2.1, h2.2, fun e => h3 (by simp [e]), fun e => ?_, netsWrong_mem h⟩
    have : ¬ 1 < ks.length := fun hl => h4 ⟨e, hl⟩
    omega
theorem right_mk {k : Int} {ks : List Net} (hk : k = 2 ∨ k = 3 ∨ k = 4) (h0 : ks ≠ []) (h1 : k = 4 → ks.length = 1) (h : ∀ n ∈ ks, n.wrong = 0) : Net.wrong (.mk k 0 [] ks) = 0 := by
  unfold Net.wrong
  rw [if_neg (by omega), if_neg ?_]
  · exact netsWrong_of h
  · have : ks.length ≠ 0 := fun e => h0 (List.eq_nil_of_length_eq_zero e)
    simp only [not_or, Decidable.not_not]
    exact ⟨by omega, by simp, this, fun ⟨e, hl⟩ => by have := h1 e; omega⟩

theorem netsSize_append : ∀ l m : List Net, netsSize (l ++ m) = netsSize l + netsSize m
  | [], m => by simp [netsSize]
  | n :: r, m => by simp [netsSize, netsSize_append r m]; omega
theorem Net.size_eq (n : Net) : n.size = 1 + netsSize n.kids := by cases n; simp [Net.size, Net.kids]
theorem netsWt_flat_le {k : Int} : ∀ l : List Net, netsWt (l.flatMap (Net.open k)) ≤ netsWt l
  | [] => by simp [netsWt]
  | n :: r => by
    have ih := netsWt_flat_le (k := k) r
    simp only [List.flatMap_cons, netsWt_append, netsWt]
    have : netsWt (Net.open k n) ≤ n.wt := by
      unfold Net.open
      split
      · cases n; simp [Net.kids, Net.wt]
      · simp [netsWt]
    omega
theorem netsSize_flat_le {k : Int} : ∀ l : List Net, netsSize (l.flatMap (Net.open k)) ≤ netsSize l
  | [] => by simp [netsSize]
  | n :: r => by
    have ih := netsSize_flat_le (k := k) r
    simp only [List.flatMap_cons, netsSize_append, netsSize]
    have : netsSize (Net.open k n) ≤ n.size := by
      unfold Net.open
      split
      · rw [Net.size_eq]; omega
      · simp [netsSize]
    omega

/- What is right stays right in its normal form, which is as a normal form is, and not larger. -/
mutual
theorem norm_ok : ∀ n : Net, n.wrong = 0 → n.norm.wrong = 0 ∧ n.norm.wn = true ∧ n.norm.size ≤ n.size ∧ n.norm.wt ≤ n.wt
  | .mk k op as ks, h => by
    by_cases hk : k = 1
    · subst hk
      have hks : ks = [] := by
        unfold Net.wrong at h
        rw [if_pos rfl] at h
        cases ks with
        | nil => rfl
        | cons => simp at h
      subst hks
      have e : Net.norm (.mk 1 op as []) = .mk 1 op as [] := by simp [Net.norm]
      rw [e]
      exact ⟨h, by simp [Net.wn, netsWn], Nat.le_refl _, Nat.le_refl _⟩
    · obtain ⟨h1, rfl, rfl, h4, h5, h6⟩ := right_kids h hk
      have ih := norms_ok ks h6
      have hlen : (netsNorm ks).length = ks.length := by simp [netsNorm_map]
      by_cases h4' : k = 4
      · subst h4'
        have h1l := h5 rfl
        obtain ⟨x, rfl⟩ : ∃ x, ks = [x] := by
          match ks, h1l with
          | [x], _ => exact ⟨x, rfl⟩
        have e : Net.norm (.mk 4 0 [] [x]) = .mk 4 0 [] [x.norm] := by simp [Net.norm, netsNorm]
        obtain ⟨i1, i2, i3⟩ := ih
        have j1 := i1 x.norm (by simp [netsNorm])
        rw [e]
        refine ⟨right_mk (.inr (.inr rfl)) (by simp) (fun _ => rfl) (by simpa using j1.1), ?_, ?_, ?_⟩
        · simp [Net.wn, netsWn, j1.2]
        · simp [Net.size, netsSize, netsNorm] at i2 ⊢; omega
        · simp [Net.wt, netsWt, netsNorm] at i3 ⊢; omega
      · have hk23 : k = 2 ∨ k = 3 := by omega
        have e : Net.norm (.mk k 0 [] ks) = netOf k ((netsNorm ks).flatMap (Net.open k)) := by simp [Net.norm, hk, h4']
        rw [e]
        obtain ⟨i1, i2, i3⟩ := ih
        have hmem : ∀ x ∈ (netsNorm ks).flatMap (Net.open k), x.wrong = 0 ∧ x.wn = true ∧ x.kind ≠ k := by
          intro x hx0
          obtain ⟨y, hy, hx⟩ := List.mem_flatMap.1 hx0
          obtain ⟨y1, y2⟩ := i1 y hy
          unfold Net.open at hx
          split at hx
          · rename_i hyk
            obtain ⟨yk, yo, ya, yks⟩ := y
            simp only [Net.kind] at hyk
            subst hyk
            have hx : x ∈ yks := hx
            have hr := (right_kids y1 hk).2.2.2.2.2 x hx
            simp only [Net.wn, Bool.and_eq_true, netsWn_all] at y2
            have := y2.1 x hx
            exact ⟨hr, this.2, fun e => this.1 ⟨e, h4'⟩⟩
          · rename_i hyk
            simp only [List.mem_singleton] at hx
            subst hx
            exact ⟨y1, y2, hyk⟩
        have hne : (netsNorm ks).flatMap (Net.open k) ≠ [] := by
          intro e0
          obtain ⟨y, hy⟩ : ∃ y, y ∈ netsNorm ks := by
            cases ks with
            | nil => exact absurd rfl h4
            | cons a r => exact ⟨a.norm, by simp [netsNorm]⟩
          have hy' := List.flatMap_eq_nil_iff.1 e0 y hy
          unfold Net.open at hy'
          split at hy'
          · rename_i hyk
            obtain ⟨yk, yo, ya, yks⟩ := y
            simp only [Net.kind] at hyk
            subst hyk
            exact (right_kids (i1 _ hy).1 hk).2.2.2.1 hy'
          · cases hy'
        have hsz := netsSize_flat_le (k := k) (netsNorm ks)
        have hwt := netsWt_flat_le (k := k) (netsNorm ks)
        generalize (netsNorm ks).flatMap (Net.open k) = l at hmem hne hsz hwt ⊢
        match l, hne with
        | [x], _ =>
          have := hmem x (by simp)
          refine ⟨this.1, this.2.1, ?_, ?_⟩
          · simp [netOf, Net.size, netsSize] at hsz i2 ⊢; omega
          · simp [netOf, Net.wt, netsWt] at hwt i3 ⊢; omega
        | x :: y :: r, _ =>
          refine ⟨right_mk (by omega) (by simp) (fun e => absurd e h4') (fun n hn => (hmem n hn).1), ?_, ?_, ?_⟩
          · show Net.wn (.mk k 0 [] (x :: y :: r)) = true
            simp only [Net.wn, Bool.and_eq_true, netsWn_all]
            exact ⟨fun n hn => ⟨fun e => (hmem n hn).2.2 e.1, (hmem n hn).2.1⟩, by simp⟩
          · show Net.size (.mk k 0 [] (x :: y :: r)) ≤ _
            simp only [Net.size]; omega
          · show Net.wt (.mk k 0 [] (x :: y :: r)) ≤ _
            simp only [Net.wt, List.length_nil]; omega
theorem norms_ok : ∀ l : List Net, (∀ n ∈ l, n.wrong = 0) → (∀ x ∈ netsNorm l, x.wrong = 0 ∧ x.wn = true) ∧ netsSize (netsNorm l) ≤ netsSize l ∧ netsWt (netsNorm l) ≤ netsWt l
  | [], h => ⟨by simp [netsNorm], by simp [netsNorm], by simp [netsNorm]⟩
  | n :: r, h => by
    have h1 := norm_ok n (h n (List.mem_cons_self ..))
    have h2 := norms_ok r fun m hm => h m (List.mem_cons_of_mem _ hm)
    refine ⟨fun x hx => ?_, ?_, ?_⟩
    · simp only [netsNorm, List.mem_cons] at hx
      rcases hx with rfl | hx
      · exact ⟨h1.1, h1.2.1⟩
      · exact h2.1 x hx
    · simp only [netsNorm, netsSize]; have := h2.2.1; omega
    · simp only [netsNorm, netsWt]; have := h2.2.2; omega
end

/- What is right and as a normal form is, is its own normal form. -/
mutual
theorem norm_self : ∀ n : Net, n.wrong = 0 → n.wn = true → n.norm = n
  | .mk k op as ks, h, hw => by
    by_cases hk : k = 1
    · simp [Net.norm, hk]
    · obtain ⟨h1, rfl, rfl, h4, h5, h6⟩ := right_kids h hk
      simp only [Net.wn, Bool.and_eq_true, netsWn_all] at hw
      have ih := norms_self ks h6 fun n hn => (hw.1 n hn).2
      by_cases h4' : k = 4
      · subst h4'
        have h1l := h5 rfl
        rw [Net.norm, ih, if_neg (by omega), if_pos rfl, List.take_of_length_le (by omega)]
      · simp only [Net.norm, ih]
        rw [if_neg hk, if_neg h4']
        have e : ks.flatMap (Net.open k) = ks := by
          have : ∀ l : List Net, (∀ n ∈ l, n.kind ≠ k) → l.flatMap (Net.open k) = l := by
            intro l
            induction l with
            | nil => intro _; rfl
            | cons a r ihr =>
              intro hl
              simp only [List.flatMap_cons, Net.open, if_neg (hl a (List.mem_cons_self ..))]
              rw [ihr fun n hn => hl n (List.mem_cons_of_mem _ hn)]
              rfl
          exact this ks fun n hn e => (hw.1 n hn).1 ⟨e, h4'⟩
        rw [e]
        have hlen : 1 < ks.length := by simpa [hk, h4'] using hw.2
        match ks, hlen with
        | x :: y :: r, _ => rfl
theorem norms_self : ∀ l : List Net, (∀ n ∈ l, n.wrong = 0) → (∀ n ∈ l, n.wn = true) → netsNorm l = l
  | [], _, _ => by simp [netsNorm]
  | n :: r, h, hw => by
    rw [netsNorm, norm_self n (h n (List.mem_cons_self ..)) (hw n (List.mem_cons_self ..)), norms_self r (fun m hm => h m (List.mem_cons_of_mem _ hm)) fun m hm => hw m (List.mem_cons_of_mem _ hm)]
end

end Go.VM

/- Ladders: arms, their normal form; in plain words. Conditions: none. -/
namespace Go.VM
set_option linter.unusedVariables false
set_option linter.unusedSimpArgs false

def Arm.net : Arm → Net | .mk n _ _ => n
def Arm.coils : Arm → List El | .mk _ c _ => c
def Arm.kids : Arm → List Arm | .mk _ _ ks => ks
mutual
def Arm.size : Arm → Nat
  | .mk n cs ks => 1 + cs.length + (if n.none then 0 else n.size) + armsSize ks
def armsSize : List Arm → Nat
  | [] => 0
  | a :: r => a.size + armsSize r
end
mutual
def Arm.wrong (rung : Bool) : Arm → Int
  | .mk n cs ks => if rung && n.none then 4 else if n.none = false ∧ n.wrong ≠ 0 then n.wrong else if cs.all El.coil = false then 3 else if cs.length = 0 ∧ ks.length = 0 then 5 else armsWrong ks
def armsWrong : List Arm → Int
  | [] => 0
  | a :: r => if a.wrong false ≠ 0 then a.wrong false else armsWrong r
end
def rungsWrong : List Arm → Int
  | [] => 0
  | a :: r => if a.wrong true ≠ 0 then a.wrong true else rungsWrong r
def treeCode (l : List Arm) : Int := if 40 < l.length ∨ 400 < armsSize l then 1 else rungsWrong l

def Net.join (a b : Net) : Net := if a.none then b else if b.none then a else Net.norm (.mk 2 0 [] [a, b])
def squeeze (n : Net) (cs : List El) : List Arm → Arm
  | [.mk kn kc kk] => if cs.length = 0 ∨ kn.none then squeeze (n.join kn) (cs ++ kc) kk else .mk n cs [.mk kn kc kk]
  | ks => .mk n cs ks
termination_by ks => armsWt ks
decreasing_by
  have := kn.wt_pos
  simp [armsWt, Arm.wt]; omega
mutual
def Arm.norm : Arm → Arm
  | .mk n cs ks => squeeze (if n.none then n else n.norm) cs (armsNorm ks)
def armsNorm : List Arm → List Arm
  | [] => []
  | a :: r => a.norm :: armsNorm r
end
theorem armsNorm_map : ∀ l : List Arm, armsNorm l = l.map Arm.norm
  | [] => by simp [armsNorm]
  | n :: r => by simp [armsNorm, armsNorm_map r]

mutual
def Arm.wn : Arm → Bool
  | .mk n cs ks => (decide (n.kind = 0) || n.wn) && armsWn ks && (decide (ks.length ≠ 1) || (decide (0 < cs.length) && ks.all fun k => !decide (k.net.kind = 0)))
def armsWn : List Arm → Bool
  | [] => true
  | a :: r => a.wn && armsWn r
end
theorem armsWn_all : ∀ l : List Arm, armsWn l = true ↔ ∀ a ∈ l, a.wn = true
  | [] => by simp [armsWn]
  | n :: r => by simp [armsWn, armsWn_all r]

theorem Net.none_eq {n : Net} (h : n.none = true) : n = .mk 0 0 [] [] := by
  obtain ⟨k, op, as, ks⟩ := n
  have h' : k = 0 ∧ op = 0 ∧ as = [] ∧ ks.length = 0 := of_decide_eq_true h
  obtain ⟨rfl, rfl, rfl, h2⟩ := h'
  rw [List.eq_nil_of_length_eq_zero h2]
theorem none_none : Net.none (.mk 0 0 [] []) = true := by simp [Net.none, Net.kind, Net.op, Net.as, Net.kids]
theorem right_kind {n : Net} (h : n.wrong = 0) : n.kind = 1 ∨ n.kind = 2 ∨ n.kind = 3 ∨ n.kind = 4 := by
  obtain ⟨k, op, as, ks⟩ := n
  by_cases hk : k = 1
  · exact .inl hk
  · have := (right_kids h hk).1
    simp only [Net.kind]; omega
theorem right_some {n : Net} (h : n.wrong = 0) : n.none = false := by
  have := right_kind h
  simp only [Net.none, decide_eq_false_iff_not]
  omega

/-- A net of an arm is none, or right. -/
def NetFine (n : Net) : Prop := n.none = true ∨ n.wrong = 0
theorem NetFine.kind {n : Net} (h : NetFine n) : (n.kind = 0 ↔ n.none = true) := by
  rcases h with h | h
  · rw [Net.none_eq h]; simp [Net.kind, none_none]
  · have := right_kind h
    rw [right_some h]; constructor
    · intro e; omega
    · intro e; simp at e
theorem join_ok {a b : Net} (ha : NetFine a) (hb : NetFine b) (wa : a.none = true ∨ a.wn = true) (wb : b.none = true ∨ b.wn = true) :
    NetFine (a.join b) ∧ ((a.join b).none = true ∨ (a.join b).wn = true) ∧ ((a.join b).none = true → a.none = true ∧ b.none = true) ∧
    (if (a.join b).none then 0 else (a.join b).size) ≤ (if a.none then 0 else a.size) + (if b.none then 0 else b.size) + (if a.none ∨ b.none then 0 else 1) ∧ (a.join b).wt ≤ a.wt + b.wt + 1 := by
  unfold Net.join
  by_cases h1 : a.none = true
  · simp [h1, hb, wb]
    omega
  · by_cases h2 : b.none = true
    · have wa' : a.wn = true := by rcases wa with w | w; exact absurd w h1; exact w
      simp [h1, h2, ha, wa']; omega
    · have ra : a.wrong = 0 := by rcases ha with h | h; exact absurd h h1; exact h
      have rb : b.wrong = 0 := by rcases hb with h | h; exact absurd h h2; exact h
      have hr : Net.wrong (.mk 2 0 [] [a, b]) = 0 := right_mk (.inl rfl) (by simp) (fun e => by omega) (by simp [ra, rb])
      obtain ⟨k1, k2, k3, k4⟩ := norm_ok _ hr
      have hs := right_some k1
      simp only [Bool.not_eq_true] at h1 h2
      simp only [h1, h2, Bool.false_eq_true, if_false, hs]
      simp only [Net.size, netsSize, Net.wt, netsWt, List.length_nil] at k3 k4
      refine ⟨.inr k1, .inr k2, fun h => h.elim, ?_, by omega⟩
      simp only [or_self, if_false]
      omega

/-- An arm with which nothing is wrong. -/
theorem arm_right {rung : Bool} {n : Net} {cs : List El} {ks : List Arm} (h : Arm.wrong rung (.mk n cs ks) = 0) :
    (rung = true → n.none = false) ∧ NetFine n ∧ cs.all El.coil = true ∧ ¬ (cs.length = 0 ∧ ks.length = 0) ∧ armsWrong ks = 0 := by
  unfold Arm.wrong at h
  split at h
  · simp at h
  · rename_i h1
    split at h
    · rename_i h2; exact absurd h h2.2
    · rename_i h2
      split at h
      · simp at h
      · rename_i h3
        split at h
        · simp at h
        · rename_i h4
          refine ⟨fun e => by simpa [e] using h1, ?_, by simpa using h3, h4, h⟩
          by_cases hn : n.none = true
          · exact .inl hn
          · refine .inr ?_
            by_cases hw : n.wrong = 0
            · exact hw
            · exact absurd ⟨by simpa using hn, hw⟩ h2
theorem arm_mk {rung : Bool} {n : Net} {cs : List El} {ks : List Arm} (h1 : rung = true → n.none = false) (h2 : NetFine n) (h3 : cs.all El.coil = true) (h4 : ¬ (cs.length = 0 ∧ ks.length = 0)) (h5 : armsWrong ks = 0) :
    Arm.wrong rung (.mk n cs ks) = 0 := by
  unfold Arm.wrong
  rw [if_neg, if_neg, if_neg (by simp [h3]), if_neg h4, h5]
  · rintro ⟨e1, e2⟩
    rcases h2 with h | h
    · rw [e1] at h; cases h
    · exact e2 h
  · intro e
    simp only [Bool.and_eq_true] at e
    have := h1 e.1
    rw [e.2] at this; cases this
theorem arm_weak {a : Arm} (h : a.wrong true = 0) : a.wrong false = 0 := by
  obtain ⟨n, cs, ks⟩ := a
  obtain ⟨h1, h2, h3, h4, h5⟩ := arm_right h
  exact arm_mk (fun e => by cases e) h2 h3 h4 h5
theorem armsWrong_all : ∀ l : List Arm, armsWrong l = 0 ↔ ∀ a ∈ l, a.wrong false = 0
  | [] => by simp [armsWrong]
  | a :: r => by
    unfold armsWrong
    by_cases h : a.wrong false = 0
    · simp [h, armsWrong_all r]
    · simp [h]
theorem rungsWrong_all : ∀ l : List Arm, rungsWrong l = 0 ↔ ∀ a ∈ l, a.wrong true = 0
  | [] => by simp [rungsWrong]
  | a :: r => by
    unfold rungsWrong
    by_cases h : a.wrong true = 0
    · simp [h, rungsWrong_all r]
    · simp [h]

theorem elsWt_le_append (l m : List El) : elsWt (l ++ m) = elsWt l + elsWt m := elsWt_append l m

theorem squeeze_ok (rung : Bool) : ∀ (n : Net) (cs : List El) (ks : List Arm), Arm.wrong rung (.mk n cs ks) = 0 → (n.none = true ∨ n.wn = true) → (∀ a ∈ ks, a.wn = true) →
    (squeeze n cs ks).wrong rung = 0 ∧ (squeeze n cs ks).wn = true ∧ (squeeze n cs ks).size ≤ (Arm.mk n cs ks).size ∧ (squeeze n cs ks).wt ≤ (Arm.mk n cs ks).wt
  | n, cs, [.mk kn kc kk], h, hn, hk => by
    obtain ⟨h1, h2, h3, h4, h5⟩ := arm_right h
    have hkr := (armsWrong_all _).1 h5 (.mk kn kc kk) (by simp)
    obtain ⟨g1, g2, g3, g4, g5⟩ := arm_right hkr
    have hkw := hk (.mk kn kc kk) (by simp)
    simp only [Arm.wn, Bool.and_eq_true, armsWn_all] at hkw
    obtain ⟨⟨w1, w2⟩, w3⟩ := hkw
    by_cases hc : cs.length = 0 ∨ kn.none = true
    · rw [squeeze, if_pos hc]
      have wk : kn.none = true ∨ kn.wn = true := by
        simp only [Bool.or_eq_true, decide_eq_true_eq] at w1
        rcases w1 with w | w
        · exact .inl (g2.kind.1 w)
        · exact .inr w
      obtain ⟨j1, j2, j3, j4, j5⟩ := join_ok h2 g2 hn wk
      have hr : Arm.wrong rung (.mk (n.join kn) (cs ++ kc) kk) = 0 := by
        refine arm_mk (fun e => ?_) j1 (by simp [h3, g3]) (fun e => g4 ⟨by have := e.1; simp at this; simp [this.2], e.2⟩) g5
        cases hj : (n.join kn).none with
        | false => rfl
        | true => have := h1 e; rw [(j3 hj).1] at this; cases this
      obtain ⟨k1, k2, k3, k4⟩ := squeeze_ok rung (n.join kn) (cs ++ kc) kk hr j2 w2
      refine ⟨k1, k2, Nat.le_trans k3 ?_, Nat.le_trans k4 ?_⟩
      · simp only [Arm.size, armsSize, List.length_append]
        have : (if n.none = true ∨ kn.none = true then 0 else 1) ≤ 1 := by split <;> omega
        omega
      · simp only [Arm.wt, armsWt, elsWt_append]
        omega
    · rw [squeeze, if_neg hc]
      refine ⟨h, ?_, Nat.le_refl _, Nat.le_refl _⟩
      simp only [not_or] at hc
      have hk0 : ¬ kn.kind = 0 := fun e => hc.2 (g2.kind.1 e)
      simp only [Arm.wn, Bool.and_eq_true, armsWn_all, Bool.or_eq_true, decide_eq_true_eq]
      refine ⟨⟨?_, hk⟩, .inr ⟨by omega, by simp [Arm.net, hk0]⟩⟩
      rcases hn with hn | hn
      · exact .inl (h2.kind.2 hn)
      · exact .inr hn
  | n, cs, [], h, hn, hk => by
    obtain ⟨h1, h2, h3, h4, h5⟩ := arm_right h
    rw [squeeze]
    · refine ⟨h, ?_, Nat.le_refl _, Nat.le_refl _⟩
      simp only [Arm.wn, Bool.and_eq_true, armsWn_all, Bool.or_eq_true, decide_eq_true_eq]
      refine ⟨⟨?_, hk⟩, .inl (by simp)⟩
      rcases hn with hn | hn
      · exact .inl (h2.kind.2 hn)
      · exact .inr hn
    · simp
  | n, cs, a :: b :: r, h, hn, hk => by
    obtain ⟨h1, h2, h3, h4, h5⟩ := arm_right h
    rw [squeeze]
    · refine ⟨h, ?_, Nat.le_refl _, Nat.le_refl _⟩
      simp only [Arm.wn, Bool.and_eq_true, armsWn_all, Bool.or_eq_true, decide_eq_true_eq]
      refine ⟨⟨?_, hk⟩, .inl (by simp)⟩
      rcases hn with hn | hn
      · exact .inl (h2.kind.2 hn)
      · exact .inr hn
    · simp
termination_by n cs ks => armsWt ks
decreasing_by
  simp [armsWt, Arm.wt]; omega

mutual
theorem arm_norm_ok (rung : Bool) : ∀ a : Arm, a.wrong rung = 0 → a.norm.wrong rung = 0 ∧ a.norm.wn = true ∧ a.norm.size ≤ a.size ∧ a.norm.wt ≤ a.wt
  | .mk n cs ks, h => by
    obtain ⟨h1, h2, h3, h4, h5⟩ := arm_right h
    obtain ⟨i1, i2, i3⟩ := arms_norm_ok ks ((armsWrong_all _).1 h5)
    have hf : NetFine (if n.none then n else n.norm) ∧ ((if n.none then n else n.norm).none = n.none) ∧ ((if n.none then n else n.norm).none = true ∨ (if n.none then n else n.norm).wn = true) ∧
        (if (if n.none then n else n.norm).none then 0 else (if n.none then n else n.norm).size) ≤ (if n.none then 0 else n.size) ∧ (if n.none then n else n.norm).wt ≤ n.wt := by
      by_cases hn : n.none = true
      · simp [hn]; exact .inl hn
      · have hr : n.wrong = 0 := by rcases h2 with h | h; exact absurd h hn; exact h
        obtain ⟨k1, k2, k3, k4⟩ := norm_ok n hr
        simp only [Bool.not_eq_true] at hn
        simp only [hn, Bool.false_eq_true, if_false, right_some k1]
        exact ⟨.inr k1, trivial, .inr k2, k3, k4⟩
    obtain ⟨f1, f2, f3, f4, f5⟩ := hf
    have hlen : (armsNorm ks).length = ks.length := by simp [armsNorm_map]
    have hw : Arm.wrong rung (.mk (if n.none then n else n.norm) cs (armsNorm ks)) = 0 :=
      arm_mk (fun e => by rw [f2]; exact h1 e) f1 h3 (by rw [hlen]; exact h4) ((armsWrong_all _).2 fun a ha => (i1 a ha).1)
    obtain ⟨q1, q2, q3, q4⟩ := squeeze_ok rung _ cs (armsNorm ks) hw f3 fun a ha => (i1 a ha).2
    have e : Arm.norm (.mk n cs ks) = squeeze (if n.none then n else n.norm) cs (armsNorm ks) := by simp [Arm.norm]
    rw [e]
    refine ⟨q1, q2, Nat.le_trans q3 ?_, Nat.le_trans q4 ?_⟩
    · simp only [Arm.size]; omega
    · simp only [Arm.wt]; omega
theorem arms_norm_ok : ∀ l : List Arm, (∀ a ∈ l, a.wrong false = 0) → (∀ a ∈ armsNorm l, a.wrong false = 0 ∧ a.wn = true) ∧ armsSize (armsNorm l) ≤ armsSize l ∧ armsWt (armsNorm l) ≤ armsWt l
  | [], h => ⟨by simp [armsNorm], by simp [armsNorm], by simp [armsNorm]⟩
  | a :: r, h => by
    have h1 := arm_norm_ok false a (h a (List.mem_cons_self ..))
    have h2 := arms_norm_ok r fun m hm => h m (List.mem_cons_of_mem _ hm)
    refine ⟨fun x hx => ?_, ?_, ?_⟩
    · simp only [armsNorm, List.mem_cons] at hx
      rcases hx with rfl | hx
      · exact ⟨h1.1, h1.2.1⟩
      · exact h2.1 x hx
    · simp only [armsNorm, armsSize]; have := h2.2.1; omega
    · simp only [armsNorm, armsWt]; have := h2.2.2; omega
end

mutual
theorem arm_norm_self (rung : Bool) : ∀ a : Arm, a.wrong rung = 0 → a.wn = true → a.norm = a
  | .mk n cs ks, h, hw => by
    obtain ⟨h1, h2, h3, h4, h5⟩ := arm_right h
    simp only [Arm.wn, Bool.and_eq_true, armsWn_all, Bool.or_eq_true, decide_eq_true_eq] at hw
    obtain ⟨⟨w1, w2⟩, w3⟩ := hw
    have hk := (armsWrong_all _).1 h5
    have ih := arms_norm_self ks hk w2
    have hn : (if n.none then n else n.norm) = n := by
      by_cases hn : n.none = true
      · simp [hn]
      · rw [if_neg hn]
        have hr : n.wrong = 0 := by rcases h2 with h | h; exact absurd h hn; exact h
        rcases w1 with w | w
        · exact absurd (h2.kind.1 w) hn
        · exact norm_self n hr w
    have e : Arm.norm (.mk n cs ks) = squeeze (if n.none then n else n.norm) cs (armsNorm ks) := by simp [Arm.norm]
    rw [e, hn, ih]
    match ks, hk, w3 with
    | [], _, _ => rw [squeeze]; simp
    | a :: b :: r, _, _ => rw [squeeze]; simp
    | [.mk kn kc kk], hk, w3 =>
      rw [squeeze, if_neg]
      rcases w3 with w3 | ⟨w3, w4⟩
      · simp at w3
      · have g2 := (arm_right (hk _ (List.mem_singleton.2 rfl))).2.1
        simp [Arm.net] at w4
        intro hc
        rcases hc with hc | hc
        · omega
        · exact of_decide_eq_false w4 (g2.kind.2 hc)
theorem arms_norm_self : ∀ l : List Arm, (∀ a ∈ l, a.wrong false = 0) → (∀ a ∈ l, a.wn = true) → armsNorm l = l
  | [], _, _ => by simp [armsNorm]
  | a :: r, h, hw => by
    rw [armsNorm, arm_norm_self false a (h a (List.mem_cons_self ..)) (hw a (List.mem_cons_self ..)), arms_norm_self r (fun m hm => h m (List.mem_cons_of_mem _ hm)) fun m hm => hw m (List.mem_cons_of_mem _ hm)]
end

/-! ### operands counted -/
def El.uses (a : Arg) (e : El) : Nat := e.as.count a
mutual
def Net.uses (a : Arg) : Net → Nat
  | .mk _ _ as ks => as.count a + netsUses a ks
def netsUses (a : Arg) : List Net → Nat
  | [] => 0
  | n :: r => n.uses a + netsUses a r
end
def elsUses (a : Arg) : List El → Nat
  | [] => 0
  | e :: r => e.uses a + elsUses a r
mutual
def Arm.uses (a : Arg) : Arm → Nat
  | .mk n cs ks => n.uses a + elsUses a cs + armsUses a ks
def armsUses (a : Arg) : List Arm → Nat
  | [] => 0
  | m :: r => m.uses a + armsUses a r
end
theorem netsUses_append (a : Arg) : ∀ l m : List Net, netsUses a (l ++ m) = netsUses a l + netsUses a m
  | [], m => by simp [netsUses]
  | n :: r, m => by simp [netsUses, netsUses_append a r m]; omega
theorem elsUses_append (a : Arg) : ∀ l m : List El, elsUses a (l ++ m) = elsUses a l + elsUses a m
  | [], m => by simp [elsUses]
  | n :: r, m => by simp [elsUses, elsUses_append a r m]; omega
theorem netsUses_flat (a : Arg) {k : Int} (hk : k ≠ 1) : ∀ l : List Net, (∀ n ∈ l, n.wrong = 0) → netsUses a (l.flatMap (Net.open k)) = netsUses a l
  | [], h => by simp [netsUses]
  | n :: r, h => by
    simp only [List.flatMap_cons, netsUses_append, netsUses, netsUses_flat a hk r fun m hm => h m (List.mem_cons_of_mem _ hm)]
    congr 1
    unfold Net.open
    split
    · rename_i hn
      obtain ⟨nk, no, na, nks⟩ := n
      simp only [Net.kind] at hn
      subst hn
      have := (right_kids (h _ (List.mem_cons_self ..)) hk).2.2.1
      simp [Net.kids, Net.uses, this]
    · simp [netsUses]
mutual
theorem norm_uses (a : Arg) : ∀ n : Net, n.wrong = 0 → n.norm.uses a = n.uses a
  | .mk k op as ks, h => by
    by_cases hk : k = 1
    · subst hk; simp [Net.norm]
    · obtain ⟨h1, rfl, rfl, h4, h5, h6⟩ := right_kids h hk
      have ih := norms_uses a ks h6
      by_cases h4' : k = 4
      · subst h4'
        have h1l := h5 rfl
        match ks, h1l with
        | [x], _ => simpa [Net.norm, netsNorm, Net.uses, netsUses] using ih
      · have e : Net.norm (.mk k 0 [] ks) = netOf k ((netsNorm ks).flatMap (Net.open k)) := by simp [Net.norm, hk, h4']
        have e2 : ∀ l : List Net, (netOf k l).uses a = netsUses a l := by
          intro l
          match l with
          | [] => simp [netOf, Net.uses, netsUses]
          | [x] => simp [netOf, netsUses]
          | x :: y :: r => simp [netOf, Net.uses]
        rw [e, e2, netsUses_flat a hk _ fun x hx => ((norms_ok ks h6).1 x hx).1, ih]
        simp [Net.uses]
theorem norms_uses (a : Arg) : ∀ l : List Net, (∀ n ∈ l, n.wrong = 0) → netsUses a (netsNorm l) = netsUses a l
  | [], h => by simp [netsNorm]
  | n :: r, h => by simp only [netsNorm, netsUses, norm_uses a n (h n (List.mem_cons_self ..)), norms_uses a r fun m hm => h m (List.mem_cons_of_mem _ hm)]
end
theorem join_uses (a : Arg) {m n : Net} (hm : NetFine m) (hn : NetFine n) : (m.join n).uses a = m.uses a + n.uses a := by
  have z : Net.uses a (.mk 0 0 [] []) = 0 := by simp [Net.uses, netsUses]
  unfold Net.join
  by_cases h1 : m.none = true
  · rw [if_pos h1, Net.none_eq h1, z, Nat.zero_add]
  · rw [if_neg h1]
    by_cases h2 : n.none = true
    · rw [if_pos h2, Net.none_eq h2, z, Nat.add_zero]
    · rw [if_neg h2]
      have ra : m.wrong = 0 := by rcases hm with h | h; exact absurd h h1; exact h
      have rb : n.wrong = 0 := by rcases hn with h | h; exact absurd h h2; exact h
      rw [norm_uses a _ (right_mk (.inl rfl) (by simp) (fun e => by omega) (by simp [ra, rb]))]
      simp [Net.uses, netsUses]
theorem squeeze_uses (a : Arg) : ∀ (n : Net) (cs : List El) (ks : List Arm), NetFine n → (∀ k ∈ ks, k.wrong false = 0) → (n.none = true ∨ n.wn = true) → (∀ k ∈ ks, k.wn = true) → (squeeze n cs ks).uses a = (Arm.mk n cs ks).uses a
  | n, cs, [.mk kn kc kk], hn, hk, hw, hkw => by
    obtain ⟨g1, g2, g3, g4, g5⟩ := arm_right (hk (.mk kn kc kk) (by simp))
    have hkw' := hkw (.mk kn kc kk) (by simp)
    simp only [Arm.wn, Bool.and_eq_true, armsWn_all] at hkw'
    obtain ⟨⟨w1, w2⟩, w3⟩ := hkw'
    have wk : kn.none = true ∨ kn.wn = true := by
      simp only [Bool.or_eq_true, decide_eq_true_eq] at w1
      rcases w1 with w | w
      · exact .inl (g2.kind.1 w)
      · exact .inr w
    by_cases hc : cs.length = 0 ∨ kn.none = true
    · rw [squeeze, if_pos hc, squeeze_uses a (n.join kn) (cs ++ kc) kk (join_ok hn g2 hw wk).1 ((armsWrong_all _).1 g5) (join_ok hn g2 hw wk).2.1 w2]
      simp only [Arm.uses, armsUses, join_uses a hn g2, elsUses_append]
      omega
    · rw [squeeze, if_neg hc]
  | n, cs, [], hn, hk, hw, hkw => by rw [squeeze]; simp
  | n, cs, x :: y :: r, hn, hk, hw, hkw => by rw [squeeze]; simp
termination_by n cs ks => armsWt ks
decreasing_by
  simp [armsWt, Arm.wt]; omega
mutual
theorem arm_uses (a : Arg) (rung : Bool) : ∀ m : Arm, m.wrong rung = 0 → m.norm.uses a = m.uses a
  | .mk n cs ks, h => by
    obtain ⟨h1, h2, h3, h4, h5⟩ := arm_right h
    have hk := (armsWrong_all _).1 h5
    have ih := arms_uses a ks hk
    obtain ⟨i1, _, _⟩ := arms_norm_ok ks hk
    have e : Arm.norm (.mk n cs ks) = squeeze (if n.none then n else n.norm) cs (armsNorm ks) := by simp [Arm.norm]
    rw [e]
    by_cases hn : n.none = true
    · rw [if_pos hn, squeeze_uses a n cs _ h2 (fun k hk => (i1 k hk).1) (.inl hn) (fun k hk => (i1 k hk).2)]
      simp only [Arm.uses, ih]
    · rw [if_neg hn]
      have hr : n.wrong = 0 := by rcases h2 with h | h; exact absurd h hn; exact h
      obtain ⟨k1, k2, _⟩ := norm_ok n hr
      rw [squeeze_uses a n.norm cs _ (.inr k1) (fun k hk => (i1 k hk).1) (.inr k2) (fun k hk => (i1 k hk).2)]
      simp only [Arm.uses, ih, norm_uses a n hr]
theorem arms_uses (a : Arg) : ∀ l : List Arm, (∀ m ∈ l, m.wrong false = 0) → armsUses a (armsNorm l) = armsUses a l
  | [], h => by simp [armsNorm]
  | m :: r, h => by simp only [armsNorm, armsUses, arm_uses a false m (h m (List.mem_cons_self ..)), arms_uses a r fun k hk => h k (List.mem_cons_of_mem _ hk)]
end

end Go.VM
