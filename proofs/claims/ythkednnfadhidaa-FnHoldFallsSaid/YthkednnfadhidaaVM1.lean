/- The value machine: how its values read in the model's world, and what keeps. Conditions: none. -/
import Derived.Test.YthkednnfadhidaaVM0
import Derived.Calls
import Derived.RowKit3
import Derived.Laws.Cells
namespace Go.VM
set_option linter.unusedVariables false

structure Inf where
  blk : Nat
  δ : Nat
  sz : Nat
  room : Nat
  real : Bool

/-- A context: the world, which cells are never written again, which blocks stamps name, where the boxes lie. -/
structure Ctx where
  w : World
  Im : Nat → Nat → Prop
  ζ : Nat → Option Nat
  β : Nat → Option Inf

/-- A value reads as data. -/
inductive Rel (w : World) (Im : Nat → Nat → Prop) (ζ : Nat → Option Nat) : Value → D → Prop
  | s (v : Value) (h : v.oneCell' = true) : Rel w Im ζ v (.s v)
  | nil (st : Nat) : Rel w Im ζ (.slice none 0 0) (.l st [])
  | e (a : Addr) : Rel w Im ζ (.slice (some a) 0 0) (.l 0 [])
  | l (st : Nat) (rows : List (List D)) (blk o cap sz : Nat) (f : Nat → Nat → Value)
      (hlen : ∀ (i : Nat) (row : List D), rows[i]? = some row → row.length = sz)
      (hcap : rows.length ≤ cap) (hb : blk < w.heap.size)
      (hcell : ∀ i j, i < rows.length → j < sz → w.cell? ⟨blk, o + i * sz + j, none⟩ = some (f i j))
      (him : ∀ i j, i < rows.length → j < sz → Im blk (o + i * sz + j))
      (hrel : ∀ (i : Nat) (row : List D) (j : Nat) (x : D), rows[i]? = some row → row[j]? = some x → Rel w Im ζ (f i j) x)
      (hst : st ≠ 0 → ζ st = some blk) : Rel w Im ζ (.slice (some ⟨blk, o, none⟩) rows.length cap) (.l st rows)

theorem Rel.oneCell {w : World} {Im : Nat → Nat → Prop} {ζ : Nat → Option Nat} {v : Value} {d : D} (h : Rel w Im ζ v d) : v.oneCell' = true := by
  cases h <;> first | assumption | rfl

theorem Rel.mono {w w' : World} {Im Im' : Nat → Nat → Prop} {ζ ζ' : Nat → Option Nat}
    (hs : w.heap.size ≤ w'.heap.size) (hi : ∀ b o, Im b o → Im' b o) (hc : ∀ b o, Im b o → w'.cell? ⟨b, o, none⟩ = w.cell? ⟨b, o, none⟩)
    (hz : ∀ t b, ζ t = some b → ζ' t = some b) {v : Value} {d : D} (h : Rel w Im ζ v d) : Rel w' Im' ζ' v d := by
  induction h with
  | s v h => exact .s v h
  | nil st => exact .nil st
  | e a => exact .e a
  | l st rows blk o cap sz f hlen hcap hb hcell him hrel hst ih =>
    exact .l st rows blk o cap sz f hlen hcap (Nat.lt_of_lt_of_le hb hs) (fun i j a b => (hc _ _ (him i j a b)).trans (hcell i j a b)) (fun i j a b => hi _ _ (him i j a b)) ih (fun h => hz _ _ (hst h))

/-- One context goes on as another: what was laid for good reads as it did. -/
structure Ctx.le (κ κ' : Ctx) : Prop where
  size : κ.w.heap.size ≤ κ'.w.heap.size
  im : ∀ b o, κ.Im b o → κ'.Im b o
  cell : ∀ b o, κ.Im b o → κ'.w.cell? ⟨b, o, none⟩ = κ.w.cell? ⟨b, o, none⟩
  z : ∀ t b, κ.ζ t = some b → κ'.ζ t = some b
  b : ∀ n i, κ.β n = some i → κ'.β n = some i

theorem Ctx.le.refl (κ : Ctx) : κ.le κ := ⟨Nat.le_refl _, fun _ _ h => h, fun _ _ _ => rfl, fun _ _ h => h, fun _ _ h => h⟩
theorem Ctx.le.trans {a b c : Ctx} (h : a.le b) (k : b.le c) : a.le c :=
  ⟨Nat.le_trans h.size k.size, fun x y e => k.im _ _ (h.im _ _ e), fun x y e => (k.cell _ _ (h.im _ _ e)).trans (h.cell _ _ e), fun t x e => k.z _ _ (h.z _ _ e), fun n i e => k.b _ _ (h.b _ _ e)⟩

def Ctx.rel (κ : Ctx) : Value → D → Prop := Rel κ.w κ.Im κ.ζ
theorem Ctx.le.rel {κ κ' : Ctx} (h : κ.le κ') {v : Value} {d : D} (r : κ.rel v d) : κ'.rel v d := Rel.mono h.size h.im h.cell h.z r

def CapRel (κ : Ctx) : Value → Cap → Prop
  | v, .d x => κ.rel v x
  | v, .ptr b off => ∃ i, κ.β b = some i ∧ i.δ = 0 ∧ v = .pointer (some ⟨i.blk, off, none⟩)

def WRel (fid : Nat → FuncId) (κ : Ctx) : Value → W → Prop
  | v, .d x => κ.rel v x
  | v, .nil => v = .slice none 0 0
  | v, .ln st rows => κ.rel v (.l st rows) ∧ v ≠ .slice none 0 0
  | v, .own b off len cap => ∃ i cap', κ.β b = some i ∧ (cap = none ∨ cap = some cap') ∧ len ≤ cap' ∧
      ((v = .slice none 0 0 ∧ len = 0 ∧ cap' = 0) ∨
       (i.real = true ∧ ∃ o, v = .slice (some ⟨i.blk, o, none⟩) len cap' ∧ (cap' = 0 ∨ (o = i.δ + off * i.sz ∧ o + cap' * i.sz ≤ i.room))))
  | v, .ptr b off => ∃ i, κ.β b = some i ∧ i.δ = 0 ∧ v = .pointer (some ⟨i.blk, off, none⟩)
  | v, .rp b j off => ∃ i, κ.β b = some i ∧ v = .pointer (some ⟨i.blk, i.δ + j * i.sz + off, none⟩)
  | v, .lp row off => ∃ (blk o : Nat) (f : Nat → Value), blk < κ.w.heap.size ∧ v = .pointer (some ⟨blk, o + off, none⟩) ∧
      ∀ (j : Nat) (x : D), row[j]? = some x → κ.Im blk (o + j) ∧ κ.w.cell? ⟨blk, o + j, none⟩ = some (f j) ∧ κ.rel (f j) x
  | v, .gp g off => v = .pointer (some ⟨g, off, none⟩)
  | v, .fn f caps => ∃ arr : Array Value, v = .func (.func (fid f)) #[] arr ∧ arr.size = caps.length ∧ ∀ (i : Nat) (c : Cap), caps[i]? = some c → ∃ x : Value, arr[i]? = some x ∧ CapRel κ x c

/-- A row of cells reads cell by cell. -/
def LRel (fid : Nat → FuncId) (κ : Ctx) (arr : Array Value) (cs : List W) : Prop :=
  arr.size = cs.length ∧ ∀ (i : Nat) (c : W), cs[i]? = some c → ∃ x : Value, arr[i]? = some x ∧ WRel fid κ x c

def PRel (fid : Nat → FuncId) (κ : Ctx) : Value → Bool × List W → Prop
  | v, (true, cs) => ∃ arr, v = .agg arr ∧ LRel fid κ arr cs
  | v, (false, [x]) => WRel fid κ v x
  | _, (false, _) => False

def VRel (fid : Nat → FuncId) (κ : Ctx) : Value → V → Prop
  | v, .w x => WRel fid κ v x
  | v, .agg cs => ∃ arr, v = .agg arr ∧ LRel fid κ arr cs
  | v, .tup vs => ∃ arr : Array Value, v = .tuple arr ∧ arr.size = vs.length ∧ ∀ (i : Nat) (p : Bool × List W), vs[i]? = some p → ∃ x : Value, arr[i]? = some x ∧ PRel fid κ x p

section
variable {fid : Nat → FuncId} {κ κ' : Ctx}

theorem CapRel.mono (h : κ.le κ') {v : Value} {c : Cap} (r : CapRel κ v c) : CapRel κ' v c := by
  cases c with
  | d x => exact h.rel r
  | ptr b off => obtain ⟨i, hi, h0, hv⟩ := r; exact ⟨i, h.b _ _ hi, h0, hv⟩

theorem WRel.mono (h : κ.le κ') {v : Value} {x : W} (r : WRel fid κ v x) : WRel fid κ' v x := by
  cases x with
  | d x => exact h.rel r
  | nil => exact r
  | ln st rows => exact ⟨h.rel r.1, r.2⟩
  | own b off len cap => obtain ⟨i, cap', hi, hc⟩ := r; exact ⟨i, cap', h.b _ _ hi, hc⟩
  | ptr b off => obtain ⟨i, hi, hv⟩ := r; exact ⟨i, h.b _ _ hi, hv⟩
  | rp b j off => obtain ⟨i, hi, hv⟩ := r; exact ⟨i, h.b _ _ hi, hv⟩
  | lp row off =>
    obtain ⟨blk, o, f, hb, hv, hr⟩ := r
    exact ⟨blk, o, f, Nat.lt_of_lt_of_le hb h.size, hv, fun j x hj => ⟨h.im _ _ (hr j x hj).1, (h.cell _ _ (hr j x hj).1).trans (hr j x hj).2.1, h.rel (hr j x hj).2.2⟩⟩
  | gp g off => exact r
  | fn f caps => obtain ⟨arr, hv, hs, hr⟩ := r; exact ⟨arr, hv, hs, fun i c hc => let ⟨x, hx, q⟩ := hr i c hc; ⟨x, hx, q.mono h⟩⟩

theorem LRel.mono (h : κ.le κ') {arr : Array Value} {cs : List W} (r : LRel fid κ arr cs) : LRel fid κ' arr cs :=
  ⟨r.1, fun i c hc => let ⟨x, hx, q⟩ := r.2 i c hc; ⟨x, hx, q.mono h⟩⟩

theorem PRel.mono (h : κ.le κ') {v : Value} {p : Bool × List W} (r : PRel fid κ v p) : PRel fid κ' v p := by
  obtain ⟨b, cs⟩ := p
  cases b with
  | true => obtain ⟨arr, hv, q⟩ := r; exact ⟨arr, hv, q.mono h⟩
  | false => match cs, r with
    | [x], r => exact WRel.mono h r

theorem VRel.mono (h : κ.le κ') {v : Value} {x : V} (r : VRel fid κ v x) : VRel fid κ' v x := by
  cases x with
  | w x => exact WRel.mono h r
  | agg cs => obtain ⟨arr, hv, q⟩ := r; exact ⟨arr, hv, q.mono h⟩
  | tup vs => obtain ⟨arr, hv, hs, hr⟩ := r; exact ⟨arr, hv, hs, fun i p hp => let ⟨x, hx, q⟩ := hr i p hp; ⟨x, hx, q.mono h⟩⟩

theorem WRel.oneCell {v : Value} {x : W} (r : WRel fid κ v x) : v.oneCell' = true := by
  cases x with
  | d x => exact Rel.oneCell r
  | nil => cases r; rfl
  | ln st rows => exact Rel.oneCell r.1
  | own b off len cap => obtain ⟨i, cap', _, _, _, h | ⟨_, o, h, _⟩⟩ := r <;> (first | (obtain ⟨rfl, _, _⟩ := h; rfl) | (subst h; rfl))
  | ptr b off => obtain ⟨i, _, _, rfl⟩ := r; rfl
  | rp b j off => obtain ⟨i, _, rfl⟩ := r; rfl
  | lp row off => obtain ⟨blk, o, f, _, rfl, _⟩ := r; rfl
  | gp g off => cases r; rfl
  | fn f caps => obtain ⟨arr, rfl, _⟩ := r; rfl

theorem oneCell_cells {v : Value} (h : v.oneCell' = true) : v.cells = #[v] := by
  cases v <;> first | rfl | (simp [Value.oneCell'] at h)

/-- The cells of a value. -/
theorem VRel.cells {v : Value} {x : V} (r : VRel fid κ v x) {cs : List W} (hc : x.cells? = some cs) : LRel fid κ v.cells cs := by
  cases x with
  | w x =>
    simp only [V.cells?, Option.some.injEq] at hc; subst hc
    rw [oneCell_cells (WRel.oneCell r)]
    refine ⟨rfl, fun i c hi => ?_⟩
    match i with
    | 0 => simp at hi; subst hi; exact ⟨v, rfl, r⟩
    | i + 1 => simp at hi
  | agg cs' =>
    simp only [V.cells?, Option.some.injEq] at hc; subst hc
    obtain ⟨arr, rfl, q⟩ := r; exact q
  | tup vs => simp [V.cells?] at hc
end

end Go.VM
