/- Lists of instructions out of ladders, in plain words: they pass the check exactly when they fit; they fall apart into rungs. Conditions: none. -/
import Derived.Test.YtcjdokngpmnkjaaGreatDoorVW0

namespace Go.VM
set_option linter.unusedVariables false
def needsI (c : Int) : Int := if c = 1 then 0 else if c = 4 ∨ c = 5 then 2 else 1
def El.bareB (e : El) : Bool := decide (e.op = 0 ∧ e.as = [])
def Ins.ok (i : Ins) : Bool := if 1 ≤ i.c ∧ i.c ≤ 3 then i.e.contact else if i.c = 10 then i.e.coil else decide (4 ≤ i.c ∧ i.c ≤ 11) && i.e.bareB
structure CS where
 b : Int
 f : Int
 based : Bool
 coil : Bool
def CS.wrong (s : CS) (i : Ins) : Int :=
 if i.ok = false then 2 else if s.b < needsI i.c then 3 else if i.c = 1 ∧ 16 ≤ s.b then 4 else if 7 ≤ i.c ∧ 1 < s.b then 5
 else if s.based = true ∧ ((i.c = 3 ∨ i.c = 6) ∧ s.b = 1 ∨ i.c = 5 ∧ s.b = 2) then 6
 else if (i.c = 7 ∧ 8 ≤ s.f) ∨ ((i.c = 8 ∨ i.c = 9) ∧ s.f = 0) ∨ (i.c = 11 ∧ s.f ≠ 0) then 7
 else if (i.c = 8 ∨ i.c = 9 ∨ i.c = 11) ∧ s.coil = false then 8 else 0
def CS.next (s : CS) (i : Ins) : CS :=
 ⟨(behind (s.b, s.f) i.c).1, (behind (s.b, s.f) i.c).2, decide (i.c ≠ 11) && (s.based || decide (i.c = 10) || decide (i.c = 7)), decide (i.c = 10)⟩
def checkFrom (s : CS) (k : Nat) : List Ins → Int × Nat
 | [] => if s.b ≠ 0 then (9, k) else (0, 0)
 | i :: r => if s.wrong i ≠ 0 then (s.wrong i, k) else checkFrom (s.next i) (k + 1) r
def checkL (l : List Ins) : Int × Nat := if 1000 < l.length then (1, 0) else checkFrom ⟨0, 0, false, false⟩ 0 l
def Pass (l : List Ins) (s t : CS) : Prop := ∀ (k : Nat) (r : List Ins), checkFrom s k (l ++ r) = checkFrom t (k + l.length) r
theorem Pass.nil (s : CS) : Pass [] s s := fun k r => rfl
theorem Pass.append {l l' : List Ins} {s t u : CS} (h : Pass l s t) (h' : Pass l' t u) : Pass (l ++ l') s u := fun k r => by
 rw [List.append_assoc, h, h', List.length_append, Nat.add_assoc]
theorem Pass.one {i : Ins} {s t : CS} (h : s.wrong i = 0) (ht : s.next i = t) : Pass [i] s t := fun k r => by
 show checkFrom s k (i :: r) = _
 rw [checkFrom, if_neg (by simp [h]), ht]
 rfl
theorem kd5 {s : CS} {i : Ins} (h0 : i.ok = true) (h1 : needsI i.c ≤ s.b) (h2 : i.c = 1 → s.b < 16) (h3 : 7 ≤ i.c → s.b ≤ 1) (h4 : s.based = true → ¬ ((i.c = 3 ∨ i.c = 6) ∧ s.b = 1) ∧ ¬ (i.c = 5 ∧ s.b = 2))
 (h5 : i.c = 7 → s.f < 8) (h6 : i.c = 8 ∨ i.c = 9 → s.f ≠ 0) (h7 : i.c = 11 → s.f = 0) (h8 : i.c = 8 ∨ i.c = 9 ∨ i.c = 11 → s.coil = true) : s.wrong i = 0 := by
 unfold CS.wrong; rw [if_neg (by simp [h0]), if_neg (by omega), if_neg (by omega), if_neg (by omega), if_neg, if_neg, if_neg]
 · rintro ⟨a, b⟩; have := h8 a; rw [b] at this; cases this
 · rintro (⟨a, b⟩ | ⟨a, b⟩ | ⟨a, b⟩)
   · have := h5 a; omega
   · exact h6 a b
   · exact b (h7 a)
 · rintro ⟨a, b⟩
   obtain ⟨p, q⟩ := h4 a; rcases b with b | b
   · exact p b
   · exact q b
theorem next_ld {b f : Int} {B co : Bool} {e : El} : (CS.mk b f B co).next ⟨1, e⟩ = ⟨b + 1, f, B, false⟩ := by simp [CS.next, behind]
theorem kD8 {b f c : Int} {B co : Bool} {e : El} (h : c = 2 ∨ c = 3 ∨ c = 6) : (CS.mk b f B co).next ⟨c, e⟩ = ⟨b, f, B, false⟩ := by
 rcases h with rfl | rfl | rfl <;> simp [CS.next, behind]
theorem next_down {b f c : Int} {B co : Bool} {e : El} (h : c = 4 ∨ c = 5) : (CS.mk b f B co).next ⟨c, e⟩ = ⟨b - 1, f, B, false⟩ := by
 rcases h with rfl | rfl <;> simp [CS.next, behind]
theorem ko4 {c : Int} (h : 4 ≤ c ∧ c ≤ 11 ∧ c ≠ 10) : (Ins.bare c).ok = true := by
 unfold Ins.ok; rw [if_neg (by simp only; omega), if_neg (by simp only; omega)]; simp [El.bareB]; omega
theorem leaf_contact {x : Net} (h : x.wrong = 0) (hk : x.kind = 1) : El.contact ⟨x.op, x.as⟩ = true := by
 obtain ⟨k, op, as, ks⟩ := x; simp only [Net.kind] at hk; subst hk; cases ks with
 | nil => exact (k75 h).2
 | cons a r => simp [Net.wrong] at h
mutual
theorem kd9 : ∀ (n : Net) (b f : Int) (B co : Bool), n.wrong = 0 → 0 ≤ b → b + n.bb ≤ 16 → (B = true → 1 ≤ b) → Pass n.begins ⟨b, f, B, co⟩ ⟨b + 1, f, B, false⟩
 | .mk k op as [], b, f, B, co, hr, h0, hb, hB => by
  obtain ⟨rfl, hc⟩ := k75 hr; simp only [Net.bb] at hb; simp only [Net.begins]; exact Pass.one (kd5 (by simp [Ins.ok, hc]) (by simp [needsI]; exact h0) (fun _ => by simp only; omega) (fun h => by simp at h) (fun _ => by simp) (fun h => by simp at h) (fun h => by simp at h) (fun h => by simp at h) (fun h => by simp at h)) next_ld
 | .mk k op as (x :: r), b, f, B, co, hr, h0, hb, hB => by
  obtain ⟨hk, hx, hall, -, -, -⟩ := k66 hr; have hp := x.bb_pos; simp only [Net.bb] at hb; simp only [Net.begins]
  by_cases h4 : k = 4
  · rw [if_pos h4] at hb ⊢
    refine (kd9 x b f B co hx h0 hb hB).append (Pass.one (kd5 (ko4 (by decide)) (by simp [needsI]; omega) (fun h => by simp at h) (fun h => by simp at h) (fun e => ?_) (fun h => by simp at h) (fun h => by simp at h) (fun h => by simp at h) (fun h => by simp at h)) (kD8 (by simp)))
    have := hB e; simp only; omega
  · rw [if_neg h4] at hb ⊢
    refine (kd9 x b f B co hx h0 (by omega) hB).append ?_
    rcases kn9 r k (b + 1) f B false (by omega) hall (by omega) (by omega) (fun e h => by have := hB e; omega) with ⟨rfl, h⟩ | h
    · simp only [netsTaken]; exact Pass.nil _
    · exact h
theorem kn9 : ∀ (l : List Net) (k b f : Int) (B co : Bool), k = 2 ∨ k = 3 → (∀ y ∈ l, y.wrong = 0) → 1 ≤ b → b - 1 + netsTb l ≤ 16 → (B = true → k = 3 → 2 ≤ b) → (l = [] ∧ True) ∨ Pass (netsTaken k l) ⟨b, f, B, co⟩ ⟨b, f, B, false⟩
 | [], k, b, f, B, co, hk, h, h0, hb, hB => .inl ⟨rfl, trivial⟩
 | x :: r, k, b, f, B, co, hk, h, h0, hb, hB => by
  right
  have hx := h x (List.mem_cons_self ..); have hp := x.bb_pos; simp only [netsTb] at hb; simp only [netsTaken]; have h1 : Pass (if x.kind = 1 then [⟨k, ⟨x.op, x.as⟩⟩] else x.begins ++ [Ins.bare (k + 2)]) ⟨b, f, B, co⟩ ⟨b, f, B, false⟩ := by
   by_cases h1 : x.kind = 1
   · rw [if_pos h1]
     refine Pass.one (kd5 ?_ ?_ (fun h => ?_) (fun h => ?_) (fun e => ?_) (fun h => ?_) (fun h => ?_) (fun h => ?_) (fun h => ?_)) (kD8 (by omega))
     · unfold Ins.ok; rw [if_pos (by simp only; omega)]; exact leaf_contact hx h1
     · unfold needsI; rw [if_neg (by simp only; omega), if_neg (by simp only; omega)]; exact h0
     · simp only at h; omega
     · simp only at h; omega
     · have := hB e; simp only; omega
     · simp only at h; omega
     · simp only at h; omega
     · simp only at h; omega
     · simp only at h; omega
   · rw [if_neg h1] at hb ⊢
     refine (kd9 x b f B co hx (by omega) (by omega) (fun _ => h0)).append ?_
     rw [show (CS.mk b f B false) = ⟨b + 1 - 1, f, B, false⟩ by rw [show b + 1 - 1 = b by omega]]; refine Pass.one (kd5 (ko4 (by omega)) ?_ (fun h => ?_) (fun h => ?_) (fun e => ?_) (fun h => ?_) (fun h => ?_) (fun h => ?_) (fun h => ?_)) (next_down (by omega))
     · unfold needsI; rw [if_neg (by simp only; omega), if_pos (by simp only; omega)]; simp only; omega
     · simp only at h; omega
     · simp only at h; omega
     · have := hB e; simp only; omega
     · simp only at h; omega
     · simp only at h; omega
     · simp only at h; omega
     · simp only at h; omega
  refine h1.append ?_
  rcases kn9 r k b f B false hk (fun y hy => h y (List.mem_cons_of_mem _ hy)) h0 (by omega) hB with ⟨rfl, h⟩ | h
  · simp only [netsTaken]; exact Pass.nil _
  · exact h
end
theorem kx1 : ∀ (l : List El) (f : Int) (B co : Bool), (∀ e ∈ l, e.coil = true) → l ≠ [] → Pass (coilsI l) ⟨1, f, B, co⟩ ⟨1, f, true, true⟩
 | [], f, B, co, h, hne => absurd rfl hne
 | e :: r, f, B, co, h, hne => by
  have he := h e (List.mem_cons_self ..); have h1 : Pass [(⟨10, e⟩ : Ins)] ⟨1, f, B, co⟩ ⟨1, f, true, true⟩ := Pass.one (kd5 (by simp [Ins.ok, he]) (by simp [needsI]) (fun h => by simp at h) (fun _ => by simp) (fun _ => by simp) (fun h => by simp at h) (fun h => by simp at h) (fun h => by simp at h) (fun h => by simp at h)) (by simp [CS.next, behind])
  match r, h with
  | [], h => exact h1
  | b :: r, h => exact h1.append (kx1 (b :: r) f true true (fun x hx => h x (List.mem_cons_of_mem _ hx)) (by simp))
theorem kh6 (n : Net) (f : Int) (B co : Bool) (h : NetFine n) (hb : netsTb n.parts ≤ 16) : ∃ co', Pass (netsTaken 2 n.parts) ⟨1, f, B, co⟩ ⟨1, f, B, co'⟩ := by
 rcases kn9 n.parts 2 1 f B co (.inl rfl) (k36 h) (Int.le_refl _) (by omega) (fun _ e => by simp at e) with ⟨e, -⟩ | h
 · rw [e]; exact ⟨co, by simp only [netsTaken]; exact Pass.nil _⟩
 · exact ⟨false, h⟩
mutual
theorem kg2 : ∀ (a : Arm) (f : Int) (B co : Bool), a.wrong false = 0 → a.tb ≤ 16 → 0 ≤ f → f + a.forks ≤ 8 → Pass a.tail ⟨1, f, B, co⟩ ⟨1, f, true, true⟩
 | .mk n cs ks, f, B, co, h, hb, hf, hfo => by
  obtain ⟨-, -, hc, h0, hk⟩ := k13 h; have hc' : ∀ e ∈ cs, e.coil = true := by simpa using hc
  have hk' := (k20 ks).1 hk; simp only [Arm.tb, Arm.forks] at hb hfo; simp only [Arm.tail]
  by_cases hcs : cs = []
  · subst hcs
    have hks : ks ≠ [] := fun e => h0 ⟨rfl, by rw [e]; rfl⟩
    exact (Pass.nil _).append (kD4 ks f B co hk' hks (by omega) hf hfo)
  · have h1 := kx1 cs f B co hc' hcs
    by_cases hks : ks = []
    · subst hks
      simp only [armsTail, List.append_nil]; exact h1
    · exact h1.append (kD4 ks f true true hk' hks (by omega) hf hfo)
theorem kD4 : ∀ (l : List Arm) (f : Int) (B co : Bool), (∀ a ∈ l, a.wrong false = 0) → l ≠ [] → armsTb l ≤ 16 → 0 ≤ f → f + armsForks l ≤ 8 → Pass (armsTail l.length 0 l) ⟨1, f, B, co⟩ ⟨1, f, true, true⟩
 | [], f, B, co, h, hne, hb, hf, hfo => absurd rfl hne
 | [a], f, B, co, h, hne, hb, hf, hfo => by
  have ha := h a (List.mem_cons_self ..); simp only [armsTb] at hb; simp only [armsForks, List.length_nil, if_true] at hfo; obtain ⟨co', h1⟩ := kh6 a.net f B co (by obtain ⟨n, cs, ks⟩ := a; exact (k13 ha).2.1) (by omega); have h2 := kg2 a f B co' ha (by omega) hf (by omega); simp only [armsTail, List.length_cons, List.length_nil, sepI, List.append_nil, List.nil_append, if_true]; exact h1.append h2
 | a :: b :: r, f, B, co, h, hne, hb, hf, hfo => by
  have ha := h a (List.mem_cons_self ..); rw [armsTb] at hb; rw [armsForks, if_neg (by simp)] at hfo; have h0 : Pass [Ins.bare 7] ⟨1, f, B, co⟩ ⟨1, f + 1, true, false⟩ := Pass.one (kd5 (ko4 (by decide)) (by simp [needsI]) (fun h => by simp at h) (fun _ => by simp) (fun _ => by simp) (fun _ => by simp only; omega) (fun h => by simp at h) (fun h => by simp at h) (fun h => by simp at h)) (by simp [CS.next, behind]); obtain ⟨co', h1⟩ := kh6 a.net (f + 1) true false (by obtain ⟨n, cs, ks⟩ := a; exact (k13 ha).2.1) (by omega); have h2 := kg2 a (f + 1) true co' ha (by omega) (by omega) (by omega)
  have h3 := kD3 (r.length + 2) (b :: r) 1 f (Nat.le_refl _) (by simp only [List.length_cons]; omega) (by simp) (fun x hx => h x (List.mem_cons_of_mem _ hx)) (by omega) hf (by omega); have e : sepI (r.length + 2) 0 = [Ins.bare 7] := by simp [sepI]
  have e2 : (a :: b :: r).length = r.length + 2 := by simp
  rw [e2, armsTail, e]; exact ((h0.append h1).append h2).append h3
theorem kD3 (N : Nat) : ∀ (l : List Arm) (i : Nat) (f : Int), 1 ≤ i → i + l.length = N → l ≠ [] → (∀ a ∈ l, a.wrong false = 0) → armsTb l ≤ 16 → 0 ≤ f → f + armsForks l ≤ 8 → Pass (armsTail N i l) ⟨1, f + 1, true, true⟩ ⟨1, f, true, true⟩
 | [], i, f, hi, hN, hne, h, hb, hf, hfo => absurd rfl hne
 | [a], i, f, hi, hN, hne, h, hb, hf, hfo => by
  have ha := h a (List.mem_cons_self ..); simp only [armsTb] at hb; simp only [armsForks, List.length_nil, if_true] at hfo; have h0 : Pass [Ins.bare 9] ⟨1, f + 1, true, true⟩ ⟨1, f, true, false⟩ := Pass.one (kd5 (ko4 (by decide)) (by simp [needsI]) (fun h => by simp at h) (fun _ => by simp) (fun _ => by simp) (fun h => by simp at h) (fun _ => by simp only; omega) (fun h => by simp at h) (fun _ => rfl)) (by simp [CS.next, behind]); obtain ⟨co', h1⟩ := kh6 a.net f true false (by obtain ⟨n, cs, ks⟩ := a; exact (k13 ha).2.1) (by omega); have h2 := kg2 a f true co' ha (by omega) hf (by omega); simp only [List.length_cons, List.length_nil] at hN
  have e : sepI N i = [Ins.bare 9] := by unfold sepI; rw [if_neg (by omega), if_neg (by omega), if_pos (by omega)]
  simp only [armsTail, e, List.append_nil]; exact (h0.append h1).append h2
 | a :: b :: r, i, f, hi, hN, hne, h, hb, hf, hfo => by
  have ha := h a (List.mem_cons_self ..); rw [armsTb] at hb; rw [armsForks, if_neg (by simp)] at hfo; have h0 : Pass [Ins.bare 8] ⟨1, f + 1, true, true⟩ ⟨1, f + 1, true, false⟩ := Pass.one (kd5 (ko4 (by decide)) (by simp [needsI]) (fun h => by simp at h) (fun _ => by simp) (fun _ => by simp) (fun h => by simp at h) (fun _ => by simp only; omega) (fun h => by simp at h) (fun _ => rfl)) (by simp [CS.next, behind]); obtain ⟨co', h1⟩ := kh6 a.net (f + 1) true false (by obtain ⟨n, cs, ks⟩ := a; exact (k13 ha).2.1) (by omega); have h2 := kg2 a (f + 1) true co' ha (by omega) (by omega) (by omega); simp only [List.length_cons] at hN
  have h3 := kD3 N (b :: r) (i + 1) f (by omega) (by simp only [List.length_cons]; omega) (by simp) (fun x hx => h x (List.mem_cons_of_mem _ hx)) (by omega) hf (by omega); have e : sepI N i = [Ins.bare 8] := by unfold sepI; rw [if_neg (by omega), if_neg (by omega), if_neg (by omega)]
  rw [armsTail, e]; exact ((h0.append h1).append h2).append h3
end
theorem pass_plain (a : Arm) (co : Bool) (h : a.wrong true = 0) (hb : max a.net.bb a.tb ≤ 16) (hf : a.forks ≤ 8) : Pass a.plain ⟨0, 0, false, co⟩ ⟨0, 0, false, false⟩ := by
 obtain ⟨n, cs, ks⟩ := a; obtain ⟨h1, h2, -, -, -⟩ := k13 h; have hn : n.wrong = 0 := by rcases h2 with h2 | h2; rw [h1 rfl] at h2; cases h2; exact h2
 simp only [Arm.net] at hb; have k1 := kd9 n 0 0 false co hn (Int.le_refl _) (by omega) (fun e => by cases e); have k2 := kg2 (.mk n cs ks) 0 false false (k95 h) (by omega) (Int.le_refl _) (by omega); have k3 : Pass [Ins.bare 11] ⟨1, 0, true, true⟩ ⟨0, 0, false, false⟩ := Pass.one (kd5 (ko4 (by decide)) (by simp [needsI]) (fun h => by simp at h) (fun _ => by simp) (fun _ => by simp) (fun h => by simp at h) (fun h => by simp at h) (fun _ => rfl) (fun _ => rfl)) (by simp [CS.next, behind]); rw [show (0 : Int) + 1 = 1 from rfl] at k1; exact (k1.append k2).append k3
theorem kq5 : ∀ (l : List Arm), (∀ a ∈ l, a.wrong true = 0) → bitsOf l ≤ 16 → forksOf l ≤ 8 → Pass (plainOf l) ⟨0, 0, false, false⟩ ⟨0, 0, false, false⟩
 | [], h, hb, hf => Pass.nil _
 | a :: r, h, hb, hf => by
  simp only [bitsOf, forksOf, List.foldr_cons] at hb hf; have h1 := pass_plain a false (h a (List.mem_cons_self ..)) (by omega) (by omega); have h2 := kq5 r (fun x hx => h x (List.mem_cons_of_mem _ hx)) (by unfold bitsOf; omega) (by unfold forksOf; omega); have e : plainOf (a :: r) = a.plain ++ plainOf r := by simp [plainOf]
  rw [e]; exact h1.append h2
theorem wrong_heights {s : CS} {i : Ins} (h : s.wrong i = 0) (hb : s.b ≤ 16) (hf : s.f ≤ 8) : (s.next i).b ≤ 16 ∧ (s.next i).f ≤ 8 := by
 have h1 : ¬ (i.c = 1 ∧ 16 ≤ s.b) := by
  intro e; unfold CS.wrong at h
  by_cases a1 : i.ok = false
  · rw [if_pos a1] at h; simp at h
  rw [if_neg a1] at h
  by_cases a2 : s.b < needsI i.c
  · rw [if_pos a2] at h; simp at h
  rw [if_neg a2, if_pos e] at h; simp at h
 have h2 : ¬ (i.c = 7 ∧ 8 ≤ s.f) := by
  intro e; unfold CS.wrong at h
  by_cases a1 : i.ok = false
  · rw [if_pos a1] at h; simp at h
  rw [if_neg a1] at h
  by_cases a2 : s.b < needsI i.c
  · rw [if_pos a2] at h; simp at h
  rw [if_neg a2, if_neg (by omega)] at h
  by_cases a3 : 7 ≤ i.c ∧ 1 < s.b
  · rw [if_pos a3] at h; simp at h
  rw [if_neg a3] at h; rw [if_neg (by omega), if_pos (.inl e)] at h; simp at h
 simp only [CS.next, behind]; split
 · simp only; omega
 · split
   · simp only; omega
   · split
     · simp only; omega
     · split
       · simp only; omega
       · simp only; omega
theorem kn0 : ∀ (l : List Ins) (s : CS) (k : Nat), (checkFrom s k l).1 = 0 → s.b ≤ 16 → s.f ≤ 8 → ∀ m : Int × Int, m.1 ≤ 16 → m.2 ≤ 8 → (topH m (heights (s.b, s.f) l)).1 ≤ 16 ∧ (topH m (heights (s.b, s.f) l)).2 ≤ 8
 | [], s, k, h, hb, hf, m, m1, m2 => ⟨m1, m2⟩
 | i :: r, s, k, h, hb, hf, m, m1, m2 => by
  rw [checkFrom] at h
  by_cases hw : s.wrong i = 0
  · rw [if_neg (by simp [hw])] at h
    obtain ⟨h1, h2⟩ := wrong_heights hw hb hf; have := kn0 r (s.next i) (k + 1) h h1 h2 (max m.1 (s.next i).b, max m.2 (s.next i).f) (by simp only; omega) (by simp only; omega); exact this
  · rw [if_pos hw] at h
    exact absurd h hw
theorem check_plain (l : List Arm) (h : ∀ a ∈ l, a.wrong true = 0) (hlen : (plainOf l).length ≤ 1000) : ((checkL (plainOf l)).1 = 0 ↔ bitsOf l ≤ 16 ∧ forksOf l ≤ 8) ∧ (bitsOf l ≤ 16 → forksOf l ≤ 8 → checkL (plainOf l) = (0, 0)) := by
 have h2 : bitsOf l ≤ 16 → forksOf l ≤ 8 → checkL (plainOf l) = (0, 0) := fun hb hf => by
  have := kq5 l h hb hf 0 []; unfold checkL; rw [if_neg (by omega)]; rw [List.append_nil] at this; rw [this]
  rfl
 refine ⟨⟨fun e => ?_, fun ⟨a, b⟩ => by rw [h2 a b]⟩, h2⟩
 unfold checkL at e; rw [if_neg (by omega)] at e; have := kn0 _ _ _ e (by simp) (by simp) (0, 0) (by simp) (by simp); have hp := peak_plain l h; unfold peakOf at hp; simp only at this; rw [hp] at this; simp only at this; omega
mutual
theorem k49 : ∀ n : Net, n.begins.length + 1 ≤ 2 * n.size
 | .mk k op as [] => by simp [Net.begins, Net.size, netsSize]
 | .mk k op as (x :: r) => by
  have h1 := k49 x; have h2 := km1 r k; simp only [Net.begins, Net.size, netsSize, List.length_append]; split
  · simp only [List.length_cons, List.length_nil]; omega
  · omega
theorem km1 : ∀ (l : List Net) (k : Int), (netsTaken k l).length ≤ 2 * netsSize l
 | [], k => by simp [netsTaken]
 | x :: r, k => by
  have h1 := k49 x; have h2 := km1 r k; simp only [netsTaken, netsSize, List.length_append]; split
  · simp only [List.length_cons, List.length_nil]; omega
  · simp only [List.length_append, List.length_cons, List.length_nil]; omega
end
def Net.sz0 (n : Net) : Nat := if n.none then 0 else n.size
theorem armSize_eq (n : Net) (cs : List El) (ks : List Arm) : Arm.size (.mk n cs ks) = 1 + cs.length + n.sz0 + armsSize ks := by simp only [Arm.size]; rfl
theorem kE5 (n : Net) : netsSize n.parts ≤ n.sz0 := by
 unfold Net.parts Net.sz0
 by_cases h0 : n.none = true
 · simp [h0, netsSize]
 · rw [if_neg h0, if_neg h0]
   split
   · obtain ⟨k, op, as, ks⟩ := n
     simp only [Net.kids, Net.size]; omega
   · simp [netsSize]
mutual
theorem kr7 : ∀ a : Arm, a.tail.length + 2 * a.net.sz0 + 2 ≤ 2 * a.size
 | .mk n cs ks => by
  have h := kI2 ks 0 ks.length; rw [armSize_eq]; simp only [Arm.tail, Arm.net, List.length_append, coilsI, List.length_map]; omega
theorem kI2 : ∀ (l : List Arm) (i N : Nat), (armsTail N i l).length ≤ 2 * armsSize l
 | [], i, N => by simp [armsTail]
 | a :: r, i, N => by
  have h1 := kr7 a; have h2 := kI2 r (i + 1) N; have h3 := km1 a.net.parts 2; have h4 := kE5 a.net; have h5 : (sepI N i).length ≤ 1 := by unfold sepI; split; simp; split; simp; split <;> simp
  simp only [armsTail, armsSize, List.length_append]; omega
end
theorem ka3 : ∀ l : List Arm, (∀ a ∈ l, a.wrong true = 0) → (plainOf l).length ≤ 2 * armsSize l
 | [], h => by simp [plainOf]
 | a :: r, h => by
  have h1 := kr7 a; have h2 := ka3 r fun x hx => h x (List.mem_cons_of_mem _ hx)
  have ha := h a (List.mem_cons_self ..); obtain ⟨n, cs, ks⟩ := a; have hn := (k13 ha).1 rfl; have h3 := k49 n; have e : plainOf (.mk n cs ks :: r) = (Arm.mk n cs ks).plain ++ plainOf r := by simp [plainOf]
  have h4 : n.sz0 = n.size := by unfold Net.sz0; rw [hn]; rfl
  rw [e]; simp only [Arm.net, h4] at h1; simp only [Arm.plain, Arm.net, List.length_append, armsSize, List.length_cons, List.length_nil]; omega
def rungsGo (acc : List Ins) : List Ins → List (List Ins)
 | [] => []
 | i :: r => if i.c = 11 then (acc ++ [i]) :: rungsGo [] r else rungsGo (acc ++ [i]) r
def rungsL (l : List Ins) : List (List Ins) := rungsGo [] l
theorem kp0 : ∀ (l : List Ins) (acc r : List Ins), (∀ i ∈ l, i.c ≠ 11) → rungsGo acc (l ++ r) = rungsGo (acc ++ l) r
 | [], acc, r, h => by simp
 | i :: l, acc, r, h => by
  rw [List.cons_append, rungsGo, if_neg (h i (List.mem_cons_self ..)), kp0 l _ r fun x hx => h x (List.mem_cons_of_mem _ hx)]; simp
mutual
theorem ke4 : ∀ (n : Net), n.wrong = 0 → ∀ i ∈ n.begins, i.c ≤ 6
 | .mk k op as [], hr => by simp [Net.begins]
 | .mk k op as (x :: r), hr => by
  obtain ⟨hk, hx, hall, -, -, -⟩ := k66 hr; intro i hi; simp only [Net.begins, List.mem_append] at hi; rcases hi with hi | hi
  · exact ke4 x hx i hi
  · split at hi
    · simp at hi; subst hi; simp
    · exact k63 r k (by omega) hall i hi
theorem k63 : ∀ (l : List Net) (k : Int), k = 2 ∨ k = 3 → (∀ y ∈ l, y.wrong = 0) → ∀ i ∈ netsTaken k l, i.c ≤ 6
 | [], k, hk, h => by simp [netsTaken]
 | x :: r, k, hk, h => by
  intro i hi; simp only [netsTaken, List.mem_append] at hi; rcases hi with hi | hi
  · split at hi
    · simp at hi; subst hi; simp only; omega
    · simp only [List.mem_append, List.mem_singleton] at hi
      rcases hi with hi | hi
      · exact ke4 x (h x (List.mem_cons_self ..)) i hi
      · subst hi; simp only; omega
  · exact k63 r k hk (fun y hy => h y (List.mem_cons_of_mem _ hy)) i hi
end
mutual
theorem kB3 : ∀ (a : Arm), a.wrong false = 0 → ∀ i ∈ a.tail, i.c ≠ 11
 | .mk n cs ks, h => by
  obtain ⟨-, -, -, -, hk⟩ := k13 h; intro i hi; simp only [Arm.tail, List.mem_append, coilsI, List.mem_map] at hi; rcases hi with ⟨e, -, rfl⟩ | hi
  · simp
  · exact kF7 ks 0 ks.length ((k20 ks).1 hk) i hi
theorem kF7 : ∀ (l : List Arm) (j N : Nat), (∀ a ∈ l, a.wrong false = 0) → ∀ i ∈ armsTail N j l, i.c ≠ 11
 | [], j, N, h => by simp [armsTail]
 | a :: r, j, N, h => by
  have ha := h a (List.mem_cons_self ..); intro i hi; simp only [armsTail, List.mem_append] at hi; rcases hi with ((hi | hi) | hi) | hi
  · unfold sepI at hi
    split at hi
    · simp at hi
    · split at hi
      · simp at hi; subst hi; simp
      · split at hi <;> (simp at hi; subst hi; simp)
  · have := k63 a.net.parts 2 (.inl rfl) (k36 (by obtain ⟨n, cs, ks⟩ := a; exact (k13 ha).2.1)) i hi
    omega
  · exact kB3 a ha i hi
  · exact kF7 r (j + 1) N (fun x hx => h x (List.mem_cons_of_mem _ hx)) i hi
end
theorem kl0 : ∀ l : List Arm, (∀ a ∈ l, a.wrong true = 0) → rungsL (plainOf l) = l.map Arm.plain
 | [], h => rfl
 | a :: r, h => by
  have ha := h a (List.mem_cons_self ..); have hr := kl0 r fun x hx => h x (List.mem_cons_of_mem _ hx)
  obtain ⟨n, cs, ks⟩ := a; obtain ⟨h1, h2, -, -, -⟩ := k13 ha; have hn : n.wrong = 0 := by rcases h2 with h2 | h2; rw [h1 rfl] at h2; cases h2; exact h2
  have e : plainOf (.mk n cs ks :: r) = (n.begins ++ (Arm.mk n cs ks).tail) ++ (Ins.bare 11 :: plainOf r) := by simp [plainOf, Arm.plain, Arm.net]
  unfold rungsL at hr ⊢; rw [e, kp0]
  · rw [rungsGo, if_pos rfl, hr]
    simp [Arm.plain, Arm.net]
  · intro i hi
    rcases List.mem_append.1 hi with hi | hi
    · have := ke4 n hn i hi; omega
    · exact kB3 _ (k95 ha) i hi
end Go.VM
