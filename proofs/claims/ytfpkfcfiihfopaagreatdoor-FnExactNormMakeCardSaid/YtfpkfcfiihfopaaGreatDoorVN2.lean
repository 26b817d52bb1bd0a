/- Ladders: arms, their normal form; in plain words. Conditions: none. -/
import Derived.Test.YtfpkfcfiihfopaaGreatDoorVN1

namespace Go.VM
set_option linter.unusedVariables false
set_option linter.unusedSimpArgs false
def Arm.net : Arm → Net | .mk n _ _ => n
def Arm.coils : Arm → List El | .mk _ c _ => c
def Arm.kids : Arm → List Arm | .mk _ _ ks => ks
mutual
def Arm.size : Arm → Nat
 | .mk n cs ks => 1 + cs.length + (if n.none then 0 else n.size) + armsSize ks
def armsSize : List Arm → Nat
 | [] => 0
 | a :: r => a.size + armsSize r
end
mutual
def Arm.wrong (rung : Bool) : Arm → Int
 | .mk n cs ks => if rung && n.none then 4 else if n.none = false ∧ n.wrong ≠ 0 then n.wrong else if cs.all El.coil = false then 3 else if cs.length = 0 ∧ ks.length = 0 then 5 else armsWrong ks
def armsWrong : List Arm → Int
 | [] => 0
 | a :: r => if a.wrong false ≠ 0 then a.wrong false else armsWrong r
end
def rungsWrong : List Arm → Int
 | [] => 0
 | a :: r => if a.wrong true ≠ 0 then a.wrong true else rungsWrong r
def treeCode (l : List Arm) : Int := if 40 < l.length ∨ 400 < armsSize l then 1 else rungsWrong l
def Net.join (a b : Net) : Net := if a.none then b else if b.none then a else Net.norm (.mk 2 0 [] [a, b])
def squeeze (n : Net) (cs : List El) : List Arm → Arm
 | [.mk kn kc kk] => if cs.length = 0 ∨ kn.none then squeeze (n.join kn) (cs ++ kc) kk else .mk n cs [.mk kn kc kk]
 | ks => .mk n cs ks
termination_by ks => armsWt ks
decreasing_by
 have := kn.wt_pos; simp [armsWt, Arm.wt]; omega
mutual
def Arm.norm : Arm → Arm
 | .mk n cs ks => squeeze (if n.none then n else n.norm) cs (armsNorm ks)
def armsNorm : List Arm → List Arm
 | [] => []
 | a :: r => a.norm :: armsNorm r
end
theorem armsNorm_map : ∀ l : List Arm, armsNorm l = l.map Arm.norm
 | [] => by simp [armsNorm]
 | n :: r => by simp [armsNorm, armsNorm_map r]
mutual
def Arm.wn : Arm → Bool
 | .mk n cs ks => (decide (n.kind = 0) || n.wn) && armsWn ks && (decide (ks.length ≠ 1) || (decide (0 < cs.length) && ks.all fun k => !decide (k.net.kind = 0)))
def armsWn : List Arm → Bool
 | [] => true
 | a :: r => a.wn && armsWn r
end
theorem armsWn_all : ∀ l : List Arm, armsWn l = true ↔ ∀ a ∈ l, a.wn = true
 | [] => by simp [armsWn]
 | n :: r => by simp [armsWn, armsWn_all r]
theorem Net.none_eq {n : Net} (h : n.none = true) : n = .mk 0 0 [] [] := by
 obtain ⟨k, op, as, ks⟩ := n; have h' : k = 0 ∧ op = 0 ∧ as = [] ∧ ks.length = 0 := of_decide_eq_true h; obtain ⟨rfl, rfl, rfl, h2⟩ := h'; rw [List.eq_nil_of_length_eq_zero h2]
theorem none_none : Net.none (.mk 0 0 [] []) = true := by simp [Net.none, Net.kind, Net.op, Net.as, Net.kids]
theorem right_kind {n : Net} (h : n.wrong = 0) : n.kind = 1 ∨ n.kind = 2 ∨ n.kind = 3 ∨ n.kind = 4 := by
 obtain ⟨k, op, as, ks⟩ := n
 by_cases hk : k = 1
 · exact .inl hk
 · have := (right_kids h hk).1
   simp only [Net.kind]; omega
theorem right_some {n : Net} (h : n.wrong = 0) : n.none = false := by
 have := right_kind h; simp only [Net.none, decide_eq_false_iff_not]; omega
def NetFine (n : Net) : Prop := n.none = true ∨ n.wrong = 0
theorem NetFine.kind {n : Net} (h : NetFine n) : (n.kind = 0 ↔ n.none = true) := by
 rcases h with h | h
 · rw [Net.none_eq h]; simp [Net.kind, none_none]
 · have := right_kind h
   rw [right_some h]; constructor
   · intro e; omega
   · intro e; simp at e
theorem join_ok {a b : Net} (ha : NetFine a) (hb : NetFine b) (wa : a.none = true ∨ a.wn = true) (wb : b.none = true ∨ b.wn = true) :
 NetFine (a.join b) ∧ ((a.join b).none = true ∨ (a.join b).wn = true) ∧ ((a.join b).none = true → a.none = true ∧ b.none = true) ∧
 (if (a.join b).none then 0 else (a.join b).size) ≤ (if a.none then 0 else a.size) + (if b.none then 0 else b.size) + (if a.none ∨ b.none then 0 else 1) ∧ (a.join b).wt ≤ a.wt + b.wt + 1 := by
 unfold Net.join
 by_cases h1 : a.none = true
 · simp [h1, hb, wb]
   omega
 · by_cases h2 : b.none = true
   · have wa' : a.wn = true := by rcases wa with w | w; exact absurd w h1; exact w
     simp [h1, h2, ha, wa']; omega
   · have ra : a.wrong = 0 := by rcases ha with h | h; exact absurd h h1; exact h
     have rb : b.wrong = 0 := by rcases hb with h | h; exact absurd h h2; exact h
     have hr : Net.wrong (.mk 2 0 [] [a, b]) = 0 := right_mk (.inl rfl) (by simp) (fun e => by omega) (by simp [ra, rb]); obtain ⟨k1, k2, k3, k4⟩ := norm_ok _ hr; have hs := right_some k1; simp only [Bool.not_eq_true] at h1 h2; simp only [h1, h2, Bool.false_eq_true, if_false, hs]; simp only [Net.size, netsSize, Net.wt, netsWt, List.length_nil] at k3 k4; refine ⟨.inr k1, .inr k2, fun h => h.elim, ?_, by omega⟩
     simp only [or_self, if_false]; omega
theorem arm_right {rung : Bool} {n : Net} {cs : List El} {ks : List Arm} (h : Arm.wrong rung (.mk n cs ks) = 0) :
 (rung = true → n.none = false) ∧ NetFine n ∧ cs.all El.coil = true ∧ ¬ (cs.length = 0 ∧ ks.length = 0) ∧ armsWrong ks = 0 := by
 unfold Arm.wrong at h; split at h
 · simp at h
 · rename_i h1
   split at h
   · rename_i h2; exact absurd h h2.2
   · rename_i h2
     split at h
     · simp at h
     · rename_i h3
       split at h
       · simp at h
       · rename_i h4
         refine ⟨fun e => by simpa [e] using h1, ?_, by simpa using h3, h4, h⟩
         by_cases hn : n.none = true
         · exact .inl hn
         · refine .inr ?_
           by_cases hw : n.wrong = 0
           · exact hw
           · exact absurd ⟨by simpa using hn, hw⟩ h2
theorem arm_mk {rung : Bool} {n : Net} {cs : List El} {ks : List Arm} (h1 : rung = true → n.none = false) (h2 : NetFine n) (h3 : cs.all El.coil = true) (h4 : ¬ (cs.length = 0 ∧ ks.length = 0)) (h5 : armsWrong ks = 0) :
 Arm.wrong rung (.mk n cs ks) = 0 := by
 unfold Arm.wrong; rw [if_neg, if_neg, if_neg (by simp [h3]), if_neg h4, h5]
 · rintro ⟨e1, e2⟩
   rcases h2 with h | h
   · rw [e1] at h; cases h
   · exact e2 h
 · intro e
   simp only [Bool.and_eq_true] at e; have := h1 e.1; rw [e.2] at this; cases this
theorem armsWrong_all : ∀ l : List Arm, armsWrong l = 0 ↔ ∀ a ∈ l, a.wrong false = 0
 | [] => by simp [armsWrong]
 | a :: r => by
  unfold armsWrong
  by_cases h : a.wrong false = 0
  · simp [h, armsWrong_all r]
  · simp [h]
theorem rungsWrong_all : ∀ l : List Arm, rungsWrong l = 0 ↔ ∀ a ∈ l, a.wrong true = 0
 | [] => by simp [rungsWrong]
 | a :: r => by
  unfold rungsWrong
  by_cases h : a.wrong true = 0
  · simp [h, rungsWrong_all r]
  · simp [h]
theorem squeeze_ok (rung : Bool) : ∀ (n : Net) (cs : List El) (ks : List Arm), Arm.wrong rung (.mk n cs ks) = 0 → (n.none = true ∨ n.wn = true) → (∀ a ∈ ks, a.wn = true) →
 (squeeze n cs ks).wrong rung = 0 ∧ (squeeze n cs ks).wn = true ∧ (squeeze n cs ks).size ≤ (Arm.mk n cs ks).size ∧ (squeeze n cs ks).wt ≤ (Arm.mk n cs ks).wt
 | n, cs, [.mk kn kc kk], h, hn, hk => by
  obtain ⟨h1, h2, h3, h4, h5⟩ := arm_right h; have hkr := (armsWrong_all _).1 h5 (.mk kn kc kk) (by simp); obtain ⟨g1, g2, g3, g4, g5⟩ := arm_right hkr; have hkw := hk (.mk kn kc kk) (by simp); simp only [Arm.wn, Bool.and_eq_true, armsWn_all] at hkw; obtain ⟨⟨w1, w2⟩, w3⟩ := hkw
  by_cases hc : cs.length = 0 ∨ kn.none = true
  · rw [squeeze, if_pos hc]
    have wk : kn.none = true ∨ kn.wn = true := by
     simp only [Bool.or_eq_true, decide_eq_true_eq] at w1; rcases w1 with w | w
     · exact .inl (g2.kind.1 w)
     · exact .inr w
    obtain ⟨j1, j2, j3, j4, j5⟩ := join_ok h2 g2 hn wk; have hr : Arm.wrong rung (.mk (n.join kn) (cs ++ kc) kk) = 0 := by
     refine arm_mk (fun e => ?_) j1 (by simp [h3, g3]) (fun e => g4 ⟨by have := e.1; simp at this; simp [this.2], e.2⟩) g5
     cases hj : (n.join kn).none with
     | false => rfl
     | true => have := h1 e; rw [(j3 hj).1] at this; cases this
    obtain ⟨k1, k2, k3, k4⟩ := squeeze_ok rung (n.join kn) (cs ++ kc) kk hr j2 w2; refine ⟨k1, k2, Nat.le_trans k3 ?_, Nat.le_trans k4 ?_⟩
    · simp only [Arm.size, armsSize, List.length_append]
      have : (if n.none = true ∨ kn.none = true then 0 else 1) ≤ 1 := by split <;> omega
      omega
    · simp only [Arm.wt, armsWt, elsWt_append]
      omega
  · rw [squeeze, if_neg hc]
    refine ⟨h, ?_, Nat.le_refl _, Nat.le_refl _⟩
    simp only [not_or] at hc; have hk0 : ¬ kn.kind = 0 := fun e => hc.2 (g2.kind.1 e)
    simp only [Arm.wn, Bool.and_eq_true, armsWn_all, Bool.or_eq_true, decide_eq_true_eq]; refine ⟨⟨?_, hk⟩, .inr ⟨by omega, by simp [Arm.net, hk0]⟩⟩
    rcases hn with hn | hn
    · exact .inl (h2.kind.2 hn)
    · exact .inr hn
 | n, cs, [], h, hn, hk => by
  obtain ⟨h1, h2, h3, h4, h5⟩ := arm_right h; rw [squeeze]
  · refine ⟨h, ?_, Nat.le_refl _, Nat.le_refl _⟩
    simp only [Arm.wn, Bool.and_eq_true, armsWn_all, Bool.or_eq_true, decide_eq_true_eq]; refine ⟨⟨?_, hk⟩, .inl (by simp)⟩
    rcases hn with hn | hn
    · exact .inl (h2.kind.2 hn)
    · exact .inr hn
  · simp
 | n, cs, a :: b :: r, h, hn, hk => by
  obtain ⟨h1, h2, h3, h4, h5⟩ := arm_right h; rw [squeeze]
  · refine ⟨h, ?_, Nat.le_refl _, Nat.le_refl _⟩
    simp only [Arm.wn, Bool.and_eq_true, armsWn_all, Bool.or_eq_true, decide_eq_true_eq]; refine ⟨⟨?_, hk⟩, .inl (by simp)⟩
    rcases hn with hn | hn
    · exact .inl (h2.kind.2 hn)
    · exact .inr hn
  · simp
termination_by n cs ks => armsWt ks
decreasing_by
 simp [armsWt, Arm.wt]; omega
mutual
theorem arm_norm_ok (rung : Bool) : ∀ a : Arm, a.wrong rung = 0 → a.norm.wrong rung = 0 ∧ a.norm.wn = true ∧ a.norm.size ≤ a.size ∧ a.norm.wt ≤ a.wt
 | .mk n cs ks, h => by
  obtain ⟨h1, h2, h3, h4, h5⟩ := arm_right h; obtain ⟨i1, i2, i3⟩ := arms_norm_ok ks ((armsWrong_all _).1 h5); have hf : NetFine (if n.none then n else n.norm) ∧ ((if n.none then n else n.norm).none = n.none) ∧ ((if n.none then n else n.norm).none = true ∨ (if n.none then n else n.norm).wn = true) ∧
   (if (if n.none then n else n.norm).none then 0 else (if n.none then n else n.norm).size) ≤ (if n.none then 0 else n.size) ∧ (if n.none then n else n.norm).wt ≤ n.wt := by
   by_cases hn : n.none = true
   · simp [hn]; exact .inl hn
   · have hr : n.wrong = 0 := by rcases h2 with h | h; exact absurd h hn; exact h
     obtain ⟨k1, k2, k3, k4⟩ := norm_ok n hr; simp only [Bool.not_eq_true] at hn; simp only [hn, Bool.false_eq_true, if_false, right_some k1]; exact ⟨.inr k1, trivial, .inr k2, k3, k4⟩
  obtain ⟨f1, f2, f3, f4, f5⟩ := hf; have hlen : (armsNorm ks).length = ks.length := by simp [armsNorm_map]
  have hw : Arm.wrong rung (.mk (if n.none then n else n.norm) cs (armsNorm ks)) = 0 :=
   arm_mk (fun e => by rw [f2]; exact h1 e) f1 h3 (by rw [hlen]; exact h4) ((armsWrong_all _).2 fun a ha => (i1 a ha).1)
  obtain ⟨q1, q2, q3, q4⟩ := squeeze_ok rung _ cs (armsNorm ks) hw f3 fun a ha => (i1 a ha).2
  have e : Arm.norm (.mk n cs ks) = squeeze (if n.none then n else n.norm) cs (armsNorm ks) := by simp [Arm.norm]
  rw [e]; refine ⟨q1, q2, Nat.le_trans q3 ?_, Nat.le_trans q4 ?_⟩
  · simp only [Arm.size]; omega
  · simp only [Arm.wt]; omega
theorem arms_norm_ok : ∀ l : List Arm, (∀ a ∈ l, a.wrong false = 0) → (∀ a ∈ armsNorm l, a.wrong false = 0 ∧ a.wn = true) ∧ armsSize (armsNorm l) ≤ armsSize l ∧ armsWt (armsNorm l) ≤ armsWt l
 | [], h => ⟨by simp [armsNorm], by simp [armsNorm], by simp [armsNorm]⟩
 | a :: r, h => by
  have h1 := arm_norm_ok false a (h a (List.mem_cons_self ..)); have h2 := arms_norm_ok r fun m hm => h m (List.mem_cons_of_mem _ hm)
  refine ⟨fun x hx => ?_, ?_, ?_⟩
  · simp only [armsNorm, List.mem_cons] at hx
    rcases hx with rfl | hx
    · exact ⟨h1.1, h1.2.1⟩
    · exact h2.1 x hx
  · simp only [armsNorm, armsSize]; have := h2.2.1; omega
  · simp only [armsNorm, armsWt]; have := h2.2.2; omega
end
end Go.VM
