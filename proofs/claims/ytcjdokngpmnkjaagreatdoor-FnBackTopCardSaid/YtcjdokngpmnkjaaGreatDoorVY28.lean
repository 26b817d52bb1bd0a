/- Lists of instructions read back as ladders, in plain words: what was printed is read as it was. Conditions: none. -/
import Derived.Test.YtcjdokngpmnkjaaGreatDoorVW1
import Derived.Test.YtcjdokngpmnkjaaGreatDoorVY24

namespace Go.VM
set_option linter.unusedVariables false
def Net.nil : Net := .mk 0 0 [] []
def together (k : Int) (a b : Net) : Net := if a.none then b else .mk k 0 [] (a.open k ++ b.open k)
def stepR (s : List Net) (i : Ins) : List Net :=
 if i.c = 1 then .mk 1 i.e.op i.e.as [] :: s
 else if i.c = 2 ∨ i.c = 3 then (match s with | a :: r => together i.c a (.mk 1 i.e.op i.e.as []) :: r | [] => [])
 else if i.c = 4 ∨ i.c = 5 then (match s with | b :: a :: r => together (i.c - 2) a b :: r | l => l)
 else if i.c = 6 then (match s with | a :: r => .mk 4 0 [] [a] :: r | [] => [])
 else s
def runR (s : List Net) (l : List Ins) : List Net := l.foldl stepR s
theorem kj9 (s : List Net) (a b : List Ins) : runR s (a ++ b) = runR (runR s a) b := by simp [runR]
theorem ko7 {k : Int} {a b : Net} (ha : a.none = false) (h1 : a.kind ≠ k) (h2 : b.kind ≠ k) : together k a b = .mk k 0 [] [a, b] := by
 simp [together, ha, Net.open, h1, h2]
theorem together_more {k : Int} {l : List Net} {b : Net} (h0 : k ≠ 0) (h2 : b.kind ≠ k) : together k (.mk k 0 [] l) b = .mk k 0 [] (l ++ [b]) := by
 have e1 : Net.open k (.mk k 0 [] l) = l := by simp [Net.open, Net.kind, Net.kids]
 have e2 : Net.open k b = [b] := by unfold Net.open; rw [if_neg h2]
 unfold together; rw [if_neg (by simp [Net.none, Net.kind, h0]), e1, e2]
theorem ke1 {k : Int} (h0 : k ≠ 0) : ∀ (l : List Net) (m : List Net), (∀ y ∈ m, y.kind ≠ k) → m.foldl (together k) (.mk k 0 [] l) = .mk k 0 [] (l ++ m)
 | l, [], h => by simp
 | l, y :: m, h => by
  rw [List.foldl_cons, together_more h0 (h y (List.mem_cons_self ..)), ke1 h0 _ m fun z hz => h z (List.mem_cons_of_mem _ hz)]; simp
theorem kJ8 {k op : Int} {as : List Arg} {ks : List Net} (h : Net.wn (.mk k op as ks) = true) : (∀ n ∈ ks, ¬ (n.kind = k ∧ k ≠ 4) ∧ n.wn = true) ∧ (k = 1 ∨ k = 4 ∨ 1 < ks.length) := by
 simp only [Net.wn, Bool.and_eq_true, decide_eq_true_eq] at h; exact ⟨(kc6 k ks).1 h.1, h.2⟩
theorem leaf_eq {x : Net} (h : x.wrong = 0) (hk : x.kind = 1) : x = .mk 1 x.op x.as [] := by
 obtain ⟨k, op, as, ks⟩ := x; simp only [Net.kind] at hk; subst hk; cases ks with
 | nil => rfl
 | cons a r => simp [Net.wrong] at h
mutual
theorem kk2 : ∀ (n : Net) (s : List Net), n.wrong = 0 → n.wn = true → runR s n.begins = n :: s
 | .mk k op as [], s, hr, hw => by
  obtain ⟨rfl, -⟩ := k75 hr; simp [Net.begins, runR, stepR]
 | .mk k op as (x :: r), s, hr, hw => by
  obtain ⟨hk, hx, hall, rfl, rfl, h4⟩ := k66 hr; obtain ⟨hkids, hlen⟩ := kJ8 hw; have hxk := hkids x (List.mem_cons_self ..); have h1 := kk2 x s hx hxk.2; simp only [Net.begins]; rw [kj9, h1]
  by_cases e : k = 4
  · subst e
    rw [if_pos rfl, h4 rfl]; simp [runR, stepR]
  · rw [if_neg e]
    have hr2 : ∀ y ∈ r, y.kind ≠ k := fun y hy e2 => (hkids y (List.mem_cons_of_mem _ hy)).1 ⟨e2, e⟩
    rw [kh4 r k x s (by omega) hall (fun y hy => (hkids y (List.mem_cons_of_mem _ hy)).2) hr2]
    match r, hlen, hr2 with
    | [], hlen, hr2 => simp at hlen; omega
    | y :: q, hlen, hr2 =>
     rw [List.foldl_cons, ko7 (kc4 hx) (fun e2 => hxk.1 ⟨e2, e⟩) (hr2 y (List.mem_cons_self ..)), ke1 (by omega) _ q fun z hz => hr2 z (List.mem_cons_of_mem _ hz)]; simp
theorem kh4 : ∀ (l : List Net) (k : Int) (acc : Net) (s : List Net), k = 2 ∨ k = 3 → (∀ y ∈ l, y.wrong = 0) → (∀ y ∈ l, y.wn = true) → (∀ y ∈ l, y.kind ≠ k) → runR (acc :: s) (netsTaken k l) = l.foldl (together k) acc :: s
 | [], k, acc, s, hk, h, hw, hkd => by simp [netsTaken, runR]
 | x :: r, k, acc, s, hk, h, hw, hkd => by
  have hx := h x (List.mem_cons_self ..); have h2 := kh4 r k (together k acc x) s hk (fun y hy => h y (List.mem_cons_of_mem _ hy)) (fun y hy => hw y (List.mem_cons_of_mem _ hy)) (fun y hy => hkd y (List.mem_cons_of_mem _ hy)); simp only [netsTaken, List.foldl_cons]; rw [kj9]
  by_cases h1 : x.kind = 1
  · rw [if_pos h1]
    have e : runR (acc :: s) [(⟨k, ⟨x.op, x.as⟩⟩ : Ins)] = together k acc x :: s := by
     have := leaf_eq hx h1; simp only [runR, List.foldl_cons, List.foldl_nil, stepR]; rw [if_neg (by omega), if_pos hk, ← this]
    rw [e, h2]
  · rw [if_neg h1, kj9, kk2 x (acc :: s) hx (hw x (List.mem_cons_self ..))]
    have e : runR (x :: acc :: s) [Ins.bare (k + 2)] = together k acc x :: s := by
     simp only [runR, List.foldl_cons, List.foldl_nil, stepR, Ins.bare]; rw [if_neg (by omega), if_neg (by omega), if_pos (by omega), show k + 2 - 2 = k by omega]
    rw [e, h2]
end
theorem kh5 (n : Net) (h : NetFine n) (hw : n.kind = 0 ∨ n.wn = true) : runR [Net.nil] (netsTaken 2 n.parts) = [n] := by
 have hnil : Net.nil.none = true := ku0; unfold Net.parts
 by_cases h0 : n.none = true
 · rw [if_pos h0, Net.none_eq h0]
   simp [netsTaken, runR, Net.nil]
 · rw [if_neg h0]
   have hr : n.wrong = 0 := by rcases h with h | h; exact absurd h h0; exact h
   have hw : n.wn = true := by
    rcases hw with hw | hw
    · rcases kc5 hr with e | e | e | e <;> omega
    · exact hw
   by_cases h2 : n.kind = 2
   · rw [if_pos h2]
     obtain ⟨k, op, as, ks⟩ := n; simp only [Net.kind] at h2; subst h2; obtain ⟨-, rfl, rfl, -, -, hall⟩ := k45 hr (by omega); obtain ⟨hkids, hlen⟩ := kJ8 hw; simp only [Net.kids]; rw [kh4 ks 2 Net.nil [] (.inl rfl) hall (fun y hy => (hkids y hy).2) (fun y hy e => (hkids y hy).1 ⟨e, by omega⟩)]
     match ks, hkids, hall, hlen with
     | [], _, _, hlen => simp at hlen
     | [x], _, _, hlen => simp at hlen
     | x :: y :: q, hkids, hall, _ =>
      have e1 : together 2 Net.nil x = x := by simp [together, hnil]
      rw [List.foldl_cons, List.foldl_cons, e1, ko7 (kc4 (hall x (List.mem_cons_self ..))) (fun e => (hkids x (List.mem_cons_self ..)).1 ⟨e, by omega⟩) (fun e => (hkids y (by simp)).1 ⟨e, by omega⟩),
       ke1 (by omega) _ q fun z hz e => (hkids z (by simp [hz])).1 ⟨e, by omega⟩]
      simp
   · rw [if_neg h2, kh4 [n] 2 Net.nil [] (.inl rfl) (by simpa using hr) (by simpa using hw) (by simpa using h2)]
     simp [together, hnil]
def codeI : List Ins → Int | [] => 11 | i :: _ => i.c
def netSpan : List Ins → List Ins × List Ins
 | [] => ([], [])
 | i :: r => if i.c < 7 then (i :: (netSpan r).1, (netSpan r).2) else ([], i :: r)
def coilSpan : List Ins → List El × List Ins
 | [] => ([], [])
 | i :: r => if i.c = 10 then (i.e :: (coilSpan r).1, (coilSpan r).2) else ([], i :: r)
mutual
def readArm : Nat → List Net → List Ins → Arm × List Ins
 | 0, _, l => (.mk Net.nil [] [], l)
 | n + 1, s, l =>
  let l1 := netSpan l
  let net := (runR s l1.1).headD Net.nil
  let l2 := coilSpan l1.2
  if codeI l2.2 = 7 then
   let k0 := readArm n [Net.nil] l2.2.tail
   let ms := readMids n k0.2
   if codeI ms.2 = 9 then
    let k1 := readArm n [Net.nil] ms.2.tail
    (.mk net l2.1 (k0.1 :: (ms.1 ++ [k1.1])), k1.2)
   else (.mk net l2.1 (k0.1 :: ms.1), ms.2)
  else if codeI l2.2 = 8 ∨ codeI l2.2 = 9 ∨ codeI l2.2 = 11 then (.mk net l2.1 [], l2.2)
  else
   let k0 := readArm n [Net.nil] l2.2
   (.mk net l2.1 [k0.1], k0.2)
def readMids : Nat → List Ins → List Arm × List Ins
 | 0, l => ([], l)
 | n + 1, l => if codeI l = 8 then
  let k := readArm n [Net.nil] l.tail
  let ms := readMids n k.2
  (k.1 :: ms.1, ms.2)
  else ([], l)
end
theorem kh7 : ∀ (P R : List Ins), (∀ i ∈ P, i.c ≤ 6) → 7 ≤ codeI R → netSpan (P ++ R) = (P, R)
 | [], [], h, hR => rfl
 | [], i :: r, h, hR => by simp only [codeI] at hR; simp only [List.nil_append, netSpan]; rw [if_neg (by omega)]
 | p :: P, R, h, hR => by
  have := h p (List.mem_cons_self ..); rw [List.cons_append, netSpan, if_pos (by omega), kh7 P R (fun i hi => h i (List.mem_cons_of_mem _ hi)) hR]
theorem ke3 : ∀ (cs : List El) (R : List Ins), codeI R ≠ 10 → coilSpan (coilsI cs ++ R) = (cs, R)
 | [], [], h => rfl
 | [], i :: r, h => by simp only [codeI] at h; simp only [coilsI, List.map_nil, List.nil_append, coilSpan]; rw [if_neg h]
 | e :: cs, R, h => by
  have := ke3 cs R h; simp only [coilsI] at this; simp only [coilsI, List.map_cons, List.cons_append, coilSpan, if_true, this]
theorem wn_arm {n : Net} {cs : List El} {ks : List Arm} (h : Arm.wn (.mk n cs ks) = true) : (n.kind = 0 ∨ n.wn = true) ∧ (∀ k ∈ ks, k.wn = true) ∧ (ks.length = 1 → 0 < cs.length ∧ ∀ k ∈ ks, k.net.kind ≠ 0) := by
 simp only [Arm.wn, Bool.and_eq_true, Bool.or_eq_true, decide_eq_true_eq] at h; obtain ⟨⟨h1, h2⟩, h3⟩ := h; refine ⟨h1, (k77 ks).1 h2, fun e => ?_⟩
 rcases h3 with h3 | ⟨h3, h4⟩
 · exact absurd e h3
 · refine ⟨h3, fun k hk e2 => ?_⟩
   have := List.all_eq_true.1 h4 k hk; simp [e2] at this
theorem taken_code (k : Int) (x : Net) (r : List Net) (R : List Ins) (hx : x.wrong = 0) (hk : k = 2 ∨ k = 3) : codeI (netsTaken k (x :: r) ++ R) ≤ 6 := by
 have h : ∀ i ∈ netsTaken k [x], i.c ≤ 6 := k63 [x] k hk (by simpa using hx); have e : netsTaken k (x :: r) = netsTaken k [x] ++ netsTaken k r := k43 k [x] r; have hne : netsTaken k [x] ≠ [] := by
  simp only [netsTaken, List.append_nil]; split
  · simp
  · simp
 rw [e]
 match netsTaken k [x], hne, h with
 | i :: q, _, h => exact h i (List.mem_cons_self ..)
def stopI (R : List Ins) : Prop := codeI R = 8 ∨ codeI R = 9 ∨ codeI R = 11
theorem kC5 {N i : Nat} {a : Arm} {r : List Arm} (R : List Ins) (hi : 1 ≤ i) (hN : i + (a :: r).length = N) : stopI (armsTail N i (a :: r) ++ R) := by
 have e : sepI N i = [Ins.bare 9] ∨ sepI N i = [Ins.bare 8] := by
  simp only [List.length_cons] at hN; unfold sepI; rw [if_neg (by omega), if_neg (by omega)]; split
  · exact .inl rfl
  · exact .inr rfl
 simp only [armsTail, stopI]; rcases e with e | e <;> rw [e] <;> simp [codeI]
mutual
theorem kg0 : ∀ (a : Arm) (n : Nat), 2 * a.wt ≤ n → a.wrong false = 0 → a.wn = true → ∀ (s0 s1 : List Net) (P R : List Ins), (∀ i ∈ P, i.c ≤ 6) → runR s0 P = a.net :: s1 → stopI R → readArm n s0 (P ++ (a.tail ++ R)) = (a, R)
 | .mk net cs [], n, hn, hr, hw, s0, s1, P, R, hP, hs, hR => by
  obtain ⟨-, -, hc, h0, hk⟩ := k13 hr; have hk' := (k20 _).1 hk; obtain ⟨-, hkw, hone⟩ := wn_arm hw; simp only [Arm.wt] at hn; have hnp := net.wt_pos; obtain ⟨n, rfl⟩ : ∃ m, n = m + 1 := ⟨n - 1, by omega⟩; simp only [Arm.net] at hs; simp only [Arm.tail, List.append_assoc]; have hcode : cs ≠ [] → ∀ Q, codeI (coilsI cs ++ Q) = 10 := fun h Q => by
   cases cs with
   | nil => exact absurd rfl h
   | cons e r => rfl
  have hcs : cs ≠ [] := fun e => h0 ⟨by rw [e]; rfl, rfl⟩
  simp only [armsTail, List.nil_append]; have hR' : codeI R ≠ 10 := by unfold stopI at hR; omega
  simp only [readArm]; rw [kh7 P _ hP (by rw [hcode hcs]; decide)]; simp only [ke3 cs R hR', hs, List.headD_cons]; rw [if_neg (by unfold stopI at hR; omega), if_pos (show codeI R = 8 ∨ codeI R = 9 ∨ codeI R = 11 from hR)]
 | .mk net cs [a], n, hn, hr, hw, s0, s1, P, R, hP, hs, hR => by
  obtain ⟨-, -, hc, h0, hk⟩ := k13 hr; have hk' := (k20 _).1 hk; obtain ⟨-, hkw, hone⟩ := wn_arm hw; simp only [Arm.wt] at hn; have hnp := net.wt_pos; obtain ⟨n, rfl⟩ : ∃ m, n = m + 1 := ⟨n - 1, by omega⟩; simp only [Arm.net] at hs; simp only [Arm.tail, List.append_assoc]; have hcode : cs ≠ [] → ∀ Q, codeI (coilsI cs ++ Q) = 10 := fun h Q => by
   cases cs with
   | nil => exact absurd rfl h
   | cons e r => rfl
  obtain ⟨hc0, hkn⟩ := hone rfl; have hcs : cs ≠ [] := fun e => by rw [e] at hc0; simp at hc0
  have ha := hk' a (List.mem_cons_self ..); have haw := hkw a (List.mem_cons_self ..); have hak := hkn a (List.mem_cons_self ..); have hfa : NetFine a.net := by obtain ⟨n, cs, ks⟩ := a; exact (k13 ha).2.1
  have haw' : a.net.kind = 0 ∨ a.net.wn = true := by obtain ⟨n, cs, ks⟩ := a; exact (wn_arm haw).1
  have hpr := k36 hfa; have hne : ∃ x r, a.net.parts = x :: r := by
   have hn0 : ¬ a.net.none = true := fun e => hak (by rw [Net.none_eq e]; rfl)
   unfold Net.parts; rw [if_neg hn0]; split
   · rename_i h2
     obtain ⟨⟨k, op, as, nks⟩, cs', ks'⟩ := a; simp only [Arm.net, Net.kind] at h2; simp only [Arm.net, Net.kids]; have hwr : Net.wrong (.mk k op as nks) = 0 := by rcases hfa with h | h; exact absurd h hn0; exact h
     have := (k45 hwr (by omega)).2.2.2.1; cases nks with
     | nil => exact absurd rfl this
     | cons x r => exact ⟨x, r, rfl⟩
   · exact ⟨_, _, rfl⟩
  have hcodeK : codeI (netsTaken 2 a.net.parts ++ (a.tail ++ R)) ≤ 6 := by
   obtain ⟨x, r, e⟩ := hne; rw [e]; exact taken_code 2 x r _ (hpr x (by rw [e]; exact List.mem_cons_self ..)) (.inl rfl)
  have e1 : armsTail [a].length 0 [a] ++ R = netsTaken 2 a.net.parts ++ (a.tail ++ R) := by simp [armsTail, sepI]
  rw [e1]; simp only [readArm]; rw [kh7 P _ hP (by rw [hcode hcs]; decide)]; simp only [ke3 cs _ (show codeI (netsTaken 2 a.net.parts ++ (a.tail ++ R)) ≠ 10 by omega), hs, List.headD_cons]; rw [if_neg (by omega), if_neg (by omega)]; simp only [armsWt] at hn; rw [kg0 a n (by omega) ha haw [Net.nil] [] _ R (k63 _ 2 (.inl rfl) hpr) (kh5 a.net hfa haw') hR]
 | .mk net cs (a :: b :: r), n, hn, hr, hw, s0, s1, P, R, hP, hs, hR => by
  obtain ⟨-, -, hc, h0, hk⟩ := k13 hr; have hk' := (k20 _).1 hk; obtain ⟨-, hkw, hone⟩ := wn_arm hw; simp only [Arm.wt] at hn; have hnp := net.wt_pos; obtain ⟨n, rfl⟩ : ∃ m, n = m + 1 := ⟨n - 1, by omega⟩; simp only [Arm.net] at hs; simp only [Arm.tail, List.append_assoc]; have hcode : cs ≠ [] → ∀ Q, codeI (coilsI cs ++ Q) = 10 := fun h Q => by
   cases cs with
   | nil => exact absurd rfl h
   | cons e r => rfl
  have ha := hk' a (List.mem_cons_self ..); have haw := hkw a (List.mem_cons_self ..); have hfa : NetFine a.net := by obtain ⟨n, cs, ks⟩ := a; exact (k13 ha).2.1
  have haw' : a.net.kind = 0 ∨ a.net.wn = true := by obtain ⟨n, cs, ks⟩ := a; exact (wn_arm haw).1
  have e2 : (a :: b :: r).length = r.length + 2 := by simp
  have e : sepI (r.length + 2) 0 = [Ins.bare 7] := by simp [sepI]
  have e1 : armsTail (a :: b :: r).length 0 (a :: b :: r) ++ R = Ins.bare 7 :: (netsTaken 2 a.net.parts ++ (a.tail ++ (armsTail (r.length + 2) 1 (b :: r) ++ R))) := by
   rw [e2, armsTail, e]; simp
  rw [e1]; have hPc : 7 ≤ codeI (coilsI cs ++ (Ins.bare 7 :: (netsTaken 2 a.net.parts ++ (a.tail ++ (armsTail (r.length + 2) 1 (b :: r) ++ R))))) := by
   cases cs with
   | nil => simp [coilsI, codeI]
   | cons x q => simp [coilsI, codeI]
  simp only [armsWt] at hn; have hap := a.wt_pos; have hbp := b.wt_pos; have hst := kC5 (N := r.length + 2) (i := 1) (a := b) (r := r) R (Nat.le_refl _) (by simp only [List.length_cons]; omega); have hx := kg0 a n (by omega) ha haw [Net.nil] [] _ _ (k63 _ 2 (.inl rfl) (k36 hfa)) (kh5 a.net hfa haw') hst; obtain ⟨mids, lst, hl, hmids⟩ := kC9 (r.length + 2) (b :: r) 1 n (by simp only [armsWt]; omega) (Nat.le_refl _) (by simp only [List.length_cons]; omega) (by simp) (fun x hx => hk' x (List.mem_cons_of_mem _ hx)) (fun x hx => hkw x (List.mem_cons_of_mem _ hx)) R hR; have hlm : lst ∈ b :: r := by rw [hl]; simp
  have hlr := hk' lst (List.mem_cons_of_mem _ hlm); have hlw := hkw lst (List.mem_cons_of_mem _ hlm); have hlwt : lst.wt ≤ armsWt (b :: r) := k07 hlm; have hfl : NetFine lst.net := by obtain ⟨n, cs, ks⟩ := lst; exact (k13 hlr).2.1
  have hlw' : lst.net.kind = 0 ∨ lst.net.wn = true := by obtain ⟨n, cs, ks⟩ := lst; exact (wn_arm hlw).1
  simp only [armsWt] at hlwt; have hy := kg0 lst n (by omega) hlr hlw [Net.nil] [] _ R (k63 _ 2 (.inl rfl) (k36 hfl)) (kh5 lst.net hfl hlw') hR; simp only [readArm, kh7 P _ hP hPc, ke3 cs (Ins.bare 7 :: (netsTaken 2 a.net.parts ++ (a.tail ++ (armsTail (r.length + 2) 1 (b :: r) ++ R)))) (by simp [codeI]), hs, List.headD_cons, codeI, List.tail_cons, hx, hmids, hy, if_true, ← hl]
termination_by a => 2 * a.wt + 1
decreasing_by all_goals (simp only [Arm.wt, armsWt] at *; omega)
theorem kC9 (N : Nat) : ∀ (l : List Arm) (i n : Nat), 2 * armsWt l ≤ n → 1 ≤ i → i + l.length = N → l ≠ [] → (∀ a ∈ l, a.wrong false = 0) → (∀ a ∈ l, a.wn = true) → ∀ R, stopI R →
 ∃ mids lst, l = mids ++ [lst] ∧ readMids n (armsTail N i l ++ R) = (mids, Ins.bare 9 :: (netsTaken 2 lst.net.parts ++ (lst.tail ++ R)))
 | [], i, n, hn, hi, hN, hne, hr, hw, R, hR => absurd rfl hne
 | [a], i, n, hn, hi, hN, hne, hr, hw, R, hR => by
  have hap := a.wt_pos; simp only [armsWt] at hn; obtain ⟨n, rfl⟩ : ∃ m, n = m + 1 := ⟨n - 1, by omega⟩; simp only [List.length_cons, List.length_nil] at hN; have e : sepI N i = [Ins.bare 9] := by unfold sepI; rw [if_neg (by omega), if_neg (by omega), if_pos (by omega)]
  refine ⟨[], a, rfl, ?_⟩
  simp only [armsTail, e, List.append_nil, List.append_assoc, List.cons_append, List.nil_append, readMids]; rw [if_neg (by simp [codeI])]
 | a :: b :: r, i, n, hn, hi, hN, hne, hr, hw, R, hR => by
  have hap := a.wt_pos; simp only [armsWt] at hn; obtain ⟨n, rfl⟩ : ∃ m, n = m + 1 := ⟨n - 1, by omega⟩; have hbp := b.wt_pos; have ha := hr a (List.mem_cons_self ..); have haw := hw a (List.mem_cons_self ..); have hfa : NetFine a.net := by obtain ⟨n, cs, ks⟩ := a; exact (k13 ha).2.1
  have haw' : a.net.kind = 0 ∨ a.net.wn = true := by obtain ⟨n, cs, ks⟩ := a; exact (wn_arm haw).1
  simp only [List.length_cons] at hN; have e : sepI N i = [Ins.bare 8] := by unfold sepI; rw [if_neg (by omega), if_neg (by omega), if_neg (by omega)]
  have hst := kC5 (N := N) (i := i + 1) (a := b) (r := r) R (by omega) (by simp only [List.length_cons]; omega); obtain ⟨mids, lst, hl, hm⟩ := kC9 N (b :: r) (i + 1) n (by simp only [armsWt]; omega) (by omega) (by simp only [List.length_cons]; omega) (by simp) (fun x hx => hr x (List.mem_cons_of_mem _ hx)) (fun x hx => hw x (List.mem_cons_of_mem _ hx)) R hR; refine ⟨a :: mids, lst, by rw [hl]; rfl, ?_⟩
  have e1 : armsTail N i (a :: b :: r) ++ R = Ins.bare 8 :: (netsTaken 2 a.net.parts ++ (a.tail ++ (armsTail N (i + 1) (b :: r) ++ R))) := by
   rw [armsTail, e]; simp
  rw [e1, readMids, if_pos (show codeI (Ins.bare 8 :: _) = 8 from rfl)]; simp only [List.tail_cons]; rw [kg0 a n (by omega) ha haw [Net.nil] [] _ _ (k63 _ 2 (.inl rfl) (k36 hfa)) (kh5 a.net hfa haw') hst, hm]
termination_by l => 2 * armsWt l
decreasing_by all_goals (simp only [armsWt] at *; omega)
end
theorem read_plain (a : Arm) (n : Nat) (hn : 2 * a.wt ≤ n) (hr : a.wrong true = 0) (hw : a.wn = true) : readArm n [] a.plain = (a, [Ins.bare 11]) := by
 obtain ⟨net, cs, ks⟩ := a; obtain ⟨h1, h2, -, -, -⟩ := k13 hr; have hn0 : net.wrong = 0 := by rcases h2 with h2 | h2; rw [h1 rfl] at h2; cases h2; exact h2
 have hnw : net.wn = true := by
  rcases (wn_arm hw).1 with e | e
  · rcases kc5 hn0 with h | h | h | h <;> omega
  · exact e
 have := kg0 (.mk net cs ks) n hn (k95 hr) hw [] [] net.begins [Ins.bare 11] (ke4 net hn0) (kk2 net [] hn0 hnw) (.inr (.inr rfl))
 simpa [Arm.plain, Arm.net] using this
set_option linter.unusedSimpArgs false
set_option maxHeartbeats 16000000
theorem kf3 {n : Nat} (l : List Ins) (s : Sup) : go (n + 1) 337 [.w (.ptr 0 0)] [.cells [isW l]] s = some ⟨iV (codeI l), [.cells [isW l]], []⟩ := by
  cases l with
  | nil => simp [go_of (n := n) FT_337 rfl, F337, codeI, insRows]
  | cons i r =>
    obtain ⟨c, op, as⟩ := i; have h : (((r.length : Int) + 1) = 0) = False := eq_false (by omega); simp [go_of (n := n) FT_337 rfl, F337, codeI, insRows, Ins.row, h]
theorem ks8 {n : Nat} (i : Ins) (r : List Ins) (s : Sup) : go (n + 1) 338 [.w (.ptr 0 0)] [.cells [isW (i :: r)]] s = some ⟨insX i, [.cells [isW r]], []⟩ := by
  obtain ⟨c, op, as⟩ := i; have al := eq_true (k42 r); have h : ((1 : Int) ≤ (r.length : Int) + 1) = True := eq_true (by omega); have tk := k05 r; simp [go_of (n := n) FT_338 rfl, F338, insRows, Ins.row, h]; exact List.take_of_length_le (by simp)
def KidsAt (H : Nat → Box) (g p q : Nat) (k : Int) (L : List Net) : Prop := ∃ w, H p = .cells [iW k, iW 0, .nil, w] ∧ ((L = [] ∧ w = .nil) ∨ ∃ b, b ≠ p ∧ b ≠ q ∧ b ≠ 128 ∧ b < g ∧ w = .own b 0 L.length none ∧ H b = .row none 4 (netRows L) 0)
theorem KidsAt.mk {H : Nat → Box} {g p q : Nat} {k : Int} {L : List Net} (b n : Nat) (h1 : H p = .cells [iW k, iW 0, .nil, .own b 0 n none]) (h2 : b ≠ p) (h3 : b ≠ q) (h3' : b ≠ 128) (h4 : b < g) (hn : n = L.length) (h5 : H b = .row none 4 (netRows L) 0) : KidsAt H g p q k L :=
  ⟨_, h1, .inr ⟨b, h2, h3, h3', h4, by rw [hn], h5⟩⟩
theorem netRow_all (l : List Net) : ∀ x ∈ netRows l, x.length = 4 := fun x hx => by
  rw [k55] at hx; simp only [List.mem_map] at hx; obtain ⟨⟨k, op, as, ks⟩, -, rfl⟩ := hx
  rfl
theorem flat_take {k : Int} {l : List Net} {i : Nat} {x : Net} (h : l[i]? = some x) : (l.take (i + 1)).flatMap (Net.open k) = (l.take i).flatMap (Net.open k) ++ x.open k := by
  rw [List.take_add_one, h]; simp
theorem flat_le {k : Int} (l : List Net) (i : Nat) : ((l.take i).flatMap (Net.open k)).length ≤ (l.flatMap (Net.open k)).length := by
  conv => rhs; rw [← List.take_append_drop i l]
  simp only [List.flatMap_append, List.length_append]; omega
theorem loop341_0 {n : Nat} (k : Int) (l : List Net) (p q : Nat) (hb : (l.flatMap (Net.open k)).length < 2 ^ 29) (hn : l.length < n) (hl : l.length < 2 ^ 40) (st : St) (h0 : st.τ 0 = iV k) (h6 : st.τ 6 = .w (.ptr 128 0)) (h7 : st.τ 7 = .w (.ptr p 0)) (h17 : st.τ 17 = .w (.own q 0 l.length (some l.length))) (h18 : st.τ 18 = iV l.length) (h19 : st.τ 19 = iV 0) (hQ : st.H q = .row none 4 (netRows l) 0) (hA : KidsAt st.H st.g p q k []) (hpq : p ≠ q) (hpg : p < st.g) (hqg : q < st.g) (hp8 : p ≠ 128) (hq8 : q ≠ 128) (hZ : st.H 128 = .cells [iW 0, iW 0, .nil, .nil] ∧ 128 < st.g) :
    ∃ e st', execC (go n) mode GT false 41 n F341_L0 st = some (e, st') ∧ e ≠ .normal ∧ (e = .exit 0 ∧ st'.τ 6 = .w (.ptr 128 0) ∧ st'.τ 7 = .w (.ptr p 0) ∧ KidsAt st'.H st'.g p q k (l.flatMap (Net.open k)) ∧ p < st'.g ∧ st'.H 128 = .cells [iW 0, iW 0, .nil, .nil] ∧ 128 < st'.g) := by
  rw [F341_L0, k00]; refine k03 (fun m st => ∃ i, i + m = l.length ∧ st.τ 0 = iV k ∧ st.τ 6 = .w (.ptr 128 0) ∧ st.τ 7 = .w (.ptr p 0) ∧ st.τ 17 = .w (.own q 0 l.length (some l.length)) ∧ st.τ 18 = iV l.length ∧ st.τ 19 = iV i ∧ st.H q = .row none 4 (netRows l) 0 ∧ KidsAt st.H st.g p q k ((l.take i).flatMap (Net.open k)) ∧ p < st.g ∧ q < st.g ∧ st.H 128 = .cells [iW 0, iW 0, .nil, .nil] ∧ 128 < st.g) ?_ n l.length st hn
    ⟨0, by omega, h0, h6, h7, h17, h18, by simpa using h19, hQ, by simpa using hA, hpg, hqg, hZ⟩
  clear h0 h6 h7 h17 h18 h19 hQ hA hpg hqg hZ; rintro m ⟨τ, H, g, s⟩ ⟨i, hm, h0, h6, h7, h17, h18, h19, hQ, ⟨w, hP, hw⟩, hpg, hqg, hZ, hzg⟩; simp only at h0 h6 h7 h17 h18 h19 hQ hP hw hpg hqg hZ hzg; cases m with
  | zero =>
    have : i = l.length := by omega
    subst this; rw [List.take_length] at hw; refine ⟨.exit 0, ?_⟩
    simp [F341_B0, h18, h19, h6, h7]; refine ⟨⟨w, hP, ?_⟩, by omega, hZ, by omega⟩
    rcases hw with hw | ⟨b, w1, w2, w2', w3, w4, w5⟩
    · exact .inl hw
    · exact .inr ⟨b, w1, w2, w2', by omega, w4, w5⟩
  | succ m =>
    have hlt : i < l.length := by omega
    have hlt' := ltT hlt; have hgt := List.getElem?_eq_getElem hlt; have hw1 := k04 (i := i) (by omega); have hstep := flat_take (k := k) hgt; have hle := flat_le (k := k) l (i + 1); rw [hstep, List.length_append] at hle; obtain ⟨xk, xo, xa, xks, hx⟩ : ∃ xk xo xa xks, l[i] = .mk xk xo xa xks := by cases hq : l[i] with | mk a b c d => exact ⟨_, _, _, _, rfl⟩
    rw [hx] at hgt hstep hle; have hrow := k31 hgt; have tkl : List.take l.length (netRows l) = netRows l := List.take_of_length_le (by rw [k09]; omega); have pX := far hpg; have zX := far hzg; have z1 : (128 = p) = False := eq_false fun e => hp8 e.symm
    have z2 : (p = 128) = False := eq_false hp8; have z3 : (128 = q) = False := eq_false fun e => hq8 e.symm
    have qX := far hqg; have e1 : (p = q) = False := eq_false hpq; have e2 : (q = p) = False := eq_false fun e => hpq e.symm
    generalize (l.take i).flatMap (Net.open k) = S at hw hstep hle; have al := eq_true (netRow_all xks); have tkx : List.take xks.length (netRows xks) = netRows xks := List.take_of_length_le (by rw [k09]; omega); have fin : ∀ st' : St, st'.τ 0 = iV k → st'.τ 6 = .w (.ptr 128 0) → st'.τ 7 = .w (.ptr p 0) → st'.τ 17 = .w (.own q 0 l.length (some l.length)) → st'.τ 18 = iV l.length → st'.τ 19 = iV ((i + 1 : Nat) : Int) → st'.H q = .row none 4 (netRows l) 0 → KidsAt st'.H st'.g p q k (S ++ Net.open k (.mk xk xo xa xks)) → p < st'.g → q < st'.g → st'.H 128 = .cells [iW 0, iW 0, .nil, .nil] ∧ 128 < st'.g →
        ∃ k', k' < m + 1 ∧ ∃ i, i + k' = l.length ∧ st'.τ 0 = iV k ∧ st'.τ 6 = .w (.ptr 128 0) ∧ st'.τ 7 = .w (.ptr p 0) ∧ st'.τ 17 = .w (.own q 0 l.length (some l.length)) ∧ st'.τ 18 = iV l.length ∧ st'.τ 19 = iV i ∧ st'.H q = .row none 4 (netRows l) 0 ∧ KidsAt st'.H st'.g p q k ((l.take i).flatMap (Net.open k)) ∧ p < st'.g ∧ q < st'.g ∧ st'.H 128 = .cells [iW 0, iW 0, .nil, .nil] ∧ 128 < st'.g := fun st' a1 a2 a3 a4 a5 a6 a7 a8 a9 a10 a11 =>
      ⟨m, by omega, i + 1, by omega, a1, a2, a3, a4, a5, a6, a7, by rw [hstep]; exact a8, a9, a10, a11⟩
    suffices hsuf : ∃ st', execC (go n) mode GT false 41 n F341_B0 ⟨τ, H, g, s⟩ = some (.normal, st') ∧ st'.τ 0 = iV k ∧ st'.τ 6 = .w (.ptr 128 0) ∧ st'.τ 7 = .w (.ptr p 0) ∧ st'.τ 17 = .w (.own q 0 l.length (some l.length)) ∧ st'.τ 18 = iV l.length ∧ st'.τ 19 = iV ((i + 1 : Nat) : Int) ∧ st'.H q = .row none 4 (netRows l) 0 ∧ KidsAt st'.H st'.g p q k (S ++ Net.open k (.mk xk xo xa xks)) ∧ p < st'.g ∧ q < st'.g ∧ st'.H 128 = .cells [iW 0, iW 0, .nil, .nil] ∧ 128 < st'.g by
      obtain ⟨st', a0, a1, a2, a3, a4, a5, a6, a7, a8, a9, a10, a11⟩ := hsuf; rw [a0]; exact ⟨.normal, st', rfl, fun _ => fin st' a1 a2 a3 a4 a5 a6 a7 a8 a9 a10 a11, fun h => absurd rfl h⟩
    have rm1 : room 1 64 = true := by decide
    rcases ptf (xk = k) with hk | hk
    · have eo : Net.open k (.mk xk xo xa xks) = xks := by have : xk = k := of_eq_true hk; unfold Net.open; rw [if_pos (by simpa [Net.kind] using this)]; rfl
      rw [eo] at hle ⊢; have rmx : room xks.length 64 = true := k08 (by omega) (by omega); have rmS : room (S.length + xks.length) 64 = true := k08 (by omega) (by omega); have tkS : List.take S.length (netRows S) = netRows S := List.take_of_length_le (by rw [k09]; omega); rcases hw with ⟨rfl, rfl⟩ | ⟨b, w1, w2, w2', w3, rfl, w5⟩
      · simp [-getElem?_pos, F341_B0, h0, h6, h7, h17, h18, h19, hQ, hP, hlt, hlt', hrow, hw1, tkl, e1, e2, pX, qX, hk, k09, al, rmx]
        exact ⟨KidsAt.mk (g + 64 + 256 + 256 + 256) xks.length (by simp [e1, e2, pX]) (by omega) (by omega) (by omega) (by omega) (by simp) (by simp [pX, qX]), by omega, by omega, by simp [zX, z1, z2, z3, hZ]⟩
      · have bX := far w3
        have e3 : (b = p) = False := eq_false w1; have e4 : (b = q) = False := eq_false w2; have e5 : (p = b) = False := eq_false fun e => w1 e.symm
        have e6 : (q = b) = False := eq_false fun e => w2 e.symm
        have z4 : (128 = b) = False := eq_false fun e => w2' e.symm
        have z5 : (b = 128) = False := eq_false w2'; simp [-getElem?_pos, F341_B0, h0, h6, h7, h17, h18, h19, hQ, hP, hlt, hlt', hrow, hw1, tkl, e1, e2, pX, qX, hk, k09, al, rmS, tkS, tkx, w5, e3, e4, e5, e6, bX]; exact ⟨KidsAt.mk (g + 64 + 256 + 256 + 256) (S.length + xks.length) (by simp [e1, e2, e3, e4, e5, e6, pX, bX]) (by omega) (by omega) (by omega) (by omega) (by simp) (by simp [pX, qX, bX, k16]), by omega, by omega, by simp [zX, z1, z2, z3, hZ, z4, z5]⟩
    · have eo : Net.open k (.mk xk xo xa xks) = [.mk xk xo xa xks] := by have : ¬ xk = k := of_eq_false hk; unfold Net.open; rw [if_neg (by simpa [Net.kind] using this)]
      rw [eo] at hle ⊢; simp only [List.length_singleton] at hle; have rmS : room (S.length + 1) 64 = true := k08 (by omega) (by omega); have tkS : List.take S.length (netRows S) = netRows S := List.take_of_length_le (by rw [k09]; omega); have n1 : netRows [.mk xk xo xa xks] = [[iD xk, iD xo, .l 0 (argRows xa), .l 0 (netRows xks)]] := by simp [netRows, Net.row]
      rcases hw with ⟨rfl, rfl⟩ | ⟨b, w1, w2, w2', w3, rfl, w5⟩
      · simp [-getElem?_pos, F341_B0, h0, h6, h7, h17, h18, h19, hQ, hP, hlt, hlt', hrow, hw1, tkl, e1, e2, pX, qX, hk, k09, rm1]
        exact ⟨KidsAt.mk (g + 64 + 256 + 256 + 256) 1 (by simp [e1, e2, pX]) (by omega) (by omega) (by omega) (by omega) (by simp) (by simp [pX, qX, n1]), by omega, by omega, by simp [zX, z1, z2, z3, hZ]⟩
      · have bX := far w3
        have e3 : (b = p) = False := eq_false w1; have e4 : (b = q) = False := eq_false w2; have e5 : (p = b) = False := eq_false fun e => w1 e.symm
        have e6 : (q = b) = False := eq_false fun e => w2 e.symm
        have z4 : (128 = b) = False := eq_false fun e => w2' e.symm
        have z5 : (b = 128) = False := eq_false w2'; simp [-getElem?_pos, F341_B0, h0, h6, h7, h17, h18, h19, hQ, hP, hlt, hlt', hrow, hw1, tkl, e1, e2, pX, qX, hk, k09, rmS, tkS, w5, e3, e4, e5, e6, bX]; exact ⟨KidsAt.mk (g + 64 + 256 + 256 + 256) (S.length + 1) (by simp [e1, e2, e3, e4, e5, e6, pX, bX]) (by omega) (by omega) (by omega) (by omega) (by simp) (by simp [pX, qX, bX, k16, n1]), by omega, by omega, by simp [zX, z1, z2, z3, hZ, z4, z5]⟩
theorem kp1 {n : Nat} (k : Int) (a b : Net) (hb : (Net.open k a).length + (Net.open k b).length < 2 ^ 29) (hn : 4 ≤ n) (s : Sup) : go (n + 1) 341 [iV k, netX a, netX b] [] s = some ⟨netX (together k a b), [], []⟩ := by
  have w0 := kd7 (n := n) (by omega) a; unfold together
  by_cases h : a.none = true
  · rw [if_pos h]
    rw [h] at w0; obtain ⟨ak, ao, aa, aks⟩ := a; obtain ⟨bk, bo, ba, bks⟩ := b; simp [go_of (n := n) FT_341 rfl, F341, w0]
  · rw [if_neg h]
    have h : a.none = false := by simpa using h
    rw [h] at w0; have e : Net.open k a ++ Net.open k b = [a, b].flatMap (Net.open k) := by simp
    have hlen : ([a, b].flatMap (Net.open k)).length < 2 ^ 29 := by rw [← e, List.length_append]; exact hb
    have hlp := loop341_0 (n := n) k [a, b]; simp only [← e] at hlp hlen; generalize Net.open k a ++ Net.open k b = L at hlp hlen ⊢; obtain ⟨ak, ao, aa, aks⟩ := a; obtain ⟨bk, bo, ba, bks⟩ := b; have rm2 : room 2 64 = true := by decide
    simp [go_of (n := n) FT_341 rfl, F341, w0, rm2]; generalize hst : St.mk _ _ _ _ = st; obtain ⟨e, ⟨τ', H', g', s'⟩, hx, -, rfl, h6, h7, ⟨w, hP, hw⟩, hpg, hZ, hzg⟩ := hlp 448 704 hlen (by simp; omega) (by simp) st (by simp [← hst]) (by simp [← hst]) (by simp [← hst]) (by simp [← hst]) (by simp [← hst]) (by simp [← hst]) (by simp [← hst, netRows, Net.row]) (by subst hst; exact ⟨_, by simp, .inl ⟨rfl, rfl⟩⟩) (by simp) (by simp [← hst]) (by simp [← hst]) (by simp) (by simp) (by simp [← hst]); simp only at h6 h7 hP hw hpg hZ hzg; clear hst; have zX := far hzg; rcases hw with ⟨rfl, rfl⟩ | ⟨b, w1, w2, w2', w3, rfl, w5⟩
    · simp [hx, h6, h7, hP, hZ, zX]
    · have tkL : List.take L.length (netRows L) = netRows L := List.take_of_length_le (by rw [k09]; omega)
      have z4 : (128 = b) = False := eq_false fun e => w2' e.symm
      have z5 : (b = 128) = False := eq_false w2'; simp [hx, h6, h7, hP, hZ, zX, z4, z5, w5, tkL]
end Go.VM
