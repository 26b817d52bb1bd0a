/- Operands, reckoned: what the program and what the document says of them. Conditions: none. -/
import Derived.Test.YtcjdokngpmnkjaaGreatDoorVN1

namespace Go.VM
set_option linter.unusedSimpArgs false
set_option linter.unusedVariables false
set_option maxHeartbeats 4000000
theorem k65 {n : Nat} (hn : 1 ≤ n) (a lo hi : Int) (s : Sup) : go n 60 [iV a, iV lo, iV hi] [] s = some ⟨sV (.bool (decide (lo ≤ a) && decide (a ≤ hi))), [], []⟩ := by
 obtain ⟨n, rfl⟩ : ∃ k, n = k + 1 := ⟨n - 1, by omega⟩
 by_cases h : lo ≤ a <;> simp [go_of FT_60 rfl, F60, h]
theorem run_DevSize {n : Nat} (hn : 2 ≤ n) (k : Int) (s : Sup) : go n 193 [iV k] [] s = some ⟨iV (devSize k), [], []⟩ := by
 obtain ⟨n, rfl⟩ : ∃ k, n = k + 1 := ⟨n - 1, by omega⟩; have w := k65 (n := n) (by omega)
 by_cases h : 1 ≤ k ∧ k ≤ 10
 · obtain rfl | rfl | rfl | rfl | rfl | rfl | rfl | rfl | rfl | rfl : k = 1 ∨ k = 2 ∨ k = 3 ∨ k = 4 ∨ k = 5 ∨ k = 6 ∨ k = 7 ∨ k = 8 ∨ k = 9 ∨ k = 10 := by omega
   all_goals simp [go_of FT_193 rfl, F193, w, GT, gRow, sizesD, ints, devSize]
 · have e : (decide (1 ≤ k) && decide (k ≤ 10)) = false := by simp; omega
   have hk : ∀ m : Int, 1 ≤ m → m ≤ 10 → (k = m) = False := fun m h1 h2 => eq_false fun e => h (by omega)
   simp [go_of FT_193 rfl, F193, w, e, devSize, hk]
theorem kf9 {n : Nat} (hn : 1 ≤ n) (k : Int) (s : Sup) : go n 180 [iV k] [] s = some ⟨iV (devSize k), [], []⟩ := by
 obtain ⟨n, rfl⟩ : ∃ k, n = k + 1 := ⟨n - 1, by omega⟩
 by_cases h : 1 ≤ k ∧ k ≤ 10
 · obtain rfl | rfl | rfl | rfl | rfl | rfl | rfl | rfl | rfl | rfl : k = 1 ∨ k = 2 ∨ k = 3 ∨ k = 4 ∨ k = 5 ∨ k = 6 ∨ k = 7 ∨ k = 8 ∨ k = 9 ∨ k = 10 := by omega
   all_goals simp [go_of FT_180 rfl, F180, devSize]
 · have hk : ∀ m : Int, 1 ≤ m → m ≤ 10 → (k = m) = False := fun m h1 h2 => eq_false fun e => h (by omega)
   simp [go_of FT_180 rfl, F180, devSize, hk]
theorem run_DevOk {n : Nat} (hn : 3 ≤ n) (a : Arg) (s : Sup) : go n 181 [argX a] [] s = some ⟨sV (.bool a.ok), [], []⟩ := by
 obtain ⟨n, rfl⟩ : ∃ k, n = k + 1 := ⟨n - 1, by omega⟩; obtain ⟨k, m, p⟩ := a; have w := k65 (n := n) (by omega); have w2 := run_DevSize (n := n) (by omega); have w3 : IntKind.wrap .i64 3 = 3 := by decide
 by_cases c1 : k = 11
 · have c1' := eq_true c1
   by_cases c2 : -32768 ≤ m
   · have c2' := eq_true c2
     by_cases c3 : m ≤ 32767
     · have c3' := eq_true c3
       by_cases c4 : p = 0
       · have c4' := eq_true c4
         simp [go_of FT_181 rfl, F181, w, w2, w3, GT, gRow, wordsD, Arg.ok, c1', c2', c3', c4']
       · have c4' := eq_false c4
         simp [go_of FT_181 rfl, F181, w, w2, w3, GT, gRow, wordsD, Arg.ok, c1', c2', c3', c4']
     · have c3' := eq_false c3
       simp [go_of FT_181 rfl, F181, w, w2, w3, GT, gRow, wordsD, Arg.ok, c1', c2', c3']
   · have c2' := eq_false c2
     simp [go_of FT_181 rfl, F181, w, w2, w3, GT, gRow, wordsD, Arg.ok, c1', c2']
 · have c1' := eq_false c1
   by_cases c5 : k = 12
   · have c5' := eq_true c5
     by_cases c6 : -999999999 ≤ m
     · have c6' := eq_true c6
       by_cases c7 : m ≤ 999999999
       · have c7' := eq_true c7
         by_cases c8 : 1 ≤ p
         · have c8' := eq_true c8
           by_cases c9 : p ≤ 6
           · have c9' := eq_true c9
             by_cases c10 : p = 1
             · have c10' := eq_true c10
               simp [go_of FT_181 rfl, F181, w, w2, w3, GT, gRow, wordsD, Arg.ok, c1', c5', c6', c7', c8', c9', c10']
             · have c10' := eq_false c10
               by_cases c11 : m.tmod 10 = 0
               · have c11' := eq_true c11
                 simp [go_of FT_181 rfl, F181, w, w2, w3, GT, gRow, wordsD, Arg.ok, c1', c5', c6', c7', c8', c9', c10', c11']
               · have c11' := eq_false c11
                 simp [go_of FT_181 rfl, F181, w, w2, w3, GT, gRow, wordsD, Arg.ok, c1', c5', c6', c7', c8', c9', c10', c11']
           · have c9' := eq_false c9
             simp [go_of FT_181 rfl, F181, w, w2, w3, GT, gRow, wordsD, Arg.ok, c1', c5', c6', c7', c8', c9']
         · have c8' := eq_false c8
           simp [go_of FT_181 rfl, F181, w, w2, w3, GT, gRow, wordsD, Arg.ok, c1', c5', c6', c7', c8']
       · have c7' := eq_false c7
         simp [go_of FT_181 rfl, F181, w, w2, w3, GT, gRow, wordsD, Arg.ok, c1', c5', c6', c7']
     · have c6' := eq_false c6
       simp [go_of FT_181 rfl, F181, w, w2, w3, GT, gRow, wordsD, Arg.ok, c1', c5', c6']
   · have c5' := eq_false c5
     by_cases c12 : k = 13
     · have c12' := eq_true c12
       by_cases c13 : 0 ≤ m
       · have c13' := eq_true c13
         by_cases c14 : m ≤ 3
         · have c14' := eq_true c14
           by_cases c15 : p = 0
           · have c15' := eq_true c15
             simp [go_of FT_181 rfl, F181, w, w2, w3, GT, gRow, wordsD, Arg.ok, c1', c5', c12', c13', c14', c15']
           · have c15' := eq_false c15
             simp [go_of FT_181 rfl, F181, w, w2, w3, GT, gRow, wordsD, Arg.ok, c1', c5', c12', c13', c14', c15']
         · have c14' := eq_false c14
           simp [go_of FT_181 rfl, F181, w, w2, w3, GT, gRow, wordsD, Arg.ok, c1', c5', c12', c13', c14']
       · have c13' := eq_false c13
         simp [go_of FT_181 rfl, F181, w, w2, w3, GT, gRow, wordsD, Arg.ok, c1', c5', c12', c13']
     · have c12' := eq_false c12
       by_cases c16 : 0 ≤ m
       · have c16' := eq_true c16
         by_cases c17 : m < devSize k
         · have c17' := eq_true c17
           by_cases c18 : p = 0
           · have c18' := eq_true c18
             simp [go_of FT_181 rfl, F181, w, w2, w3, GT, gRow, wordsD, Arg.ok, c1', c5', c12', c16', c17', c18']
           · have c18' := eq_false c18
             simp [go_of FT_181 rfl, F181, w, w2, w3, GT, gRow, wordsD, Arg.ok, c1', c5', c12', c16', c17', c18']
         · have c17' := eq_false c17
           simp [go_of FT_181 rfl, F181, w, w2, w3, GT, gRow, wordsD, Arg.ok, c1', c5', c12', c16', c17']
       · have c16' := eq_false c16
         simp [go_of FT_181 rfl, F181, w, w2, w3, GT, gRow, wordsD, Arg.ok, c1', c5', c12', c16']
theorem kc3 {n : Nat} (hn : 2 ≤ n) (a : Arg) (s : Sup) : go n 188 [argX a] [] s = some ⟨sV (.bool a.ok), [], []⟩ := by
 obtain ⟨n, rfl⟩ : ∃ k, n = k + 1 := ⟨n - 1, by omega⟩; obtain ⟨k, m, p⟩ := a; have w2 := kf9 (n := n) (by omega)
 by_cases c19 : k = 11
 · have c19' := eq_true c19
   by_cases c20 : -32768 ≤ m
   · have c20' := eq_true c20
     by_cases c21 : m ≤ 32767
     · have c21' := eq_true c21
       by_cases c22 : p = 0
       · have c22' := eq_true c22
         simp [go_of FT_188 rfl, F188, w2, Arg.ok, c19', c20', c21', c22']
       · have c22' := eq_false c22
         simp [go_of FT_188 rfl, F188, w2, Arg.ok, c19', c20', c21', c22']
     · have c21' := eq_false c21
       simp [go_of FT_188 rfl, F188, w2, Arg.ok, c19', c20', c21']
   · have c20' := eq_false c20
     simp [go_of FT_188 rfl, F188, w2, Arg.ok, c19', c20']
 · have c19' := eq_false c19
   by_cases c23 : k = 12
   · have c23' := eq_true c23
     by_cases c24 : -999999999 ≤ m
     · have c24' := eq_true c24
       by_cases c25 : m ≤ 999999999
       · have c25' := eq_true c25
         by_cases c26 : 1 ≤ p
         · have c26' := eq_true c26
           by_cases c27 : p ≤ 6
           · have c27' := eq_true c27
             by_cases c28 : p = 1
             · have c28' := eq_true c28
               simp [go_of FT_188 rfl, F188, w2, Arg.ok, c19', c23', c24', c25', c26', c27', c28']
             · have c28' := eq_false c28
               by_cases c29 : m.tmod 10 = 0
               · have c29' := eq_true c29
                 simp [go_of FT_188 rfl, F188, w2, Arg.ok, c19', c23', c24', c25', c26', c27', c28', c29']
               · have c29' := eq_false c29
                 simp [go_of FT_188 rfl, F188, w2, Arg.ok, c19', c23', c24', c25', c26', c27', c28', c29']
           · have c27' := eq_false c27
             simp [go_of FT_188 rfl, F188, w2, Arg.ok, c19', c23', c24', c25', c26', c27']
         · have c26' := eq_false c26
           simp [go_of FT_188 rfl, F188, w2, Arg.ok, c19', c23', c24', c25', c26']
       · have c25' := eq_false c25
         simp [go_of FT_188 rfl, F188, w2, Arg.ok, c19', c23', c24', c25']
     · have c24' := eq_false c24
       simp [go_of FT_188 rfl, F188, w2, Arg.ok, c19', c23', c24']
   · have c23' := eq_false c23
     by_cases c30 : k = 13
     · have c30' := eq_true c30
       by_cases c31 : 0 ≤ m
       · have c31' := eq_true c31
         by_cases c32 : m ≤ 3
         · have c32' := eq_true c32
           by_cases c33 : p = 0
           · have c33' := eq_true c33
             simp [go_of FT_188 rfl, F188, w2, Arg.ok, c19', c23', c30', c31', c32', c33']
           · have c33' := eq_false c33
             simp [go_of FT_188 rfl, F188, w2, Arg.ok, c19', c23', c30', c31', c32', c33']
         · have c32' := eq_false c32
           simp [go_of FT_188 rfl, F188, w2, Arg.ok, c19', c23', c30', c31', c32']
       · have c31' := eq_false c31
         simp [go_of FT_188 rfl, F188, w2, Arg.ok, c19', c23', c30', c31']
     · have c30' := eq_false c30
       by_cases c34 : 0 ≤ m
       · have c34' := eq_true c34
         by_cases c35 : m < devSize k
         · have c35' := eq_true c35
           by_cases c36 : p = 0
           · have c36' := eq_true c36
             simp [go_of FT_188 rfl, F188, w2, Arg.ok, c19', c23', c30', c34', c35', c36']
           · have c36' := eq_false c36
             simp [go_of FT_188 rfl, F188, w2, Arg.ok, c19', c23', c30', c34', c35', c36']
         · have c35' := eq_false c35
           simp [go_of FT_188 rfl, F188, w2, Arg.ok, c19', c23', c30', c34', c35']
       · have c34' := eq_false c34
         simp [go_of FT_188 rfl, F188, w2, Arg.ok, c19', c23', c30', c34']
theorem kI5 {x : Int} : ∀ {l : List Int} {i : Nat}, x ∉ l.take i → l[i]? = some x → l.idxOf x = i
 | [], i, h, h2 => by simp at h2
 | a :: l, 0, h, h2 => by simp at h2; simp [h2]
 | a :: l, i + 1, h, h2 => by
  simp only [List.take_succ_cons, List.mem_cons, not_or] at h; rw [List.idxOf_cons, show (a == x) = false from by simpa using fun e => h.1 e.symm]; simp only [Bool.false_eq_true, if_false, cond_false]; rw [kI5 h.2 (by simpa using h2)]
def posOf (l : List Int) (x : Int) : Int := if x ∈ l then (l.idxOf x : Nat) else -1
theorem loop194 {n : Nat} (l : List Int) (x : Int) (hn : l.length < n) (hl : l.length < 2 ^ 62) (st : St) (h0 : st.τ 0 = .w (.d (.l 0 (l.map fun x => [iD x])))) (h1 : st.τ 1 = iV x) (h7 : st.τ 7 = iV l.length) (h8 : st.τ 8 = iV 0) :
 ∃ e st', execC (go n) mode GT false 19 n F194_L0 st = some (e, st') ∧ e ≠ .normal ∧ ((e = .exit 0 ∧ x ∉ l) ∨ (e = .ret ∧ x ∈ l ∧ st'.τ 4 = iV (l.idxOf x : Nat))) := by
 rw [F194_L0, k00]; refine k03 (fun k st => ∃ i, i + k = l.length ∧ x ∉ l.take i ∧ st.τ 0 = .w (.d (.l 0 (l.map fun x => [iD x]))) ∧ st.τ 1 = iV x ∧ st.τ 7 = iV l.length ∧ st.τ 8 = iV i) ?_ n l.length st hn ⟨0, by omega, by simp, h0, h1, h7, by simpa using h8⟩
 rintro k ⟨τ, H, g, s⟩ ⟨i, hk, ht, h0, h1, h7, h8⟩; simp only at h0 h1 h7 h8; cases k with
 | zero =>
  have : i = l.length := by omega
  subst this; refine ⟨.exit 0, ?_⟩
  rw [List.take_length] at ht; simp [F194_B0, h0, h1, h7, h8, ht]
 | succ k =>
  have hlt : i < l.length := by omega
  have hlt' := ltT hlt; have hg := List.getElem?_eq_getElem hlt; have hb : (l.map fun x => [iD x])[i]? = some [iD l[i]] := by simp [hg]
  have hw := k04 (i := i) (by omega)
  by_cases he : x = l[i]
  · refine ⟨.ret, ?_⟩
    have he' := eq_true he; have hi := kI5 ht (by rw [hg, he]); have hm : x ∈ l := by rw [he]; exact List.getElem_mem hlt
    simp [-getElem?_pos, F194_B0, h0, h1, h7, h8, hlt, hlt', hb, he']; exact ⟨hm, by rw [hi]⟩
  · refine ⟨.normal, ?_⟩
    have he' := eq_false he; simp [-getElem?_pos, F194_B0, h0, h1, h7, h8, hlt, hlt', hb, he', hw]; exact ⟨k, by omega, i + 1, by omega, by rw [List.take_add_one, hg]; simp only [Option.toList_some, List.mem_append, List.mem_singleton, not_or]; exact ⟨ht, he⟩, rfl⟩
theorem run_Index {n : Nat} (l : List Int) (x : Int) (hn : l.length + 2 ≤ n) (hl : l.length < 2 ^ 62) (s : Sup) :
 go n 194 [.w (.d (.l 0 (l.map fun x => [iD x]))), iV x] [] s = some ⟨iV (posOf l x), [], []⟩ := by
 obtain ⟨n, rfl⟩ : ∃ k, n = k + 1 := ⟨n - 1, by omega⟩; unfold posOf; simp [go_of FT_194 rfl, F194]; generalize hst : St.mk _ _ _ _ = st; obtain ⟨e, st', hx, -, ⟨rfl, h⟩ | ⟨rfl, h, h4⟩⟩ := loop194 (n := n) l x (by omega) hl st (by simp [← hst]) (by simp [← hst]) (by simp [← hst]) (by simp [← hst])
 · simp [hx, h]
 · simp [hx, h, h4]
theorem run_Contains {n : Nat} (l : List Int) (x : Int) (hn : l.length + 3 ≤ n) (hl : l.length < 2 ^ 62) (s : Sup) :
 go n 182 [.w (.d (.l 0 (l.map fun x => [iD x]))), iV x] [] s = some ⟨sV (.bool (l.contains x)), [], []⟩ := by
 obtain ⟨n, rfl⟩ : ∃ k, n = k + 1 := ⟨n - 1, by omega⟩; have w := run_Index (n := n) l x (by omega) hl; have e : decide (0 ≤ posOf l x) = l.contains x := by
  unfold posOf
  by_cases h : x ∈ l
  · simp [h]
  · simp [h]
 simp [go_of FT_182 rfl, F182, w, e]
theorem k98 {n : Nat} (l : List Int) (a : Arg) (hn : l.length + 4 ≤ n) (hl : l.length < 2 ^ 62) (s : Sup) :
 go n 161 [argX a, .w (.d (.l 0 (l.map fun x => [iD x])))] [] s = some ⟨sV (.bool (a.isK l)), [], []⟩ := by
 obtain ⟨n, rfl⟩ : ∃ k, n = k + 1 := ⟨n - 1, by omega⟩; have w := run_Contains (n := n) l a.k (by omega) hl; have w2 := run_DevOk (n := n) (by omega) a; cases h : a.ok <;> simp [go_of FT_161 rfl, F161, w, w2, h, Arg.isK]
theorem run_DevIsBit {n : Nat} (hn : 12 ≤ n) (a : Arg) (s : Sup) : go n 160 [argX a] [] s = some ⟨sV (.bool a.bit), [], []⟩ := by
 obtain ⟨n, rfl⟩ : ∃ k, n = k + 1 := ⟨n - 1, by omega⟩; have w := k98 (n := n) [1, 2, 3, 4, 6, 7, 8] a (by simp; omega) (by simp); simp only [List.map_cons, List.map_nil] at w; simp [go_of FT_160 rfl, F160, w, Arg.bit, List.replicate]
theorem ki5 {n : Nat} (hn : 12 ≤ n) (a : Arg) (s : Sup) : go n 184 [argX a] [] s = some ⟨sV (.bool a.whole), [], []⟩ := by
 obtain ⟨n, rfl⟩ : ∃ k, n = k + 1 := ⟨n - 1, by omega⟩; have w := k98 (n := n) [7, 8, 9, 11] a (by simp; omega) (by simp); simp only [List.map_cons, List.map_nil] at w; simp [go_of FT_184 rfl, F184, w, Arg.whole, List.replicate]
theorem kl5 {n : Nat} (hn : 12 ≤ n) (a : Arg) (s : Sup) : go n 185 [argX a] [] s = some ⟨sV (.bool a.real), [], []⟩ := by
 obtain ⟨n, rfl⟩ : ∃ k, n = k + 1 := ⟨n - 1, by omega⟩; have w := k98 (n := n) [10, 12, 13] a (by simp; omega) (by simp); simp only [List.map_cons, List.map_nil] at w; simp [go_of FT_185 rfl, F185, w, Arg.real, List.replicate]
theorem kG3 {a : Arg} (h : a.ok = true) : 1 ≤ a.k ∧ a.k ≤ 13 := by
 unfold Arg.ok at h
 by_cases c : 1 ≤ a.k ∧ a.k ≤ 13
 · exact c
 · have hk : ∀ m : Int, 1 ≤ m → m ≤ 13 → (a.k = m) = False := fun m h1 h2 => eq_false fun e => c (by omega)
   simp [hk, devSize] at h; omega
theorem run_DevIsBitS {n : Nat} (hn : 3 ≤ n) (a : Arg) (s : Sup) : go n 187 [argX a] [] s = some ⟨sV (.bool a.bit), [], []⟩ := by
 obtain ⟨n, rfl⟩ : ∃ k, n = k + 1 := ⟨n - 1, by omega⟩; have w2 := kc3 (n := n) (by omega) a; unfold Arg.bit Arg.isK; cases h : a.ok
 · simp [go_of FT_187 rfl, F187, w2, h]
 · obtain ⟨h1, h2⟩ := kG3 h
   obtain ⟨k, m, p⟩ := a; simp only at h1 h2; obtain rfl | rfl | rfl | rfl | rfl | rfl | rfl | rfl | rfl | rfl | rfl | rfl | rfl : k = 1 ∨ k = 2 ∨ k = 3 ∨ k = 4 ∨ k = 5 ∨ k = 6 ∨ k = 7 ∨ k = 8 ∨ k = 9 ∨ k = 10 ∨ k = 11 ∨ k = 12 ∨ k = 13 := by omega
   all_goals simp [go_of FT_187 rfl, F187, w2, h]
theorem k70 {n : Nat} (hn : 3 ≤ n) (a : Arg) (s : Sup) : go n 168 [argX a] [] s = some ⟨sV (.bool a.whole), [], []⟩ := by
 obtain ⟨n, rfl⟩ : ∃ k, n = k + 1 := ⟨n - 1, by omega⟩; have w2 := kc3 (n := n) (by omega) a; unfold Arg.whole Arg.isK; cases h : a.ok
 · simp [go_of FT_168 rfl, F168, w2, h]
 · obtain ⟨h1, h2⟩ := kG3 h
   obtain ⟨k, m, p⟩ := a; simp only at h1 h2; obtain rfl | rfl | rfl | rfl | rfl | rfl | rfl | rfl | rfl | rfl | rfl | rfl | rfl : k = 1 ∨ k = 2 ∨ k = 3 ∨ k = 4 ∨ k = 5 ∨ k = 6 ∨ k = 7 ∨ k = 8 ∨ k = 9 ∨ k = 10 ∨ k = 11 ∨ k = 12 ∨ k = 13 := by omega
   all_goals simp [go_of FT_168 rfl, F168, w2, h]
theorem k80 {n : Nat} (hn : 3 ≤ n) (a : Arg) (s : Sup) : go n 169 [argX a] [] s = some ⟨sV (.bool a.real), [], []⟩ := by
 obtain ⟨n, rfl⟩ : ∃ k, n = k + 1 := ⟨n - 1, by omega⟩; have w2 := kc3 (n := n) (by omega) a; unfold Arg.real Arg.isK; cases h : a.ok
 · simp [go_of FT_169 rfl, F169, w2, h]
 · obtain ⟨h1, h2⟩ := kG3 h
   obtain ⟨k, m, p⟩ := a; simp only at h1 h2; obtain rfl | rfl | rfl | rfl | rfl | rfl | rfl | rfl | rfl | rfl | rfl | rfl | rfl : k = 1 ∨ k = 2 ∨ k = 3 ∨ k = 4 ∨ k = 5 ∨ k = 6 ∨ k = 7 ∨ k = 8 ∨ k = 9 ∨ k = 10 ∨ k = 11 ∨ k = 12 ∨ k = 13 := by omega
   all_goals simp [go_of FT_169 rfl, F169, w2, h]
theorem kn8 {n : Nat} (hn : 3 ≤ n) (a : Arg) (k1 k2 : Int) (s : Sup) : go n 167 [argX a, iV k1, iV k2] [] s = some ⟨sV (.bool (a.isK [k1, k2])), [], []⟩ := by
 obtain ⟨n, rfl⟩ : ∃ k, n = k + 1 := ⟨n - 1, by omega⟩; have w2 := kc3 (n := n) (by omega) a; unfold Arg.isK; cases h : a.ok
 · simp [go_of FT_167 rfl, F167, w2, h]
 · by_cases c1 : a.k = k1
   · have c1' := eq_true c1
     simp [go_of FT_167 rfl, F167, w2, h, c1']
   · have c1' := eq_false c1
     by_cases c2 : a.k = k2
     · have c2' := eq_true c2
       simp [go_of FT_167 rfl, F167, w2, h, c1', c2']
     · have c2' := eq_false c2
       simp [go_of FT_167 rfl, F167, w2, h, c1', c2']
set_option maxHeartbeats 8000000
@[simp] theorem o_mkf (call : CallT) (M : Nat → Mode) (G : Nat → Option (List D)) (stamp : Bool) (ev : X → V) (H : Nat → Box) (g : Nat) (s : Sup) (f : Nat) (caps : List X) :
 opV call M G stamp ev H g s (.mkf f caps) = bnd (capsOf (caps.map ev)) fun l => ret0 H (some (.w (.fn f l))) := by
 show (match capsOf (caps.map ev) with | some l => ret0 H (some (.w (.fn f l))) | none => none) = _
 cases capsOf (caps.map ev) <;> rfl
abbrev elX (e : El) : V := .agg [iW e.op, .d (.l 0 (argRows e.as))]
theorem kl4 {n : Nat} (hn : 2 ≤ n) (k : Int) (s : Sup) : go n 159 [iV k] [] s = some ⟨iV (arity k), [], []⟩ := by
 obtain ⟨n, rfl⟩ : ∃ k, n = k + 1 := ⟨n - 1, by omega⟩; have w := k65 (n := n) (by omega); unfold arity
 by_cases h1 : k = 1
 · subst h1; simp [go_of FT_159 rfl, F159, w]
 by_cases h2 : k = 2
 · subst h2; simp [go_of FT_159 rfl, F159, w]
 by_cases h3 : 21 ≤ k ∧ k ≤ 23
 · have e : (decide (21 ≤ k) && decide (k ≤ 23)) = true := by simp; omega
   simp [go_of FT_159 rfl, F159, w, h1, h2, h3, e]
 have e3 : (decide (21 ≤ k) && decide (k ≤ 23)) = false := by simp; omega
 by_cases h4 : k = 25
 · subst h4; simp [go_of FT_159 rfl, F159, w]
 have c1 : ¬ (k = 1 ∨ k = 2 ∨ (21 ≤ k ∧ k ≤ 23) ∨ k = 25) := by omega
 rw [if_neg c1]
 by_cases h5 : 31 ≤ k ∧ k ≤ 35
 · have e : (decide (31 ≤ k) && decide (k ≤ 35)) = true := by simp; omega
   rw [if_pos h5]; simp [go_of FT_159 rfl, F159, w, h1, h2, h4, e3, e]
 have e5 : (decide (31 ≤ k) && decide (k ≤ 35)) = false := by simp; omega
 rw [if_neg h5]
 by_cases h6 : 3 ≤ k ∧ k ≤ 10
 · have e : (decide (3 ≤ k) && decide (k ≤ 10)) = true := by simp; omega
   rw [if_pos (by omega)]; simp [go_of FT_159 rfl, F159, w, h1, h2, h4, e3, e5, e]
 have e6 : (decide (3 ≤ k) && decide (k ≤ 10)) = false := by simp; omega
 by_cases h7 : 24 ≤ k ∧ k ≤ 37
 · have e : (decide (24 ≤ k) && decide (k ≤ 37)) = true := by simp; omega
   rw [if_pos (by omega)]; simp [go_of FT_159 rfl, F159, w, h1, h2, h4, e3, e5, e6, e]
 have e7 : (decide (24 ≤ k) && decide (k ≤ 37)) = false := by simp; omega
 rw [if_neg (by omega)]; simp [go_of FT_159 rfl, F159, w, h1, h2, h4, e3, e5, e6, e7]
theorem arity_lit (k : Int) (h : ¬ ((1 ≤ k ∧ k ≤ 10) ∨ (21 ≤ k ∧ k ≤ 37))) : arity k = 0 := by
 unfold arity; rw [if_neg (by omega), if_neg (by omega), if_neg (by omega)]
theorem kb5 {n : Nat} (hn : 2 ≤ n) (k : Int) (s : Sup) : go n 158 [iV k] [] s = some ⟨iV (arity k), [], []⟩ := by
 obtain ⟨n, rfl⟩ : ∃ k, n = k + 1 := ⟨n - 1, by omega⟩
 by_cases h : 1 ≤ k ∧ k ≤ 10
 · obtain rfl | rfl | rfl | rfl | rfl | rfl | rfl | rfl | rfl | rfl : k = 1 ∨ k = 2 ∨ k = 3 ∨ k = 4 ∨ k = 5 ∨ k = 6 ∨ k = 7 ∨ k = 8 ∨ k = 9 ∨ k = 10 := by omega
   all_goals simp [go_of FT_158 rfl, F158, arity]
 by_cases h2 : 21 ≤ k ∧ k ≤ 37
 · obtain rfl | rfl | rfl | rfl | rfl | rfl | rfl | rfl | rfl | rfl | rfl | rfl | rfl | rfl | rfl | rfl | rfl : k = 21 ∨ k = 22 ∨ k = 23 ∨ k = 24 ∨ k = 25 ∨ k = 26 ∨ k = 27 ∨ k = 28 ∨ k = 29 ∨ k = 30 ∨ k = 31 ∨ k = 32 ∨ k = 33 ∨ k = 34 ∨ k = 35 ∨ k = 36 ∨ k = 37 := by omega
   all_goals simp [go_of FT_158 rfl, F158, arity]
 have hk : ∀ m : Int, (1 ≤ m ∧ m ≤ 10) ∨ (21 ≤ m ∧ m ≤ 37) → (k = m) = False := fun m hm => eq_false fun e => by omega
 rw [arity_lit k (by omega)]
 by_cases c1 : 1 ≤ k
 · have c2 : ¬ k ≤ 10 := by omega
   by_cases c3 : 21 ≤ k
   · have c4 : ¬ k ≤ 37 := by omega
     simp [go_of FT_158 rfl, F158, hk, c1, c2, c3, c4]
   · simp [go_of FT_158 rfl, F158, hk, c1, c2, c3]
 · have c3 : ¬ 21 ≤ k := by omega
   simp [go_of FT_158 rfl, F158, hk, c1, c3]
theorem run_all1 {n : Nat} (p : Nat) (P : Arg → Bool) (hp : ∀ a s, go n p [argX a] [] s = some ⟨sV (.bool (P a)), [], []⟩) (hpi : inouts.contains p = false) (a : Arg) (s : Sup) :
 go (n + 1) 195 [argX a, .w (.ptr 0 0)] [.cells [.fn p []]] s = some ⟨sV (.bool (!P a)), [.cells [.fn p []]], []⟩ := by
 have hpi' : ¬ (p = 165 ∨ p = 192 ∨ p = 198) := by
  intro h; rcases h with rfl | rfl | rfl <;> simp at hpi
 simp [go_of FT_195 rfl, F195, hp, hpi']
theorem loop201 {n : Nat} (p : Nat) (P : Arg → Bool) (hp : ∀ a s, go n p [argX a] [] s = some ⟨sV (.bool (P a)), [], []⟩) (hpi : inouts.contains p = false) (l : List Arg) (hn : l.length < n + 1) (hl : l.length < 2 ^ 62) (st : St)
 (h0 : st.τ 0 = .w (.d (.l 0 (argRows l)))) (h1 : st.τ 1 = .w (.fn 195 [.ptr 0 0])) (h7 : st.τ 7 = iV l.length) (h8 : st.τ 8 = iV 0) (hH : st.H 0 = .cells [.fn p []]) (hg : 0 < st.g) :
 ∃ e st', execC (go (n + 1)) mode GT false 19 (n + 1) F201_L0 st = some (e, st') ∧ e ≠ .normal ∧ st'.H 0 = .cells [.fn p []] ∧ ((e = .exit 0 ∧ l.all P = true) ∨ (e = .ret ∧ l.all P = false ∧ ∃ i : Nat, st'.τ 4 = iV i)) := by
 rw [F201_L0, k00]; refine k03 (fun k st => ∃ i, i + k = l.length ∧ (l.take i).all P = true ∧ st.τ 0 = .w (.d (.l 0 (argRows l))) ∧ st.τ 1 = .w (.fn 195 [.ptr 0 0]) ∧ st.τ 7 = iV l.length ∧ st.τ 8 = iV i ∧ st.H 0 = .cells [.fn p []] ∧ 0 < st.g) ?_ (n + 1) l.length st hn
  ⟨0, by omega, by simp, h0, h1, h7, by simpa using h8, hH, hg⟩
 rintro k ⟨τ, H, g, s⟩ ⟨i, hk, ht, h0, h1, h7, h8, hH, hg⟩; simp only at h0 h1 h7 h8 hH hg; cases k with
 | zero =>
  have : i = l.length := by omega
  subst this; refine ⟨.exit 0, ?_⟩
  rw [List.take_length] at ht; simp [F201_B0, h0, h1, h7, h8, ht, hH]
 | succ k =>
  have hlt : i < l.length := by omega
  have hlt' := ltT hlt; have hg1 := List.getElem?_eq_getElem hlt; have hb := ka9 hg1; have hw := k04 (i := i) (by omega); have w := run_all1 (n := n) p P hp hpi l[i]; have g0 : ¬ g = 0 := by omega
  cases he : P l[i]
  · refine ⟨.ret, ?_⟩
    rw [he] at w; simp [-getElem?_pos, F201_B0, h0, h1, h7, h8, hlt, hlt', hb, w, hH]; exact ⟨⟨l[i], List.getElem_mem hlt, he⟩, i, rfl⟩
  · refine ⟨.normal, ?_⟩
    rw [he] at w; simp [-getElem?_pos, F201_B0, h0, h1, h7, h8, hlt, hlt', hb, w, hw, hH]; refine ⟨k, by omega, i + 1, by omega, ?_, rfl⟩
    rw [List.take_add_one, hg1]; intro x hx; rcases List.mem_append.1 hx with hx | hx
    · exact List.all_eq_true.1 ht x hx
    · simp only [Option.toList_some, List.mem_singleton] at hx; subst hx; exact he
theorem run_IndexFunc {n : Nat} (p : Nat) (P : Arg → Bool) (hp : ∀ a s, go n p [argX a] [] s = some ⟨sV (.bool (P a)), [], []⟩) (hpi : inouts.contains p = false) (l : List Arg) (hn : l.length ≤ n) (hl : l.length < 2 ^ 62) (s : Sup) :
 ∃ i : Int, decide (0 ≤ i) = !l.all P ∧ go (n + 2) 201 [.w (.d (.l 0 (argRows l))), .w (.fn 195 [.ptr 0 0])] [.cells [.fn p []]] s = some ⟨iV i, [.cells [.fn p []]], []⟩ := by
 simp [go_of FT_201 rfl, F201]; generalize hst : St.mk _ _ _ _ = st; obtain ⟨e, ⟨τ', H', g', s'⟩, hx, -, hH, ⟨rfl, h⟩ | ⟨rfl, h, i, h4⟩⟩ := loop201 (n := n) p P hp hpi l (by omega) hl st (by simp [← hst]) (by simp [← hst]) (by simp [← hst]) (by simp [← hst]) (by simp [← hst]) (by simp [← hst])
 · simp only at hH
   refine ⟨-1, by rw [h]; rfl, ?_⟩
   simp [hx, hH]
 · simp only at hH h4
   refine ⟨i, by rw [h]; simp, ?_⟩
   simp [hx, hH, h4]
theorem run_ContainsFunc {n : Nat} (p : Nat) (P : Arg → Bool) (hp : ∀ a s, go n p [argX a] [] s = some ⟨sV (.bool (P a)), [], []⟩) (hpi : inouts.contains p = false) (l : List Arg) (hn : l.length ≤ n) (hl : l.length < 2 ^ 62) (s : Sup) :
 go (n + 3) 196 [.w (.d (.l 0 (argRows l))), .w (.fn 195 [.ptr 0 0])] [.cells [.fn p []]] s = some ⟨sV (.bool (!l.all P)), [.cells [.fn p []]], []⟩ := by
 obtain ⟨i, hi⟩ := Classical.skolem.1 fun s => run_IndexFunc (n := n) p P hp hpi l hn hl s
 have w := fun s => (hi s).2
 have e := fun s => (hi s).1
 simp [go_of FT_196 rfl, F196, w, e]
theorem kK3 {n : Nat} (p : Nat) (P : Arg → Bool) (hp : ∀ a s, go n p [argX a] [] s = some ⟨sV (.bool (P a)), [], []⟩) (hpi : inouts.contains p = false) (l : List Arg) (hn : l.length ≤ n) (hl : l.length < 2 ^ 62) (s : Sup) :
 go (n + 4) 183 [.w (.d (.l 0 (argRows l))), .w (.fn p [])] [] s = some ⟨sV (.bool (l.all P)), [], []⟩ := by
 have w := run_ContainsFunc (n := n) p P hp hpi l hn hl; simp [go_of FT_183 rfl, F183, w]
theorem kz7 {n : Nat} (l : List Arg) (hn : l.length + 20 ≤ n) (hl : l.length < 2 ^ 62) (s : Sup) : go n 183 [.w (.d (.l 0 (argRows l))), .w (.fn 184 [])] [] s = some ⟨sV (.bool (l.all Arg.whole)), [], []⟩ := by
 obtain ⟨n, rfl⟩ : ∃ k, n = k + 4 := ⟨n - 4, by omega⟩; exact kK3 184 Arg.whole (fun a s => ki5 (by omega) a s) rfl l (by omega) hl s
theorem kz8 {n : Nat} (l : List Arg) (hn : l.length + 20 ≤ n) (hl : l.length < 2 ^ 62) (s : Sup) : go n 183 [.w (.d (.l 0 (argRows l))), .w (.fn 185 [])] [] s = some ⟨sV (.bool (l.all Arg.real)), [], []⟩ := by
 obtain ⟨n, rfl⟩ : ∃ k, n = k + 4 := ⟨n - 4, by omega⟩; exact kK3 185 Arg.real (fun a s => kl5 (by omega) a s) rfl l (by omega) hl s
theorem run_numbers {n : Nat} (l : List Arg) (hn : l.length + 21 ≤ n) (hl : l.length < 2 ^ 62) (s : Sup) : go n 162 [.w (.d (.l 0 (argRows l)))] [] s = some ⟨sV (.bool (l.all Arg.whole || l.all Arg.real)), [], []⟩ := by
 obtain ⟨n, rfl⟩ : ∃ k, n = k + 1 := ⟨n - 1, by omega⟩; have w1 := kz7 (n := n) l (by omega) hl; have w2 := kz8 (n := n) l (by omega) hl; generalize l.all Arg.whole = b1 at w1 ⊢; generalize l.all Arg.real = b2 at w2 ⊢; cases b1 <;> simp [go_of FT_162 rfl, F162, w1, w2]
theorem k93 {e : El} (h : e.contact = true) : (1 ≤ e.op ∧ e.op ≤ 10) ∧ (e.as.length : Int) = arity e.op := by
 obtain ⟨op, as⟩ := e; unfold El.contact at h
 match as, h with
 | [a], h =>
  simp only [Bool.and_eq_true, decide_eq_true_eq] at h; refine ⟨by simp only; omega, ?_⟩
  unfold arity; rw [if_pos (by simp only; omega)]; rfl
 | [a, b], h =>
  simp only at h; have ho : 3 ≤ op ∧ op ≤ 10 := by
   split at h
   · omega
   · simp only [Bool.and_eq_true, decide_eq_true_eq] at h; omega
  refine ⟨by simp only; omega, ?_⟩
  unfold arity; rw [if_neg (by simp only; omega), if_neg (by simp only; omega), if_pos (by simp only; omega)]; rfl
 | [], h => simp at h
 | a :: b :: c :: r, h => simp at h
theorem kc2 {n : Nat} (hn : 40 ≤ n) (e : El) (hl : e.as.length < 2 ^ 62) (s : Sup) : go n 137 [elX e] [] s = some ⟨sV (.bool e.contact), [], []⟩ := by
 obtain ⟨n, rfl⟩ : ∃ k, n = k + 1 := ⟨n - 1, by omega⟩; have w := k65 (n := n) (by omega); have w2 := kl4 (n := n) (by omega); have w3 := run_DevIsBit (n := n) (by omega); have w4 := fun a => k98 (n := n) [5] a (by simp; omega) (by simp)
 simp only [List.map_cons, List.map_nil] at w4; obtain ⟨op, as⟩ := e; simp only at hl
 by_cases ho : 1 ≤ op ∧ op ≤ 10
 · have e1 : (decide (1 ≤ op) && decide (op ≤ 10)) = true := by simp; omega
   by_cases ha : (as.length : Int) = arity op
   · by_cases h12 : op = 1 ∨ op = 2
     · have : arity op = 1 := by unfold arity; rw [if_pos (by omega)]
       obtain ⟨a, rfl⟩ : ∃ a, as = [a] := by
        match as, ha with
        | [a], _ => exact ⟨a, rfl⟩
        | [], ha => rw [this] at ha; simp at ha
        | _ :: _ :: _, ha => rw [this] at ha; simp at ha; omega
       rcases h12 with rfl | rfl <;> simp [go_of FT_137 rfl, F137, w, w2, w3, arity, argRows, Arg.row, El.contact]
     · have : arity op = 2 := by unfold arity; rw [if_neg (by omega), if_neg (by omega), if_pos (by omega)]
       obtain ⟨a, b, rfl⟩ : ∃ a b, as = [a, b] := by
        match as, ha with
        | [a, b], _ => exact ⟨a, b, rfl⟩
        | [], ha => rw [this] at ha; simp at ha
        | [_], ha => rw [this] at ha; simp at ha
        | _ :: _ :: _ :: _, ha => rw [this] at ha; simp at ha; omega
       by_cases h34 : op = 3 ∨ op = 4
       · generalize hb : a.bit = b1
         have w3a := w3 a; rw [hb] at w3a; cases b1 <;> rcases h34 with rfl | rfl <;> simp [go_of FT_137 rfl, F137, w, w2, w3a, w4, arity, argRows, Arg.row, El.contact, List.replicate, hb]
       · have w5 := run_numbers (n := n) [a, b] (by simp; omega) (by simp)
         have hk : ∀ m : Int, m ≤ 4 → (op = m) = False := fun m hm => eq_false fun e => by omega
         have h5 : 5 ≤ op := by omega
         have h6 : op ≤ 10 := ho.2; have h7 : 1 ≤ op := ho.1; simp [argRows, Arg.row] at w5; simp [go_of FT_137 rfl, F137, w, w2, h7, this, w5, hk, argRows, Arg.row, El.contact, h5, h6]
   · have hf : El.contact ⟨op, as⟩ = false := by
      cases h : El.contact ⟨op, as⟩ with
      | false => rfl
      | true => exact absurd (k93 h).2 ha
     simp [go_of FT_137 rfl, F137, w, w2, e1, ha, hf]
 · have e1 : (decide (1 ≤ op) && decide (op ≤ 10)) = false := by simp; omega
   have hf : El.contact ⟨op, as⟩ = false := by
    cases h : El.contact ⟨op, as⟩ with
    | false => rfl
    | true => exact absurd (k93 h).1 ho
   simp [go_of FT_137 rfl, F137, w, w2, e1, hf]
theorem run_ElemIsContactS {n : Nat} (hn : 10 ≤ n) (e : El) (s : Sup) : go n 166 [elX e] [] s = some ⟨sV (.bool e.contact), [], []⟩ := by
 obtain ⟨n, rfl⟩ : ∃ k, n = k + 1 := ⟨n - 1, by omega⟩; have w2 := kb5 (n := n) (by omega); have w3 := run_DevIsBitS (n := n) (by omega); have w4 := kc3 (n := n) (by omega); have w5 := k70 (n := n) (by omega); have w6 := k80 (n := n) (by omega); obtain ⟨op, as⟩ := e
 by_cases ho : 1 ≤ op ∧ op ≤ 10
 · have ho1 : ¬ op < 1 := by omega
   have ho2 : ¬ 10 < op := by omega
   by_cases ha : (as.length : Int) = arity op
   · by_cases h12 : op = 1 ∨ op = 2
     · have : arity op = 1 := by unfold arity; rw [if_pos (by omega)]
       obtain ⟨a, rfl⟩ : ∃ a, as = [a] := by
        match as, ha with
        | [a], _ => exact ⟨a, rfl⟩
        | [], ha => rw [this] at ha; simp at ha
        | _ :: _ :: _, ha => rw [this] at ha; simp at ha; omega
       rcases h12 with rfl | rfl <;> simp [go_of FT_166 rfl, F166, w2, w3, arity, argRows, Arg.row, El.contact]
     · have : arity op = 2 := by unfold arity; rw [if_neg (by omega), if_neg (by omega), if_pos (by omega)]
       obtain ⟨a, b, rfl⟩ : ∃ a b, as = [a, b] := by
        match as, ha with
        | [a, b], _ => exact ⟨a, b, rfl⟩
        | [], ha => rw [this] at ha; simp at ha
        | [_], ha => rw [this] at ha; simp at ha
        | _ :: _ :: _ :: _, ha => rw [this] at ha; simp at ha; omega
       by_cases h34 : op = 3 ∨ op = 4
       · generalize hb : a.bit = b1
         have w3a := w3 a; have w4b := w4 b; rw [hb] at w3a; generalize hb2 : b.ok = b2 at w4b; cases b1 <;> cases b2 <;> rcases h34 with rfl | rfl <;> (simp [go_of FT_166 rfl, F166, w2, w3a, w4b, arity, argRows, Arg.row, El.contact, hb, hb2, Arg.isK] <;> rfl)
       · have h2 : ¬ op ≤ 2 := by omega
         have h4 : ¬ op ≤ 4 := by omega
         have h5 : 5 ≤ op := by omega
         have h6 : op ≤ 10 := ho.2; have hk : ∀ m : Int, m ≤ 4 → (op = m) = False := fun m hm => eq_false fun e => by omega
         have w5a := w5 a; have w5b := w5 b; have w6a := w6 a; have w6b := w6 b; generalize hb1 : a.whole = b1 at w5a; generalize hb2 : b.whole = b2 at w5b; generalize hb3 : a.real = b3 at w6a; generalize hb4 : b.real = b4 at w6b; cases b1 <;> cases b2 <;> cases b3 <;> simp [go_of FT_166 rfl, F166, w2, ho1, ho2, this, w5a, w5b, w6a, w6b, h2, h4, hk, argRows, Arg.row, El.contact, h5, h6, hb1, hb2, hb3, hb4]
   · have hf : El.contact ⟨op, as⟩ = false := by
      cases h : El.contact ⟨op, as⟩ with
      | false => rfl
      | true => exact absurd (k93 h).2 ha
     simp [go_of FT_166 rfl, F166, w2, ho1, ho2, ha, hf]
 · have hf : El.contact ⟨op, as⟩ = false := by
    cases h : El.contact ⟨op, as⟩ with
    | false => rfl
    | true => exact absurd (k93 h).1 ho
   by_cases h1 : op < 1
   · simp [go_of FT_166 rfl, F166, w2, h1, hf]
   · have h2 : 10 < op := by omega
     simp [go_of FT_166 rfl, F166, w2, h1, h2, hf]
end Go.VM
