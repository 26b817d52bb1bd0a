/- Operands, reckoned: what the program and what the document says of them. Conditions: none. -/
import Derived.Test.YtfpkfcfiihfopaaDoorBVT1
import Derived.Test.YtfpkfcfiihfopaaDoorBVN1

namespace Go.VM
set_option linter.unusedSimpArgs false
set_option linter.unusedVariables false
set_option maxHeartbeats 4000000
theorem run_within {n : Nat} (hn : 1 ≤ n) (a lo hi : Int) (s : Sup) : go n 60 [iV a, iV lo, iV hi] [] s = some ⟨sV (.bool (decide (lo ≤ a) && decide (a ≤ hi))), [], []⟩ := by
 obtain ⟨n, rfl⟩ : ∃ k, n = k + 1 := ⟨n - 1, by omega⟩
 by_cases h : lo ≤ a <;> simp [go_of FT_60 rfl, F60, h]
theorem run_DevSize {n : Nat} (hn : 2 ≤ n) (k : Int) (s : Sup) : go n 193 [iV k] [] s = some ⟨iV (devSize k), [], []⟩ := by
 obtain ⟨n, rfl⟩ : ∃ k, n = k + 1 := ⟨n - 1, by omega⟩; have w := run_within (n := n) (by omega)
 by_cases h : 1 ≤ k ∧ k ≤ 10
 · obtain rfl | rfl | rfl | rfl | rfl | rfl | rfl | rfl | rfl | rfl : k = 1 ∨ k = 2 ∨ k = 3 ∨ k = 4 ∨ k = 5 ∨ k = 6 ∨ k = 7 ∨ k = 8 ∨ k = 9 ∨ k = 10 := by omega
   all_goals simp [go_of FT_193 rfl, F193, w, GT, gRow, sizesD, ints, devSize]
 · have e : (decide (1 ≤ k) && decide (k ≤ 10)) = false := by simp; omega
   have hk : ∀ m : Int, 1 ≤ m → m ≤ 10 → (k = m) = False := fun m h1 h2 => eq_false fun e => h (by omega)
   simp [go_of FT_193 rfl, F193, w, e, devSize, hk]
theorem run_DevSizeS {n : Nat} (hn : 1 ≤ n) (k : Int) (s : Sup) : go n 180 [iV k] [] s = some ⟨iV (devSize k), [], []⟩ := by
 obtain ⟨n, rfl⟩ : ∃ k, n = k + 1 := ⟨n - 1, by omega⟩
 by_cases h : 1 ≤ k ∧ k ≤ 10
 · obtain rfl | rfl | rfl | rfl | rfl | rfl | rfl | rfl | rfl | rfl : k = 1 ∨ k = 2 ∨ k = 3 ∨ k = 4 ∨ k = 5 ∨ k = 6 ∨ k = 7 ∨ k = 8 ∨ k = 9 ∨ k = 10 := by omega
   all_goals simp [go_of FT_180 rfl, F180, devSize]
 · have hk : ∀ m : Int, 1 ≤ m → m ≤ 10 → (k = m) = False := fun m h1 h2 => eq_false fun e => h (by omega)
   simp [go_of FT_180 rfl, F180, devSize, hk]
theorem run_DevOk {n : Nat} (hn : 3 ≤ n) (a : Arg) (s : Sup) : go n 181 [argX a] [] s = some ⟨sV (.bool a.ok), [], []⟩ := by
 obtain ⟨n, rfl⟩ : ∃ k, n = k + 1 := ⟨n - 1, by omega⟩; obtain ⟨k, m, p⟩ := a; have w := run_within (n := n) (by omega); have w2 := run_DevSize (n := n) (by omega); have w3 : IntKind.wrap .i64 3 = 3 := by decide
 by_cases c1 : k = 11
 · have c1' := eq_true c1
   by_cases c2 : -32768 ≤ m
   · have c2' := eq_true c2
     by_cases c3 : m ≤ 32767
     · have c3' := eq_true c3
       by_cases c4 : p = 0
       · have c4' := eq_true c4
         simp [go_of FT_181 rfl, F181, w, w2, w3, GT, gRow, wordsD, Arg.ok, c1', c2', c3', c4']
       · have c4' := eq_false c4
         simp [go_of FT_181 rfl, F181, w, w2, w3, GT, gRow, wordsD, Arg.ok, c1', c2', c3', c4']
     · have c3' := eq_false c3
       simp [go_of FT_181 rfl, F181, w, w2, w3, GT, gRow, wordsD, Arg.ok, c1', c2', c3']
   · have c2' := eq_false c2
     simp [go_of FT_181 rfl, F181, w, w2, w3, GT, gRow, wordsD, Arg.ok, c1', c2']
 · have c1' := eq_false c1
   by_cases c5 : k = 12
   · have c5' := eq_true c5
     by_cases c6 : -999999999 ≤ m
     · have c6' := eq_true c6
       by_cases c7 : m ≤ 999999999
       · have c7' := eq_true c7
         by_cases c8 : 1 ≤ p
         · have c8' := eq_true c8
           by_cases c9 : p ≤ 6
           · have c9' := eq_true c9
             by_cases c10 : p = 1
             · have c10' := eq_true c10
               simp [go_of FT_181 rfl, F181, w, w2, w3, GT, gRow, wordsD, Arg.ok, c1', c5', c6', c7', c8', c9', c10']
             · have c10' := eq_false c10
               by_cases c11 : m.tmod 10 = 0
               · have c11' := eq_true c11
                 simp [go_of FT_181 rfl, F181, w, w2, w3, GT, gRow, wordsD, Arg.ok, c1', c5', c6', c7', c8', c9', c10', c11']
               · have c11' := eq_false c11
                 simp [go_of FT_181 rfl, F181, w, w2, w3, GT, gRow, wordsD, Arg.ok, c1', c5', c6', c7', c8', c9', c10', c11']
           · have c9' := eq_false c9
             simp [go_of FT_181 rfl, F181, w, w2, w3, GT, gRow, wordsD, Arg.ok, c1', c5', c6', c7', c8', c9']
         · have c8' := eq_false c8
           simp [go_of FT_181 rfl, F181, w, w2, w3, GT, gRow, wordsD, Arg.ok, c1', c5', c6', c7', c8']
       · have c7' := eq_false c7
         simp [go_of FT_181 rfl, F181, w, w2, w3, GT, gRow, wordsD, Arg.ok, c1', c5', c6', c7']
     · have c6' := eq_false c6
       simp [go_of FT_181 rfl, F181, w, w2, w3, GT, gRow, wordsD, Arg.ok, c1', c5', c6']
   · have c5' := eq_false c5
     by_cases c12 : k = 13
     · have c12' := eq_true c12
       by_cases c13 : 0 ≤ m
       · have c13' := eq_true c13
         by_cases c14 : m ≤ 3
         · have c14' := eq_true c14
           by_cases c15 : p = 0
           · have c15' := eq_true c15
             simp [go_of FT_181 rfl, F181, w, w2, w3, GT, gRow, wordsD, Arg.ok, c1', c5', c12', c13', c14', c15']
           · have c15' := eq_false c15
             simp [go_of FT_181 rfl, F181, w, w2, w3, GT, gRow, wordsD, Arg.ok, c1', c5', c12', c13', c14', c15']
         · have c14' := eq_false c14
           simp [go_of FT_181 rfl, F181, w, w2, w3, GT, gRow, wordsD, Arg.ok, c1', c5', c12', c13', c14']
       · have c13' := eq_false c13
         simp [go_of FT_181 rfl, F181, w, w2, w3, GT, gRow, wordsD, Arg.ok, c1', c5', c12', c13']
     · have c12' := eq_false c12
       by_cases c16 : 0 ≤ m
       · have c16' := eq_true c16
         by_cases c17 : m < devSize k
         · have c17' := eq_true c17
           by_cases c18 : p = 0
           · have c18' := eq_true c18
             simp [go_of FT_181 rfl, F181, w, w2, w3, GT, gRow, wordsD, Arg.ok, c1', c5', c12', c16', c17', c18']
           · have c18' := eq_false c18
             simp [go_of FT_181 rfl, F181, w, w2, w3, GT, gRow, wordsD, Arg.ok, c1', c5', c12', c16', c17', c18']
         · have c17' := eq_false c17
           simp [go_of FT_181 rfl, F181, w, w2, w3, GT, gRow, wordsD, Arg.ok, c1', c5', c12', c16', c17']
       · have c16' := eq_false c16
         simp [go_of FT_181 rfl, F181, w, w2, w3, GT, gRow, wordsD, Arg.ok, c1', c5', c12', c16']
theorem run_DevOkS {n : Nat} (hn : 2 ≤ n) (a : Arg) (s : Sup) : go n 188 [argX a] [] s = some ⟨sV (.bool a.ok), [], []⟩ := by
 obtain ⟨n, rfl⟩ : ∃ k, n = k + 1 := ⟨n - 1, by omega⟩; obtain ⟨k, m, p⟩ := a; have w2 := run_DevSizeS (n := n) (by omega)
 by_cases c19 : k = 11
 · have c19' := eq_true c19
   by_cases c20 : -32768 ≤ m
   · have c20' := eq_true c20
     by_cases c21 : m ≤ 32767
     · have c21' := eq_true c21
       by_cases c22 : p = 0
       · have c22' := eq_true c22
         simp [go_of FT_188 rfl, F188, w2, Arg.ok, c19', c20', c21', c22']
       · have c22' := eq_false c22
         simp [go_of FT_188 rfl, F188, w2, Arg.ok, c19', c20', c21', c22']
     · have c21' := eq_false c21
       simp [go_of FT_188 rfl, F188, w2, Arg.ok, c19', c20', c21']
   · have c20' := eq_false c20
     simp [go_of FT_188 rfl, F188, w2, Arg.ok, c19', c20']
 · have c19' := eq_false c19
   by_cases c23 : k = 12
   · have c23' := eq_true c23
     by_cases c24 : -999999999 ≤ m
     · have c24' := eq_true c24
       by_cases c25 : m ≤ 999999999
       · have c25' := eq_true c25
         by_cases c26 : 1 ≤ p
         · have c26' := eq_true c26
           by_cases c27 : p ≤ 6
           · have c27' := eq_true c27
             by_cases c28 : p = 1
             · have c28' := eq_true c28
               simp [go_of FT_188 rfl, F188, w2, Arg.ok, c19', c23', c24', c25', c26', c27', c28']
             · have c28' := eq_false c28
               by_cases c29 : m.tmod 10 = 0
               · have c29' := eq_true c29
                 simp [go_of FT_188 rfl, F188, w2, Arg.ok, c19', c23', c24', c25', c26', c27', c28', c29']
               · have c29' := eq_false c29
                 simp [go_of FT_188 rfl, F188, w2, Arg.ok, c19', c23', c24', c25', c26', c27', c28', c29']
           · have c27' := eq_false c27
             simp [go_of FT_188 rfl, F188, w2, Arg.ok, c19', c23', c24', c25', c26', c27']
         · have c26' := eq_false c26
           simp [go_of FT_188 rfl, F188, w2, Arg.ok, c19', c23', c24', c25', c26']
       · have c25' := eq_false c25
         simp [go_of FT_188 rfl, F188, w2, Arg.ok, c19', c23', c24', c25']
     · have c24' := eq_false c24
       simp [go_of FT_188 rfl, F188, w2, Arg.ok, c19', c23', c24']
   · have c23' := eq_false c23
     by_cases c30 : k = 13
     · have c30' := eq_true c30
       by_cases c31 : 0 ≤ m
       · have c31' := eq_true c31
         by_cases c32 : m ≤ 3
         · have c32' := eq_true c32
           by_cases c33 : p = 0
           · have c33' := eq_true c33
             simp [go_of FT_188 rfl, F188, w2, Arg.ok, c19', c23', c30', c31', c32', c33']
           · have c33' := eq_false c33
             simp [go_of FT_188 rfl, F188, w2, Arg.ok, c19', c23', c30', c31', c32', c33']
         · have c32' := eq_false c32
           simp [go_of FT_188 rfl, F188, w2, Arg.ok, c19', c23', c30', c31', c32']
       · have c31' := eq_false c31
         simp [go_of FT_188 rfl, F188, w2, Arg.ok, c19', c23', c30', c31']
     · have c30' := eq_false c30
       by_cases c34 : 0 ≤ m
       · have c34' := eq_true c34
         by_cases c35 : m < devSize k
         · have c35' := eq_true c35
           by_cases c36 : p = 0
           · have c36' := eq_true c36
             simp [go_of FT_188 rfl, F188, w2, Arg.ok, c19', c23', c30', c34', c35', c36']
           · have c36' := eq_false c36
             simp [go_of FT_188 rfl, F188, w2, Arg.ok, c19', c23', c30', c34', c35', c36']
         · have c35' := eq_false c35
           simp [go_of FT_188 rfl, F188, w2, Arg.ok, c19', c23', c30', c34', c35']
       · have c34' := eq_false c34
         simp [go_of FT_188 rfl, F188, w2, Arg.ok, c19', c23', c30', c34']
theorem idxOf_at {x : Int} : ∀ {l : List Int} {i : Nat}, x ∉ l.take i → l[i]? = some x → l.idxOf x = i
 | [], i, h, h2 => by simp at h2
 | a :: l, 0, h, h2 => by simp at h2; simp [h2]
 | a :: l, i + 1, h, h2 => by
  simp only [List.take_succ_cons, List.mem_cons, not_or] at h; rw [List.idxOf_cons, show (a == x) = false from by simpa using fun e => h.1 e.symm]; simp only [Bool.false_eq_true, if_false, cond_false]; rw [idxOf_at h.2 (by simpa using h2)]
def posOf (l : List Int) (x : Int) : Int := if x ∈ l then (l.idxOf x : Nat) else -1
theorem loop194 {n : Nat} (l : List Int) (x : Int) (hn : l.length < n) (hl : l.length < 2 ^ 62) (st : St) (h0 : st.τ 0 = .w (.d (.l 0 (l.map fun x => [iD x])))) (h1 : st.τ 1 = iV x) (h7 : st.τ 7 = iV l.length) (h8 : st.τ 8 = iV 0) :
 ∃ e st', execC (go n) mode GT false 19 n F194_L0 st = some (e, st') ∧ e ≠ .normal ∧ ((e = .exit 0 ∧ x ∉ l) ∨ (e = .ret ∧ x ∈ l ∧ st'.τ 4 = iV (l.idxOf x : Nat))) := by
 rw [F194_L0, execC_loop]; refine iter_rule (fun k st => ∃ i, i + k = l.length ∧ x ∉ l.take i ∧ st.τ 0 = .w (.d (.l 0 (l.map fun x => [iD x]))) ∧ st.τ 1 = iV x ∧ st.τ 7 = iV l.length ∧ st.τ 8 = iV i) ?_ n l.length st hn ⟨0, by omega, by simp, h0, h1, h7, by simpa using h8⟩
 rintro k ⟨τ, H, g, s⟩ ⟨i, hk, ht, h0, h1, h7, h8⟩; simp only at h0 h1 h7 h8; cases k with
 | zero =>
  have : i = l.length := by omega
  subst this; refine ⟨.exit 0, ?_⟩
  rw [List.take_length] at ht; simp [F194_B0, h0, h1, h7, h8, ht]
 | succ k =>
  have hlt : i < l.length := by omega
  have hlt' := ltT hlt; have hg := List.getElem?_eq_getElem hlt; have hb : (l.map fun x => [iD x])[i]? = some [iD l[i]] := by simp [hg]
  have hw := wrap_succ (i := i) (by omega)
  by_cases he : x = l[i]
  · refine ⟨.ret, ?_⟩
    have he' := eq_true he; have hi := idxOf_at ht (by rw [hg, he]); have hm : x ∈ l := by rw [he]; exact List.getElem_mem hlt
    simp [-getElem?_pos, F194_B0, h0, h1, h7, h8, hlt, hlt', hb, he']; exact ⟨hm, by rw [hi]⟩
  · refine ⟨.normal, ?_⟩
    have he' := eq_false he; simp [-getElem?_pos, F194_B0, h0, h1, h7, h8, hlt, hlt', hb, he', hw]; exact ⟨k, by omega, i + 1, by omega, by rw [List.take_add_one, hg]; simp only [Option.toList_some, List.mem_append, List.mem_singleton, not_or]; exact ⟨ht, he⟩, rfl⟩
theorem run_Index {n : Nat} (l : List Int) (x : Int) (hn : l.length + 2 ≤ n) (hl : l.length < 2 ^ 62) (s : Sup) :
 go n 194 [.w (.d (.l 0 (l.map fun x => [iD x]))), iV x] [] s = some ⟨iV (posOf l x), [], []⟩ := by
 obtain ⟨n, rfl⟩ : ∃ k, n = k + 1 := ⟨n - 1, by omega⟩; unfold posOf; simp [go_of FT_194 rfl, F194]; generalize hst : St.mk _ _ _ _ = st; obtain ⟨e, st', hx, -, ⟨rfl, h⟩ | ⟨rfl, h, h4⟩⟩ := loop194 (n := n) l x (by omega) hl st (by simp [← hst]) (by simp [← hst]) (by simp [← hst]) (by simp [← hst])
 · simp [hx, h]
 · simp [hx, h, h4]
theorem run_Contains {n : Nat} (l : List Int) (x : Int) (hn : l.length + 3 ≤ n) (hl : l.length < 2 ^ 62) (s : Sup) :
 go n 182 [.w (.d (.l 0 (l.map fun x => [iD x]))), iV x] [] s = some ⟨sV (.bool (l.contains x)), [], []⟩ := by
 obtain ⟨n, rfl⟩ : ∃ k, n = k + 1 := ⟨n - 1, by omega⟩; have w := run_Index (n := n) l x (by omega) hl; have e : decide (0 ≤ posOf l x) = l.contains x := by
  unfold posOf
  by_cases h : x ∈ l
  · simp [h]
  · simp [h]
 simp [go_of FT_182 rfl, F182, w, e]
theorem run_kindIs {n : Nat} (l : List Int) (a : Arg) (hn : l.length + 4 ≤ n) (hl : l.length < 2 ^ 62) (s : Sup) :
 go n 161 [argX a, .w (.d (.l 0 (l.map fun x => [iD x])))] [] s = some ⟨sV (.bool (a.isK l)), [], []⟩ := by
 obtain ⟨n, rfl⟩ : ∃ k, n = k + 1 := ⟨n - 1, by omega⟩; have w := run_Contains (n := n) l a.k (by omega) hl; have w2 := run_DevOk (n := n) (by omega) a; cases h : a.ok <;> simp [go_of FT_161 rfl, F161, w, w2, h, Arg.isK]
theorem run_DevIsBit {n : Nat} (hn : 12 ≤ n) (a : Arg) (s : Sup) : go n 160 [argX a] [] s = some ⟨sV (.bool a.bit), [], []⟩ := by
 obtain ⟨n, rfl⟩ : ∃ k, n = k + 1 := ⟨n - 1, by omega⟩; have w := run_kindIs (n := n) [1, 2, 3, 4, 6, 7, 8] a (by simp; omega) (by simp); simp only [List.map_cons, List.map_nil] at w; simp [go_of FT_160 rfl, F160, w, Arg.bit, List.replicate]
theorem run_DevIsWhole {n : Nat} (hn : 12 ≤ n) (a : Arg) (s : Sup) : go n 184 [argX a] [] s = some ⟨sV (.bool a.whole), [], []⟩ := by
 obtain ⟨n, rfl⟩ : ∃ k, n = k + 1 := ⟨n - 1, by omega⟩; have w := run_kindIs (n := n) [7, 8, 9, 11] a (by simp; omega) (by simp); simp only [List.map_cons, List.map_nil] at w; simp [go_of FT_184 rfl, F184, w, Arg.whole, List.replicate]
theorem run_DevIsReal {n : Nat} (hn : 12 ≤ n) (a : Arg) (s : Sup) : go n 185 [argX a] [] s = some ⟨sV (.bool a.real), [], []⟩ := by
 obtain ⟨n, rfl⟩ : ∃ k, n = k + 1 := ⟨n - 1, by omega⟩; have w := run_kindIs (n := n) [10, 12, 13] a (by simp; omega) (by simp); simp only [List.map_cons, List.map_nil] at w; simp [go_of FT_185 rfl, F185, w, Arg.real, List.replicate]
theorem ok_kind {a : Arg} (h : a.ok = true) : 1 ≤ a.k ∧ a.k ≤ 13 := by
 unfold Arg.ok at h
 by_cases c : 1 ≤ a.k ∧ a.k ≤ 13
 · exact c
 · have hk : ∀ m : Int, 1 ≤ m → m ≤ 13 → (a.k = m) = False := fun m h1 h2 => eq_false fun e => c (by omega)
   simp [hk, devSize] at h; omega
theorem run_DevIsBitS {n : Nat} (hn : 3 ≤ n) (a : Arg) (s : Sup) : go n 187 [argX a] [] s = some ⟨sV (.bool a.bit), [], []⟩ := by
 obtain ⟨n, rfl⟩ : ∃ k, n = k + 1 := ⟨n - 1, by omega⟩; have w2 := run_DevOkS (n := n) (by omega) a; unfold Arg.bit Arg.isK; cases h : a.ok
 · simp [go_of FT_187 rfl, F187, w2, h]
 · obtain ⟨h1, h2⟩ := ok_kind h
   obtain ⟨k, m, p⟩ := a; simp only at h1 h2; obtain rfl | rfl | rfl | rfl | rfl | rfl | rfl | rfl | rfl | rfl | rfl | rfl | rfl : k = 1 ∨ k = 2 ∨ k = 3 ∨ k = 4 ∨ k = 5 ∨ k = 6 ∨ k = 7 ∨ k = 8 ∨ k = 9 ∨ k = 10 ∨ k = 11 ∨ k = 12 ∨ k = 13 := by omega
   all_goals simp [go_of FT_187 rfl, F187, w2, h]
theorem run_DevIsWholeS {n : Nat} (hn : 3 ≤ n) (a : Arg) (s : Sup) : go n 168 [argX a] [] s = some ⟨sV (.bool a.whole), [], []⟩ := by
 obtain ⟨n, rfl⟩ : ∃ k, n = k + 1 := ⟨n - 1, by omega⟩; have w2 := run_DevOkS (n := n) (by omega) a; unfold Arg.whole Arg.isK; cases h : a.ok
 · simp [go_of FT_168 rfl, F168, w2, h]
 · obtain ⟨h1, h2⟩ := ok_kind h
   obtain ⟨k, m, p⟩ := a; simp only at h1 h2; obtain rfl | rfl | rfl | rfl | rfl | rfl | rfl | rfl | rfl | rfl | rfl | rfl | rfl : k = 1 ∨ k = 2 ∨ k = 3 ∨ k = 4 ∨ k = 5 ∨ k = 6 ∨ k = 7 ∨ k = 8 ∨ k = 9 ∨ k = 10 ∨ k = 11 ∨ k = 12 ∨ k = 13 := by omega
   all_goals simp [go_of FT_168 rfl, F168, w2, h]
theorem run_DevIsRealS {n : Nat} (hn : 3 ≤ n) (a : Arg) (s : Sup) : go n 169 [argX a] [] s = some ⟨sV (.bool a.real), [], []⟩ := by
 obtain ⟨n, rfl⟩ : ∃ k, n = k + 1 := ⟨n - 1, by omega⟩; have w2 := run_DevOkS (n := n) (by omega) a; unfold Arg.real Arg.isK; cases h : a.ok
 · simp [go_of FT_169 rfl, F169, w2, h]
 · obtain ⟨h1, h2⟩ := ok_kind h
   obtain ⟨k, m, p⟩ := a; simp only at h1 h2; obtain rfl | rfl | rfl | rfl | rfl | rfl | rfl | rfl | rfl | rfl | rfl | rfl | rfl : k = 1 ∨ k = 2 ∨ k = 3 ∨ k = 4 ∨ k = 5 ∨ k = 6 ∨ k = 7 ∨ k = 8 ∨ k = 9 ∨ k = 10 ∨ k = 11 ∨ k = 12 ∨ k = 13 := by omega
   all_goals simp [go_of FT_169 rfl, F169, w2, h]
theorem run_l4Kind {n : Nat} (hn : 3 ≤ n) (a : Arg) (k1 k2 : Int) (s : Sup) : go n 167 [argX a, iV k1, iV k2] [] s = some ⟨sV (.bool (a.isK [k1, k2])), [], []⟩ := by
 obtain ⟨n, rfl⟩ : ∃ k, n = k + 1 := ⟨n - 1, by omega⟩; have w2 := run_DevOkS (n := n) (by omega) a; unfold Arg.isK; cases h : a.ok
 · simp [go_of FT_167 rfl, F167, w2, h]
 · by_cases c1 : a.k = k1
   · have c1' := eq_true c1
     simp [go_of FT_167 rfl, F167, w2, h, c1']
   · have c1' := eq_false c1
     by_cases c2 : a.k = k2
     · have c2' := eq_true c2
       simp [go_of FT_167 rfl, F167, w2, h, c1', c2']
     · have c2' := eq_false c2
       simp [go_of FT_167 rfl, F167, w2, h, c1', c2']
end Go.VM
