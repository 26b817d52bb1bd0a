/- Contacts and coils, reckoned: what the program and what the document says of them. Conditions: none. -/
import Derived.Test.YtfpkfcfiihfopaaDoorBVQ1

namespace Go.VM
set_option linter.unusedSimpArgs false
set_option linter.unusedVariables false
set_option maxHeartbeats 8000000
@[simp] theorem o_mkf (call : CallT) (M : Nat → Mode) (G : Nat → Option (List D)) (stamp : Bool) (ev : X → V) (H : Nat → Box) (g : Nat) (s : Sup) (f : Nat) (caps : List X) :
 opV call M G stamp ev H g s (.mkf f caps) = bnd (capsOf (caps.map ev)) fun l => ret0 H (some (.w (.fn f l))) := by
 show (match capsOf (caps.map ev) with | some l => ret0 H (some (.w (.fn f l))) | none => none) = _
 cases capsOf (caps.map ev) <;> rfl
abbrev elX (e : El) : V := .agg [iW e.op, .d (.l 0 (argRows e.as))]
theorem run_ElemArity {n : Nat} (hn : 2 ≤ n) (k : Int) (s : Sup) : go n 159 [iV k] [] s = some ⟨iV (arity k), [], []⟩ := by
 obtain ⟨n, rfl⟩ : ∃ k, n = k + 1 := ⟨n - 1, by omega⟩; have w := run_within (n := n) (by omega); unfold arity
 by_cases h1 : k = 1
 · subst h1; simp [go_of FT_159 rfl, F159, w]
 by_cases h2 : k = 2
 · subst h2; simp [go_of FT_159 rfl, F159, w]
 by_cases h3 : 21 ≤ k ∧ k ≤ 23
 · have e : (decide (21 ≤ k) && decide (k ≤ 23)) = true := by simp; omega
   simp [go_of FT_159 rfl, F159, w, h1, h2, h3, e]
 have e3 : (decide (21 ≤ k) && decide (k ≤ 23)) = false := by simp; omega
 by_cases h4 : k = 25
 · subst h4; simp [go_of FT_159 rfl, F159, w]
 have c1 : ¬ (k = 1 ∨ k = 2 ∨ (21 ≤ k ∧ k ≤ 23) ∨ k = 25) := by omega
 rw [if_neg c1]
 by_cases h5 : 31 ≤ k ∧ k ≤ 35
 · have e : (decide (31 ≤ k) && decide (k ≤ 35)) = true := by simp; omega
   rw [if_pos h5]; simp [go_of FT_159 rfl, F159, w, h1, h2, h4, e3, e]
 have e5 : (decide (31 ≤ k) && decide (k ≤ 35)) = false := by simp; omega
 rw [if_neg h5]
 by_cases h6 : 3 ≤ k ∧ k ≤ 10
 · have e : (decide (3 ≤ k) && decide (k ≤ 10)) = true := by simp; omega
   rw [if_pos (by omega)]; simp [go_of FT_159 rfl, F159, w, h1, h2, h4, e3, e5, e]
 have e6 : (decide (3 ≤ k) && decide (k ≤ 10)) = false := by simp; omega
 by_cases h7 : 24 ≤ k ∧ k ≤ 37
 · have e : (decide (24 ≤ k) && decide (k ≤ 37)) = true := by simp; omega
   rw [if_pos (by omega)]; simp [go_of FT_159 rfl, F159, w, h1, h2, h4, e3, e5, e6, e]
 have e7 : (decide (24 ≤ k) && decide (k ≤ 37)) = false := by simp; omega
 rw [if_neg (by omega)]; simp [go_of FT_159 rfl, F159, w, h1, h2, h4, e3, e5, e6, e7]
theorem arity_lit (k : Int) (h : ¬ ((1 ≤ k ∧ k ≤ 10) ∨ (21 ≤ k ∧ k ≤ 37))) : arity k = 0 := by
 unfold arity; rw [if_neg (by omega), if_neg (by omega), if_neg (by omega)]
theorem run_ElemArityS {n : Nat} (hn : 2 ≤ n) (k : Int) (s : Sup) : go n 158 [iV k] [] s = some ⟨iV (arity k), [], []⟩ := by
 obtain ⟨n, rfl⟩ : ∃ k, n = k + 1 := ⟨n - 1, by omega⟩
 by_cases h : 1 ≤ k ∧ k ≤ 10
 · obtain rfl | rfl | rfl | rfl | rfl | rfl | rfl | rfl | rfl | rfl : k = 1 ∨ k = 2 ∨ k = 3 ∨ k = 4 ∨ k = 5 ∨ k = 6 ∨ k = 7 ∨ k = 8 ∨ k = 9 ∨ k = 10 := by omega
   all_goals simp [go_of FT_158 rfl, F158, arity]
 by_cases h2 : 21 ≤ k ∧ k ≤ 37
 · obtain rfl | rfl | rfl | rfl | rfl | rfl | rfl | rfl | rfl | rfl | rfl | rfl | rfl | rfl | rfl | rfl | rfl : k = 21 ∨ k = 22 ∨ k = 23 ∨ k = 24 ∨ k = 25 ∨ k = 26 ∨ k = 27 ∨ k = 28 ∨ k = 29 ∨ k = 30 ∨ k = 31 ∨ k = 32 ∨ k = 33 ∨ k = 34 ∨ k = 35 ∨ k = 36 ∨ k = 37 := by omega
   all_goals simp [go_of FT_158 rfl, F158, arity]
 have hk : ∀ m : Int, (1 ≤ m ∧ m ≤ 10) ∨ (21 ≤ m ∧ m ≤ 37) → (k = m) = False := fun m hm => eq_false fun e => by omega
 rw [arity_lit k (by omega)]
 by_cases c1 : 1 ≤ k
 · have c2 : ¬ k ≤ 10 := by omega
   by_cases c3 : 21 ≤ k
   · have c4 : ¬ k ≤ 37 := by omega
     simp [go_of FT_158 rfl, F158, hk, c1, c2, c3, c4]
   · simp [go_of FT_158 rfl, F158, hk, c1, c2, c3]
 · have c3 : ¬ 21 ≤ k := by omega
   simp [go_of FT_158 rfl, F158, hk, c1, c3]
theorem run_all1 {n : Nat} (p : Nat) (P : Arg → Bool) (hp : ∀ a s, go n p [argX a] [] s = some ⟨sV (.bool (P a)), [], []⟩) (hpi : inouts.contains p = false) (a : Arg) (s : Sup) :
 go (n + 1) 195 [argX a, .w (.ptr 0 0)] [.cells [.fn p []]] s = some ⟨sV (.bool (!P a)), [.cells [.fn p []]], []⟩ := by
 have hpi' : ¬ (p = 165 ∨ p = 192 ∨ p = 198) := by
  intro h; rcases h with rfl | rfl | rfl <;> simp at hpi
 simp [go_of FT_195 rfl, F195, hp, hpi']
theorem loop201 {n : Nat} (p : Nat) (P : Arg → Bool) (hp : ∀ a s, go n p [argX a] [] s = some ⟨sV (.bool (P a)), [], []⟩) (hpi : inouts.contains p = false) (l : List Arg) (hn : l.length < n + 1) (hl : l.length < 2 ^ 62) (st : St)
 (h0 : st.τ 0 = .w (.d (.l 0 (argRows l)))) (h1 : st.τ 1 = .w (.fn 195 [.ptr 0 0])) (h7 : st.τ 7 = iV l.length) (h8 : st.τ 8 = iV 0) (hH : st.H 0 = .cells [.fn p []]) (hg : 0 < st.g) :
 ∃ e st', execC (go (n + 1)) mode GT false 19 (n + 1) F201_L0 st = some (e, st') ∧ e ≠ .normal ∧ st'.H 0 = .cells [.fn p []] ∧ ((e = .exit 0 ∧ l.all P = true) ∨ (e = .ret ∧ l.all P = false ∧ ∃ i : Nat, st'.τ 4 = iV i)) := by
 rw [F201_L0, execC_loop]; refine iter_rule (fun k st => ∃ i, i + k = l.length ∧ (l.take i).all P = true ∧ st.τ 0 = .w (.d (.l 0 (argRows l))) ∧ st.τ 1 = .w (.fn 195 [.ptr 0 0]) ∧ st.τ 7 = iV l.length ∧ st.τ 8 = iV i ∧ st.H 0 = .cells [.fn p []] ∧ 0 < st.g) ?_ (n + 1) l.length st hn
  ⟨0, by omega, by simp, h0, h1, h7, by simpa using h8, hH, hg⟩
 rintro k ⟨τ, H, g, s⟩ ⟨i, hk, ht, h0, h1, h7, h8, hH, hg⟩; simp only at h0 h1 h7 h8 hH hg; cases k with
 | zero =>
  have : i = l.length := by omega
  subst this; refine ⟨.exit 0, ?_⟩
  rw [List.take_length] at ht; simp [F201_B0, h0, h1, h7, h8, ht, hH]
 | succ k =>
  have hlt : i < l.length := by omega
  have hlt' := ltT hlt; have hg1 := List.getElem?_eq_getElem hlt; have hb := argRows_get hg1; have hw := wrap_succ (i := i) (by omega); have w := run_all1 (n := n) p P hp hpi l[i]; have g0 : ¬ g = 0 := by omega
  cases he : P l[i]
  · refine ⟨.ret, ?_⟩
    rw [he] at w; simp [-getElem?_pos, F201_B0, h0, h1, h7, h8, hlt, hlt', hb, w, hH]; exact ⟨⟨l[i], List.getElem_mem hlt, he⟩, i, rfl⟩
  · refine ⟨.normal, ?_⟩
    rw [he] at w; simp [-getElem?_pos, F201_B0, h0, h1, h7, h8, hlt, hlt', hb, w, hw, hH]; refine ⟨k, by omega, i + 1, by omega, ?_, rfl⟩
    rw [List.take_add_one, hg1]; intro x hx; rcases List.mem_append.1 hx with hx | hx
    · exact List.all_eq_true.1 ht x hx
    · simp only [Option.toList_some, List.mem_singleton] at hx; subst hx; exact he
theorem run_IndexFunc {n : Nat} (p : Nat) (P : Arg → Bool) (hp : ∀ a s, go n p [argX a] [] s = some ⟨sV (.bool (P a)), [], []⟩) (hpi : inouts.contains p = false) (l : List Arg) (hn : l.length ≤ n) (hl : l.length < 2 ^ 62) (s : Sup) :
 ∃ i : Int, decide (0 ≤ i) = !l.all P ∧ go (n + 2) 201 [.w (.d (.l 0 (argRows l))), .w (.fn 195 [.ptr 0 0])] [.cells [.fn p []]] s = some ⟨iV i, [.cells [.fn p []]], []⟩ := by
 simp [go_of FT_201 rfl, F201]; generalize hst : St.mk _ _ _ _ = st; obtain ⟨e, ⟨τ', H', g', s'⟩, hx, -, hH, ⟨rfl, h⟩ | ⟨rfl, h, i, h4⟩⟩ := loop201 (n := n) p P hp hpi l (by omega) hl st (by simp [← hst]) (by simp [← hst]) (by simp [← hst]) (by simp [← hst]) (by simp [← hst]) (by simp [← hst])
 · simp only at hH
   refine ⟨-1, by rw [h]; rfl, ?_⟩
   simp [hx, hH]
 · simp only at hH h4
   refine ⟨i, by rw [h]; simp, ?_⟩
   simp [hx, hH, h4]
theorem run_ContainsFunc {n : Nat} (p : Nat) (P : Arg → Bool) (hp : ∀ a s, go n p [argX a] [] s = some ⟨sV (.bool (P a)), [], []⟩) (hpi : inouts.contains p = false) (l : List Arg) (hn : l.length ≤ n) (hl : l.length < 2 ^ 62) (s : Sup) :
 go (n + 3) 196 [.w (.d (.l 0 (argRows l))), .w (.fn 195 [.ptr 0 0])] [.cells [.fn p []]] s = some ⟨sV (.bool (!l.all P)), [.cells [.fn p []]], []⟩ := by
 obtain ⟨i, hi⟩ := Classical.skolem.1 fun s => run_IndexFunc (n := n) p P hp hpi l hn hl s
 have w := fun s => (hi s).2
 have e := fun s => (hi s).1
 simp [go_of FT_196 rfl, F196, w, e]
theorem run_all {n : Nat} (p : Nat) (P : Arg → Bool) (hp : ∀ a s, go n p [argX a] [] s = some ⟨sV (.bool (P a)), [], []⟩) (hpi : inouts.contains p = false) (l : List Arg) (hn : l.length ≤ n) (hl : l.length < 2 ^ 62) (s : Sup) :
 go (n + 4) 183 [.w (.d (.l 0 (argRows l))), .w (.fn p [])] [] s = some ⟨sV (.bool (l.all P)), [], []⟩ := by
 have w := run_ContainsFunc (n := n) p P hp hpi l hn hl; simp [go_of FT_183 rfl, F183, w]
theorem run_allW {n : Nat} (l : List Arg) (hn : l.length + 20 ≤ n) (hl : l.length < 2 ^ 62) (s : Sup) : go n 183 [.w (.d (.l 0 (argRows l))), .w (.fn 184 [])] [] s = some ⟨sV (.bool (l.all Arg.whole)), [], []⟩ := by
 obtain ⟨n, rfl⟩ : ∃ k, n = k + 4 := ⟨n - 4, by omega⟩; exact run_all 184 Arg.whole (fun a s => run_DevIsWhole (by omega) a s) rfl l (by omega) hl s
theorem run_allR {n : Nat} (l : List Arg) (hn : l.length + 20 ≤ n) (hl : l.length < 2 ^ 62) (s : Sup) : go n 183 [.w (.d (.l 0 (argRows l))), .w (.fn 185 [])] [] s = some ⟨sV (.bool (l.all Arg.real)), [], []⟩ := by
 obtain ⟨n, rfl⟩ : ∃ k, n = k + 4 := ⟨n - 4, by omega⟩; exact run_all 185 Arg.real (fun a s => run_DevIsReal (by omega) a s) rfl l (by omega) hl s
theorem run_numbers {n : Nat} (l : List Arg) (hn : l.length + 21 ≤ n) (hl : l.length < 2 ^ 62) (s : Sup) : go n 162 [.w (.d (.l 0 (argRows l)))] [] s = some ⟨sV (.bool (l.all Arg.whole || l.all Arg.real)), [], []⟩ := by
 obtain ⟨n, rfl⟩ : ∃ k, n = k + 1 := ⟨n - 1, by omega⟩; have w1 := run_allW (n := n) l (by omega) hl; have w2 := run_allR (n := n) l (by omega) hl; generalize l.all Arg.whole = b1 at w1 ⊢; generalize l.all Arg.real = b2 at w2 ⊢; cases b1 <;> simp [go_of FT_162 rfl, F162, w1, w2]
theorem contact_arity {e : El} (h : e.contact = true) : (1 ≤ e.op ∧ e.op ≤ 10) ∧ (e.as.length : Int) = arity e.op := by
 obtain ⟨op, as⟩ := e; unfold El.contact at h
 match as, h with
 | [a], h =>
  simp only [Bool.and_eq_true, decide_eq_true_eq] at h; refine ⟨by simp only; omega, ?_⟩
  unfold arity; rw [if_pos (by simp only; omega)]; rfl
 | [a, b], h =>
  simp only at h; have ho : 3 ≤ op ∧ op ≤ 10 := by
   split at h
   · omega
   · simp only [Bool.and_eq_true, decide_eq_true_eq] at h; omega
  refine ⟨by simp only; omega, ?_⟩
  unfold arity; rw [if_neg (by simp only; omega), if_neg (by simp only; omega), if_pos (by simp only; omega)]; rfl
 | [], h => simp at h
 | a :: b :: c :: r, h => simp at h
theorem run_ElemIsContact {n : Nat} (hn : 40 ≤ n) (e : El) (hl : e.as.length < 2 ^ 62) (s : Sup) : go n 137 [elX e] [] s = some ⟨sV (.bool e.contact), [], []⟩ := by
 obtain ⟨n, rfl⟩ : ∃ k, n = k + 1 := ⟨n - 1, by omega⟩; have w := run_within (n := n) (by omega); have w2 := run_ElemArity (n := n) (by omega); have w3 := run_DevIsBit (n := n) (by omega); have w4 := fun a => run_kindIs (n := n) [5] a (by simp; omega) (by simp)
 simp only [List.map_cons, List.map_nil] at w4; obtain ⟨op, as⟩ := e; simp only at hl
 by_cases ho : 1 ≤ op ∧ op ≤ 10
 · have e1 : (decide (1 ≤ op) && decide (op ≤ 10)) = true := by simp; omega
   by_cases ha : (as.length : Int) = arity op
   · by_cases h12 : op = 1 ∨ op = 2
     · have : arity op = 1 := by unfold arity; rw [if_pos (by omega)]
       obtain ⟨a, rfl⟩ : ∃ a, as = [a] := by
        match as, ha with
        | [a], _ => exact ⟨a, rfl⟩
        | [], ha => rw [this] at ha; simp at ha
        | _ :: _ :: _, ha => rw [this] at ha; simp at ha; omega
       rcases h12 with rfl | rfl <;> simp [go_of FT_137 rfl, F137, w, w2, w3, arity, argRows, Arg.row, El.contact]
     · have : arity op = 2 := by unfold arity; rw [if_neg (by omega), if_neg (by omega), if_pos (by omega)]
       obtain ⟨a, b, rfl⟩ : ∃ a b, as = [a, b] := by
        match as, ha with
        | [a, b], _ => exact ⟨a, b, rfl⟩
        | [], ha => rw [this] at ha; simp at ha
        | [_], ha => rw [this] at ha; simp at ha
        | _ :: _ :: _ :: _, ha => rw [this] at ha; simp at ha; omega
       by_cases h34 : op = 3 ∨ op = 4
       · generalize hb : a.bit = b1
         have w3a := w3 a; rw [hb] at w3a; cases b1 <;> rcases h34 with rfl | rfl <;> simp [go_of FT_137 rfl, F137, w, w2, w3a, w4, arity, argRows, Arg.row, El.contact, List.replicate, hb]
       · have w5 := run_numbers (n := n) [a, b] (by simp; omega) (by simp)
         have hk : ∀ m : Int, m ≤ 4 → (op = m) = False := fun m hm => eq_false fun e => by omega
         have h5 : 5 ≤ op := by omega
         have h6 : op ≤ 10 := ho.2; have h7 : 1 ≤ op := ho.1; simp [argRows, Arg.row] at w5; simp [go_of FT_137 rfl, F137, w, w2, h7, this, w5, hk, argRows, Arg.row, El.contact, h5, h6]
   · have hf : El.contact ⟨op, as⟩ = false := by
      cases h : El.contact ⟨op, as⟩ with
      | false => rfl
      | true => exact absurd (contact_arity h).2 ha
     simp [go_of FT_137 rfl, F137, w, w2, e1, ha, hf]
 · have e1 : (decide (1 ≤ op) && decide (op ≤ 10)) = false := by simp; omega
   have hf : El.contact ⟨op, as⟩ = false := by
    cases h : El.contact ⟨op, as⟩ with
    | false => rfl
    | true => exact absurd (contact_arity h).1 ho
   simp [go_of FT_137 rfl, F137, w, w2, e1, hf]
theorem run_ElemIsContactS {n : Nat} (hn : 10 ≤ n) (e : El) (s : Sup) : go n 166 [elX e] [] s = some ⟨sV (.bool e.contact), [], []⟩ := by
 obtain ⟨n, rfl⟩ : ∃ k, n = k + 1 := ⟨n - 1, by omega⟩; have w2 := run_ElemArityS (n := n) (by omega); have w3 := run_DevIsBitS (n := n) (by omega); have w4 := run_DevOkS (n := n) (by omega); have w5 := run_DevIsWholeS (n := n) (by omega); have w6 := run_DevIsRealS (n := n) (by omega); obtain ⟨op, as⟩ := e
 by_cases ho : 1 ≤ op ∧ op ≤ 10
 · have ho1 : ¬ op < 1 := by omega
   have ho2 : ¬ 10 < op := by omega
   by_cases ha : (as.length : Int) = arity op
   · by_cases h12 : op = 1 ∨ op = 2
     · have : arity op = 1 := by unfold arity; rw [if_pos (by omega)]
       obtain ⟨a, rfl⟩ : ∃ a, as = [a] := by
        match as, ha with
        | [a], _ => exact ⟨a, rfl⟩
        | [], ha => rw [this] at ha; simp at ha
        | _ :: _ :: _, ha => rw [this] at ha; simp at ha; omega
       rcases h12 with rfl | rfl <;> simp [go_of FT_166 rfl, F166, w2, w3, arity, argRows, Arg.row, El.contact]
     · have : arity op = 2 := by unfold arity; rw [if_neg (by omega), if_neg (by omega), if_pos (by omega)]
       obtain ⟨a, b, rfl⟩ : ∃ a b, as = [a, b] := by
        match as, ha with
        | [a, b], _ => exact ⟨a, b, rfl⟩
        | [], ha => rw [this] at ha; simp at ha
        | [_], ha => rw [this] at ha; simp at ha
        | _ :: _ :: _ :: _, ha => rw [this] at ha; simp at ha; omega
       by_cases h34 : op = 3 ∨ op = 4
       · generalize hb : a.bit = b1
         have w3a := w3 a; have w4b := w4 b; rw [hb] at w3a; generalize hb2 : b.ok = b2 at w4b; cases b1 <;> cases b2 <;> rcases h34 with rfl | rfl <;> (simp [go_of FT_166 rfl, F166, w2, w3a, w4b, arity, argRows, Arg.row, El.contact, hb, hb2, Arg.isK] <;> rfl)
       · have h2 : ¬ op ≤ 2 := by omega
         have h4 : ¬ op ≤ 4 := by omega
         have h5 : 5 ≤ op := by omega
         have h6 : op ≤ 10 := ho.2; have hk : ∀ m : Int, m ≤ 4 → (op = m) = False := fun m hm => eq_false fun e => by omega
         have w5a := w5 a; have w5b := w5 b; have w6a := w6 a; have w6b := w6 b; generalize hb1 : a.whole = b1 at w5a; generalize hb2 : b.whole = b2 at w5b; generalize hb3 : a.real = b3 at w6a; generalize hb4 : b.real = b4 at w6b; cases b1 <;> cases b2 <;> cases b3 <;> simp [go_of FT_166 rfl, F166, w2, ho1, ho2, this, w5a, w5b, w6a, w6b, h2, h4, hk, argRows, Arg.row, El.contact, h5, h6, hb1, hb2, hb3, hb4]
   · have hf : El.contact ⟨op, as⟩ = false := by
      cases h : El.contact ⟨op, as⟩ with
      | false => rfl
      | true => exact absurd (contact_arity h).2 ha
     simp [go_of FT_166 rfl, F166, w2, ho1, ho2, ha, hf]
 · have hf : El.contact ⟨op, as⟩ = false := by
    cases h : El.contact ⟨op, as⟩ with
    | false => rfl
    | true => exact absurd (contact_arity h).1 ho
   by_cases h1 : op < 1
   · simp [go_of FT_166 rfl, F166, w2, h1, hf]
   · have h2 : 10 < op := by omega
     simp [go_of FT_166 rfl, F166, w2, h1, h2, hf]
end Go.VM
