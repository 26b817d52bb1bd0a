/- Code that writes where it will: what it does, step by step, on the world itself. Conditions: none. -/
import Derived.Test.YtfpkfcfiihfopaaDoorPVM30

namespace Go.VM
set_option linter.unusedVariables false
set_option linter.unusedSimpArgs false
set_option linter.unusedSectionVars false
def MC (P : Program) (fid : Nat → FuncId) (f : Nat) (args : List Value) (w : World) (K : Value → World → Prop) : Prop :=
 Enters P (fid f) ∧ Calls P (fid f) args.toArray w fun e w' => ∃ v, e = .returned v ∧ K v w'
theorem MC.mono {P : Program} {fid : Nat → FuncId} {f : Nat} {args : List Value} {w : World} {K K' : Value → World → Prop} (h : MC P fid f args w K) (hk : ∀ v w', K v w' → K' v w') : MC P fid f args w K' :=
 ⟨h.1, h.2.mono fun e w' ⟨v, e1, e2⟩ => ⟨v, e1, hk v w' e2⟩⟩
def mval (τ : Nat → Value) : X → Option Value
 | .t n => some (τ n)
 | .k (.w (.d (.s v))) => some v
 | _ => none
def mvals (τ : Nat → Value) : List X → Option (List Value)
 | [] => some []
 | x :: r => match mval τ x, mvals τ r with | some v, some l => some (v :: l) | _, _ => none
def mput (N : Nat) (τ : Nat → Value) (dst : Option Nat) (v : Value) : Option (Nat → Value) :=
 match dst with
 | none => some τ
 | some d => if d < N then some (upd τ d v) else none
def mbin (op : BinOp) (w : World) (K : Value → World → Prop) : Option Value → Option Value → Prop
 | some (.int k a), some (.int k' b) => ∃ v, binS op (.int k a) (.int k' b) = some v ∧ K v w
 | _, _ => False
def mcvi (k : IntKind) (w : World) (K : Value → World → Prop) : Option Value → Prop
 | some (.int _ n) => K (.int k (k.wrap n)) w
 | _ => False
def mlen (w : World) (K : Value → World → Prop) : Option Value → Prop
 | some (.slice _ n _) => K (.int .i64 n) w
 | _ => False
def mfa (off : Nat) (w : World) (K : Value → World → Prop) : Option Value → Prop
 | some (.pointer (some ⟨b, o, none⟩)) => K (.pointer (some ⟨b, o + off, none⟩)) w
 | _ => False
def mia (sz : Nat) (w : World) (K : Value → World → Prop) : Option Value → Option Value → Prop
 | some (.slice (some ⟨b, o, none⟩) len _), some (.int _ j) => (0 ≤ j ∧ j < len) ∧ K (.pointer (some ⟨b, o + j.toNat * sz, none⟩)) w
 | _, _ => False
def mld (w : World) (K : Value → World → Prop) : Option Value → Prop
 | some (.pointer (some ⟨b, o, none⟩)) => ∃ v, w.cell? ⟨b, o, none⟩ = some v ∧ K v w
 | _ => False
def mldA (sz : Nat) (w : World) (K : Value → World → Prop) : Option Value → Prop
 | some (.pointer (some ⟨b, o, none⟩)) => ∃ cs : List Value, cs.length = sz ∧ (∀ (j : Nat) (v : Value), cs[j]? = some v → w.cell? ⟨b, o + j, none⟩ = some v) ∧ K (.agg cs.toArray) w
 | _ => False
def mst (w : World) (K : Value → World → Prop) : Option Value → Option Value → Prop
 | some (.pointer (some ⟨b, o, none⟩)), some v => v.oneCell' = true ∧ ∃ arr T, w.heap[b]? = some (.cells arr T (0, 0)) ∧ o < arr.size ∧ K undef (w.setRow b (splice arr.toList o [v]).toArray)
 | _, _ => False
def mstA (sz : Nat) (w : World) (K : Value → World → Prop) : Option Value → Option Value → Prop
 | some (.pointer (some ⟨b, o, none⟩)), some v => v.cells.size = sz ∧ (∀ x ∈ v.cells.toList, x.oneCell' = true) ∧ ∃ arr T, w.heap[b]? = some (.cells arr T (0, 0)) ∧ o + sz ≤ arr.size ∧ K undef (w.setRow b (splice arr.toList o v.cells.toList).toArray)
 | _, _ => False
def mnew (n : Nat) (w : World) (K : Value → World → Prop) : Prop := ∀ (arr : Array Value) (t : TypeId), arr.size = n → K (.pointer (some ⟨w.heap.size, 0, none⟩)) (w.alloc (.cells arr t))
def mbox (sz : Nat) (w : World) (K : Value → World → Prop) : Option Value → Prop
 | some v => v.cells.size = sz ∧ ∀ t, K (.pointer (some ⟨w.heap.size, 0, none⟩)) (w.alloc (.cells v.cells t))
 | _ => False
def mcall (P : Program) (fid : Nat → FuncId) (f : Nat) (w : World) (K : Value → World → Prop) : Option (List Value) → Prop
 | some vs => MC P fid f vs w K
 | none => False
def mmv (w : World) (K : Value → World → Prop) : Option Value → Prop
 | some v => K v w
 | none => False
def mpick (τ : Nat → Value) (w : World) (K : Value → World → Prop) (a b : X) : Option Value → Prop
 | some (.bool t) => mmv w K (if t then mval τ a else mval τ b)
 | _ => False
def mnot (w : World) (K : Value → World → Prop) : Option Value → Prop
 | some (.bool t) => K (.bool !t) w
 | _ => False
def mext (i : Nat) (w : World) (K : Value → World → Prop) : Option Value → Prop
 | some (.tuple arr) => ∃ v, arr[i]? = some v ∧ K v w
 | _ => False
def mbinb (op : BinOp) (w : World) (K : Value → World → Prop) : Option Value → Option Value → Prop
 | some (.bool a), some (.bool b) => match op with
  | .eql => K (.bool (a == b)) w
  | .neq => K (.bool (!(a == b))) w
  | _ => False
 | _, _ => False
def mstep (P : Program) (fid : Nat → FuncId) (τ : Nat → Value) (w : World) (K : Value → World → Prop) : O → Prop
 | .mv x => mmv w K (mval τ x)
 | .pick c a b => mpick τ w K a b (mval τ c)
 | .un .not x => mnot w K (mval τ x)
 | .ext i x => mext i w K (mval τ x)
 | .bin op .b x y => mbinb op w K (mval τ x) (mval τ y)
 | .bin op .one x y => mbin op w K (mval τ x) (mval τ y)
 | .cvi k x => mcvi k w K (mval τ x)
 | .lenl x => mlen w K (mval τ x)
 | .fa off x => mfa off w K (mval τ x)
 | .ia sz x i => mia sz w K (mval τ x) (mval τ i)
 | .ld false sz x => sz = 1 ∧ mld w K (mval τ x)
 | .ld true sz x => mldA sz w K (mval τ x)
 | .st sz x y => if sz = 1 then mst w K (mval τ x) (mval τ y) else mstA sz w K (mval τ x) (mval τ y)
 | .new zero => mnew zero.length w K
 | .box sz x => mbox sz w K (mval τ x)
 | .call (.k (.w (.fn f []))) args => mcall P fid f w K (mvals τ args)
 | _ => False
section
variable {P : Program} {fid : Nat → FuncId} {cid : FuncId → Nat}
def MR (N : Nat) (a : Act) (τ : Nat → Value) : Prop := (∀ t, a.tmps.getD t undef = τ t) ∧ a.tmps.size = N ∧ a.defers = []
theorem mval_ok {N : Nat} {a : Act} {τ : Nat → Value} (h : MR N a τ) {x : Operand} {X : X} {v : Value} (hX : stripX cid x = some X) (hv : mval τ X = some v) : a.eval x = v := by
 cases x with
 | tmp t =>
  simp [stripX] at hX; subst hX
  simp [mval] at hv; subst hv
  exact h.1 t
 | const u =>
  simp only [stripX, Option.map_eq_some_iff] at hX; obtain ⟨y, hy, rfl⟩ := hX; have hr := constV_rel (fid := fun _ => (0 : FuncId)) (κ := ⟨(default : World), fun _ _ => False, fun _ => none, fun _ => none⟩) hy; unfold mval at hv; split at hv
  · rename_i e; cases e
  · rename_i e
    cases e
    cases hv
    cases hr
    rfl
  · cases hv
 | global g => simp [stripX] at hX; subst hX; simp [mval] at hv
 | func f => simp [stripX] at hX; subst hX; simp [mval] at hv
theorem mvals_ok {N : Nat} {a : Act} {τ : Nat → Value} (h : MR N a τ) : ∀ {l : List Operand} {L : List X} {vs : List Value}, stripXs cid l = some L → mvals τ L = some vs → l.map a.eval = vs
 | [], L, vs, hL, hv => by simp [stripXs] at hL; subst hL; simp [mvals] at hv; subst hv; rfl
 | x :: r, L, vs, hL, hv => by
  simp only [stripXs] at hL; split at hL
  · rename_i y l hy hl
    cases hL
    simp only [mvals] at hv; split at hv
    · rename_i v q h1 h2
      cases hv
      rw [List.map_cons, mval_ok h hy h1, mvals_ok h hl h2]
    · cases hv
  · cases hL
theorem mput_ok {N : Nat} {a : Act} {τ τ' : Nat → Value} {d : Option Nat} {v : Value} (h : MR N a τ) (hp : mput N τ d v = some τ') : MR N (a.put d v) τ' := by
 cases d with
 | none => simp [mput] at hp; subst hp; exact h
 | some d =>
  simp only [mput] at hp; split at hp
  · rename_i hd
    cases hp
    refine ⟨fun t => ?_, by simp [Act.put, h.2.1], h.2.2⟩
    simp only [Act.put, upd]
    by_cases e : t = d
    · subst e
      have : t < a.tmps.size := by rw [h.2.1]; exact hd
      rw [if_pos rfl]; simp [Array.getD, this]
    · rw [if_neg e]
      have e2 : (a.tmps.setIfInBounds d v).getD t undef = a.tmps.getD t undef := by
       simp only [Array.getD_eq_getD_getElem?, Array.getElem?_setIfInBounds_ne (fun h => e h.symm)]
      rw [e2]; exact h.1 t
  · cases hp
theorem wp_val {o : Oper} {a : Act} {w w' : World} {v : Value} {K : Act → World → Prop} {Q : Go.Exit → Act → World → Prop} (hr : (execOp a.eval o).run P w = .ok (.value v) w') (hk : K (a.put o.dst v) w') : o.wp P a w K Q := by
 unfold Oper.wp; rw [hr]; exact hk
theorem wp_skp {o : Oper} {a : Act} {w w' : World} {K : Act → World → Prop} {Q : Go.Exit → Act → World → Prop} (hr : (execOp a.eval o).run P w = .ok .skip w') (hk : K (a.put o.dst undef) w') : o.wp P a w K Q := by
 unfold Oper.wp; rw [hr]; exact hk
theorem mstep_ok (hcid : ∀ f, fid (cid f) = f) {N : Nat} {a : Act} {τ : Nat → Value} {o : Oper} {op : O} {w : World} {K : Value → World → Prop} {K' : Act → World → Prop} {Q : Go.Exit → Act → World → Prop}
 (h : MR N a τ) (hO : stripO P cid o.op = some op) (hs : mstep P fid τ w K op) (hk : ∀ v w', K v w' → K' (a.put o.dst v) w') : o.wp P a w K' Q := by
 cases hop : o.op <;> rw [hop] at hO <;> simp only [stripO] at hO
 case move x =>
  obtain ⟨X, hX, rfl⟩ := Option.map_eq_some_iff.1 hO; simp only [mstep] at hs; cases hv : mval τ X with
  | none => rw [hv] at hs; exact hs.elim
  | some v =>
   rw [hv] at hs; exact wp_val (v := v) (w' := w) (by simp [execOp, hop, mval_ok h hX hv]) (hk _ _ hs)
 case assign x =>
  obtain ⟨X, hX, rfl⟩ := Option.map_eq_some_iff.1 hO; simp only [mstep] at hs; cases hv : mval τ X with
  | none => rw [hv] at hs; exact hs.elim
  | some v =>
   rw [hv] at hs; exact wp_val (v := v) (w' := w) (by simp [execOp, hop, mval_ok h hX hv]) (hk _ _ hs)
 case pick c a' b =>
  split at hO
  · rename_i C A B hC hA hB
    cases hO
    simp only [mstep] at hs; unfold mpick at hs; split at hs
    · rename_i t hc
      cases t with
      | true =>
       simp only [if_true] at hs; cases hv : mval τ A with
       | none => rw [hv] at hs; exact hs.elim
       | some v =>
        rw [hv] at hs; exact wp_val (v := v) (w' := w) (by simp [execOp, hop, mval_ok h hC hc, mval_ok h hA hv, asBool]) (hk _ _ hs)
      | false =>
       simp only [Bool.false_eq_true, if_false] at hs; cases hv : mval τ B with
       | none => rw [hv] at hs; exact hs.elim
       | some v =>
        rw [hv] at hs; exact wp_val (v := v) (w' := w) (by simp [execOp, hop, mval_ok h hC hc, mval_ok h hB hv, asBool]) (hk _ _ hs)
    · exact hs.elim
  · cases hO
 case unOp uop t x =>
  obtain ⟨X, hX, rfl⟩ := Option.map_eq_some_iff.1 hO; cases uop <;> simp only [mstep] at hs
  unfold mnot at hs; split at hs
  · rename_i b hx
    exact wp_val (v := .bool !b) (w' := w) (by simp [execOp, hop, mval_ok h hX hx, Op.unary]) (hk _ _ hs)
  · exact hs.elim
 case extract x i =>
  obtain ⟨X, hX, rfl⟩ := Option.map_eq_some_iff.1 hO; simp only [mstep] at hs; unfold mext at hs; split at hs
  · rename_i arr hx
    obtain ⟨v, hv, hs⟩ := hs; exact wp_val (v := v) (w' := w) (by simp [execOp, hop, mval_ok h hX hx, Instr.extract, hv]) (hk _ _ hs)
  · exact hs.elim
 case box t x =>
  split at hO
  · rename_i n X hn hX
    cases hO
    simp only [mstep] at hs; cases hv : mval τ X with
    | none => rw [hv] at hs; exact hs.elim
    | some v =>
     rw [hv] at hs; exact wp_val (w' := w.alloc (.cells v.cells t)) (by simp [execOp, hop, run_box, mval_ok h hX hv]) (hk _ _ (hs.2 t))
  · cases hO
 case load t x =>
  split at hO
  · rename_i ag n X ha hn hX
    split at hO
    · rename_i h1
      cases hO
      cases ag with
      | false =>
       simp only [mstep] at hs; obtain ⟨rfl, hs⟩ := hs; unfold mld at hs; split at hs
       · rename_i b off hv
         obtain ⟨v, hc, hs⟩ := hs; obtain ⟨u, hr, -, hu⟩ := run_loadAt_cells (P := P) (w := w) ha hn h1 (b := b) (o := off) [v] rfl (fun j y hj => by
          match j with
          | 0 => simp at hj; subst hj; exact hc
          | j + 1 => simp at hj)
         have := hu rfl; simp at this; subst this
         exact wp_val (v := v) (w' := w) (by simp [execOp, hop, mval_ok h hX hv, hr]) (hk _ _ hs)
       · exact hs.elim
      | true =>
       simp only [mstep] at hs; unfold mldA at hs; split at hs
       · rename_i b off hv
         obtain ⟨cs, hl, hc, hs⟩ := hs; obtain ⟨u, hr, hu, -⟩ := run_loadAt_cells (P := P) (w := w) ha hn h1 (b := b) (o := off) cs hl hc; have := hu rfl; subst this; exact wp_val (v := .agg cs.toArray) (w' := w) (by simp [execOp, hop, mval_ok h hX hv, hr]) (hk _ _ hs)
       · exact hs.elim
    · cases hO
  · cases hO
 case store t x y =>
  split at hO
  · rename_i n X Y hn hX hY
    cases hO
    simp only [mstep] at hs; split at hs
    rename_i e1
    subst e1; unfold mst at hs; split at hs
    · rename_i b off v hx hy
      obtain ⟨h1, arr, T, hb, hlt, hs⟩ := hs; have hc := oneCell_cells h1; have hrun := run_storeAt_cells (P := P) (w := w) hn (b := b) (o := off) arr v (by rw [hc]; rfl) hb (by omega) (by rw [hc]; simpa using h1); rw [hc] at hrun; exact wp_skp (w' := w.setRow b (splice arr.toList off [v]).toArray) (by simp [execOp, hop, mval_ok h hX hx, mval_ok h hY hy, hrun]) (hk _ _ hs)
    · exact hs.elim
    unfold mstA at hs; split at hs
    · rename_i b off v hx hy
      obtain ⟨h1, h2, arr, T, hb, hlt, hs⟩ := hs; have hrun := run_storeAt_cells (P := P) (w := w) hn (b := b) (o := off) arr v h1 hb hlt h2; exact wp_skp (w' := w.setRow b (splice arr.toList off v.cells.toList).toArray) (by simp [execOp, hop, mval_ok h hX hx, mval_ok h hY hy, hrun]) (hk _ _ hs)
    · exact hs.elim
  · cases hO
 case alloc t =>
  obtain ⟨z, hz, rfl⟩ := Option.map_eq_some_iff.1 hO; obtain ⟨i, u, hi, hzu, hsz, hlen, -⟩ := zeroW_ok hz; exact wp_val (w' := w.alloc (.cells u.cells t)) (by simp [execOp, hop, run_alloc hi hzu]) (hk _ _ (hs u.cells t (by rw [hsz, hlen])))
 case binOp bop t x y yt =>
  split at hO
  · rename_i c X Y hc hX hY
    cases hO
    cases c <;> simp only [mstep] at hs
    case one =>
     unfold mbin at hs; split at hs
     · rename_i k p k' q hx hy
       obtain ⟨v, hv, hs⟩ := hs; obtain ⟨r1, -⟩ := binS_run (P := P) (t := t) (w := w) hv (fun ⟨_, _, h1, _⟩ => by cases h1); refine wp_val (v := v) (w' := w) ?_ (hk _ _ hs)
       simp [execOp, hop, mval_ok h hX hx, mval_ok h hY hy, run_eqGuard_any bop t x y _ _ (show ∀ c, Value.int k p ≠ .agg c by simp) (by simp), r1]
     · exact hs.elim
    case b =>
     have hu : P.underlying t = some .bool := by
      unfold cls? at hc; split at hc
      · assumption
      all_goals first | (cases hc; done) | (split at hc <;> first | (cases hc; done) | (split at hc <;> cases hc))
     unfold mbinb at hs; split at hs
     · rename_i p q hx hy
       split at hs
       · obtain ⟨r1, -⟩ := binS_run (P := P) (t := t) (w := w) (op := .eql) (a := .bool p) (b := .bool q) (v := .bool (p == q)) rfl (fun _ => hu)
         refine wp_val (v := .bool (p == q)) (w' := w) ?_ (hk _ _ hs)
         simp [execOp, hop, mval_ok h hX hx, mval_ok h hY hy, run_eqGuard_any .eql t x y _ _ (show ∀ c, Value.bool p ≠ .agg c by simp) (by simp), r1]
       · obtain ⟨r1, -⟩ := binS_run (P := P) (t := t) (w := w) (op := .neq) (a := .bool p) (b := .bool q) (v := .bool (!(p == q))) rfl (fun _ => hu)
         refine wp_val (v := .bool (!(p == q))) (w' := w) ?_ (hk _ _ hs)
         simp [execOp, hop, mval_ok h hX hx, mval_ok h hY hy, run_eqGuard_any .neq t x y _ _ (show ∀ c, Value.bool p ≠ .agg c by simp) (by simp), r1]
       · exact hs.elim
     · exact hs.elim
  · cases hO
 case convert src dst x =>
  split at hO
  · rename_i k0 k X h1 h2 hX
    cases hO
    simp only [mstep] at hs; unfold mcvi at hs; split at hs
    · rename_i k1 m hx
      refine wp_val (v := .int k (k.wrap m)) (w' := w) ?_ (hk _ _ hs)
      simp [execOp, hop, mval_ok h hX hx, convert, run_underlying h1, run_underlying h2, Conv.intToInt]
    · exact hs.elim
  · split at hO
    · cases hO; exact hs.elim
    · cases hO
  · cases hO
 case fieldAddr t x f =>
  split at hO
  · rename_i fs X hu hX
    split at hO
    · rename_i fd hf
      split at hO
      · rename_i n hn
        split at hO
        · cases hO
        · rename_i h0
          cases hO
          simp only [mstep] at hs; unfold mfa at hs; split at hs
          · rename_i b off hx
            refine wp_val (v := .pointer (some ⟨b, off + fd.offset, none⟩)) (w' := w) ?_ (hk _ _ hs)
            simp [execOp, hop, Instr.fieldAt, run_underlying hu, hf, mval_ok h hX hx, Instr.sureAddr, fieldPlace, run_sz hn, h0, Addr.add_none]
          · exact hs.elim
      · cases hO
    · cases hO
  · cases hO
 case indexAddr t x i =>
  split at hO
  · obtain ⟨n, _, rfl⟩ := Option.map_eq_some_iff.1 hO; exact hs.elim
  · rename_i e0 X J hu hX hJ
    obtain ⟨n, hn, rfl⟩ := Option.map_eq_some_iff.1 hO; simp only [mstep] at hs; unfold mia at hs; split at hs
    · rename_i b off len cap k j hx hj
      obtain ⟨h0, hs⟩ := hs; refine wp_val (v := .pointer (some ⟨b, off + j.toNat * n, none⟩)) (w' := w) ?_ (hk _ _ hs)
      simp [execOp, hop, Instr.indexAt, asIntOf, run_underlying hu, mval_ok h hX hx, mval_ok h hJ hj, h0, run_sz hn, Addr.add_none]
    · exact hs.elim
  · cases hO
 case call c =>
  unfold stripCall at hO; split at hO
  · rename_i f0 hc
    split at hO
    · rename_i F L hF hL
      cases hO
      have hfun : ∀ f, F = .k (.w (.fn f [])) → a.eval f0 = .func (.func (fid f)) #[] #[] := fun f e => by
       subst e; have hr : VRel fid ⟨(default : World), fun _ _ => False, fun _ => none, fun _ => none⟩ (a.eval f0) (.w (.fn f [])) := by
        cases f0 with
        | tmp t => simp [stripX] at hF
        | const u =>
         simp only [stripX, Option.map_eq_some_iff] at hF; obtain ⟨y, hy, e⟩ := hF; cases e
         exact constV_rel hy
        | global g => simp [stripX] at hF
        | func g => simp [stripX] at hF; subst hF; exact ⟨#[], by simp [Act.eval, hcid g], rfl, by simp⟩
       obtain ⟨arr, e, hsz, -⟩ := hr; have : arr = #[] := Array.eq_empty_of_size_eq_zero (by simpa using hsz); rw [e, this]
      have hcase : ∃ f, F = .k (.w (.fn f [])) ∧ mcall P fid f w K (mvals τ L) := by
       match F, hs with
       | .k (.w (.fn f [])), hs => exact ⟨f, rfl, hs⟩
       | .k (.w (.fn f (_ :: _))), hs => exact hs.elim
       | .t _, hs => exact hs.elim
       | .g _, hs => exact hs.elim
       | .k (.agg _), hs => exact hs.elim
       | .k (.tup _), hs => exact hs.elim
       | .k (.w (.d _)), hs => exact hs.elim
       | .k (.w .nil), hs => exact hs.elim
       | .k (.w (.ln _ _)), hs => exact hs.elim
       | .k (.w (.own _ _ _ _)), hs => exact hs.elim
       | .k (.w (.ptr _ _)), hs => exact hs.elim
       | .k (.w (.rp _ _ _)), hs => exact hs.elim
       | .k (.w (.lp _ _)), hs => exact hs.elim
       | .k (.w (.gp _ _)), hs => exact hs.elim
      obtain ⟨f, e, hs⟩ := hcase; have hf := hfun f e; unfold mcall at hs; split at hs
      · rename_i vs hvs
        obtain ⟨hent, hcalls⟩ := hs; have hargs := mvals_ok h hL hvs; have hargs' : vs.toArray = c.args.map a.eval := by rw [← hargs]; apply Array.ext'; simp
        rw [hargs'] at hcalls; have he := hent (c.args.map a.eval) w; have hrun : (execOp a.eval o).run P w = .ok (.enter (fid f) (c.args.map a.eval)) w := by
         simp [execOp, hop, resolve, hc, Deferred.ofValue, hf, invoke, he]
        unfold Oper.wp; rw [hrun]
        show Calls P (fid f) (c.args.map a.eval) w _
        refine hcalls.mono ?_
        rintro en w' ⟨v, rfl, hkv⟩; exact hk v w' hkv
      · exact hs.elim
    · cases hO
  · rename_i hc
    split at hO
    · rename_i t x ht hx
      split at hO
      · cases hO; exact hs.elim
      · rename_i e0 X hu hX
        cases hO
        simp only [mstep] at hs; unfold mlen at hs; split at hs
        · rename_i ad n cp hv
          have h1 : c.argTypes = #[t] := by rw [← Array.toArray_toList (xs := c.argTypes), ht]
          have h2 : c.args = #[x] := by rw [← Array.toArray_toList (xs := c.args), hx]
          refine wp_val (v := .int .i64 n) (w' := w) ?_ (hk _ _ hs)
          simp [execOp, hop, resolve, hc, invoke, builtin, h1, h2, Builtin.len_, run_underlying hu, mval_ok h hX hv, goInt]
        · exact hs.elim
      · cases hO
    · cases hO
  · split at hO
    · split at hO
      · split at hO
        · split at hO
          · cases hO; exact hs.elim
          · cases hO
        · cases hO
      · cases hO
    · cases hO
  · obtain ⟨n, _, rfl⟩ := Option.map_eq_some_iff.1 hO; exact hs.elim
  · obtain ⟨n, _, rfl⟩ := Option.map_eq_some_iff.1 hO; exact hs.elim
  · cases hO
 all_goals (repeat' (split at hO))
 all_goals first
  | contradiction
  | (cases hO; done)
  | (cases hO; exact hs.elim)
  | (obtain ⟨n, _, rfl⟩ := Option.map_eq_some_iff.1 hO; exact hs.elim)
  | (obtain ⟨n, _, hO⟩ := Option.bind_eq_some_iff.1 hO; obtain ⟨m, _, rfl⟩ := Option.map_eq_some_iff.1 hO; exact hs.elim)
  | skip
def mregs (P : Program) (fid : Nat → FuncId) (N : Nat) : List RO → (Nat → Value) → World → ((Nat → Value) → World → Prop) → Prop
 | [], τ, w, K => K τ w
 | o :: r, τ, w, K => match o.guard with
  | none => mstep P fid τ w (fun v w' => ∃ τ', mput N τ o.dst v = some τ' ∧ mregs P fid N r τ' w' K) o.op
  | some (t, want) => ∃ b, τ t = .bool b ∧ (b = want → mstep P fid τ w (fun v w' => ∃ τ', mput N τ o.dst v = some τ' ∧ mregs P fid N r τ' w' K) o.op) ∧
   (b ≠ want → ∃ τ', mput N τ o.dst undef = some τ' ∧ mregs P fid N r τ' w K)
def iterW (body : (Nat → Value) → World → (Ex → (Nat → Value) → World → Prop) → Prop) : Nat → (Nat → Value) → World → (Ex → (Nat → Value) → World → Prop) → Prop
 | 0, _, _, _ => False
 | n + 1, τ, w, K => body τ w fun ex τ' w' => (ex = .normal → iterW body n τ' w' K) ∧ (ex ≠ .normal → K ex τ' w')
def mdr (P : Program) (fid : Nat → FuncId) (N : Nat) (ros : List RO) (bf : List Nat) : Nat → List Nat → (Nat → Value) → World → ((Nat → Value) → World → Prop) → Prop
 | 0, _, τ, w, K => K τ w
 | k + 1, l, τ, w, K => ∀ i ∈ l, (∀ j ∈ l, j < i → bfAt bf i j = false) → mregs P fid N [ros.getD i default] τ w fun τ' w' => mdr P fid N ros bf k (l.erase i) τ' w' K
def mwp (P : Program) (fid : Nat → FuncId) (N n : Nat) : C → (Nat → Value) → World → (Ex → (Nat → Value) → World → Prop) → Prop
 | .skip, τ, w, K => K .normal τ w
 | .reg ops, τ, w, K => mregs P fid N ops τ w (K .normal)
 | .seq a b, τ, w, K => mwp P fid N n a τ w fun ex τ' w' => (ex = .normal → mwp P fid N n b τ' w' K) ∧ (ex ≠ .normal → K ex τ' w')
 | .cond x a b, τ, w, K => ∃ t, mval τ x = some (.bool t) ∧ (t = true → mwp P fid N n a τ w K) ∧ (t = false → mwp P fid N n b τ w K)
 | .block id c, τ, w, K => mwp P fid N n c τ w fun ex τ' w' => (ex = .exit id → K .normal τ' w') ∧ (ex ≠ .exit id → K ex τ' w')
 | .loop c, τ, w, K => iterW (mwp P fid N n c) n τ w K
 | .exit id, τ, w, K => K (.exit id) τ w
 | .ret, τ, w, K => K .ret τ w
 | .dreg ros bf, τ, w, K => P.follows .mixedOrders = true ∧ mdr P fid N ros bf ros.length (List.range ros.length) τ { w with drawn := w.drawn + 1 } (K .normal)
 | _, _, _, _ => False
theorem mregs_ok (hcid : ∀ f, fid (cid f) = f) {N : Nat} {ops : Array Oper} {Q : Go.Exit → Act → World → Prop} : ∀ (l : List (Nat × Oper × RO)), (∀ p ∈ l, ops[p.1]? = some p.2.1 ∧ stripRO P cid ops p.2.1 = some p.2.2) →
 ∀ {a : Act} {τ : Nat → Value} {w : World} {K : (Nat → Value) → World → Prop}, MR N a τ → mregs P fid N (l.map fun p => p.2.2) τ w K →
 (∀ a' τ' w', MR N a' τ' → K τ' w' → Q .normal a' w') → wpOps P ops Q (l.map (·.1)) a w
 | [], _, a, τ, w, K, h, hm, hQ => hQ a τ w h hm
 | (i, o, r) :: l, hl, a, τ, w, K, h, hm, hQ => by
  obtain ⟨hop, hst⟩ := hl (i, o, r) (List.mem_cons_self ..); simp only at hop hst; simp only [List.map_cons, mregs] at hm; simp only [List.map_cons, wpOps, hop]; unfold stripRO at hst; split at hst
  · cases hst
  · rename_i op hO
    split at hst
    · rename_i hgo
      cases hst
      simp only at hm; have hw : Region.wanted o (yielded ops a.tmps) = true := by simp [Region.wanted, hgo]
      rw [if_pos hw]; refine .inl (mstep_ok hcid h hO hm ?_)
      rintro v w' ⟨τ', hp, hk⟩; exact mregs_ok hcid l (fun p hp => hl p (List.mem_cons_of_mem _ hp)) (mput_ok h hp) hk hQ
    · rename_i j want hgo
      split at hst
      · rename_i t ht
        cases hst
        simp only at hm; obtain ⟨b, hb, m1, m2⟩ := hm; have hy := yielded_of (tmps := a.tmps) ht; have hv : a.tmps.getD t undef = .bool b := (h.1 t).trans hb; have hget : a.tmps[t]? = some (.bool b) := by
         rw [Array.getD_eq_getD_getElem?] at hv; cases hq : a.tmps[t]? with
         | none => rw [hq] at hv; simp [undef] at hv
         | some x => rw [hq] at hv; simp at hv; rw [hv]
        rw [hget] at hy; simp only at hy
        by_cases hbw : b = want
        · have hw : Region.wanted o (yielded ops a.tmps) = true := by simp [Region.wanted, hgo, hy, hbw]
          rw [if_pos hw]; refine .inl (mstep_ok hcid h hO (m1 hbw) ?_)
          rintro v w' ⟨τ', hp, hk⟩; exact mregs_ok hcid l (fun p hp => hl p (List.mem_cons_of_mem _ hp)) (mput_ok h hp) hk hQ
        · have hw : Region.wanted o (yielded ops a.tmps) = false := by simp [Region.wanted, hgo, hy, hbw]
          rw [hw]; obtain ⟨τ', hp, hk⟩ := m2 hbw; exact mregs_ok hcid l (fun p hp => hl p (List.mem_cons_of_mem _ hp)) (mput_ok h hp) hk hQ
      · cases hst
theorem mreg1_ok (hcid : ∀ f, fid (cid f) = f) {N : Nat} {ops : Array Oper} {Q : Go.Exit → Act → World → Prop} {i : Nat} {o : Oper} {r : RO} (hop : ops[i]? = some o) (hst : stripRO P cid ops o = some r)
 {a : Act} {τ : Nat → Value} {w : World} {K : (Nat → Value) → World → Prop} {K' : Act → World → Prop} (h : MR N a τ) (hm : mregs P fid N [r] τ w K) (hQ : ∀ a' τ' w', MR N a' τ' → K τ' w' → K' a' w') : wpOp P ops Q i K' a w := by
 simp only [mregs] at hm; simp only [wpOp, hop]; unfold stripRO at hst; split at hst
 · cases hst
 · rename_i op hO
   split at hst
   · rename_i hgo
     cases hst
     simp only at hm; have hw : Region.wanted o (yielded ops a.tmps) = true := by simp [Region.wanted, hgo]
     rw [if_pos hw]; refine .inl (mstep_ok hcid h hO hm ?_)
     rintro v w' ⟨τ', hp, hk⟩; exact hQ _ _ _ (mput_ok h hp) hk
   · rename_i j want hgo
     split at hst
     · rename_i t ht
       cases hst
       simp only at hm; obtain ⟨b, hb, m1, m2⟩ := hm; have hy := yielded_of (tmps := a.tmps) ht; have hv : a.tmps.getD t undef = .bool b := (h.1 t).trans hb; have hget : a.tmps[t]? = some (.bool b) := by
        rw [Array.getD_eq_getD_getElem?] at hv; cases hq : a.tmps[t]? with
        | none => rw [hq] at hv; simp [undef] at hv
        | some x => rw [hq] at hv; simp at hv; rw [hv]
       rw [hget] at hy; simp only at hy
       by_cases hbw : b = want
       · have hw : Region.wanted o (yielded ops a.tmps) = true := by simp [Region.wanted, hgo, hy, hbw]
         rw [if_pos hw]; refine .inl (mstep_ok hcid h hO (m1 hbw) ?_)
         rintro v w' ⟨τ', hp, hk⟩; exact hQ _ _ _ (mput_ok h hp) hk
       · have hw : Region.wanted o (yielded ops a.tmps) = false := by simp [Region.wanted, hgo, hy, hbw]
         rw [hw]; obtain ⟨τ', hp, hk⟩ := m2 hbw; exact hQ _ _ _ (mput_ok h hp) hk
     · cases hst
theorem mdr_ok (hcid : ∀ f, fid (cid f) = f) {N : Nat} {ops : Array Oper} {ros : List RO} {bf : List Nat} {Q : Go.Exit → Act → World → Prop} (hok : dregOk ops ros bf = true) (hros : ∀ (i : Nat) (o : Oper) (r : RO), ops[i]? = some o → ros[i]? = some r → stripRO P cid ops o = some r)
 {K : (Nat → Value) → World → Prop} (hQ : ∀ a' τ' w', MR N a' τ' → K τ' w' → Q .normal a' w') :
 ∀ (k : Nat) (listed : Array Bool) (l : List Nat) {a : Act} {τ : Nat → Value} {w : World}, k = l.length → listed.size = ops.size → (∀ i, i ∈ l ↔ listed.getD i true = false) → l.Pairwise (· < ·) →
  (∀ i, i < ops.size → listed.getD i true = true → ∀ j, j < i → bfAt bf i j = true → listed.getD j true = true) → MR N a τ → mdr P fid N ros bf k l τ w K → wpAny P .any ops Q k listed a w
 | 0, listed, l, a, τ, w, hk, hs, hl, hp, hcl, h, hm => by
  have : l = [] := List.eq_nil_of_length_eq_zero hk.symm; subst this; refine ⟨?_, hQ _ _ _ h hm⟩
  apply List.eq_nil_iff_forall_not_mem.2
  intro i hi; simp only [Region.ready, List.mem_filter, List.mem_range, Bool.and_eq_true, Bool.not_eq_true'] at hi; exact absurd ((hl i).2 hi.2.1) (by simp)
 | k + 1, listed, l, a, τ, w, hk, hs, hl, hp, hcl, h, hm => by
  simp only [dregOk, Bool.and_eq_true, beq_iff_eq, List.all_eq_true, List.mem_range, Bool.or_eq_true, Bool.not_eq_true'] at hok; have hok' := hok; obtain ⟨⟨ok1, ok2⟩, ok3⟩ := hok'; have hlt : ∀ i, i ∈ l → i < ops.size := fun i hi => by
   have := (hl i).1 hi; rw [← hs]
   by_cases hlt : i < listed.size
   · exact hlt
   · simp [Array.getD, hlt] at this
  have hedge : ∀ i, i < ops.size → ∀ o, ops[i]? = some o → ∀ e ∈ o.after, Region.binds .any e = true → e.on < i := fun i hi o ho e he hb => by
   have := (ok3 i hi).1; rw [ho] at this; simp only [Option.map_some, Option.getD_some, Array.all_eq_true_iff_forall_mem, Bool.or_eq_true, Bool.not_eq_true', decide_eq_true_eq] at this; have := this e he; rw [hb] at this
   simpa using this
  have hne : Region.ready .any ops listed ≠ [] := by
   cases l with
   | nil => simp at hk
   | cons x l =>
    have hx : x ∈ x :: l := by simp
    have hx2 := hlt _ hx; obtain ⟨o, ho⟩ : ∃ o, ops[x]? = some o := ⟨ops[x], by simp [hx2]⟩; have : x ∈ Region.ready .any ops listed := by
     simp only [Region.ready, List.mem_filter, List.mem_range, Bool.and_eq_true, Bool.not_eq_true']; refine ⟨hx2, (hl _).1 hx, ?_⟩
     rw [ho]; simp only [Option.map_some, Option.getD_some, Array.all_eq_true_iff_forall_mem, Bool.or_eq_true, Bool.not_eq_true']; intro e he; cases hb : Region.binds .any e with
     | false => exact .inl rfl
     | true =>
      have h1 := hedge x hx2 o ho e he hb; right
      have h2 : ¬ e.on ∈ (x :: l) := by
       simp only [List.pairwise_cons] at hp; simp only [List.mem_cons, not_or]; exact ⟨by omega, fun hm => by have := hp.1 _ hm; omega⟩
      have h3 : e.on < listed.size := by omega
      have h4 := mt (hl e.on).2 h2; simp [Array.getD, h3] at h4 ⊢; exact h4
    intro e; rw [e] at this; simp at this
  refine ⟨fun e => absurd e hne, fun i him => ?_⟩
  simp only [Region.ready, List.mem_filter, List.mem_range, Bool.and_eq_true, Bool.not_eq_true'] at him; obtain ⟨i1, i2, i3⟩ := him; have hil := (hl i).2 i2; obtain ⟨o, ho⟩ : ∃ o, ops[i]? = some o := ⟨ops[i], by simp [i1]⟩; rw [ho] at i3; simp only [Option.map_some, Option.getD_some, Array.all_eq_true_iff_forall_mem, Bool.or_eq_true, Bool.not_eq_true'] at i3; have hbf : ∀ j, j < i → bfAt bf i j = true → listed.getD j true = true := fun j hj hb => by
   have := ((ok3 i i1).2 j hj).1; rw [hb, ho] at this; simp only [Bool.true_eq_false, Option.map_some, Option.getD_some, List.any_eq_true, Bool.and_eq_true, Bool.or_eq_true, beq_iff_eq, false_or, decide_eq_true_eq, Array.mem_toList_iff] at this; obtain ⟨e, he, hb2, hor⟩ := this; have h1 := hedge i i1 o ho e he hb2; have h2 : listed.getD e.on false = true := by
    have := i3 e he; rw [hb2] at this
    simpa using this
   have h2' : listed.getD e.on true = true := by
    have h3 : e.on < listed.size := by omega
    simp [Array.getD, h3] at h2 ⊢; exact h2
   rcases hor with rfl | hor
   · exact h2'
   · exact hcl e.on (by omega) h2' j hor.1 hor.2
  have hget : ros[i]? = some (ros.getD i default) := by
   have : i < ros.length := by omega
   simp [List.getD_eq_getElem?_getD, this]
  simp only [mdr] at hm; have hmi := hm i hil (fun j hj hji => by
   cases hb : bfAt bf i j with
   | false => rfl
   | true =>
    have h1 := hbf j hji hb; have h2 := (hl j).1 hj; rw [h1] at h2; cases h2)
  have hnd : l.Nodup := hp.imp (fun h => Nat.ne_of_lt h); have hsi : i < listed.size := by omega
  refine mreg1_ok hcid ho (hros i o _ ho hget) h hmi fun a' τ' w' R' hK => ?_
  refine mdr_ok hcid (by simpa only [dregOk, Bool.and_eq_true, beq_iff_eq, List.all_eq_true, List.mem_range, Bool.or_eq_true, Bool.not_eq_true'] using hok) hros hQ k _ (l.erase i) ?_ (by simp [hs]) (fun j => ?_) (hp.sublist (List.erase_sublist ..)) ?_ R' hK
  · rw [List.length_erase_of_mem hil]; omega
  · rw [hnd.mem_erase_iff, hl j]
    by_cases e : j = i
    · subst e; simp [Array.getD, hsi]
    · have : (listed.setIfInBounds i true).getD j true = listed.getD j true := by
       simp only [Array.getD_eq_getD_getElem?, Array.getElem?_setIfInBounds_ne (fun h => e h.symm)]
      rw [this]; simp [e]
  · intro x hx hxl j hj hb
    have hset : ∀ y, y ≠ i → (listed.setIfInBounds i true).getD y true = listed.getD y true := fun y hy => by
     simp only [Array.getD_eq_getD_getElem?, Array.getElem?_setIfInBounds_ne (fun h => hy h.symm)]
    by_cases ej : j = i
    · subst ej; simp [Array.getD, hsi]
    · rw [hset j ej]
      by_cases ex : x = i
      · subst ex; exact hbf j hj hb
      · rw [hset x ex] at hxl
        exact hcl x hx hxl j hj hb
theorem mexec_ok (hcid : ∀ f, fid (cid f) = f) (N n : Nat) : ∀ (c : Code) {C : C} {Q : Go.Exit → Act → World → Prop} {a : Act} {τ : Nat → Value} {w : World} {K : Ex → (Nat → Value) → World → Prop},
 stripC P cid c = some C → MR N a τ → mwp P fid N n C τ w K → (∀ ex a' τ' w', MR N a' τ' → K ex τ' w' → Q ex.exit? a' w') → c.wp P Q a w
 | .skip, C, Q, a, τ, w, K, hC, R, h, hQ => by
  cases hC
  exact wp_skip (hQ .normal a τ w R h)
 | .exit id, C, Q, a, τ, w, K, hC, R, h, hQ => by
  cases hC
  exact wp_exit (hQ (.exit id) a τ w R h)
 | .ret, C, Q, a, τ, w, K, hC, R, h, hQ => by
  cases hC
  exact wp_ret (hQ .ret a τ w R h)
 | .region id ops draw, C, Q, a, τ, w, K, hC, R, h, hQ => by
  simp only [stripC] at hC; split at hC
  · rename_i ros hros
    obtain ⟨s1, s2⟩ := stripROs_get hros; have hlen : ros.length = ops.size := by simpa using s1.symm
    cases draw with
    | false =>
     simp only [Bool.false_eq_true, if_false, Option.some.injEq] at hC; subst hC; simp only [mwp] at h; refine wp_region ?_
     rw [← zip_range_fst hlen, ← hlen]
     let l2 : List (Nat × Oper × RO) := ((List.range' 0 ros.length).zip ros).map fun p => (p.1, ops.getD p.1 default, p.2)
     have e1 : l2.map (·.1) = ((List.range' 0 ros.length).zip ros).map (·.1) := by simp [l2, List.map_map, Function.comp_def]
     have e2 : (l2.map fun p => p.2.2) = ros := by
      simp only [l2, List.map_map, Function.comp_def]; exact List.map_snd_zip (by simp)
     rw [← e1]; refine mregs_ok hcid l2 (fun p hp => ?_) R (by rw [e2]; exact h) (fun a' τ' w' R' hk => hQ .normal a' τ' w' R' hk)
     obtain ⟨q, hq, rfl⟩ := List.mem_map.1 hp; have h1 := zip_range_get q hq; have h2 := (List.getElem?_eq_some_iff.1 h1).1; have h3 : q.1 < ops.size := by omega
     simp only; refine ⟨by simp [h3, Array.getD_eq_getD_getElem?], ?_⟩
     refine s2 q.1 _ q.2 ?_ h1
     simp [h3, Array.getD_eq_getD_getElem?]
    | true =>
     simp only [if_true] at hC; split at hC
     · rename_i hok
       cases hC
       simp only [mwp] at h; obtain ⟨hmix, h⟩ := h; refine wp_region_any hmix ?_
       refine mdr_ok hcid hok (fun i o r ho hr => s2 i o r (by simpa using ho) hr) (fun a' τ' w' R' hk => hQ .normal a' τ' w' R' hk) ops.size _ (List.range ros.length) (by simp [hlen]) (by simp) (fun i => ?_) List.pairwise_lt_range (fun i hi hla => by simp [Array.getD_eq_getD_getElem?, Array.getElem?_replicate, hi] at hla) R (by rw [← hlen]; exact h)
       simp only [List.mem_range, hlen]
       by_cases hi : i < ops.size <;> simp [Array.getD_eq_getD_getElem?, Array.getElem?_replicate, hi]
     · cases hC
  · cases hC
 | .seq x y, C, Q, a, τ, w, K, hC, R, h, hQ => by
  simp only [stripC] at hC; split at hC
  · rename_i X Y hX hY
    cases hC
    simp only [mwp] at h; refine wp_seq ?_
    refine mexec_ok hcid N n x hX R h ?_
    rintro ex a' τ' w' R' ⟨h1, h2⟩; cases ex with
    | normal => exact mexec_ok hcid N n y hY R' (h1 rfl) hQ
    | exit id => exact hQ _ a' τ' w' R' (h2 (by simp))
    | ret => exact hQ _ a' τ' w' R' (h2 (by simp))
  · cases hC
 | .cond c x y, C, Q, a, τ, w, K, hC, R, h, hQ => by
  simp only [stripC] at hC; split at hC
  · rename_i Z X Y hZ hX hY
    cases hC
    simp only [mwp] at h; obtain ⟨t, ht, h1, h2⟩ := h; refine wp_cond (mval_ok R hZ ht) ?_
    cases t with
    | true => exact mexec_ok hcid N n x hX R (h1 rfl) hQ
    | false => exact mexec_ok hcid N n y hY R (h2 rfl) hQ
  · cases hC
 | .block id c, C, Q, a, τ, w, K, hC, R, h, hQ => by
  simp only [stripC, Option.map_eq_some_iff] at hC; obtain ⟨X, hX, rfl⟩ := hC; simp only [mwp] at h; refine wp_block ?_
  refine mexec_ok hcid N n c hX R h ?_
  rintro ex a' τ' w' R' ⟨h1, h2⟩; simp only [Exit.inBlock]; cases ex with
  | normal => exact hQ .normal a' τ' w' R' (h2 (by simp))
  | ret => exact hQ .ret a' τ' w' R' (h2 (by simp))
  | exit k =>
   simp only [Ex.exit?]
   by_cases e : k = id
   · rw [if_pos e]; exact hQ .normal a' τ' w' R' (h1 (by rw [e]))
   · rw [if_neg e]; exact hQ (.exit k) a' τ' w' R' (h2 (by simpa using e))
 | .loop c, C, Q, a, τ, w, K, hC, R, h, hQ => by
  simp only [stripC, Option.map_eq_some_iff] at hC; obtain ⟨X, hX, rfl⟩ := hC; simp only [mwp] at h; refine wp_loop_ghost (fun m a w => ∃ τ1, MR N a τ1 ∧ iterW (mwp P fid N n X) m τ1 w K) n ⟨τ, R, h⟩ ?_
  rintro m a1 w1 ⟨τ1, R1, h1⟩; cases m with
  | zero => exact h1.elim
  | succ m =>
   simp only [iterW] at h1; refine mexec_ok hcid N n c hX R1 h1 ?_
   rintro ex a' τ' w' R' ⟨k1, k2⟩; cases ex with
   | normal => exact ⟨m, by omega, τ', R', k1 rfl⟩
   | exit id => exact hQ _ a' τ' w' R' (k2 (by simp))
   | ret => exact hQ _ a' τ' w' R' (k2 (by simp))
 | .rangeFunc .., C, Q, a, τ, w, K, hC, R, h, hQ => by simp [stripC] at hC
 | .scope _, C, Q, a, τ, w, K, hC, R, h, hQ => by simp [stripC] at hC
 | .label _, C, Q, a, τ, w, K, hC, R, h, hQ => by simp [stripC] at hC
 | .goto _, C, Q, a, τ, w, K, hC, R, h, hQ => by simp [stripC] at hC
 | .refuse _, C, Q, a, τ, w, K, hC, R, h, hQ => by simp [stripC] at hC
theorem MC_of (hcid : ∀ f, fid (cid f) = f) {f t : Nat} {fn : Func} {N : Nat} {c : C} (hfn : P.funcs[fid f]? = some fn) (hF : stripF P cid fn = some ⟨N, [.tmp t], c⟩) {args : List Value} (hlen : args.length ≤ N) {w : World} {K : Value → World → Prop} (n : Nat)
 (h : mwp P fid N n c (fun t => args.getD t undef) w fun ex τ' w' => (ex = .ret ∨ ex = .normal) ∧ K (τ' t) w') : MC P fid f args w K := by
 unfold stripF at hF; split at hF
 · cases hF
 · rename_i body hbody
   split at hF
   · rename_i C rs hC hrs
     split at hF
     · cases hF
     · rename_i hname
       cases hF
       refine ⟨fun as w => ?_, ?_⟩
       · have hname' : ¬ fn.name = "runtime.NumGoroutine" := by simpa using hname
         simp [callFunc, hfn, hname', hbody]
       · refine calls_of_wp hfn hbody ?_
         have R0 : MR fn.ntmps { tmps := args.toArray ++ Array.replicate (fn.ntmps - args.toArray.size) undef, defers := [] } (fun t => args.getD t undef) := by
          refine ⟨fun t => ?_, by simp; omega, rfl⟩
          by_cases ht : t < args.length
          · rw [Array.getD_eq_getD_getElem?, Array.getElem?_append_left (by simpa using ht)]
            simp [List.getD_eq_getElem?_getD, List.getElem?_eq_getElem ht]
          · rw [Array.getD_eq_getD_getElem?, Array.getElem?_append_right (by simp; omega), Array.getElem?_replicate]
            simp only [List.getD_eq_getElem?_getD, List.getElem?_eq_none (by omega : args.length ≤ t)]; split <;> rfl
         refine mexec_ok hcid fn.ntmps n body hC R0 h ?_
         rintro ex a' τ' w' R' ⟨hex, hk⟩; have hres : (fn.results.toList.mapM (resF a'.tmps)).run P w' = .ok [τ' t] w' := by
          have : fn.results.toList = [.tmp t] := by
           generalize fn.results.toList = L at hrs
           match L, hrs with
           | [], h => simp [stripRs] at h
           | [x], h =>
            simp only [stripRs] at h; split at h
            · rename_i y r hy hr
              cases hr
              cases h
              cases x with
              | tmp u => simp [stripR] at hy; subst hy; rfl
              | cell u v =>
               simp only [stripR] at hy; split at hy
               · split at hy <;> cases hy
               · cases hy
            · cases h
           | x :: y :: r, h =>
            simp only [stripRs] at h; split at h
            · rename_i a b ha hb
              cases h
              split at hb <;> cases hb
            · cases h
          rw [this]; simp [resF, R'.1 t]
         have hrun := results_run (κ := ⟨w', fun _ _ => False, fun _ => none, fun _ => none⟩) (fn := fn) hres; rcases hex with rfl | rfl
         · exact ⟨R'.2.2, _, hrun, _, rfl, hk⟩
         · exact ⟨R'.2.2, _, hrun, _, rfl, hk⟩
   · cases hF
end
end Go.VM
