/- The value machine: regions in any order in which the machine is run, and code. Conditions: none. -/
import Derived.Test.YthkednnfadhidaaVM18
namespace Go.VM
set_option linter.unusedVariables false
set_option linter.unusedSimpArgs false
set_option linter.unusedSectionVars false

section strip
variable (P : Program) (cid : FuncId → Nat)
def stripRO (ops : Array Oper) (o : Oper) : Option RO :=
  match stripO P cid o.op with
  | none => none
  | some op => match o.guard with
    | none => some ⟨o.dst, op, none⟩
    | some (j, w) => match (ops[j]?).bind (·.dst) with
      | some t => some ⟨o.dst, op, some (t, w)⟩
      | none => none
def stripROs (ops : Array Oper) : List Oper → Option (List RO)
  | [] => some []
  | o :: r => match stripRO P cid ops o, stripROs ops r with
    | some x, some l => some (x :: l)
    | _, _ => none
end strip

def runL (call : CallT) (M : Nat → Mode) (G : Nat → Option (List D)) (stamp : Bool) (N : Nat) (g : Nat) (s : Sup) : List (Nat × RO) → (Nat → V) → (Nat → Box) → Option ((Nat → V) × (Nat → Box))
  | [], τ, H => some (τ, H)
  | (i, o) :: r, τ, H => match stepE call M G stamp τ H (g + 64 * i) (subS s i) o with
    | some e => match put N τ o.dst e.v with
      | some τ' => runL call M G stamp N g s r τ' e.H
      | none => none
    | none => none

theorem odd_pow : ∀ (a b k j : Nat), 2 ^ a * (2 * k + 1) = 2 ^ b * (2 * j + 1) → a = b
  | 0, 0, _, _, _ => rfl
  | 0, b + 1, k, j, h => by rw [Nat.pow_succ] at h; simp [Nat.mul_assoc] at h; rw [Nat.mul_left_comm] at h; omega
  | a + 1, 0, k, j, h => by rw [Nat.pow_succ] at h; simp [Nat.mul_assoc] at h; rw [Nat.mul_left_comm] at h; omega
  | a + 1, b + 1, k, j, h => by
    have := odd_pow a b k j (by rw [Nat.pow_succ, Nat.pow_succ, Nat.mul_comm (2 ^ a) 2, Nat.mul_comm (2 ^ b) 2, Nat.mul_assoc, Nat.mul_assoc] at h; exact Nat.eq_of_mul_eq_mul_left (by omega) h)
    rw [this]

theorem subS_inj {s : Sup} (h : ∀ a b, s a = s b → a = b) (i : Nat) : ∀ a b, subS s i a = subS s i b → a = b := fun a b e => by
  have := h _ _ e
  have := Nat.eq_of_mul_eq_mul_left (Nat.two_pow_pos _) this
  omega
theorem subS_ne {s : Sup} (h : ∀ a b, s a = s b → a = b) {i j : Nat} (hij : i ≠ j) (k m : Nat) : subS s i k ≠ subS s j m := fun e => by
  have := odd_pow _ _ _ _ (h _ _ e); omega
theorem restS_ne {s : Sup} (h : ∀ a b, s a = s b → a = b) (i k m : Nat) : restS s m ≠ subS s i k := fun e => by
  have := h _ _ e
  have := odd_pow 0 (i + 1) m k (by simpa using this); omega
theorem restS_inj {s : Sup} (h : ∀ a b, s a = s b → a = b) : ∀ a b, restS s a = restS s b → a = b := fun a b e => by have := h _ _ e; omega

section
variable {P : Program} {fid : Nat → FuncId} {cid : FuncId → Nat} {G : Nat → Option (List D)} {E : Entry} {κ : Ctx} {call : CallT} {M : Nat → Mode} {stamp : Bool} {N : Nat}

/-- The slots of a frame. -/
structure Slots (fid : Nat → FuncId) (N : Nat) (κ : Ctx) (a : Act) (τ : Nat → V) : Prop where
  rel : ∀ t, VRel fid κ (a.tmps.getD t undef) (τ t)
  size : a.tmps.size = N
  defers : a.defers = []

theorem Slots.mono {κ κ' : Ctx} {a : Act} {τ : Nat → V} (h : Slots fid N κ a τ) (hle : κ.le κ') : Slots fid N κ' a τ := ⟨fun t => (h.rel t).mono hle, h.size, h.defers⟩

theorem Slots.put {a : Act} {τ τ' : Nat → V} {d : Option Nat} {v : Value} {x : V} (h : Slots fid N κ a τ) (hp : put N τ d x = some τ') (hv : VRel fid κ v x) : Slots fid N κ (a.put d v) τ' := by
  cases d with
  | none => simp [VM.put] at hp; subst hp; exact h
  | some d =>
    simp only [VM.put] at hp
    split at hp
    · rename_i hd
      cases hp
      refine ⟨fun t => ?_, by simp [Act.put, h.size], h.defers⟩
      simp only [Act.put, upd]
      by_cases e : t = d
      · subst e
        have : t < a.tmps.size := by rw [h.size]; exact hd
        rw [if_pos rfl]
        have e2 : (a.tmps.setIfInBounds t v).getD t undef = v := by simp [Array.getD, this]
        rw [e2]; exact hv
      · rw [if_neg e]
        have e2 : (a.tmps.setIfInBounds d v).getD t undef = a.tmps.getD t undef := by
          simp only [Array.getD_eq_getD_getElem?, Array.getElem?_setIfInBounds_ne (fun h => e h.symm)]
        rw [e2]; exact h.rel t
    · cases hp

theorem Slots.ev {a : Act} {τ : Nat → V} (hcid : ∀ f, fid (cid f) = f) (h : Slots fid N κ a τ) : ∀ x X, stripX cid x = some X → VRel fid κ (a.eval x) (evX τ X) := by
  intro x X hX
  cases x with
  | tmp t => simp [stripX] at hX; subst hX; exact h.rel t
  | const v =>
    simp only [stripX, Option.map_eq_some_iff] at hX
    obtain ⟨y, hy, rfl⟩ := hX
    exact constV_rel hy
  | global g => simp [stripX] at hX; subst hX; rfl
  | func f => simp [stripX] at hX; subst hX; exact ⟨#[], by simp [Act.eval, hcid f], rfl, by simp⟩

theorem undef_rel : VRel fid κ undef (.tup []) := ⟨#[], rfl, rfl, by simp⟩

/-- What is still free while a region runs: what the operations to come need, and what comes behind. -/
def freeN (g total : Nat) (l : List Nat) (n : Nat) : Prop := (∃ i ∈ l, g + 64 * i ≤ n ∧ n < g + 64 * i + 64) ∨ g + 64 * total ≤ n
def freeZ (s : Sup) (l : List Nat) (z : Nat) : Prop := (∃ i ∈ l, ∃ k, z = subS s i k) ∨ ∃ k, z = restS s k

theorem yielded_of {ops : Array Oper} {tmps : Array Value} {j t : Nat} (h : (ops[j]?).bind (·.dst) = some t) : yielded ops tmps j = match tmps[t]? with | some (.bool b) => some b | _ => none := by
  unfold yielded
  rw [h]
  rfl

theorem seqL {ops : Array Oper} {Q : Exit → Act → World → Prop} {g total : Nat} {s : Sup} (hcid : ∀ f, fid (cid f) = f) (hcall : ∀ f args bs s r, call f args bs s = some r → CallOK P fid G f args bs s r) (hinj : ∀ a b, s a = s b → a = b) :
    ∀ (l : List (Nat × Oper × RO)), (∀ p ∈ l, p.1 < total ∧ ops[p.1]? = some p.2.1 ∧ stripRO P cid ops p.2.1 = some p.2.2) → (l.map (·.1)).Nodup →
    ∀ {κ : Ctx} {a : Act} {τ τ' : Nat → V} {H H' : Nat → Box}, Inv fid G E κ H (freeN g total (l.map (·.1))) (freeZ s (l.map (·.1))) → Slots fid N κ a τ →
    runL call M G stamp N g s (l.map fun p => (p.1, p.2.2)) τ H = some (τ', H') →
    (∀ a' κ', κ.le κ' → Slots fid N κ' a' τ' → Inv fid G E κ' H' (freeN g total []) (freeZ s []) → Q .normal a' κ'.w) → wpOps P ops Q (l.map (·.1)) a κ.w
  | [], _, _, κ, a, τ, τ', H, H', I, S, hr, hQ => by
    simp [runL] at hr
    obtain ⟨rfl, rfl⟩ := hr
    exact hQ a κ (Ctx.le.refl κ) S I
  | (i, o, r) :: l, hl, hn, κ, a, τ, τ', H, H', I, S, hr, hQ => by
    obtain ⟨hit, hop, hst⟩ := hl (i, o, r) (List.mem_cons_self ..)
    simp only at hit hop hst
    simp only [List.map_cons, List.nodup_cons] at hn
    simp only [List.map_cons, runL] at hr
    have hlast : ∀ n, freeN g total (l.map (·.1)) n → FN' (freeN g total ((i, o, r) :: l |>.map (·.1))) (g + 64 * i) n := by
      rintro n (⟨j, hj, h1, h2⟩ | h)
      · have hne : j ≠ i := fun e => hn.1 (e ▸ hj)
        exact ⟨.inl ⟨j, by simp [hj], h1, h2⟩, by omega⟩
      · exact ⟨.inr h, by omega⟩
    have hlastz : ∀ z, freeZ s (l.map (·.1)) z → FZ' (freeZ s ((i, o, r) :: l |>.map (·.1))) (subS s i) z := by
      rintro z (⟨j, hj, k, rfl⟩ | ⟨k, rfl⟩)
      · have hne : j ≠ i := fun e => hn.1 (e ▸ hj)
        exact ⟨.inl ⟨j, by simp [hj], k, rfl⟩, fun m => subS_ne hinj hne k m⟩
      · exact ⟨.inr ⟨k, rfl⟩, fun m => restS_ne hinj i m k⟩
    split at hr
    · rename_i e he
      split at hr
      · rename_i τ₁ hp
        -- the operation is not wanted
        have skip : e = ⟨.tup [], H, [], false⟩ → wpOps P ops Q (l.map (·.1)) (a.put o.dst undef) κ.w := by
          intro hee
          subst hee
          have hd : r.dst = o.dst := by
            unfold stripRO at hst
            split at hst
            · cases hst
            · split at hst
              · cases hst; rfl
              · split at hst
                · cases hst; rfl
                · cases hst
          rw [hd] at hp
          exact seqL hcid hcall hinj l (fun p hp => hl p (List.mem_cons_of_mem _ hp)) hn.2 (I.weak (fun n h => (hlast n h).1) (fun z h => (hlastz z h).1)) (S.put hp undef_rel) hr hQ
        have doit : ∀ op, stripO P cid o.op = some op → r.dst = o.dst → opV call M G stamp (evX τ) H (g + 64 * i) (subS s i) op = some e → o.wp P a κ.w (wpOps P ops Q (l.map (·.1))) Q := by
          intro op hO hd hv
          rw [hd] at hp
          refine op_wp (ρ := a.eval) I (S.ev hcid) (fun n h1 h2 => .inl ⟨i, by simp, h1, h2⟩) (subS_inj hinj i) (fun k => .inl ⟨i, by simp, k, rfl⟩) hcid hcall rfl hO hv ?_
          intro v κ' hle hv' I'
          refine seqL hcid hcall hinj l (fun p hp => hl p (List.mem_cons_of_mem _ hp)) hn.2 (I'.weak hlast hlastz) ((S.mono hle).put hp hv') hr ?_
          intro a' κ'' hle' S' I''
          exact hQ a' κ'' (hle.trans hle') S' I''
        simp only [List.map_cons, wpOps, hop]
        unfold stripRO at hst
        split at hst
        · cases hst
        · rename_i op hO
          split at hst
          · rename_i hg
            cases hst
            simp only [stepE] at he
            have hw : Region.wanted o (yielded ops a.tmps) = true := by simp [Region.wanted, hg]
            rw [if_pos hw]
            exact .inl (doit op hO rfl he)
          · rename_i j w hg
            split at hst
            · rename_i t ht
              cases hst
              simp only [stepE] at he
              have hy := yielded_of (tmps := a.tmps) ht
              have hrel := S.rel t
              split at he
              · rename_i b hb
                rw [hb] at hrel
                have hv : a.tmps.getD t undef = .bool b := by generalize a.tmps.getD t undef = vv at hrel; cases hrel; rfl
                have hget : a.tmps[t]? = some (.bool b) := by
                  rw [Array.getD_eq_getD_getElem?] at hv
                  cases hq : a.tmps[t]? with
                  | none => rw [hq] at hv; simp [undef] at hv
                  | some x => rw [hq] at hv; simp at hv; rw [hv]
                rw [hget] at hy
                simp only at hy
                split at he
                · rename_i hbw
                  have hw : Region.wanted o (yielded ops a.tmps) = true := by simp [Region.wanted, hg, hy, hbw]
                  rw [if_pos hw]
                  exact .inl (doit op hO rfl he)
                · rename_i hbw
                  have hw : Region.wanted o (yielded ops a.tmps) = false := by simp [Region.wanted, hg, hy, hbw]
                  rw [hw]
                  cases he
                  exact skip rfl
              · rename_i vs hb
                rw [hb] at hrel
                obtain ⟨arr, hv, _⟩ := hrel
                have hw : Region.wanted o (yielded ops a.tmps) = false := by
                  have : yielded ops a.tmps j = none := by
                    rw [hy]
                    rw [Array.getD_eq_getD_getElem?] at hv
                    cases hq : a.tmps[t]? with
                    | none => rfl
                    | some x => rw [hq] at hv; simp at hv; rw [hv]
                  simp [Region.wanted, hg, this]
                rw [hw]
                cases he
                exact skip rfl
              · cases he
            · cases hst
      · cases hr
    · cases hr

/-- A region that runs in the text's order. -/
theorem regV_runL {g : Nat} {s : Sup} : ∀ (ros : List RO) (i : Nat) (τ : Nat → V) (H : Nat → Box), regV call M G stamp N g s i ros τ H = runL call M G stamp N g s ((List.range' i ros.length).zip ros) τ H
  | [], i, τ, H => rfl
  | r :: ros, i, τ, H => by
    simp only [regV, List.length_cons, List.range'_succ, List.zip_cons_cons, runL]
    cases stepE call M G stamp τ H (g + 64 * i) (subS s i) r with
    | none => rfl
    | some e =>
      simp only
      cases put N τ r.dst e.v with
      | none => rfl
      | some τ' => exact regV_runL ros (i + 1) _ _

theorem stripROs_get {ops : Array Oper} : ∀ {l : List Oper} {ros : List RO}, stripROs P cid ops l = some ros → l.length = ros.length ∧ ∀ (i : Nat) (o : Oper) (r : RO), l[i]? = some o → ros[i]? = some r → stripRO P cid ops o = some r
  | [], ros, h => by simp [stripROs] at h; subst h; simp
  | o :: l, ros, h => by
    simp only [stripROs] at h
    split at h
    · rename_i x r hx hr
      cases h
      obtain ⟨h1, h2⟩ := stripROs_get hr
      refine ⟨by simp [h1], fun i o' r' ho hr' => ?_⟩
      match i with
      | 0 => simp at ho hr'; subst ho hr'; exact hx
      | i + 1 => exact h2 i o' r' (by simpa using ho) (by simpa using hr')
    · cases h

end
end Go.VM
