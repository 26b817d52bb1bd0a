/- The value machine: code. Conditions: none. -/
import Derived.Test.YthkednnfadhidaaVM22
import Derived.Deep.LoopGhost
namespace Go.VM
set_option linter.unusedVariables false
set_option linter.unusedSimpArgs false
set_option linter.unusedSectionVars false

/-- For each operation what goes ahead of it. -/
def beforeL : List Oper → List Nat → List Nat
  | [], acc => acc
  | o :: r, acc => beforeL r (acc ++ [o.after.toList.foldl (fun s e => if Region.binds .any e then s ||| 2 ^ e.on ||| acc.getD e.on 0 else s) 0])

def stripC (P : Program) (cid : FuncId → Nat) : Code → Option C
  | .skip => some .skip
  | .region _ ops draw => match stripROs P cid ops ops.toList with
    | some ros => if draw then (if dregOk ops ros (beforeL ops.toList []) then some (.dreg ros (beforeL ops.toList [])) else none) else some (.reg ros)
    | none => none
  | .seq a b => match stripC P cid a, stripC P cid b with
    | some x, some y => some (.seq x y)
    | _, _ => none
  | .cond c a b => match stripX cid c, stripC P cid a, stripC P cid b with
    | some z, some x, some y => some (.cond z x y)
    | _, _, _ => none
  | .block id c => (stripC P cid c).map (.block id)
  | .loop c => (stripC P cid c).map .loop
  | .exit id => some (.exit id)
  | .ret => some .ret
  | _ => none

def Ex.exit? : Ex → Go.Exit
  | .normal => .normal
  | .exit id => .exit id
  | .ret => .ret

section
variable {P : Program} {fid : Nat → FuncId} {cid : FuncId → Nat} {G : Nat → Option (List D)} {E : Entry} {call : CallT} {M : Nat → Mode} {stamp : Bool} {N : Nat}

/-- A frame's state. -/
structure SR (fid : Nat → FuncId) (G : Nat → Option (List D)) (E : Entry) (N : Nat) (κ : Ctx) (a : Act) (st : St) : Prop where
  slots : Slots fid N κ a st.τ
  inv : Inv fid G E κ st.H (fun n => st.g ≤ n) (fun z => ∃ k, z = st.s k)
  inj : ∀ a b, st.s a = st.s b → a = b

theorem freeN_le {g total : Nat} {l : List Nat} {n : Nat} (h : freeN g total l n) : g ≤ n := by
  rcases h with ⟨i, _, h, _⟩ | h <;> omega
theorem freeZ_in {s : Sup} {l : List Nat} {z : Nat} (h : freeZ s l z) : ∃ k, z = s k := by
  rcases h with ⟨i, _, k, rfl⟩ | ⟨k, rfl⟩
  · exact ⟨_, rfl⟩
  · exact ⟨_, rfl⟩

/-- The operations of a region, in an order. -/
theorem order_ok {ops : Array Oper} {ros : List RO} {Q : Go.Exit → Act → World → Prop} {κ : Ctx} {a : Act} {st : St} {τ' : Nat → V} {H' : Nat → Box}
    (hcid : ∀ f, fid (cid f) = f) (hcall : ∀ f args bs s r, call f args bs s = some r → CallOK P fid G f args bs s r)
    (hros : stripROs P cid ops ops.toList = some ros) (R : SR fid G E N κ a st) (l : List (Nat × RO)) (hn : (l.map (·.1)).Nodup) (hl : ∀ p ∈ l, ros[p.1]? = some p.2)
    (hr : runL call M G stamp N st.g st.s l st.τ st.H = some (τ', H'))
    (hQ : ∀ a' κ', κ.le κ' → SR fid G E N κ' a' ⟨τ', H', st.g + 64 * ros.length, restS st.s⟩ → Q .normal a' κ'.w) : wpOps P ops Q (l.map (·.1)) a κ.w := by
  obtain ⟨s1, s2⟩ := stripROs_get hros
  have hget : ∀ p ∈ l, ∃ o, ops[p.1]? = some o := fun p hp => by
    have h1 := hl p hp
    have h2 := (List.getElem?_eq_some_iff.1 h1).1
    have h3 : p.1 < ops.size := by have := s1; simp at this; omega
    exact ⟨ops[p.1], by simp [h3]⟩
  let l2 : List (Nat × Oper × RO) := l.map fun p => (p.1, ops.getD p.1 default, p.2)
  have e1 : l2.map (·.1) = l.map (·.1) := by simp [l2, List.map_map, Function.comp_def]
  have e2 : (l2.map fun p => (p.1, p.2.2)) = l := by simp [l2, List.map_map, Function.comp_def]
  rw [← e1]
  refine seqL (total := ros.length) (g := st.g) (s := st.s) (G := G) (E := E) (call := call) (M := M) (stamp := stamp) (N := N) hcid hcall R.inj l2 (fun p hp => ?_) (by rw [e1]; exact hn)
    (R.inv.weak (fun n h => freeN_le h) (fun z h => freeZ_in h)) R.slots (by rw [e2]; exact hr) (fun a' κ' hle S' I' => ?_)
  · obtain ⟨q, hq, rfl⟩ := List.mem_map.1 hp
    obtain ⟨o, ho⟩ := hget q hq
    have h1 := hl q hq
    simp only
    refine ⟨(List.getElem?_eq_some_iff.1 h1).1, ?_, ?_⟩
    · simp [ho, Array.getD_eq_getD_getElem?]
    · refine s2 q.1 _ q.2 ?_ h1
      simp only [Array.getElem?_toList, ho, Array.getD_eq_getD_getElem?, Option.getD_some]
  · refine hQ a' κ' hle ⟨S', I'.weak (fun n h => .inr h) (fun z h => .inr h), restS_inj R.inj⟩

theorem zip_range_get {ros : List RO} : ∀ p ∈ (List.range' 0 ros.length).zip ros, ros[p.1]? = some p.2 := by
  intro p hp
  obtain ⟨k, hk⟩ := List.getElem?_of_mem hp
  simp only [List.getElem?_zip_eq_some] at hk
  obtain ⟨h1, h2⟩ := hk
  rw [List.getElem?_range' (List.getElem?_eq_some_iff.1 h2).1] at h1
  have := Option.some.inj h1
  rw [← this]; simpa using h2

theorem zip_range_fst {n : Nat} {ros : List RO} (h : ros.length = n) : ((List.range' 0 n).zip ros).map (·.1) = List.range n := by
  rw [List.map_fst_zip (by simp [h]), List.range_eq_range']

theorem exec_ok (hcid : ∀ f, fid (cid f) = f) (hmix : P.follows .mixedOrders = true) (hcall : ∀ f args bs s r, call f args bs s = some r → CallOK P fid G f args bs s r) (n : Nat) :
    ∀ (c : Code) {C : C} {Q : Go.Exit → Act → World → Prop} {κ : Ctx} {a : Act} {st st' : St} {ex : Ex}, stripC P cid c = some C → SR fid G E N κ a st →
      execC call M G stamp N n C st = some (ex, st') → (∀ a' κ', κ.le κ' → SR fid G E N κ' a' st' → Q ex.exit? a' κ'.w) → c.wp P Q a κ.w
  | .skip, C, Q, κ, a, st, st', ex, hC, R, h, hQ => by
    cases hC
    cases h
    exact wp_skip (hQ a κ (Ctx.le.refl κ) R)
  | .exit id, C, Q, κ, a, st, st', ex, hC, R, h, hQ => by
    cases hC
    cases h
    exact wp_exit (hQ a κ (Ctx.le.refl κ) R)
  | .ret, C, Q, κ, a, st, st', ex, hC, R, h, hQ => by
    cases hC
    cases h
    exact wp_ret (hQ a κ (Ctx.le.refl κ) R)
  | .region id ops draw, C, Q, κ, a, st, st', ex, hC, R, h, hQ => by
    simp only [stripC] at hC
    split at hC
    · rename_i ros hros
      obtain ⟨s1, s2⟩ := stripROs_get hros
      have hlen : ros.length = ops.size := by simpa using s1.symm
      cases draw with
      | false =>
        simp only [Bool.false_eq_true, if_false, Option.some.injEq] at hC
        subst hC
        simp only [execC] at h
        split at h
        · rename_i τ' H' hr
          cases h
          refine wp_region ?_
          rw [regV_runL] at hr
          rw [← zip_range_fst hlen, ← hlen]
          exact order_ok hcid hcall hros R _ (by rw [zip_range_fst rfl]; exact List.nodup_range) zip_range_get hr hQ
        · cases h
      | true =>
        simp only [if_true] at hC
        split at hC
        · rename_i hok
          cases hC
          simp only [execC] at h
          split at h
          · rename_i τ' H' L hr
            split at h
            · rename_i hcalm
              cases h
              refine wp_region_draw fun t => ?_
              simp only [Region.schedule, hmix, Bool.true_or, if_true]
              have hrg := regL_runG ros 0 hr
              have hL := runG_length _ hrg
              have hbl : (beforeL ops.toList []).length = ops.size := by
                simp only [dregOk, Bool.and_eq_true, beq_iff_eq] at hok; exact hok.1.1
              have hcal : Calm st.g (beforeL ops.toList []) (((List.range' 0 ros.length).zip ros).zip L) :=
                calm_calm L ros 0 _ _ hcalm (by rw [hbl, hL]; simp [hlen]) (by simp)
              have hfst := zip_range_fst (ros := ros) rfl
              obtain ⟨l', m1, m2, m3, m4⟩ := perm hok ops.size t (Array.replicate ops.size false) _ L _ _ _ _ (by simp [hlen]) (by simp)
                (fun i => by
                  rw [hfst]
                  simp only [List.mem_range, hlen]
                  by_cases hi : i < ops.size <;> simp [Array.getD_eq_getD_getElem?, Array.getElem?_replicate, hi])
                (by rw [hfst]; exact List.pairwise_lt_range) zip_range_get
                (fun i hi hla => by simp [Array.getD_eq_getD_getElem?, Array.getElem?_replicate, hi] at hla) hcal hrg
              rw [Region.linearise, ← m1]
              obtain ⟨I', hle⟩ := R.inv.draw (w' := { κ.w with drawn := κ.w.drawn + 1 }) rfl rfl rfl rfl
              refine order_ok (κ := { κ with w := { κ.w with drawn := κ.w.drawn + 1 } }) hcid hcall hros ⟨R.slots.mono hle, I', R.inj⟩ l' m2 (fun p hp => zip_range_get p (m3 p hp)) m4 ?_
              intro a' κ' hle' R'
              exact hQ a' κ' (hle.trans hle') R'
            · cases h
          · cases h
        · cases hC
    · cases hC
  | .seq x y, C, Q, κ, a, st, st', ex, hC, R, h, hQ => by
    simp only [stripC] at hC
    split at hC
    · rename_i X Y hX hY
      cases hC
      simp only [execC] at h
      refine wp_seq ?_
      split at h
      · rename_i st1 h1
        refine exec_ok hcid hmix hcall n x hX R h1 ?_
        intro a' κ' hle R'
        exact exec_ok hcid hmix hcall n y hY R' h (fun a'' κ'' hle' R'' => hQ a'' κ'' (hle.trans hle') R'')
      · rename_i hne
        refine exec_ok hcid hmix hcall n x hX R h ?_
        intro a' κ' hle R'
        have := hQ a' κ' hle R'
        cases ex with
        | normal => exact absurd h (by intro h; exact hne _ h)
        | exit id => exact this
        | ret => exact this
    · cases hC
  | .cond c x y, C, Q, κ, a, st, st', ex, hC, R, h, hQ => by
    simp only [stripC] at hC
    split at hC
    · rename_i Z X Y hZ hX hY
      cases hC
      simp only [execC] at h
      split at h
      · rename_i t ht
        have hv := R.slots.ev hcid c Z hZ
        rw [ht] at hv
        have hc : a.eval c = .bool t := by generalize a.eval c = vv at hv; cases hv; rfl
        refine wp_cond hc ?_
        cases t with
        | true => exact exec_ok hcid hmix hcall n x hX R (by simpa using h) hQ
        | false => exact exec_ok hcid hmix hcall n y hY R (by simpa using h) hQ
      · cases h
    · cases hC
  | .block id c, C, Q, κ, a, st, st', ex, hC, R, h, hQ => by
    simp only [stripC, Option.map_eq_some_iff] at hC
    obtain ⟨X, hX, rfl⟩ := hC
    simp only [execC] at h
    refine wp_block ?_
    split at h
    · rename_i id' st1 h1
      refine exec_ok hcid hmix hcall n c hX R h1 ?_
      intro a' κ' hle R'
      simp only [Exit.inBlock, Ex.exit?]
      split at h
      · rename_i e
        cases h
        rw [if_pos e]
        exact hQ a' κ' hle R'
      · rename_i e
        cases h
        rw [if_neg e]
        exact hQ a' κ' hle R'
    · rename_i hne
      refine exec_ok hcid hmix hcall n c hX R h ?_
      intro a' κ' hle R'
      have := hQ a' κ' hle R'
      cases ex with
      | normal => exact this
      | exit id => exact absurd h (by intro h; exact hne _ _ h)
      | ret => exact this
  | .loop c, C, Q, κ, a, st, st', ex, hC, R, h, hQ => by
    simp only [stripC, Option.map_eq_some_iff] at hC
    obtain ⟨X, hX, rfl⟩ := hC
    simp only [execC] at h
    refine wp_loop_ghost (fun m a w => ∃ κ1 st1, κ.le κ1 ∧ κ1.w = w ∧ SR fid G E N κ1 a st1 ∧ iter (execC call M G stamp N n X) m st1 = some (ex, st')) n ⟨κ, st, Ctx.le.refl κ, rfl, R, h⟩ ?_
    rintro m a1 w1 ⟨κ1, st1, hle1, rfl, R1, h1⟩
    cases m with
    | zero => cases h1
    | succ m =>
      simp only [iter] at h1
      split at h1
      · rename_i st2 h2
        refine exec_ok hcid hmix hcall n c hX R1 h2 ?_
        intro a' κ' hle R'
        exact ⟨m, by omega, κ', st2, hle1.trans hle, rfl, R', h1⟩
      · rename_i hne
        refine exec_ok hcid hmix hcall n c hX R1 h1 ?_
        intro a' κ' hle R'
        have := hQ a' κ' (hle1.trans hle) R'
        cases ex with
        | normal => exact absurd h1 (by intro h; exact hne _ h)
        | exit id => exact this
        | ret => exact this
  | .rangeFunc .., C, Q, κ, a, st, st', ex, hC, R, h, hQ => by simp [stripC] at hC
  | .scope _, C, Q, κ, a, st, st', ex, hC, R, h, hQ => by simp [stripC] at hC
  | .label _, C, Q, κ, a, st, st', ex, hC, R, h, hQ => by simp [stripC] at hC
  | .goto _, C, Q, κ, a, st, st', ex, hC, R, h, hQ => by simp [stripC] at hC
  | .refuse _, C, Q, κ, a, st, st', ex, hC, R, h, hQ => by simp [stripC] at hC

end
end Go.VM
