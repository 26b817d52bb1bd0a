/- The value machine: a whole function. Conditions: none. -/
import Derived.Test.YthkednnfadhidaaVM23
namespace Go.VM
set_option linter.unusedVariables false
set_option linter.unusedSimpArgs false
set_option linter.unusedSectionVars false

def stripR (P : Program) : ResultVar → Option RV
  | .tmp t => some (.tmp t)
  | .cell a t => match agg? P t, sz? P t with
    | some x, some n => if x || n == 1 then some (.cell a x n) else none
    | _, _ => none
def stripRs (P : Program) : List ResultVar → Option (List RV)
  | [] => some []
  | x :: r => match stripR P x, stripRs P r with | some y, some l => some (y :: l) | _, _ => none
def stripF (P : Program) (cid : FuncId → Nat) (F : Func) : Option Fn :=
  match F.body with
  | none => none
  | some c => match stripC P cid c, stripRs P F.results.toList with
    | some C, some r => if F.name == "runtime.NumGoroutine" then none else some ⟨F.ntmps, r, C⟩
    | _, _ => none

section
variable {P : Program} {fid : Nat → FuncId} {cid : FuncId → Nat} {G : Nat → Option (List D)} {E : Entry} {call : CallT} {M : Nat → Mode} {stamp : Bool} {N : Nat}

/-- One result. -/
def resF (tmps : Array Value) : ResultVar → Sem Value
  | .tmp t => pure (tmps.getD t undef)
  | .cell x t => do loadVar t (← asAddr (tmps.getD x undef))

/-- The results of a frame. -/
theorem results_ok {κ : Ctx} {a : Act} {τ : Nat → V} {H : Nat → Box} {FN FZ : Nat → Prop} (S : Slots fid N κ a τ) (I : Inv fid G E κ H FN FZ) :
    ∀ (l : List ResultVar) {rs : List RV} {res : List (Bool × List W)}, stripRs P l = some rs → resV τ H rs = some res →
      ∃ vs : List Value, (l.mapM (resF a.tmps)).run P κ.w = .ok vs κ.w ∧
        vs.length = res.length ∧ ∀ (i : Nat) (p : Bool × List W), res[i]? = some p → ∃ x : Value, vs[i]? = some x ∧ PRel fid κ x p
  | [], rs, res, hs, hr => by
    cases hs
    cases hr
    exact ⟨[], by simp, rfl, by simp⟩
  | r :: l, rs, res, hs, hr => by
    simp only [stripRs] at hs
    split at hs
    · rename_i y ys hy hys
      cases hs
      have fin : ∀ (v : Value) (p : Bool × List W) (res' : List (Bool × List W)), PRel fid κ v p → resV τ H ys = some res' → res = p :: res' →
          (resF a.tmps r).run P κ.w = .ok v κ.w →
          ∃ vs : List Value, ((r :: l).mapM (resF a.tmps)).run P κ.w = .ok vs κ.w ∧
            vs.length = res.length ∧ ∀ (i : Nat) (p : Bool × List W), res[i]? = some p → ∃ x : Value, vs[i]? = some x ∧ PRel fid κ x p := by
        intro v p res' hv hres he hrun
        subst he
        obtain ⟨vs, h1, h2, h3⟩ := results_ok S I l hys hres
        refine ⟨v :: vs, ?_, by simp [h2], fun i q hq => ?_⟩
        · rw [List.mapM_cons]
          simp only [Sem.run_bind, hrun, Result.andThen_ok, h1, Sem.run_pure]
        · match i with
          | 0 => simp at hq; subst hq; exact ⟨v, rfl, hv⟩
          | i + 1 => simp at hq ⊢; exact h3 i q hq
      cases r with
      | tmp t =>
        cases hy
        have hrel := S.rel t
        simp only [resV] at hr
        split at hr
        · rename_i x res' hx hres
          cases hr
          rw [hx] at hrel
          exact fin (a.tmps.getD t undef) (false, [x]) _ hrel hres rfl (by simp only [resF, Sem.run_pure])
        · rename_i cs res' hx hres
          cases hr
          rw [hx] at hrel
          exact fin (a.tmps.getD t undef) (true, cs) _ hrel hres rfl (by simp only [resF, Sem.run_pure])
        · cases hr
      | cell x t =>
        simp only [stripR] at hy
        split at hy
        · rename_i ag n hag hn
          split at hy
          · rename_i h1
            cases hy
            have hrel := S.rel x
            simp only [resV] at hr
            split at hr
            · rename_i b off res' hx hres
              split at hr
              · rename_i cs hH
                split at hr
                · rename_i p hp
                  split at hr
                  · rename_i hp1
                    cases hr
                    rw [hx] at hrel
                    obtain ⟨i, arr, T, hb, hreal, hv, hheap, hl, him⟩ := ptr_cell I hrel hH
                    simp only [part?] at hp
                    split at hp
                    · rename_i hfit
                      cases hp
                      have hsz := hl.1
                      have hload : ∃ v, (loadVar t ⟨i.blk, off, none⟩).run P κ.w = .ok v κ.w ∧ (ag = true → v = .agg ((arr.toList.drop off).take n).toArray) ∧ (ag = false → (arr.toList.drop off).take n = [v]) := by
                        have := run_loadAt_cells (P := P) (w := κ.w) hag hn h1 (b := i.blk) (o := off) ((arr.toList.drop off).take n) (by simp; omega) (fun j v hj => by
                          rw [cell_of hheap]
                          rw [List.getElem?_take] at hj
                          split at hj
                          · simpa using hj
                          · cases hj)
                        simpa [Instr.loadAt, Instr.sureAddr] using this
                      obtain ⟨v, hv1, hv2, hv3⟩ := hload
                      have hpart : LRel fid κ ((arr.toList.drop off).take n).toArray ((cs.drop off).take n) := by
                        refine ⟨by simp; omega, fun j c hj => ?_⟩
                        rw [List.getElem?_take] at hj
                        split at hj
                        · rename_i hjn
                          simp only [List.getElem?_drop] at hj
                          obtain ⟨y, hy, q⟩ := hl.2 (off + j) c hj
                          exact ⟨y, by simp [List.getElem?_take, hjn, hy], q⟩
                        · cases hj
                      refine fin v (ag, (cs.drop off).take n) res' ?_ hres rfl (by simp only [resF, hv, asAddr, Sem.run_bind, Sem.run_pure, Result.andThen_ok, hv1])
                      cases ag with
                      | true => exact ⟨_, hv2 rfl, hpart⟩
                      | false =>
                        simp at hp1
                        obtain ⟨c, hc⟩ : ∃ c, (cs.drop off).take n = [c] := List.length_eq_one_iff.1 (by simpa using hp1)
                        rw [hc] at hpart ⊢
                        have e3 := hv3 rfl
                        rw [e3] at hpart
                        obtain ⟨y, hy, q⟩ := hpart.2 0 c rfl
                        simp at hy; subst hy
                        exact q
                    · cases hp
                  · cases hr
                · cases hr
              · cases hr
            · cases hr
          · cases hy
        · cases hy
    · cases hs

theorem results_run {κ : Ctx} {fn : Func} {tmps : Array Value} {vs : List Value}
    (h : (fn.results.toList.mapM (resF tmps)).run P κ.w = .ok vs κ.w) :
    (results fn tmps).run P κ.w = .ok (if h : vs.toArray.size = 1 then vs.toArray[0] else .tuple vs.toArray) κ.w := by
  have e : results fn tmps = (do let vs ← fn.results.mapM (resF tmps); pure (if h : vs.size = 1 then vs[0] else .tuple vs)) := by
    unfold results
    have : (fun x : ResultVar => (match x with | .tmp t => pure (tmps.getD t undef) | .cell a t => do loadVar t (← asAddr (tmps.getD a undef)) : Sem Value)) = resF tmps := by
      funext x; cases x <;> rfl
    rw [← this]
    rfl
  rw [e, Array.mapM_eq_mapM_toList]
  simp only [Sem.run_bind, Sem.run_map, h, Result.andThen_ok, Sem.run_pure]

theorem frzP_len {stamp : Bool} {s : Sup} : ∀ {l y : List (Bool × List W)} {z z' : Fz}, frzP stamp s z l = some (y, z') → y.length = l.length
  | [], y, z, z', h => by cases h; rfl
  | p :: l, y, z, z', h => by
    simp only [frzP] at h
    split at h
    · split at h
      · rename_i y' z1 h1 l' z2 h2
        cases h
        simp [frzP_len h2]
      · cases h
    · cases h

theorem one_rel {κ : Ctx} {vs : List Value} {res : List (Bool × List W)} (hl : vs.length = res.length) (h : ∀ (i : Nat) (p : Bool × List W), res[i]? = some p → ∃ x : Value, vs[i]? = some x ∧ PRel fid κ x p) :
    VRel fid κ (if h : vs.toArray.size = 1 then vs.toArray[0] else .tuple vs.toArray) (one? res) := by
  match res, vs with
  | [], [] => exact ⟨#[], rfl, rfl, by simp⟩
  | [p], [v] =>
    obtain ⟨x, hx, q⟩ := h 0 p rfl
    simp at hx; subst hx
    obtain ⟨b, cs⟩ := p
    cases b with
    | true => exact q
    | false => match cs, q with
      | [x], q => exact q
  | p :: p' :: r, v :: v' :: r' =>
    have h1 : one? (p :: p' :: r) = .tup (p :: p' :: r) := by
      obtain ⟨b, cs⟩ := p
      cases b with
      | true => rfl
      | false => match cs with
        | [] => rfl
        | [x] => rfl
        | _ :: _ :: _ => rfl
    rw [h1, dif_neg (by simp)]
    exact ⟨_, rfl, by simpa using hl, fun i p hp => by obtain ⟨x, hx, q⟩ := h i p hp; exact ⟨x, by simpa using hx, q⟩⟩
  | [], _ :: _ => simp at hl
  | _ :: _, [] => simp at hl
  | [_], _ :: _ :: _ => simp at hl
  | _ :: _ :: _, [_] => simp at hl

theorem one_names : ∀ {res : List (Bool × List W)} {n : Nat}, n ∈ (one? res).names → n ∈ res.flatMap fun p => wnames p.2 := by
  intro res n h
  unfold one? at h
  split at h
  · simpa [V.names] using h
  · simpa [V.names, wnames] using h
  · exact h

theorem finish_ok {κ : Ctx} {stamp move : Bool} {bs : List Box} {s : Sup} {st : St} {κ₁ : Ctx} {res : List (Bool × List W)} {vs : List Value} {r : Res}
    (hIn : In fid G κ bs s) (I : Inv fid G ⟨κ, fun t => ∃ k, t = s k, passOf κ bs⟩ κ₁ st.H (fun n => st.g ≤ n) (fun z => ∃ k, z = st.s k)) (hinj : ∀ a b, st.s a = st.s b → a = b)
    (hl : vs.length = res.length) (hres : ∀ (i : Nat) (p : Bool × List W), res[i]? = some p → ∃ x : Value, vs[i]? = some x ∧ PRel fid κ₁ x p) (h : finish stamp move bs.length st res = some r) :
    ∃ κ', κ'.w = κ₁.w ∧ Out fid κ bs s κ' r (if h : vs.toArray.size = 1 then vs.toArray[0] else .tuple vs.toArray) := by
  unfold finish at h
  split at h
  · cases h
  · rename_i res' z hz
    obtain ⟨κ₂, hw, hle, hI, hl', hr'⟩ : ∃ κ₂ : Ctx, κ₂.w = κ₁.w ∧ κ₁.le κ₂ ∧ Inv fid G ⟨κ, fun t => ∃ k, t = s k, passOf κ bs⟩ κ₂ z.H (fun n => st.g ≤ n) (fun _ => False) ∧ vs.length = res'.length ∧
        ∀ (i : Nat) (p : Bool × List W), res'[i]? = some p → ∃ x : Value, vs[i]? = some x ∧ PRel fid κ₂ x p := by
      split at hz
      · cases hz
        exact ⟨κ₁, rfl, Ctx.le.refl κ₁, I.weak (fun _ h => h) (fun t h => h.elim), hl, hres⟩
      · obtain ⟨κ₂, F, h1, h2⟩ := frzP_ok (FN := fun n => st.g ≤ n) (FZ := fun z => ∃ k, z = st.s k) (s := st.s) hinj (fun k => ⟨k, rfl⟩) (z := ⟨st.H, 0, []⟩) (vs := vs)
          (I.weak (fun _ h => h) (fun t h => h.1)) hl hres hz
        exact ⟨κ₂, F.w, F.le, F.inv.weak (fun _ h => h) (fun t h => h.elim), h1, h2⟩
    dsimp only at h
    split at h
    · rename_i hcond
      cases h
      generalize hns : reach z.H 4 (addAll (List.range bs.length) ((res'.flatMap fun p => wnames p.2) ++ (List.range bs.length).flatMap fun b => (z.H b).names)) = ns at *
      obtain ⟨hm, htake, hclosed⟩ := hcond
      have hnd : ns.Nodup := by rw [← hns]; exact reach_nodup (nodup_addAll List.nodup_range)
      have hget : ∀ b, b < bs.length → ns.getD b 0 = b := fun b hb => by
        have : (ns.take bs.length)[b]? = some b := by rw [htake]; simp [hb]
        rw [List.getElem?_take, if_pos hb] at this
        simp [List.getD_eq_getElem?_getD, this]
      have hboxes : (List.range bs.length).map (fun b => (z.H b).ren (idx ns)) ++ (ns.drop bs.length).map (fun b => (z.H b).ren (idx ns)) = ns.map fun b => (z.H b).ren (idx ns) := by
        rw [← List.map_append, ← htake, List.take_append_drop]
      have hlenb : ((List.range bs.length).map (fun b => (z.H b).ren (idx ns))).length = bs.length := by simp
      let β' : Nat → Option Inf := fun k => if k < ns.length then κ₂.β (ns.getD k 0) else none
      have hβ : ∀ n ∈ ns, β' (idx ns n) = κ₂.β n := fun n hn => by
        simp only [β']
        rw [if_pos (idx_lt hn), idx_get hn]
      have hsome : ∀ k x, (ns.map fun b => (z.H b).ren (idx ns)).getD k .dead = x → x ≠ .dead → k < ns.length := fun k x hx hd => by
        by_cases hk : k < ns.length
        · exact hk
        · rw [getD_ge (by simp; omega)] at hx; exact absurd hx.symm hd
      have hbb : ∀ b, b < bs.length → β' b = κ.β b := fun b hb => by
        simp only [β']
        rw [if_pos (by omega), hget b hb]
        obtain ⟨i, hi⟩ := hIn.some b hb
        rw [hi]
        exact hI.le.b _ _ hi
      have hkle : κ.le { κ₂ with β := β' } := ⟨hI.le.size, hI.le.im, hI.le.cell, hI.le.z, fun n i hi => by
        by_cases hn : n < bs.length
        · show β' n = some i
          rw [hbb n hn, hi]
        · rw [hIn.dom n (by omega)] at hi; cases hi⟩
      have hmem : ∀ k, k < ns.length → ns.getD k 0 ∈ ns := fun k hk => by rw [getD_lt hk]; exact List.getElem_mem hk
      have hcl : ∀ b ∈ ns, ∀ n ∈ (z.H b).names, n ∈ ns := fun b hb n hn => by
        simp only [closed, List.all_eq_true, List.contains_iff_mem] at hclosed
        exact hclosed b hb n hn
      refine ⟨{ κ₂ with β := β' }, hw, hkle, ?_, ?_, ?_, ?_, ?_, hI.imlt, hI.zlt, hI.zinj, hI.znew, hlenb, hbb, ?_, ?_, ?_, ?_, ?_⟩
      · exact hI.os
      · exact hI.tape
      · exact hI.output
      · exact hI.same
      · exact hI.im
      · intro b hb
        show β' b = none
        simp only [β']
        rw [if_neg]
        simp only [List.length_map, List.length_drop] at hb
        omega
      · intro b i hd hbi hreal
        rw [hboxes] at hd
        have hk := hsome b _ rfl hd
        rw [getD_map_box hk, ne_eq, Box.ren_dead] at hd
        have hbi' : κ₂.β (ns.getD b 0) = some i := by
          have h0 : β' b = some i := hbi
          simp only [β'] at h0
          rwa [if_pos hk] at h0
        exact hI.blk _ i hd hbi' hreal
      · intro b
        rw [hboxes]
        by_cases hk : b < ns.length
        · rw [getD_map_box hk]
          refine (hI.box (ns.getD b 0)).ren (fun n hn => hβ n (hcl _ (hmem b hk) n hn)) ?_
          simp only [β']; rw [if_pos hk]
        · rw [getD_ge (by simp; omega)]; trivial
      · intro b b' i i' hne hd hd' hbi hbi' hr hr'
        rw [hboxes] at hd hd'
        have hk := hsome b _ rfl hd
        have hk' := hsome b' _ rfl hd'
        rw [getD_map_box hk, ne_eq, Box.ren_dead] at hd
        rw [getD_map_box hk', ne_eq, Box.ren_dead] at hd'
        have e1 : κ₂.β (ns.getD b 0) = some i := by
          have h0 : β' b = some i := hbi
          simp only [β'] at h0
          rwa [if_pos hk] at h0
        have e2 : κ₂.β (ns.getD b' 0) = some i' := by
          have h0 : β' b' = some i' := hbi'
          simp only [β'] at h0
          rwa [if_pos hk'] at h0
        refine hI.dist _ _ i i' (fun e => hne ?_) hd hd' e1 e2 hr hr'
        have := congrArg (idx ns) e
        rwa [idx_at hnd hk, idx_at hnd hk'] at this
      · refine (one_rel hl' hr').ren (fun n hn => hβ n ?_)
        rw [← hns]
        exact reach_sub (mem_addAll.2 (.inr (List.mem_append.2 (.inl (one_names hn)))))
    · cases h

/-- A whole function. -/
theorem runF_ok (hcid : ∀ f, fid (cid f) = f) (hmix : P.follows .mixedOrders = true) (hcall : ∀ f args bs s r, call f args bs s = some r → CallOK P fid G f args bs s r) {n f : Nat} {fn : Func} {F : Fn} {args : List V} {bs : List Box} {s : Sup} {r : Res}
    (hfn : P.funcs[fid f]? = some fn) (hF : stripF P cid fn = some F) (h : runF call M G n f F args bs s = some r) : CallOK P fid G f args bs s r := by
  unfold stripF at hF
  split at hF
  · cases hF
  · rename_i c hc
    split at hF
    · rename_i C rs hC hrs
      split at hF
      · cases hF
      · rename_i hname
        cases hF
        unfold runF at h
        split at h
        · rename_i hlen
          simp only at hlen
          refine ⟨fun as w => ?_, fun κ vs hIn hl hr => ?_⟩
          · have hname' : ¬ fn.name = "runtime.NumGoroutine" := by simpa using hname
            simp [callFunc, hfn, hname', hc]
          · refine calls_of_wp hfn hc ?_
            have R0 : SR fid G ⟨κ, fun t => ∃ k, t = s k, passOf κ bs⟩ fn.ntmps κ { tmps := vs.toArray ++ Array.replicate (fn.ntmps - vs.toArray.size) undef, defers := [] }
                ⟨fun t => args.getD t (.tup []), fun b => bs.getD b .dead, bs.length, s⟩ := by
              refine ⟨⟨fun t => ?_, by simp; omega, rfl⟩, ⟨Ctx.le.refl κ, rfl, rfl, rfl, fun _ _ _ => rfl, fun _ _ h => .inl h, hIn.imlt, hIn.zlt, hIn.zinj, fun _ _ h => .inl h,
                fun t ht => ?_, fun b hb => hIn.dom b hb, fun b i hd hb hre => .inr ⟨b, i, hd, hb, hre, rfl⟩, hIn.box, hIn.dist, hIn.glob⟩, hIn.sinj⟩
              · by_cases ht : t < args.length
                · obtain ⟨v, hv, q⟩ := hr t args[t] (List.getElem?_eq_getElem ht)
                  have e1 : (vs.toArray ++ Array.replicate (fn.ntmps - vs.toArray.size) undef).getD t undef = v := by
                    rw [Array.getD_eq_getD_getElem?, Array.getElem?_append_left (by simp; omega)]
                    simp [hv]
                  show VRel fid κ ((vs.toArray ++ Array.replicate (fn.ntmps - vs.toArray.size) undef).getD t undef) (args.getD t (.tup []))
                  rw [e1]
                  simpa [List.getD_eq_getElem?_getD, List.getElem?_eq_getElem ht] using q
                · have e1 : (vs.toArray ++ Array.replicate (fn.ntmps - vs.toArray.size) undef).getD t undef = undef := by
                    rw [Array.getD_eq_getD_getElem?, Array.getElem?_append_right (by simp; omega), Array.getElem?_replicate]
                    split <;> rfl
                  have e2 : args.getD t (.tup []) = .tup [] := by simp [List.getD_eq_getElem?_getD, List.getElem?_eq_none (by omega : args.length ≤ t)]
                  show VRel fid κ ((vs.toArray ++ Array.replicate (fn.ntmps - vs.toArray.size) undef).getD t undef) (args.getD t (.tup []))
                  rw [e1, e2]
                  exact undef_rel
              · obtain ⟨k, rfl⟩ := ht
                exact ⟨(hIn.zfree k).1, (hIn.zfree k).2, k, rfl⟩
            have fin : ∀ (ex : Ex) (st : St) (a' : Act) (κ' : Ctx), ex = .ret ∨ ex = .normal → (match resV st.τ st.H rs with
                | some res => finish (M f).stamp (M f).move bs.length st res
                | none => none) = some r → κ.le κ' → SR fid G ⟨κ, fun t => ∃ k, t = s k, passOf κ bs⟩ fn.ntmps κ' a' st →
                bodyPost P fn (fun e w' => ∃ v κ', e = .returned v ∧ κ'.w = w' ∧ Out fid κ bs s κ' r v) ex.exit? a' κ'.w := by
              intro ex st a' κ' hex hr' hle R
              split at hr'
              · rename_i res hres
                obtain ⟨vs', h1, h2, h3⟩ := results_ok R.slots R.inv fn.results.toList hrs hres
                obtain ⟨κ₂, e1, O⟩ := finish_ok hIn R.inv R.inj h2 h3 hr'
                have hrun := results_run (fn := fn) h1
                rcases hex with rfl | rfl
                · exact ⟨R.slots.defers, _, hrun, _, κ₂, rfl, e1, O⟩
                · exact ⟨R.slots.defers, _, hrun, _, κ₂, rfl, e1, O⟩
              · cases hr'
            split at h
            · rename_i st hst
              exact exec_ok hcid hmix hcall n c hC R0 hst (fun a' κ' hle R' => fin .ret st a' κ' (.inl rfl) h hle R')
            · rename_i st hst
              exact exec_ok hcid hmix hcall n c hC R0 hst (fun a' κ' hle R' => fin .normal st a' κ' (.inr rfl) h hle R')
            · cases h
        · cases h
    · cases hF

/-- The table of functions, run. -/
theorem run_ok {FT : Tab} {O : Nat → Bool} {A : Orc} (hcid : ∀ f, fid (cid f) = f) (hmix : P.follows .mixedOrders = true)
    (hFT : ∀ f F, FT f = some F → ∃ fn, P.funcs[fid f]? = some fn ∧ stripF P cid fn = some F)
    (hA : ∀ f args s r, O f = true → A f args = some r → CallOK P fid G f args [] s r) :
    ∀ (n f : Nat) (args : List V) (bs : List Box) (s : Sup) (r : Res), run FT O A M G n f args bs s = some r → CallOK P fid G f args bs s r
  | 0, f, args, bs, s, r, h => by cases h
  | n + 1, f, args, bs, s, r, h => by
    simp only [run] at h
    split at h
    · rename_i ho
      split at h
      · exact hA f args s r ho h
      · cases h
    · split at h
      · rename_i F hF
        obtain ⟨fn, h1, h2⟩ := hFT f F hF
        exact runF_ok hcid hmix (run_ok hcid hmix hFT hA n) h1 h2 h
      · cases h

end
end Go.VM
