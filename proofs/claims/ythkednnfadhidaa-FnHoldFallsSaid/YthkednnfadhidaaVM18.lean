/- The value machine: an operation, whatever it is, and a call. Conditions: none. -/
import Derived.Test.YthkednnfadhidaaVM17
namespace Go.VM
set_option linter.unusedVariables false
set_option linter.unusedSimpArgs false
set_option linter.unusedSectionVars false

section
variable {P : Program} {fid : Nat → FuncId} {cid : FuncId → Nat} {G : Nat → Option (List D)} {E : Entry} {κ : Ctx} {H : Nat → Box} {FN FZ : Nat → Prop} {g : Nat} {s : Sup}
variable {ρ : Operand → Value} {ev : X → V} {o : Oper} {call : CallT} {M : Nat → Mode} {stamp : Bool}

section ops
variable (I : Inv fid G E κ H FN FZ) (hev : ∀ x X, stripX cid x = some X → VRel fid κ (ρ x) (ev X)) (hfn : ∀ n, g ≤ n → n < g + 64 → FN n) (hinj : ∀ a b, s a = s b → a = b) (hs : ∀ k, FZ (s k))
include I hev hfn

theorem op_builtin {c : Call} {op : O} {e : Eff} (ho : o.op = .call c) (hc : ∀ f, c.callee ≠ .value f) (hO : stripCall P cid c = some op) (h : opV call M G stamp ev H g s op = some e) : Good P fid G E κ FN FZ g s ρ o e := by
  unfold stripCall at hO
  split at hO
  · rename_i f hf; exact absurd hf (hc f)
  · rename_i hf
    split at hO
    · rename_i t x ht hx
      split at hO
      · rename_i X hu hX
        cases hO
        simp only [opV] at h
        split at h
        · rename_i b hb; exact good_lens I hev ho hf ht hx hu hX hb h
        · cases h
      · rename_i e0 X hu hX
        cases hO
        simp only [opV] at h
        split at h
        · rename_i b off len cap hy
          obtain ⟨v, hv, rfl⟩ := ret0_some h; cases hv
          exact good_lenl I hev ho hf ht hx hu hX hy (.inl ⟨_, _, _, rfl⟩) rfl
        · rename_i st rows hy
          obtain ⟨v, hv, rfl⟩ := ret0_some h; cases hv
          exact good_lenl I hev ho hf ht hx hu hX hy (.inr (.inl ⟨_, _, rfl, rfl⟩)) rfl
        · rename_i st rows hy
          obtain ⟨v, hv, rfl⟩ := ret0_some h; cases hv
          exact good_lenl I hev ho hf ht hx hu hX hy (.inr (.inr (.inl ⟨_, _, rfl, rfl⟩))) rfl
        · rename_i hy
          obtain ⟨v, hv, rfl⟩ := ret0_some h; cases hv
          exact good_lenl (n := 0) I hev ho hf ht hx hu hX hy (.inr (.inr (.inr ⟨rfl, rfl⟩))) rfl
        · cases h
      · cases hO
    · cases hO
  · rename_i hf
    split at hO
    · rename_i t u x y hat hag
      split at hO
      · rename_i e0 e1 X Y ht hu hX hY
        split at hO
        · rename_i ti zd hi hz
          split at hO
          · rename_i hpos
            cases hO
            simp only [opV] at h
            split at h
            · rename_i yw hy
              split at h
              · rename_i ys tt hr
                split at h
                · rename_i hall
                  simp only [Bool.and_eq_true] at hall
                  split at h
                  · rename_i hx
                    split at h
                    · rename_i hroom
                      cases h
                      exact good_app_nil I hev hfn ho hf hat hag ht hu hi hz hpos hX hY hx hy hr hall.1 hroom rfl
                    · cases h
                  · rename_i b off len cap hx
                    split at h
                    · rename_i st sz rows ro hH
                      split at h
                      · rename_i hcond
                        obtain ⟨rfl, h1, h2, h3⟩ := hcond
                        cases h
                        exact good_app_own I hev hfn ho hf hat hag ht hu hi hz hpos hX hY hx hy hr hall.1 hH h1 h2 h3 rfl
                      · cases h
                    · cases h
                  · cases h
                · cases h
              · cases h
            · cases h
          · cases hO
        · cases hO
      · cases hO
    · cases hO
  · rename_i hf
    cases hL : stripXs cid c.args.toList with
    | none => simp [hL] at hO
    | some L =>
      simp [hL] at hO; subst hO
      simp only [opV] at h
      split at h
      · rename_i v r hm
        split at h
        · rename_i k a hv
          exact good_mmx (isMax := true) I hev ho (by simpa using hf) hL hm hv h
        · cases h
      · cases h
  · rename_i hf
    cases hL : stripXs cid c.args.toList with
    | none => simp [hL] at hO
    | some L =>
      simp [hL] at hO; subst hO
      simp only [opV] at h
      split at h
      · rename_i v r hm
        split at h
        · rename_i k a hv
          exact good_mmx (isMax := false) I hev ho (by simpa using hf) hL hm hv h
        · cases h
      · cases h
  · cases hO

include hinj hs

/-- An operation that is no call of a Go function. -/
theorem op_good (hcid : ∀ f, fid (cid f) = f) {op : O} {e : Eff} (hc : ∀ c f, o.op = .call c → c.callee ≠ .value f) (hO : stripO P cid o.op = some op) (h : opV call M G stamp ev H g s op = some e) : Good P fid G E κ FN FZ g s ρ o e := by
  generalize hop : o.op = q at hO
  cases q with
  | move x =>
    simp only [stripO, Option.map_eq_some_iff] at hO
    obtain ⟨X, hX, rfl⟩ := hO
    exact good_mv I hev (.inl hop) hX h
  | assign x =>
    simp only [stripO, Option.map_eq_some_iff] at hO
    obtain ⟨X, hX, rfl⟩ := hO
    exact good_mv I hev (.inr hop) hX h
  | pick c a b =>
    simp only [stripO] at hO
    split at hO
    · rename_i C A B h1 h2 h3; cases hO; exact good_pick I hev hop h1 h2 h3 h
    · cases hO
  | alloc t =>
    simp only [stripO, Option.map_eq_some_iff] at hO
    obtain ⟨z, hz, rfl⟩ := hO
    simp only [opV] at h; cases h
    exact good_new I hev hfn hop hz rfl
  | box t x =>
    simp only [stripO] at hO
    split at hO
    · rename_i n X hn hX
      cases hO
      simp only [opV] at h
      split at h
      · rename_i cs hcs
        split at h
        · cases h; exact good_box I hev hfn hop hX hcs rfl
        · cases h
      · cases h
    · cases hO
  | build t parts =>
    simp only [stripO] at hO
    split at hO
    · rename_i fs z hu hz
      split at hO
      · rename_i hall
        obtain ⟨L, hL, rfl⟩ := Option.map_eq_some_iff.1 hO
        simp only [opV] at h
        obtain ⟨v, hv, rfl⟩ := ret0_some h
        obtain ⟨out, hs', rfl⟩ := Option.map_eq_some_iff.1 hv
        exact good_bld I hev hop hz (.inl ⟨fs, hu, hall, hL⟩) hs' rfl
      · cases hO
    · rename_i n e0 z hu hz
      obtain ⟨k, hk, hO⟩ := Option.bind_eq_some_iff.1 hO
      obtain ⟨L, hL, rfl⟩ := Option.map_eq_some_iff.1 hO
      simp only [opV] at h
      obtain ⟨v, hv, rfl⟩ := ret0_some h
      obtain ⟨out, hs', rfl⟩ := Option.map_eq_some_iff.1 hv
      exact good_bld I hev hop hz (.inr ⟨n, e0, k, hu, hk, hL⟩) hs' rfl
    · cases hO
  | buildSlice t len parts =>
    simp only [stripO] at hO
    split at hO
    · rename_i e0 hu
      split at hO
      · rename_i n z L hn hz hL
        split at hO
        · rename_i hpos
          cases hO
          simp only [opV] at h
          split at h
          · rename_i rows z' hr
            cases h
            exact good_bsl I hev hfn hinj hs hop hu hn hz hL hpos hr rfl
          · cases h
        · cases hO
      · cases hO
    · cases hO
  | load t x =>
    simp only [stripO] at hO
    split at hO
    · rename_i a n X ha hn hX
      split at hO
      · rename_i h1; cases hO; exact op_ld I hev hop ha hn hX h1 h
      · cases hO
    · cases hO
  | store t x y =>
    simp only [stripO] at hO
    split at hO
    · rename_i n X Y hn hX hY; cases hO; exact op_st I hev hinj hs hop hn hX hY h
    · cases hO
  | nilCheck x =>
    simp only [stripO, Option.map_eq_some_iff] at hO
    obtain ⟨X, hX, rfl⟩ := hO
    exact op_nc I hev hop hX h
  | binOp op' t x y yt =>
    simp only [stripO] at hO
    split at hO
    · rename_i c X Y hc hX hY; cases hO; exact good_bin I hev hop hc hX hY h
    · cases hO
  | unOp op' t x =>
    simp only [stripO, Option.map_eq_some_iff] at hO
    obtain ⟨X, hX, rfl⟩ := hO
    exact good_un I hev hop hX h
  | convert src dst x =>
    simp only [stripO] at hO
    split at hO
    · rename_i k0 k X hs' hd hX; cases hO; exact good_cvi I hev hop hs' hd hX h
    · rename_i e0 X hs' hd hX
      split at hO
      · rename_i hu8
        cases hO
        simp only [opV] at h
        split at h
        · rename_i y hy
          split at h
          · rename_i rows tt hr
            split at h
            · rename_i bs hb
              cases h
              exact good_cbs I hev hop hs' hd hu8 hX hy hr hb rfl
            · cases h
          · cases h
        · cases h
      · cases hO
    · cases hO
  | makeFunc fn first caps =>
    cases fn with
    | func f =>
      simp only [stripO] at hO
      split at hO
      · rename_i h0
        obtain ⟨L, hL, rfl⟩ := Option.map_eq_some_iff.1 hO
        simp only [opV] at h
        split at h
        · rename_i C hC
          obtain ⟨v, hv, rfl⟩ := ret0_some h; cases hv
          exact good_mkf I hev hop h0 (hcid f) hL hC rfl
        · cases h
      · cases hO
    | _ => simp [stripO] at hO
  | makeSlice t l c =>
    simp only [stripO] at hO
    split at hO
    · rename_i e0 hu
      split at hO
      · rename_i ti z L C hi hz hL hC
        split at hO
        · rename_i hpos
          cases hO
          simp only [opV] at h
          split at h
          · rename_i ln cp hl hc
            split at h
            · rename_i hcond
              cases h
              exact good_msl I hev hfn hop hu hi hz hpos hL hC hl hc ⟨hcond.1, hcond.2.1⟩ hcond.2.2 rfl
            · cases h
          · cases h
        · cases hO
      · cases hO
    · cases hO
  | slice t x lo hi mx =>
    simp only [stripO] at hO
    split at hO
    · rename_i X LO HI hu hX hLO hHI hMX
      cases hO
      cases mx with
      | none => exact op_sls I hev hop hu hX hLO hHI h
      | some m => simp [stripXo] at hMX
    · rename_i e0 X LO HI MX hu hX hLO hHI hMX
      obtain ⟨n, hn, rfl⟩ := Option.map_eq_some_iff.1 hO
      exact op_sl I hev hop hu hn hX hLO hHI hMX h
    · cases hO
  | fieldAddr t x f =>
    simp only [stripO] at hO
    split at hO
    · rename_i fs X hu hX
      split at hO
      · rename_i fd hf
        split at hO
        · rename_i n hn
          split at hO
          · cases hO
          · rename_i h0; cases hO; exact op_fa I hev hop hu hf hn h0 hX h
        · cases hO
      · cases hO
    · cases hO
  | field t x f =>
    simp only [stripO] at hO
    split at hO
    · rename_i fs X hu hX
      split at hO
      · rename_i fd hf
        split at hO
        · rename_i a n ha hn
          split at hO
          · rename_i h1; cases hO; exact op_fld I hev hop hu hf ha hn h1 hX h
          · cases hO
        · cases hO
      · cases hO
    · cases hO
  | indexAddr t x i =>
    simp only [stripO] at hO
    split at hO
    · rename_i n e0 X J hu hX hJ
      obtain ⟨k, hk, rfl⟩ := Option.map_eq_some_iff.1 hO
      exact op_iaa I hev hop hu hk hX hJ h
    · rename_i e0 X J hu hX hJ
      obtain ⟨k, hk, rfl⟩ := Option.map_eq_some_iff.1 hO
      exact op_ia I hev hop hu hk hX hJ h
    · cases hO
  | index t x i =>
    simp only [stripO] at hO
    split at hO
    · rename_i n e0 X J hu hX hJ
      split at hO
      · rename_i a k ha hk
        split at hO
        · rename_i h1; cases hO; exact op_ixa I hev hop hu ha hk h1 hX hJ h
        · cases hO
      · cases hO
    · rename_i X J hu hX hJ
      cases hO; exact op_ixs I hev hop hu hX hJ h
    · cases hO
  | extract x i =>
    simp only [stripO, Option.map_eq_some_iff] at hO
    obtain ⟨X, hX, rfl⟩ := hO
    exact op_ext I hev hop hX h
  | call c => exact op_builtin I hev hfn hop (fun f => hc c f hop) hO h
  | _ => simp [stripO] at hO

/-- A call of a Go function. -/
theorem op_call (hcall : ∀ f args bs s r, call f args bs s = some r → CallOK P fid G f args bs s r) {c : Call} {f0 : Operand} {op : O} {e : Eff} (ho : o.op = .call c) (hc : c.callee = .value f0) (hO : stripO P cid o.op = some op)
    (h : opV call M G stamp ev H g s op = some e) : ∃ f args, (execOp ρ o).run P κ.w = .ok (.enter f args) κ.w ∧ Calls P f args κ.w fun en w' => ∃ v κ', en = .returned v ∧ κ'.w = w' ∧ κ.le κ' ∧ VRel fid κ' v e.v ∧ Inv fid G E κ' e.H (FN' FN g) (FZ' FZ s) := by
  rw [ho] at hO
  simp only [stripO, stripCall, hc] at hO
  split at hO
  · rename_i F L hF hL
    cases hO
    simp only [opV] at h
    split at h
    · rename_i f caps hf
      have hfr := hev f0 F hF
      rw [hf] at hfr
      obtain ⟨arr, hρ, hsz, hcr⟩ := hfr
      obtain ⟨h1, h2⟩ := map_rel hev hL
      obtain ⟨hent, hcalls⟩ := callV_ok (vs := c.args.toList.map ρ ++ arr.toList) hcall I hinj hs hfn (by simp at h1 ⊢; omega) (fun i x hx => by
        rw [List.getElem?_append] at hx
        split at hx
        · rename_i hi
          obtain ⟨u, hu, q⟩ := h2 i x hx
          exact ⟨u, by rw [List.getElem?_append_left (by rw [h1]; exact hi)]; exact hu, q⟩
        · rename_i hi
          rw [List.getElem?_map] at hx
          obtain ⟨cp, hci, rfl⟩ := Option.map_eq_some_iff.1 hx
          obtain ⟨u, hu, q⟩ := hcr _ cp hci
          refine ⟨u, by rw [List.getElem?_append_right (by rw [h1]; omega), h1]; simpa using hu, ?_⟩
          cases cp with
          | d x => exact q
          | ptr b off => exact q) h
      refine ⟨fid f, (c.args.toList.map ρ ++ arr.toList).toArray, ?_, hcalls⟩
      have hargs : (c.args.toList.map ρ ++ arr.toList).toArray = c.args.map ρ ++ arr := by
        apply Array.ext'; simp
      have he := hent (c.args.map ρ ++ arr) κ.w
      have hρ' : ρ f0 = .func (.func (fid f)) #[] arr := hρ
      rw [hargs]
      simp [execOp, ho, resolve, hc, Deferred.ofValue, hρ', invoke, he]
    · cases h
  · cases hO

/-- Any operation. -/
theorem op_wp (hcid : ∀ f, fid (cid f) = f) (hcall : ∀ f args bs s r, call f args bs s = some r → CallOK P fid G f args bs s r) {op : O} {e : Eff} {a : Act} {K : Act → World → Prop} {Q : Exit → Act → World → Prop} (ha : a.eval = ρ)
    (hO : stripO P cid o.op = some op) (h : opV call M G stamp ev H g s op = some e)
    (hK : ∀ v κ', κ.le κ' → VRel fid κ' v e.v → Inv fid G E κ' e.H (FN' FN g) (FZ' FZ s) → K (a.put o.dst v) κ'.w) : o.wp P a κ.w K Q := by
  by_cases hc : ∃ c f, o.op = .call c ∧ c.callee = .value f
  · obtain ⟨c, f, ho, hcv⟩ := hc
    obtain ⟨f', args, hrun, hcalls⟩ := op_call I hev hfn hinj hs hcall ho hcv hO h
    unfold Oper.wp
    rw [ha, hrun]
    show Calls P f' args κ.w _
    refine hcalls.mono ?_
    rintro en w' ⟨v, κ', rfl, rfl, h1, h2, h3⟩
    exact hK v κ' h1 h2 h3
  · have hc' : ∀ c f, o.op = .call c → c.callee ≠ .value f := fun c f h1 h2 => hc ⟨c, f, h1, h2⟩
    obtain ⟨n, v, κ', hrun, hn, h1, h2, h3⟩ := op_good I hev hfn hinj hs hcid hc' hO h
    unfold Oper.wp
    rw [ha, hrun]
    rcases hn with rfl | ⟨rfl, rfl⟩
    · exact hK v κ' h1 h2 h3
    · exact hK undef κ' h1 h2 h3

end ops
end
end Go.VM
