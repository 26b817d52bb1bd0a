/- The value machine: a call keeps the frame. Conditions: none. -/
import Derived.Test.YthkednnfadhidaaVM15
namespace Go.VM
set_option linter.unusedVariables false
set_option linter.unusedSimpArgs false
set_option linter.unusedSectionVars false

section
variable {P : Program} {fid : Nat → FuncId} {cid : FuncId → Nat} {G : Nat → Option (List D)} {E : Entry} {κ : Ctx} {H : Nat → Box} {FN FZ : Nat → Prop} {g : Nat} {s : Sup}

theorem getD_map_box {ns : List Nat} {F : Nat → Box} {k : Nat} (hk : k < ns.length) : (ns.map F).getD k .dead = F (ns.getD k 0) := by
  rw [List.getD_eq_getElem?_getD, List.getElem?_map, List.getElem?_eq_getElem hk, getD_lt hk]; rfl
theorem getD_ge {l : List Box} {k : Nat} (hk : l.length ≤ k) : l.getD k .dead = .dead := by
  rw [List.getD_eq_getElem?_getD, List.getElem?_eq_none hk]; rfl

theorem Inv.live_lt (I : Inv fid G E κ H FN FZ) {b : Nat} {i : Inf} (hd : H b ≠ .dead) (hb : κ.β b = some i) (hr : i.real = true) : i.blk < κ.w.heap.size := by
  have := I.box b
  revert this hd
  cases H b with
  | dead => intro hd; exact absurd rfl hd
  | cells cs => rintro _ ⟨i', arr', T', hb', _, _, hheap, _⟩; rw [hb] at hb'; cases hb'; exact lt_of_heap hheap
  | row st sz rows ro =>
    rintro _ ⟨i', hb', _, _, hx | ⟨arr', T', q⟩⟩ <;> (rw [hb] at hb'; cases hb')
    · rw [hx.1] at hr; cases hr
    · exact lt_of_heap q.heap

/-- The call itself, its arguments ready. -/
theorem call_core {call : CallT} (hcall : ∀ f args bs s r, call f args bs s = some r → CallOK P fid G f args bs s r) {f : Nat} {args : List V} {vs : List Value} {ns : List Nat} {r : Res}
    (I : Inv fid G E κ H FN FZ) (hinj : ∀ a b, s a = s b → a = b) (hs : ∀ k, FZ (s k)) (hfn : ∀ n, g ≤ n → n < g + 64 → FN n)
    (hl : vs.length = args.length) (hr : ∀ (i : Nat) (x : V), args[i]? = some x → ∃ v : Value, vs[i]? = some v ∧ VRel fid κ v x)
    (hns : ns.Nodup) (hargs : ∀ x ∈ args, ∀ n ∈ x.names, n ∈ ns) (hknown : ∀ n ∈ ns, ∃ i, κ.β n = some i) (hclosed : closed H ns = true)
    (hc : call f (args.map (V.ren (idx ns))) (ns.map fun b => (H b).ren (idx ns)) s = some r) (hlen : r.bs.length = ns.length) (hnew : r.news.length ≤ 64)
    {σ : Nat → Nat} (hσ : σ = fun k => if k < ns.length then ns.getD k 0 else g + (k - ns.length)) :
    Enters P (fid f) ∧ Calls P (fid f) vs.toArray κ.w fun e w' => ∃ v κ', e = .returned v ∧ κ'.w = w' ∧ κ.le κ' ∧ VRel fid κ' v (r.v.ren σ) ∧
      Inv fid G E κ' (updL H ((ns.zip (r.bs.map (Box.ren σ))) ++ ((List.range r.news.length).map (g + ·)).zip (r.news.map (Box.ren σ)))) (FN' FN g) (fun z => FZ z ∧ ∀ k, z ≠ s k) := by
  obtain ⟨hent, hok⟩ := hcall _ _ _ _ _ hc
  refine ⟨hent, ?_⟩
  have hcl : ∀ b ∈ ns, ∀ n ∈ (H b).names, n ∈ ns := fun b hb n hn => by
    have := hclosed
    simp only [closed, List.all_eq_true] at this
    simpa using this b hb n hn
  let κ₂ : Ctx := { κ with β := fun k => if k < ns.length then κ.β (ns.getD k 0) else none }
  let bs := ns.map fun b => (H b).ren (idx ns)
  have hbsl : bs.length = ns.length := by simp [bs]
  have hβ₂ : ∀ n ∈ ns, κ₂.β (idx ns n) = κ.β n := fun n hn => by
    show (if idx ns n < ns.length then κ.β (ns.getD (idx ns n) 0) else none) = _
    rw [if_pos (idx_lt hn), idx_get hn]
  have hβk : ∀ k, k < ns.length → κ₂.β k = κ.β (ns.getD k 0) := fun k hk => if_pos hk
  have hmem : ∀ k, k < ns.length → ns.getD k 0 ∈ ns := fun k hk => by rw [getD_lt hk]; exact List.getElem_mem hk
  have hbsget : ∀ k, k < ns.length → bs.getD k .dead = (H (ns.getD k 0)).ren (idx ns) := fun k hk => getD_map_box hk
  have hbslive : ∀ k, bs.getD k .dead ≠ .dead → k < ns.length ∧ H (ns.getD k 0) ≠ .dead := fun k hk => by
    rcases Nat.lt_or_ge k ns.length with h | h
    · refine ⟨h, fun e => hk ?_⟩
      rw [hbsget k h, e]; rfl
    · exact absurd (getD_ge (by rw [hbsl]; exact h)) hk
  have hpass : ∀ b, passOf κ₂ bs b → ∃ n i, n ∈ ns ∧ H n ≠ .dead ∧ κ.β n = some i ∧ i.real = true ∧ i.blk = b := by
    rintro b ⟨k, i, hk, hb, hreal, rfl⟩
    obtain ⟨hk1, hk2⟩ := hbslive k hk
    exact ⟨_, i, hmem k hk1, hk2, by rw [← hβk k hk1]; exact hb, hreal, rfl⟩
  have hIn : In fid G κ₂ bs s := by
    refine ⟨I.imlt, I.zlt, I.zinj, fun k => ⟨(I.zfree _ (hs k)).1, (I.zfree _ (hs k)).2.1⟩, hinj, fun b hb => if_neg (by rw [hbsl] at hb; omega), fun b hb => ?_, fun b => ?_, ?_, I.glob⟩
    · rw [hbsl] at hb
      rw [hβk b hb]; exact hknown _ (hmem b hb)
    · rcases Nat.lt_or_ge b ns.length with h | h
      · rw [hbsget b h]
        exact (I.box _).ren (fun n hn => hβ₂ n (hcl _ (hmem b h) n hn)) (hβk b h)
      · rw [getD_ge (by rw [hbsl]; exact h)]; trivial
    · intro b b' i i' hne hd hd' hb hb' hreal hreal'
      obtain ⟨h1, h2⟩ := hbslive b hd
      obtain ⟨h1', h2'⟩ := hbslive b' hd'
      rw [hβk b h1] at hb
      rw [hβk b' h1'] at hb'
      refine I.dist _ _ i i' (fun e => hne ?_) h2 h2' hb hb' hreal hreal'
      rw [← idx_at hns h1, ← idx_at hns h1', e]
  refine (hok κ₂ vs hIn (by simpa using hl) (fun i x hx => ?_)).mono ?_
  · rw [List.getElem?_map] at hx
    cases hxi : args[i]? with
    | none => simp [hxi] at hx
    | some y =>
      simp [hxi] at hx; subst hx
      obtain ⟨v, hv, q⟩ := hr i y hxi
      exact ⟨v, hv, q.ren (fun n hn => hβ₂ n (hargs y (List.mem_of_getElem? hxi) n hn))⟩
  · rintro en w' ⟨v, κ₃, rfl, rfl, O⟩
    let β₄ : Nat → Option Inf := fun n => if g ≤ n ∧ n < g + r.news.length then κ₃.β (ns.length + (n - g)) else κ.β n
    let κ₄ : Ctx := { κ₃ with β := β₄ }
    have hfresh : ∀ n, g ≤ n → n < g + r.news.length → κ.β n = none := fun n h1 h2 => I.nfree n (hfn n h1 (by omega))
    have hold : ∀ n i, κ.β n = some i → β₄ n = κ.β n := fun n i hn => if_neg (fun h => by rw [hfresh n h.1 h.2] at hn; cases hn)
    have hnsold : ∀ n ∈ ns, β₄ n = κ.β n := fun n hn => by obtain ⟨i, hi⟩ := hknown n hn; exact hold n i hi
    have hnsne : ∀ n ∈ ns, ¬ (g ≤ n ∧ n < g + r.news.length) := fun n hn h => by obtain ⟨i, hi⟩ := hknown n hn; rw [hfresh n h.1 h.2] at hi; cases hi
    have hσ1 : ∀ k, k < ns.length → σ k = ns.getD k 0 := fun k hk => by rw [hσ]; exact if_pos hk
    have hσ2 : ∀ k, ns.length ≤ k → σ k = g + (k - ns.length) := fun k hk => by rw [hσ]; exact if_neg (by omega)
    have hβσ : ∀ k i, κ₃.β k = some i → β₄ (σ k) = κ₃.β k := by
      intro k i hk
      rcases Nat.lt_or_ge k ns.length with h | h
      · rw [hσ1 k h, hnsold _ (hmem k h), O.bsame k (by rw [hbsl]; exact h), hβk k h]
      · have hlt : k < ns.length + r.news.length := by
          rcases Nat.lt_or_ge k (ns.length + r.news.length) with h' | h'
          · exact h'
          · rw [O.dom k (by rw [hbsl]; exact h')] at hk; cases hk
        rw [hσ2 k h]
        show (if g ≤ g + (k - ns.length) ∧ g + (k - ns.length) < g + r.news.length then κ₃.β (ns.length + (g + (k - ns.length) - g)) else κ.β _) = _
        rw [if_pos ⟨by omega, by omega⟩]; congr 1; omega
    have hle : κ.le κ₄ := ⟨O.le.size, O.le.im, O.le.cell, O.le.z, fun n i hn => (hold n i hn).trans hn⟩
    -- the boxes afterwards
    let L := (ns.zip (r.bs.map (Box.ren σ))) ++ ((List.range r.news.length).map (g + ·)).zip (r.news.map (Box.ren σ))
    have hkeys : L.map (·.1) = ns ++ (List.range r.news.length).map (g + ·) := by
      simp only [L, List.map_append]
      rw [List.map_fst_zip (by simp [hlen]), List.map_fst_zip (by simp)]
    have hkn : (L.map (·.1)).Nodup := by
      rw [hkeys]
      refine List.nodup_append.2 ⟨hns, ?_, ?_⟩
      · exact List.pairwise_map.2 (List.nodup_range.imp (fun h => by omega))
      · intro a ha b hb e
        subst e
        obtain ⟨k, hk, rfl⟩ := List.mem_map.1 hb
        exact hnsne _ ha ⟨by omega, by have := List.mem_range.1 hk; omega⟩
    have hat : ∀ k, k < ns.length + r.news.length → updL H L (σ k) = ((r.bs ++ r.news).getD k .dead).ren σ := by
      intro k hk
      refine updL_mem hkn ?_
      rcases Nat.lt_or_ge k ns.length with h | h
      · refine List.mem_append_left _ ?_
        rw [hσ1 k h]
        refine List.mem_iff_getElem?.2 ⟨k, ?_⟩
        rw [List.getElem?_zip_eq_some]
        refine ⟨by rw [getD_lt h]; exact List.getElem?_eq_getElem h, ?_⟩
        show (r.bs.map (Box.ren σ))[k]? = some (((r.bs ++ r.news).getD k .dead).ren σ)
        rw [List.getElem?_map, List.getD_eq_getElem?_getD, List.getElem?_append_left (by omega), List.getElem?_eq_getElem (by omega)]; rfl
      · refine List.mem_append_right _ ?_
        rw [hσ2 k h]
        refine List.mem_iff_getElem?.2 ⟨k - ns.length, ?_⟩
        rw [List.getElem?_zip_eq_some]
        refine ⟨?_, ?_⟩
        · rw [List.getElem?_map, List.getElem?_range (by omega)]; rfl
        · show (r.news.map (Box.ren σ))[k - ns.length]? = some (((r.bs ++ r.news).getD k .dead).ren σ)
          rw [List.getElem?_map, List.getD_eq_getElem?_getD, List.getElem?_append_right (by omega), hlen, List.getElem?_eq_getElem (by omega)]; rfl
    have hother : ∀ n, n ∉ ns → ¬ (g ≤ n ∧ n < g + r.news.length) → updL H L n = H n := by
      intro n h1 h2
      refine updL_not (fun p hp e => ?_)
      have : p.1 ∈ L.map (·.1) := List.mem_map.2 ⟨p, hp, rfl⟩
      rw [hkeys, e] at this
      rcases List.mem_append.1 this with h | h
      · exact h1 h
      · obtain ⟨k, hk, rfl⟩ := List.mem_map.1 h
        exact h2 ⟨by omega, by have := List.mem_range.1 hk; omega⟩
    have hcase : ∀ n, (∃ k, k < ns.length + r.news.length ∧ n = σ k) ∨ (n ∉ ns ∧ ¬ (g ≤ n ∧ n < g + r.news.length)) := by
      intro n
      by_cases h1 : n ∈ ns
      · left; exact ⟨idx ns n, by have := idx_lt h1; omega, by rw [hσ1 _ (idx_lt h1), idx_get h1]⟩
      · by_cases h2 : g ≤ n ∧ n < g + r.news.length
        · left; exact ⟨ns.length + (n - g), by omega, by rw [hσ2 _ (by omega)]; omega⟩
        · exact .inr ⟨h1, h2⟩
    have hβother : ∀ n, n ∉ ns → ¬ (g ≤ n ∧ n < g + r.news.length) → β₄ n = κ.β n := fun n _ h2 => if_neg h2
    have hEpass : ∀ b, passOf κ₂ bs b → E.κ.w.heap.size ≤ b ∨ E.pass b := fun b hb => by
      obtain ⟨n, i, hn, hd, hi, hreal, rfl⟩ := hpass b hb
      exact I.blk n i hd hi hreal
    have hnopass : ∀ n i, n ∉ ns → H n ≠ .dead → κ.β n = some i → i.real = true → ¬ passOf κ₂ bs i.blk := fun n i hn hd hi hreal hp => by
      obtain ⟨n', i', hn', hd', hi', hreal', he⟩ := hpass _ hp
      exact I.dist n' n i' i (fun e => hn (e ▸ hn')) hd' hd hi' hi hreal' hreal he
    have hlive : ∀ k, k < ns.length + r.news.length → updL H L (σ k) ≠ .dead → (r.bs ++ r.news).getD k .dead ≠ .dead := fun k hk hd e => hd (by rw [hat k hk, e]; rfl)
    refine ⟨v, κ₄, rfl, rfl, hle, ?_, ?_⟩
    · exact O.v.ren (fun n hn => by obtain ⟨i, hi⟩ := vNames_known O.v n hn; exact hβσ n i hi)
    · refine ⟨I.le.trans hle, O.os.trans I.os, O.tape.trans I.tape, O.output.trans I.output, ?_, ?_, O.imlt, O.zlt, O.zinj, ?_, ?_, ?_, ?_, ?_, ?_, I.glob.mono hle⟩
      · intro k hk hp
        refine (O.same k (Nat.lt_of_lt_of_le hk I.le.size) (fun h => ?_)).trans (I.same k hk hp)
        rcases hEpass k h with h | h
        · omega
        · exact hp h
      · intro k o h
        rcases O.im k o h with h | h | h
        · exact I.im k o h
        · right; left; have := I.le.size; exact Nat.le_trans this h
        · exact .inr (hEpass k h)
      · intro t b h
        rcases O.znew t b h with h1 | ⟨⟨k, hk⟩, h2⟩
        · exact I.znew t b h1
        · right
          refine ⟨by rw [hk]; exact (I.zfree _ (hs k)).2.2, ?_⟩
          rcases h2 with h3 | h3
          · left; exact Nat.le_trans I.le.size h3
          · exact hEpass b h3
      · rintro z ⟨hz, hz'⟩
        refine ⟨?_, (I.zfree z hz).2⟩
        show κ₃.ζ z = none
        rcases hq : κ₃.ζ z with _ | b
        · rfl
        · rcases O.znew z b hq with h | ⟨⟨k, hzk⟩, _⟩
          · have := (I.zfree z hz).1; rw [show κ.ζ z = some b from h] at this; cases this
          · exact absurd hzk (hz' k)
      · intro n hn
        show β₄ n = none
        rw [show β₄ n = κ.β n from if_neg (fun h => hn.2 ⟨h.1, by omega⟩)]
        exact I.nfree n hn.1
      · intro n i hd hi hreal
        rcases hcase n with ⟨k, hk, rfl⟩ | ⟨h1, h2⟩
        · have hki : κ₃.β k = some i := by
            cases hq : κ₃.β k with
            | none =>
              have hb := O.box k
              have hl := hlive k hk hd
              revert hb hl
              cases (r.bs ++ r.news).getD k .dead with
              | dead => intro _ h; exact absurd rfl h
              | cells cs => rintro ⟨_, _, _, hb', _⟩; rw [hq] at hb'; cases hb'
              | row st sz rows ro => rintro ⟨_, hb', _⟩; rw [hq] at hb'; cases hb'
            | some j =>
              have := hβσ k j hq
              rw [show κ₄.β (σ k) = β₄ (σ k) from rfl, this, hq] at hi; exact hi
          rcases O.blk k i (hlive k hk hd) hki hreal with h | h
          · left; exact Nat.le_trans I.le.size h
          · exact hEpass _ h
        · rw [hother n h1 h2] at hd
          exact I.blk n i hd (by rw [← hβother n h1 h2]; exact hi) hreal
      · intro n
        rcases hcase n with ⟨k, hk, rfl⟩ | ⟨h1, h2⟩
        · show BoxRel fid κ₄ (σ k) (updL H L (σ k))
          rw [hat k hk]
          have hb := O.box k
          cases hq : κ₃.β k with
          | some i => exact hb.ren (fun n hn => by obtain ⟨i', hi'⟩ := bNames_known hb n hn; exact hβσ n i' hi') (hβσ k i hq)
          | none =>
            revert hb
            cases (r.bs ++ r.news).getD k .dead with
            | dead => intro _; trivial
            | cells cs => rintro ⟨_, _, _, hb', _⟩; rw [hq] at hb'; cases hb'
            | row st sz rows ro => rintro ⟨_, hb', _⟩; rw [hq] at hb'; cases hb'
        · show BoxRel fid κ₄ n (updL H L n)
          rw [hother n h1 h2]
          refine (I.box n).keep hle (fun j hd hj hreal => ?_)
          have hnp := hnopass n j h1 hd hj hreal
          have hlt := I.live_lt hd hj hreal
          refine ⟨O.same _ hlt hnp, fun o h => ?_, fun t h => ?_⟩
          · rcases O.im _ o h with h | h | h
            · exact h
            · exact absurd hlt (Nat.not_lt.2 h)
            · exact absurd h hnp
          · rcases O.znew t _ h with h | ⟨_, h | h⟩
            · exact h
            · exact absurd hlt (Nat.not_lt.2 h)
            · exact absurd h hnp
      · intro n n' i i' hne hd hd' hi hi' hreal hreal'
        have hinfo : ∀ k i, k < ns.length + r.news.length → updL H L (σ k) ≠ .dead → κ₄.β (σ k) = some i → κ₃.β k = some i := by
          intro k i hk hd hi
          cases hq : κ₃.β k with
          | none =>
            have hb := O.box k
            have hl := hlive k hk hd
            revert hb hl
            cases (r.bs ++ r.news).getD k .dead with
            | dead => intro _ h; exact absurd rfl h
            | cells cs => rintro ⟨_, _, _, hb', _⟩; rw [hq] at hb'; cases hb'
            | row st sz rows ro => rintro ⟨_, hb', _⟩; rw [hq] at hb'; cases hb'
          | some j =>
            have := hβσ k j hq
            rw [show κ₄.β (σ k) = β₄ (σ k) from rfl, this, hq] at hi; exact hi
        have cross : ∀ k m i j, k < ns.length + r.news.length → updL H L (σ k) ≠ .dead → κ₄.β (σ k) = some i → i.real = true → m ∉ ns → ¬ (g ≤ m ∧ m < g + r.news.length) → updL H L m ≠ .dead → κ₄.β m = some j → j.real = true → i.blk ≠ j.blk := by
          intro k m i j hk hd hi hreal h1 h2 hdm hj hrealj e
          have hki := hinfo k i hk hd hi
          rw [hother m h1 h2] at hdm
          have hj' : κ.β m = some j := by rw [← hβother m h1 h2]; exact hj
          have hlt := I.live_lt hdm hj' hrealj
          rcases O.blk k i (hlive k hk hd) hki hreal with h | h
          · have h' : κ.w.heap.size ≤ i.blk := h; omega
          · rw [e] at h; exact hnopass m j h1 hdm hj' hrealj h
        rcases hcase n with ⟨k, hk, rfl⟩ | ⟨h1, h2⟩ <;> rcases hcase n' with ⟨k', hk', rfl⟩ | ⟨h1', h2'⟩
        · exact O.dist k k' i i' (fun e => hne (by rw [e])) (hlive k hk hd) (hlive k' hk' hd') (hinfo k i hk hd hi) (hinfo k' i' hk' hd' hi') hreal hreal'
        · exact cross k n' i i' hk hd hi hreal h1' h2' hd' hi' hreal'
        · exact fun e => cross k' n i' i hk' hd' hi' hreal' h1 h2 hd hi hreal e.symm
        · have hd1 : updL H L n ≠ .dead := hd
          have hd1' : updL H L n' ≠ .dead := hd'
          rw [hother n h1 h2] at hd1
          rw [hother n' h1' h2'] at hd1'
          exact I.dist n n' i i' hne hd1 hd1' (by rw [← hβother n h1 h2]; exact hi) (by rw [← hβother n' h1' h2']; exact hi') hreal hreal'


theorem frzW_names {stamp : Bool} {z z' : Fz} {x y : W} (h : frzW stamp s z x = some (y, z')) : ∀ n ∈ y.names, n ∈ x.names := by
  intro n hn
  cases x with
  | own b off len cap =>
    simp only [frzW] at h
    split at h
    · split at h
      · cases h; simp [W.names] at hn
      · cases h
    · cases h
  | nil => cases h; simp [W.names] at hn
  | ln a b => cases h; simp [W.names] at hn
  | _ => cases h; exact hn

/-- A call, its arguments frozen first. -/
theorem callV_ok {call : CallT} {M : Nat → Mode} {stamp : Bool} (hcall : ∀ f args bs s r, call f args bs s = some r → CallOK P fid G f args bs s r) {f : Nat} {args : List V} {vs : List Value} {e : Eff}
    (I : Inv fid G E κ H FN FZ) (hinj : ∀ a b, s a = s b → a = b) (hs : ∀ k, FZ (s k)) (hfn : ∀ n, g ≤ n → n < g + 64 → FN n)
    (hl : vs.length = args.length) (hr : ∀ (i : Nat) (x : V), args[i]? = some x → ∃ v : Value, vs[i]? = some v ∧ VRel fid κ v x)
    (h : callV call M stamp H g s f args = some e) :
    Enters P (fid f) ∧ Calls P (fid f) vs.toArray κ.w fun en w' => ∃ v κ', en = .returned v ∧ κ'.w = w' ∧ κ.le κ' ∧ VRel fid κ' v e.v ∧ Inv fid G E κ' e.H (FN' FN g) (FZ' FZ s) := by
  unfold callV at h
  split at h
  · cases h
  · rename_i args' z hz
    -- the arguments, frozen or not
    obtain ⟨κ₁, hw, hle, hI, hl', hr'⟩ : ∃ κ₁ : Ctx, κ₁.w = κ.w ∧ κ.le κ₁ ∧ Inv fid G E κ₁ z.H FN (fun t => FZ t ∧ ∀ k, t ≠ s (2 * k)) ∧ vs.length = args'.length ∧
        ∀ (i : Nat) (x : V), args'[i]? = some x → ∃ v : Value, vs[i]? = some v ∧ VRel fid κ₁ v x := by
      split at hz
      · cases hz
        exact ⟨κ, rfl, Ctx.le.refl κ, I.weak (fun _ h => h) (fun t h => h.1), hl, hr⟩
      · obtain ⟨κ₁, F, h1, h2⟩ := frzA_ok (FN := FN) (FZ := FZ) (s := fun k => s (2 * k)) (fun a b e => by have := hinj _ _ e; omega) (fun k => hs _) (z := ⟨H, 0, []⟩) (vs := vs) (I.weak (fun _ h => h) (fun t h => h.1)) hl hr hz
        exact ⟨κ₁, F.w, F.le, F.inv.weak (fun _ h => h) (fun t h => ⟨h.1, fun k _ => h.2 k⟩), h1, h2⟩
    dsimp only at h
    split at h
    · cases h
    · rename_i r hc
      split at h
      · rename_i hcond
        cases h
        obtain ⟨hlen, hnew, hclosed⟩ := hcond
        have hknown : ∀ n ∈ reach z.H 4 (addAll [] (args'.flatMap V.names)), ∃ i, κ₁.β n = some i := by
          intro n hn
          rcases reach_mem hn with h | ⟨b, hb⟩
          · rcases mem_addAll.1 h with h | h
            · cases h
            · obtain ⟨x, hx, hn⟩ := List.mem_flatMap.1 h
              obtain ⟨k, hk⟩ := List.mem_iff_getElem?.1 hx
              obtain ⟨v, _, q⟩ := hr' k x hk
              exact vNames_known q n hn
          · exact bNames_known (hI.box b) n hb
        have core := call_core (s := fun k => s (2 * k + 1)) hcall hI (fun a b e => by have := hinj _ _ e; omega) (fun k => ⟨hs _, fun j e => by have := hinj _ _ e; omega⟩) hfn hl' hr' (reach_nodup (nodup_addAll List.nodup_nil))
          (fun x hx n hn => reach_sub (mem_addAll.2 (.inr (List.mem_flatMap.2 ⟨x, hx, hn⟩)))) hknown hclosed hc hlen hnew rfl
        refine ⟨core.1, ?_⟩
        have := core.2
        rw [hw] at this
        refine this.mono ?_
        rintro en w' ⟨v, κ', h1, h2, h3, h4, h5⟩
        refine ⟨v, κ', h1, h2, hle.trans h3, h4, h5.weak (fun n h => h) (fun t ht => ⟨⟨ht.1, fun k => ht.2 _⟩, fun k => ht.2 _⟩)⟩
      · cases h

end
end Go.VM
