/- The value machine: a call that borrows its slices: they are read as data and are one's own again behind it. Conditions: none. -/
import Derived.Test.YtfpkfcfiihfopaaDoorXVMC

namespace Go.VM
set_option linter.unusedVariables false
set_option linter.unusedSimpArgs false
def D.flat : D → Bool
 | .s _ => true
 | .l _ _ => false
def W.flat : W → Bool
 | .d (.s _) => true
 | .nil => true
 | .own _ _ _ _ => true
 | _ => false
def V.flat : V → Bool
 | .w x => x.flat
 | .agg cs => cs.all W.flat
 | .tup vs => vs.all fun p => p.2.all W.flat
def cleanB : Box → Option Box
 | .row _ sz rows _ => if rows.all (fun r => r.all D.flat) then some (.row none sz rows 0) else none
 | .dead => some .dead
 | _ => none
def cleanL : List Box → Option (List Box)
 | [] => some []
 | b :: r => match cleanB b, cleanL r with | some x, some l => some (x :: l) | _, _ => none
def brw (call : CallT) : CallT := fun f args bs s =>
 match frzA false (fun k => s (2 * k)) ⟨fun b => bs.getD b .dead, 0, []⟩ args with
 | none => none
 | some (args', _) =>
  if args'.all (fun x => x.names.isEmpty) then
   match call f args' [] (fun k => s (2 * k + 1)) with
   | none => none
   | some r => match cleanL r.news with
    | none => none
    | some news => if r.bs.isEmpty && r.v.flat then some ⟨r.v.ren (fun k => k + bs.length), bs, news⟩ else none
  else none
section
variable {P : Program} {fid : Nat → FuncId} {G : Nat → Option (List D)} {κ κ' : Ctx}
theorem cleanL_len : ∀ {l m : List Box}, cleanL l = some m → m.length = l.length
 | [], m, h => by simp [cleanL] at h; subst h; rfl
 | b :: r, m, h => by
  simp only [cleanL] at h; split at h
  · rename_i x l hx hl
    cases h
    simp [cleanL_len hl]
  · cases h
theorem cleanL_get : ∀ {l m : List Box}, cleanL l = some m → ∀ k, cleanB (l.getD k .dead) = some (m.getD k .dead)
 | [], m, h, k => by simp [cleanL] at h; subst h; simp [cleanB]
 | b :: r, m, h, k => by
  simp only [cleanL] at h; split at h
  · rename_i x l hx hl
    cases h
    cases k with
    | zero => simpa using hx
    | succ k => simpa using cleanL_get hl k
  · cases h
theorem WRel.flat {v : Value} {x : W} (h : WRel fid κ v x) (hf : x.flat = true) {β' : Nat → Option Inf} {r : Nat → Nat} {w' : World} {Im' : Nat → Nat → Prop} {ζ' : Nat → Option Nat} (hr : ∀ n ∈ x.names, β' (r n) = κ.β n) : WRel fid ⟨w', Im', ζ', β'⟩ v (x.ren r) := by
 cases x with
 | d x =>
  cases x with
  | s u => cases h with | s _ hv => exact .s _ hv
  | l a b => simp [W.flat] at hf
 | nil => exact h
 | own b off len cap => obtain ⟨i, c, hi, h⟩ := h; exact ⟨i, c, by rw [← hi]; exact hr b (by simp [W.names]), h⟩
 | _ => simp [W.flat] at hf
theorem LRel.flat {arr : Array Value} {cs : List W} (h : LRel fid κ arr cs) (hf : cs.all W.flat = true) {β' : Nat → Option Inf} {r : Nat → Nat} {w' : World} {Im' : Nat → Nat → Prop} {ζ' : Nat → Option Nat} (hr : ∀ n ∈ wnames cs, β' (r n) = κ.β n) : LRel fid ⟨w', Im', ζ', β'⟩ arr (cs.map (W.ren r)) := by
 refine ⟨by simpa using h.1, fun i c hc => ?_⟩
 rw [List.getElem?_map] at hc; cases hci : cs[i]? with
 | none => simp [hci] at hc
 | some c' =>
  simp [hci] at hc; subst hc
  obtain ⟨y, hy, q⟩ := h.2 i c' hci; exact ⟨y, hy, q.flat (List.all_eq_true.1 hf _ (List.mem_of_getElem? hci)) (fun n hn => hr n (by simp only [wnames, List.mem_flatMap]; exact ⟨c', List.mem_of_getElem? hci, hn⟩))⟩
theorem VRel.flat {v : Value} {x : V} (h : VRel fid κ v x) (hf : x.flat = true) {β' : Nat → Option Inf} {r : Nat → Nat} {w' : World} {Im' : Nat → Nat → Prop} {ζ' : Nat → Option Nat} (hr : ∀ n ∈ x.names, β' (r n) = κ.β n) : VRel fid ⟨w', Im', ζ', β'⟩ v (x.ren r) := by
 cases x with
 | w x => exact WRel.flat h hf hr
 | agg cs => obtain ⟨arr, hv, h⟩ := h; exact ⟨arr, hv, h.flat hf hr⟩
 | tup vs =>
  obtain ⟨arr, hv, hs, h⟩ := h; refine ⟨arr, hv, by simpa using hs, fun i p hp => ?_⟩
  rw [List.getElem?_map] at hp; cases hpi : vs[i]? with
  | none => simp [hpi] at hp
  | some p' =>
   simp [hpi] at hp; subst hp
   obtain ⟨y, hy, q⟩ := h i p' hpi; refine ⟨y, hy, ?_⟩
   have hfp : p'.2.all W.flat = true := List.all_eq_true.1 hf _ (List.mem_of_getElem? hpi); have hrn : ∀ n ∈ wnames p'.2, β' (r n) = κ.β n := fun n hn => hr n (by simp only [V.names, List.mem_flatMap]; exact ⟨p', List.mem_of_getElem? hpi, hn⟩)
   obtain ⟨b, cs⟩ := p'; cases b with
   | true => obtain ⟨arr, hv, q⟩ := q; exact ⟨arr, hv, q.flat hfp hrn⟩
   | false =>
    match cs, q, hfp, hrn with
    | [x], q, hfp, hrn => exact WRel.flat q (by simpa using hfp) (fun n hn => hrn n (by simpa [wnames] using hn))
theorem RowsAt.flat {arr : Array Value} {δ sz : Nat} {rows : List (List D)} (h : RowsAt κ arr δ sz rows) (hf : rows.all (fun r => r.all D.flat) = true) : RowsAt κ' arr δ sz rows := by
 intro i row hi j x hj; obtain ⟨y, hy, q⟩ := h i row hi j x hj; refine ⟨y, hy, ?_⟩
 have h1 := List.all_eq_true.1 hf _ (List.mem_of_getElem? hi); have h2 := List.all_eq_true.1 h1 _ (List.mem_of_getElem? hj); cases x with
 | s u => cases q with | s _ hv => exact .s _ hv
 | l a b => simp [D.flat] at h2
theorem Cap.ren_same (c : Cap) : c.ren (fun n => n) = c := by cases c <;> rfl
theorem W.ren_same (x : W) : x.ren (fun n => n) = x := by
 cases x with
 | fn f caps =>
  show W.fn f (caps.map (Cap.ren fun n => n)) = _
  rw [show (Cap.ren fun n => n) = id from funext Cap.ren_same, List.map_id]
 | _ => rfl
theorem V.ren_same (x : V) : x.ren (fun n => n) = x := by
 have hw : (W.ren fun n => n) = id := funext W.ren_same; cases x with
 | w x => show V.w (x.ren _) = _; rw [W.ren_same]
 | agg cs => show V.agg (cs.map _) = _; rw [hw, List.map_id]
 | tup vs =>
  show V.tup (vs.map fun p => (p.1, p.2.map (W.ren fun n => n))) = _
  rw [hw]; simp
theorem brw_ok {call : CallT} (hcall : ∀ f args bs s r, call f args bs s = some r → CallOK P fid G f args bs s r) :
 ∀ f args bs s r, brw call f args bs s = some r → CallOK P fid G f args bs s r := by
 intro f args bs s r h; unfold brw at h; split at h
 · cases h
 · rename_i args' z hz
   split at h
   · rename_i hnm
     split at h
     · cases h
     · rename_i r0 hr0
       split at h
       · cases h
       · rename_i news hnews
         split at h
         · rename_i hc
           cases h
           simp only [Bool.and_eq_true, List.isEmpty_iff] at hc; obtain ⟨hbs, hflat⟩ := hc; obtain ⟨hent, hok⟩ := hcall _ _ _ _ _ hr0; refine ⟨hent, fun κ vs hIn hl hr => ?_⟩
           let E : Entry := ⟨κ, fun t => ∃ k, t = s k, passOf κ bs⟩
           have I0 : Inv fid G E κ (fun b => bs.getD b .dead) (fun b => bs.length ≤ b) (fun t => ∃ k, t = s k) :=
            ⟨Ctx.le.refl κ, rfl, rfl, rfl, fun _ _ _ => rfl, fun _ _ h => .inl h, hIn.imlt, hIn.zlt, hIn.zinj, fun _ _ h => .inl h,
             fun t ht => by obtain ⟨k, rfl⟩ := ht; exact ⟨(hIn.zfree k).1, (hIn.zfree k).2, k, rfl⟩, fun b hb => hIn.dom b hb, fun b i hd hb hre => .inr ⟨b, i, hd, hb, hre, rfl⟩, hIn.box, hIn.dist, hIn.glob⟩
           obtain ⟨κ₁, F, h1, h2⟩ := frzA_ok (s := fun k => s (2 * k)) (fun a b e => by have := hIn.sinj _ _ e; omega) (fun k => ⟨2 * k, rfl⟩) (z := ⟨fun b => bs.getD b .dead, 0, []⟩) (vs := vs) (I0.weak (fun _ h => h) (fun t h => h.1)) hl hr hz
           let κ₂ : Ctx := { κ₁ with β := fun _ => none }
           have hIn2 : In fid G κ₂ [] (fun k => s (2 * k + 1)) := by
            refine ⟨F.inv.imlt, F.inv.zlt, F.inv.zinj, fun k => ?_, fun a b e => by have := hIn.sinj _ _ e; omega, fun _ _ => rfl, fun _ h => by simp at h, fun b => by simp [BoxRel], fun _ _ _ _ _ h => by simp at h, F.inv.glob⟩
            have := F.inv.zfree (s (2 * k + 1)) ⟨⟨2 * k + 1, rfl⟩, fun j _ e => by have := hIn.sinj _ _ e; omega⟩; exact ⟨this.1, this.2.1⟩
           have hpn : ∀ b, ¬ passOf κ₂ [] b := fun b hb => by obtain ⟨n, i, hd, _⟩ := hb; simp at hd
           have hcallr := hok κ₂ vs hIn2 h1 (fun i x hx => by
            obtain ⟨v, hv, q⟩ := h2 i x hx; refine ⟨v, hv, ?_⟩
            have hx' : x.names = [] := by simpa using List.all_eq_true.1 hnm _ (List.mem_of_getElem? hx)
            have := VRel.ren (β' := fun _ => none) (r := fun n => n) q (fun n hn => by rw [hx'] at hn; cases hn); rw [V.ren_same] at this; exact this)
           have hw1 : κ₂.w = κ.w := F.w; rw [hw1] at hcallr; refine hcallr.mono ?_
           rintro en w' ⟨v, κ₃, rfl, rfl, O⟩; have hlenn := cleanL_len hnews; have hget := cleanL_get hnews; have hle3 : κ.w.heap.size ≤ κ₃.w.heap.size := by
            have h1 := F.le.size; have h2 : κ₁.w.heap.size ≤ κ₃.w.heap.size := O.le.size; exact Nat.le_trans h1 h2
           have hsame : ∀ k, k < κ.w.heap.size → κ₃.w.heap[k]? = κ.w.heap[k]? := fun k hk => by
            have := O.same k (by rw [hw1]; exact hk) (hpn k); rw [hw1] at this; exact this
           let β₄ : Nat → Option Inf := fun b => if b < bs.length then κ.β b else κ₃.β (b - bs.length)
           let κ₄ : Ctx := ⟨κ₃.w, κ.Im, κ.ζ, β₄⟩
           have hle4 : κ.le κ₄ := by
            refine ⟨hle3, fun _ _ h => h, fun b o hbo => ?_, fun _ _ h => h, fun n i hn => ?_⟩
            · exact cell_heap (hsame b (hIn.imlt b o hbo)) o
            · show β₄ n = some i
              have : n < bs.length := by
               rcases Nat.lt_or_ge n bs.length with h | h
               · exact h
               · rw [hIn.dom n h] at hn; cases hn
              simp only [β₄]; rw [if_pos this]; exact hn
           have hbs0 : r0.bs = [] := hbs; have hO : ∀ k, (r0.bs ++ r0.news).getD k .dead = r0.news.getD k .dead := fun k => by rw [hbs0, List.nil_append]
           have hin : ∀ b, b < bs.length → (bs ++ news).getD b .dead = bs.getD b .dead := fun b hb => by
            rw [List.getD_eq_getElem?_getD, List.getD_eq_getElem?_getD, List.getElem?_append_left hb]
           have hout : ∀ b, bs.length ≤ b → (bs ++ news).getD b .dead = news.getD (b - bs.length) .dead := fun b hb => by
            rw [List.getD_eq_getElem?_getD, List.getD_eq_getElem?_getD, List.getElem?_append_right hb]
           have hdead : ∀ k, news.getD k .dead ≠ .dead → r0.news.getD k .dead ≠ .dead := fun k hk e => by
            have := hget k; rw [e] at this; simp only [cleanB, Option.some.injEq] at this; exact hk this.symm
           have hnewblk : ∀ k i, news.getD k .dead ≠ .dead → κ₃.β k = some i → i.real = true → κ.w.heap.size ≤ i.blk := fun k i hk hi hre => by
            rcases O.blk k i (by rw [hO]; exact hdead k hk) hi hre with h | h
            · rw [hw1] at h; exact h
            · exact absurd h (hpn _)
           have hoct : κ₂.w.os = κ.w.os := by rw [hw1]
           refine ⟨v, κ₄, rfl, rfl, hle4, ?_, ?_, ?_, fun k hk _ => hsame k hk, fun _ _ h => .inl h, fun k o h => Nat.lt_of_lt_of_le (hIn.imlt k o h) hle3, fun t b h => (hIn.zlt t b h).of (hsame b (hIn.zlt t b h).lt), hIn.zinj, fun _ _ h => .inl h, rfl, ?_, ?_, ?_, ?_, ?_, ?_⟩
           · have := O.os; rw [hw1] at this; exact this
           · have := O.tape; rw [hw1] at this; exact this
           · have := O.output; rw [hw1] at this; exact this
           · intro b hb
             show β₄ b = κ.β b
             simp only [β₄]; rw [if_pos hb]
           · intro b hb
             show β₄ b = none
             have hb' : bs.length + news.length ≤ b := hb; simp only [β₄]; rw [if_neg (by omega)]
             exact O.dom _ (by rw [← hlenn]; simp; omega)
           · intro b i hd hi hre
             have hi' : β₄ b = some i := hi; simp only [β₄] at hi'; rcases Nat.lt_or_ge b bs.length with hb | hb
             · rw [if_pos hb] at hi'
               have hd' : (bs ++ news).getD b .dead ≠ .dead := hd; rw [hin b hb] at hd'; exact .inr ⟨b, i, hd', hi', hre, rfl⟩
             · rw [if_neg (by omega)] at hi'
               have hd' : (bs ++ news).getD b .dead ≠ .dead := hd; rw [hout b hb] at hd'; exact .inl (hnewblk _ i hd' hi' hre)
           · intro b
             show BoxRel fid κ₄ b ((bs ++ news).getD b .dead)
             rcases Nat.lt_or_ge b bs.length with hb | hb
             · rw [hin b hb]
               refine (hIn.box b).keep hle4 (fun i hd hi hre => ⟨hsame _ ?_, fun _ h => h, fun _ h => h⟩)
               exact I0.live_lt hd hi hre
             · rw [hout b hb]
               have hc := hget (b - bs.length); have hbx := O.box (b - bs.length); rw [hO] at hbx; have hβb : κ₄.β b = κ₃.β (b - bs.length) := by
                show β₄ b = _
                simp only [β₄]; rw [if_neg (by omega)]
               by_cases hnd : news.getD (b - bs.length) .dead = .dead
               · rw [hnd]; trivial
               · have hnb := fun i => hnewblk (b - bs.length) i hnd
                 revert hc hbx
                 cases r0.news.getD (b - bs.length) .dead with
                 | dead => intro hc _; simp only [cleanB, Option.some.injEq] at hc; rw [← hc]; trivial
                 | cells cs => intro hc; simp [cleanB] at hc
                 | row st sz rows ro =>
                  intro hc hbx; simp only [cleanB] at hc; split at hc
                  · rename_i hfl
                    simp only [Option.some.injEq] at hc; rw [← hc]; obtain ⟨i, hi, k1, k2, k3⟩ := hbx; refine ⟨i, by rw [hβb]; exact hi, k1, k2, ?_⟩
                    rcases k3 with k3 | ⟨arr, T, q⟩
                    · exact .inl k3
                    · have hge := hnb i hi q.real
                      refine .inr ⟨arr, T, q.real, q.heap, q.size, q.fits, q.rows.flat hfl, fun o ho => ?_, fun t ht => ?_⟩
                      · have := hIn.imlt i.blk o ho; omega
                      · have := (hIn.zlt t i.blk ht).lt; omega
                  · cases hc
           · intro b b' i i' hne hd hd' hi hi' hre hre'
             have hi1 : β₄ b = some i := hi; have hi1' : β₄ b' = some i' := hi'; have hd1 : (bs ++ news).getD b .dead ≠ .dead := hd; have hd1' : (bs ++ news).getD b' .dead ≠ .dead := hd'; simp only [β₄] at hi1 hi1'; rcases Nat.lt_or_ge b bs.length with hb | hb <;> rcases Nat.lt_or_ge b' bs.length with hb' | hb'
             · rw [if_pos hb] at hi1
               rw [if_pos hb'] at hi1'; rw [hin b hb] at hd1; rw [hin b' hb'] at hd1'; exact hIn.dist b b' i i' hne hd1 hd1' hi1 hi1' hre hre'
             · rw [if_pos hb] at hi1
               rw [if_neg (by omega)] at hi1'; rw [hin b hb] at hd1; rw [hout b' hb'] at hd1'; have h1 := hnewblk _ i' hd1' hi1' hre'; have h2 := I0.live_lt hd1 hi1 hre; have h3 : i.blk < κ.w.heap.size := h2; omega
             · rw [if_neg (by omega)] at hi1
               rw [if_pos hb'] at hi1'; rw [hout b hb] at hd1; rw [hin b' hb'] at hd1'; have h1 := hnewblk _ i hd1 hi1 hre; have h2 := I0.live_lt hd1' hi1' hre'; have h3 : i'.blk < κ.w.heap.size := h2; omega
             · rw [if_neg (by omega)] at hi1 hi1'
               rw [hout b hb] at hd1; rw [hout b' hb'] at hd1'; exact O.dist _ _ i i' (by omega) (by rw [hO]; exact hdead _ hd1) (by rw [hO]; exact hdead _ hd1') hi1 hi1' hre hre'
           · refine O.v.flat hflat (fun n hn => ?_)
             show β₄ (n + bs.length) = κ₃.β n
             simp only [β₄]; rw [if_neg (by omega), Nat.add_sub_cancel]
         · cases h
   · cases h
end
end Go.VM
