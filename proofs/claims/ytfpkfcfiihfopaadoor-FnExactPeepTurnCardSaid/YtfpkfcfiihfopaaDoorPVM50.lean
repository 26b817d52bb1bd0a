/- The value machine: stamps taken off data; a table of which some functions put stamps on what they make. Conditions: none. -/
import Derived.Test.YtfpkfcfiihfopaaDoorPVM33

namespace Go.VM
set_option linter.unusedVariables false
set_option linter.unusedSimpArgs false
set_option linter.unusedSectionVars false
mutual
def D.er : D → D
 | .s v => .s v
 | .l _ rows => .l 0 (erR rows)
def erL : List D → List D
 | [] => []
 | x :: r => x.er :: erL r
def erR : List (List D) → List (List D)
 | [] => []
 | x :: r => erL x :: erR r
end
mutual
def D.sts : D → List Nat
 | .s _ => []
 | .l _ [] => []
 | .l st (x :: r) => st :: (stsL x ++ stsR r)
def stsL : List D → List Nat
 | [] => []
 | x :: r => x.sts ++ stsL r
def stsR : List (List D) → List Nat
 | [] => []
 | x :: r => stsL x ++ stsR r
end
@[simp] theorem erL_length : ∀ l : List D, (erL l).length = l.length
 | [] => rfl
 | x :: r => by simp [erL, erL_length r]
@[simp] theorem erR_length : ∀ l : List (List D), (erR l).length = l.length
 | [] => rfl
 | x :: r => by simp [erR, erR_length r]
theorem erL_get : ∀ (l : List D) (i : Nat), (erL l)[i]? = l[i]?.map D.er
 | [], i => by simp [erL]
 | x :: r, 0 => by simp [erL]
 | x :: r, i + 1 => by simp [erL, erL_get r i]
theorem erR_get : ∀ (l : List (List D)) (i : Nat), (erR l)[i]? = l[i]?.map erL
 | [], i => by simp [erR]
 | x :: r, 0 => by simp [erR]
 | x :: r, i + 1 => by simp [erR, erR_get r i]
theorem erL_append : ∀ l m : List D, erL (l ++ m) = erL l ++ erL m
 | [], m => by simp [erL]
 | x :: r, m => by simp [erL, erL_append r m]
theorem erR_append : ∀ l m : List (List D), erR (l ++ m) = erR l ++ erR m
 | [], m => by simp [erR]
 | x :: r, m => by simp [erR, erR_append r m]
theorem stsL_append : ∀ l m : List D, stsL (l ++ m) = stsL l ++ stsL m
 | [], m => by simp [stsL]
 | x :: r, m => by simp [stsL, stsL_append r m]
theorem stsR_append : ∀ l m : List (List D), stsR (l ++ m) = stsR l ++ stsR m
 | [], m => by simp [stsR]
 | x :: r, m => by simp [stsR, stsR_append r m]
theorem sts_l (st : Nat) (rows : List (List D)) : (D.l st rows).sts = if rows.isEmpty then [] else st :: stsR rows := by
 cases rows <;> simp [D.sts, stsR]
theorem stsL_mem {l : List D} {x : D} {t : Nat} (h : x ∈ l) (ht : t ∈ x.sts) : t ∈ stsL l := by
 induction l with
 | nil => cases h
 | cons y r ih =>
  rcases List.mem_cons.1 h with rfl | h
  · simp [stsL, ht]
  · simp [stsL, ih h]
theorem stsR_mem {l : List (List D)} {x : List D} {t : Nat} (h : x ∈ l) (ht : t ∈ stsL x) : t ∈ stsR l := by
 induction l with
 | nil => cases h
 | cons y r ih =>
  rcases List.mem_cons.1 h with rfl | h
  · simp [stsR, ht]
  · simp [stsR, ih h]
theorem Rel.er {w : World} {Im : Nat → Nat → Prop} {ζ ζ' : Nat → Option Nat} {v : Value} {d : D} (h : Rel w Im ζ v d) : Rel w Im ζ' v d.er := by
 induction h with
 | s v h => exact .s v h
 | nil st => exact .nil 0
 | e a => exact .e a
 | l st rows blk o cap sz f hlen hcap hb hcell him hrel hst ih =>
  have e : rows.length = (erR rows).length := (erR_length rows).symm; have key := fun (i : Nat) (row : List D) (h : (erR rows)[i]? = some row) => by
   rw [erR_get, Option.map_eq_some_iff] at h; exact h
  simp only [D.er]; rw [e]; refine .l 0 (erR rows) blk o cap sz f (fun i row h => ?_) (by omega) hb (fun i j a b => hcell i j (by omega) b) (fun i j a b => him i j (by omega) b) (fun i row j x h hx => ?_) (fun h => absurd rfl h)
  · obtain ⟨r, h1, rfl⟩ := key i row h
    rw [erL_length]; exact hlen i r h1
  · obtain ⟨r, h1, rfl⟩ := key i row h
    rw [erL_get, Option.map_eq_some_iff] at hx; obtain ⟨y, h2, rfl⟩ := hx; exact ih i r j y h1 h2
def Cap.er : Cap → Cap
 | .d x => .d x.er
 | x => x
def W.er : W → W
 | .d x => .d x.er
 | .ln st rows => .ln 0 (erR rows)
 | .lp row off => .lp (erL row) off
 | .fn f caps => .fn f (caps.map Cap.er)
 | x => x
def V.er : V → V
 | .w x => .w x.er
 | .agg cs => .agg (cs.map W.er)
 | .tup vs => .tup (vs.map fun p => (p.1, p.2.map W.er))
section
variable {P : Program} {fid : Nat → FuncId} {cid : FuncId → Nat} {G : Nat → Option (List D)} {κ : Ctx}
theorem CapRel.er {v : Value} {c : Cap} (h : CapRel κ v c) : CapRel κ v c.er := by
 cases c with
 | d x => exact Rel.er h
 | ptr b off => exact h
theorem WRel.er {v : Value} {x : W} (h : WRel fid κ v x) : WRel fid κ v x.er := by
 cases x with
 | d x => exact Rel.er h
 | ln st rows => exact ⟨Rel.er h.1, h.2⟩
 | lp row off =>
  obtain ⟨blk, o, f, hb, hv, hr⟩ := h; refine ⟨blk, o, f, hb, hv, fun j x hj => ?_⟩
  rw [erL_get, Option.map_eq_some_iff] at hj; obtain ⟨y, h1, rfl⟩ := hj; exact ⟨(hr j y h1).1, (hr j y h1).2.1, Rel.er (hr j y h1).2.2⟩
 | fn f caps =>
  obtain ⟨arr, hv, hs, hr⟩ := h; refine ⟨arr, hv, by simpa using hs, fun i c hc => ?_⟩
  rw [List.getElem?_map, Option.map_eq_some_iff] at hc; obtain ⟨y, h1, rfl⟩ := hc; obtain ⟨x, hx, q⟩ := hr i y h1; exact ⟨x, hx, q.er⟩
 | nil => exact h
 | own b off len cap => exact h
 | ptr b off => exact h
 | rp b j off => exact h
 | gp g off => exact h
theorem LRel.er {arr : Array Value} {cs : List W} (h : LRel fid κ arr cs) : LRel fid κ arr (cs.map W.er) := by
 refine ⟨by simpa using h.1, fun i c hc => ?_⟩
 rw [List.getElem?_map, Option.map_eq_some_iff] at hc; obtain ⟨y, h1, rfl⟩ := hc; obtain ⟨x, hx, q⟩ := h.2 i y h1; exact ⟨x, hx, q.er⟩
theorem PRel.er {v : Value} {p : Bool × List W} (h : PRel fid κ v p) : PRel fid κ v (p.1, p.2.map W.er) := by
 obtain ⟨b, cs⟩ := p; cases b with
 | true => obtain ⟨arr, hv, h⟩ := h; exact ⟨arr, hv, h.er⟩
 | false => match cs, h with | [x], h => exact WRel.er h
theorem VRel.er {v : Value} {x : V} (h : VRel fid κ v x) : VRel fid κ v x.er := by
 cases x with
 | w x => exact WRel.er h
 | agg cs => obtain ⟨arr, hv, h⟩ := h; exact ⟨arr, hv, h.er⟩
 | tup vs =>
  obtain ⟨arr, hv, hs, h⟩ := h; refine ⟨arr, hv, by simpa using hs, fun i p hp => ?_⟩
  rw [List.getElem?_map, Option.map_eq_some_iff] at hp; obtain ⟨y, h1, rfl⟩ := hp; obtain ⟨x, hx, q⟩ := h i y h1; exact ⟨x, hx, q.er⟩
theorem er_ok {f : Nat} {args : List V} {s : Sup} {r : Res} (h : CallOK P fid G f (args.map V.er) [] s r) : CallOK P fid G f args [] s r := by
 refine ⟨h.1, fun κ vs hI hl hr => h.2 κ vs hI (by simpa using hl) fun i x hx => ?_⟩
 rw [List.getElem?_map, Option.map_eq_some_iff] at hx; obtain ⟨y, h1, rfl⟩ := hx; obtain ⟨v, hv, q⟩ := hr i y h1; exact ⟨v, hv, q.er⟩
def runS (FT : Tab) (ST : Nat → Bool) (base : Nat → CallT) (M : Nat → Mode) (G : Nat → Option (List D)) : Nat → CallT
 | 0, f, args, bs, s => if ST f then none else base 0 f args bs s
 | n + 1, f, args, bs, s => if ST f then (match FT f with | some F => runF (runS FT ST base M G n) M G n f F args bs s | none => none) else base (n + 1) f args bs s
theorem runS_ok {FT : Tab} {ST : Nat → Bool} {base : Nat → CallT} {M : Nat → Mode} (hcid : ∀ f, fid (cid f) = f) (hmix : P.follows .mixedOrders = true)
 (hFT : ∀ f F, FT f = some F → ∃ fn, P.funcs[fid f]? = some fn ∧ stripF P cid fn = some F)
 (hbase : ∀ n f args bs s r, base n f args bs s = some r → CallOK P fid G f args bs s r) :
 ∀ (n f : Nat) (args : List V) (bs : List Box) (s : Sup) (r : Res), runS FT ST base M G n f args bs s = some r → CallOK P fid G f args bs s r
 | 0, f, args, bs, s, r, h => by
  simp only [runS] at h; split at h
  · cases h
  · exact hbase _ _ _ _ _ _ h
 | n + 1, f, args, bs, s, r, h => by
  simp only [runS] at h; split at h
  · split at h
    · rename_i F hF
      obtain ⟨fn, h1, h2⟩ := hFT f F hF; exact runF_ok hcid hmix (runS_ok hcid hmix hFT hbase n) h1 h2 h
    · cases h
  · exact hbase _ _ _ _ _ _ h
def O.calls (p : Nat → Bool) : O → Bool
 | .call (.k (.w (.fn f []))) _ => p f
 | .call _ _ => false
 | _ => true
def C.calls (p : Nat → Bool) : C → Bool
 | .reg ops => ops.all fun o => o.op.calls p
 | .dreg ops _ => ops.all fun o => o.op.calls p
 | .seq a b => a.calls p && b.calls p
 | .cond _ a b => a.calls p && b.calls p
 | .block _ c => c.calls p
 | .loop c => c.calls p
 | _ => true
section
variable {call call' : CallT} {M M' : Nat → Mode} {p : Nat → Bool} {stamp : Bool}
theorem opV_like (h : ∀ f, p f = true → call f = call' f ∧ (M f).inout = (M' f).inout) (ev : X → V) (hev : ∀ v, ev (.k v) = v) (H : Nat → Box) (g : Nat) (s : Sup) (o : O) (ho : o.calls p = true) : opV call M G stamp ev H g s o = opV call' M' G stamp ev H g s o := by
 cases o with
 | call f args =>
  unfold O.calls at ho; split at ho
  · rename_i f' args' e
    cases e
    obtain ⟨h1, h2⟩ := h _ ho; simp only [opV, hev, callV, h1, h2]
  · cases ho
  · rename_i e; exact absurd rfl (e _ _)
 | _ => rfl
theorem stepE_like (h : ∀ f, p f = true → call f = call' f ∧ (M f).inout = (M' f).inout) (τ : Nat → V) (H : Nat → Box) (g : Nat) (s : Sup) (o : RO) (ho : o.op.calls p = true) : stepE call M G stamp τ H g s o = stepE call' M' G stamp τ H g s o := by
 simp only [stepE, opV_like h (evX τ) (fun _ => rfl) H g s o.op ho]
theorem regV_like (h : ∀ f, p f = true → call f = call' f ∧ (M f).inout = (M' f).inout) (N g : Nat) (s : Sup) : ∀ (ops : List RO) (i : Nat) (τ : Nat → V) (H : Nat → Box), (ops.all fun o => o.op.calls p) = true → regV call M G stamp N g s i ops τ H = regV call' M' G stamp N g s i ops τ H
 | [], i, τ, H, _ => rfl
 | o :: r, i, τ, H, ho => by
  simp only [List.all_cons, Bool.and_eq_true] at ho; simp only [regV, stepE_like h _ _ _ _ o ho.1]; split
  · split
    · exact regV_like h N g s r _ _ _ ho.2
    · rfl
  · rfl
theorem regL_like (h : ∀ f, p f = true → call f = call' f ∧ (M f).inout = (M' f).inout) (N g : Nat) (s : Sup) : ∀ (ops : List RO) (i : Nat) (τ : Nat → V) (H : Nat → Box), (ops.all fun o => o.op.calls p) = true → regL call M G stamp N g s i ops τ H = regL call' M' G stamp N g s i ops τ H
 | [], i, τ, H, _ => rfl
 | o :: r, i, τ, H, ho => by
  simp only [List.all_cons, Bool.and_eq_true] at ho; simp only [regL, stepE_like h _ _ _ _ o ho.1]; split
  · split
    · rw [regL_like h N g s r _ _ _ ho.2]
    · rfl
  · rfl
theorem execC_like (h : ∀ f, p f = true → call f = call' f ∧ (M f).inout = (M' f).inout) (N n : Nat) : ∀ (c : C) (st : St), c.calls p = true → execC call M G stamp N n c st = execC call' M' G stamp N n c st
 | .skip, st, _ => rfl
 | .reg ops, st, hc => by simp only [C.calls] at hc; simp only [execC, regV_like h N _ _ ops _ _ _ hc]
 | .dreg ops _, st, hc => by simp only [C.calls] at hc; simp only [execC, regL_like h N _ _ ops _ _ _ hc]
 | .seq a b, st, hc => by
  simp only [C.calls, Bool.and_eq_true] at hc; simp only [execC, execC_like h N n a _ hc.1]; split
  · exact execC_like h N n b _ hc.2
  · rfl
 | .cond x a b, st, hc => by
  simp only [C.calls, Bool.and_eq_true] at hc; simp only [execC, execC_like h N n a _ hc.1, execC_like h N n b _ hc.2]
 | .block id c, st, hc => by simp only [C.calls] at hc; simp only [execC, execC_like h N n c _ hc]
 | .loop c, st, hc => by
  simp only [C.calls] at hc; simp only [execC]; have e : execC call M G stamp N n c = execC call' M' G stamp N n c := funext fun st => execC_like h N n c st hc
  rw [e]
 | .exit id, st, _ => rfl
 | .ret, st, _ => rfl
 | .bad, st, _ => rfl
end
end
def Fr (s : Sup) (l : List Nat) : Prop := l.Nodup ∧ ∀ t ∈ l, ∃ k, t = s k
def Inj (s : Sup) : Prop := ∀ a b, s a = s b → a = b
structure Past (s0 s : Sup) (U : List Nat) : Prop where
 nd : U.Nodup
 of : ∀ t ∈ U, ∃ k, t = s0 k
 no : ∀ k, s k ∉ U
 sub : ∀ k, ∃ j, s k = s0 j
 inj : Inj s
theorem Past.fr {s0 s : Sup} {U : List Nat} (h : Past s0 s U) : Fr s0 U := ⟨h.nd, h.of⟩
theorem past_0 {s : Sup} (h : Inj s) : Past s s [] := ⟨by simp, by simp, by simp, fun k => ⟨k, rfl⟩, h⟩
theorem inj_sub {s : Sup} (h : Inj s) (i : Nat) : Inj (subS s i) := fun a b e => by
 have := h _ _ e; have h2 := Nat.eq_of_mul_eq_mul_left (Nat.two_pow_pos (i + 1)) this; omega
theorem inj_rest {s : Sup} (h : Inj s) : Inj (restS s) := fun a b e => by
 have := h _ _ e; omega
theorem inj_arg {s : Sup} (h : Inj s) : Inj (fun k => s (2 * k + 1)) := fun a b e => by
 have := h _ _ e; omega
theorem pow_odd {i j a b : Nat} (h : 2 ^ i * (2 * a + 1) = 2 ^ j * (2 * b + 1)) : i = j := by
 induction i generalizing j with
 | zero =>
  cases j with
  | zero => rfl
  | succ j => rw [Nat.pow_succ, Nat.mul_comm (2 ^ j) 2, Nat.mul_assoc] at h; omega
 | succ i ih =>
  cases j with
  | zero => rw [Nat.pow_succ, Nat.mul_comm (2 ^ i) 2, Nat.mul_assoc] at h; omega
  | succ j =>
   have : 2 ^ i * (2 * a + 1) = 2 ^ j * (2 * b + 1) := by
    rw [Nat.pow_succ, Nat.pow_succ, Nat.mul_comm (2 ^ i) 2, Nat.mul_comm (2 ^ j) 2, Nat.mul_assoc, Nat.mul_assoc] at h; omega
   rw [ih this]
theorem Fr.sub {s : Sup} {f : Nat → Nat} {l : List Nat} (h : Fr (fun k => s (f k)) l) : Fr s l := ⟨h.1, fun t ht => let ⟨k, e⟩ := h.2 t ht; ⟨f k, e⟩⟩
theorem Past.weak {s0 s : Sup} {U : List Nat} (h : Past s0 s U) : Past s0 (restS s) U :=
 ⟨h.nd, h.of, fun k => h.no _, fun k => h.sub _, inj_rest h.inj⟩
theorem Past.take {s0 s : Sup} {U : List Nat} (h : Past s0 s U) (L : List (Nat × List Nat)) (hL : (L.map (·.1)).Nodup) (hf : ∀ p ∈ L, Fr (subS s p.1) p.2) :
 Past s0 (restS s) (U ++ L.flatMap (·.2)) := by
 have dis : ∀ i j a b, subS s i a = subS s j b → i = j := fun i j a b e => by
  have := pow_odd (h.inj _ _ e); omega
 have key : ∀ L : List (Nat × List Nat), (L.map (·.1)).Nodup → (∀ p ∈ L, Fr (subS s p.1) p.2) → (L.flatMap (·.2)).Nodup := by
  intro L
  induction L with
  | nil => intro _ _; simp
  | cons p r ih =>
   intro hn hf; simp only [List.map_cons, List.nodup_cons] at hn; simp only [List.flatMap_cons]; refine List.nodup_append.2 ⟨(hf p (List.mem_cons_self ..)).1, ih hn.2 fun q hq => hf q (List.mem_cons_of_mem _ hq), ?_⟩
   rintro a ha b hb rfl; obtain ⟨q, hq, hb⟩ := List.mem_flatMap.1 hb; obtain ⟨k, rfl⟩ := (hf p (List.mem_cons_self ..)).2 a ha; obtain ⟨k', e⟩ := (hf q (List.mem_cons_of_mem _ hq)).2 _ hb; exact hn.1 (by rw [dis _ _ _ _ e]; exact List.mem_map.2 ⟨q, hq, rfl⟩)
 have mem : ∀ t ∈ L.flatMap (·.2), ∃ i k, t = subS s i k := fun t ht => by
  obtain ⟨q, hq, hb⟩ := List.mem_flatMap.1 ht; obtain ⟨k', e⟩ := (hf q hq).2 _ hb; exact ⟨_, _, e⟩
 refine ⟨List.nodup_append.2 ⟨h.nd, key L hL hf, ?_⟩, ?_, ?_, fun k => h.sub _, inj_rest h.inj⟩
 · rintro a ha b hb rfl
   obtain ⟨i, k, rfl⟩ := mem _ hb; exact h.no _ ha
 · intro t ht
   rcases List.mem_append.1 ht with ht | ht
   · exact h.of t ht
   · obtain ⟨i, k, rfl⟩ := mem _ ht
     exact h.sub _
 · intro k hk
   rcases List.mem_append.1 hk with hk | hk
   · exact h.no _ hk
   · obtain ⟨i, k', e⟩ := mem _ hk
     have := h.inj _ _ e; have h2 : 2 ^ (i + 1) = 2 * 2 ^ i := by rw [Nat.pow_succ, Nat.mul_comm]
     rw [h2, Nat.mul_assoc] at this; omega
theorem Past.one {s0 s : Sup} {U F : List Nat} (h : Past s0 s U) (i : Nat) (hf : Fr (subS s i) F) : Past s0 (restS s) (U ++ F) := by
 have := h.take [(i, F)] (by simp) (by simpa using hf)
 simpa using this
theorem Past.last {s0 s : Sup} {U : List Nat} (h : Past s0 s U) (k : Nat) : Fr s0 (s k :: U) :=
 ⟨List.nodup_cons.2 ⟨h.no k, h.nd⟩, fun t ht => by
  rcases List.mem_cons.1 ht with rfl | ht
  · exact h.sub k
  · exact h.of t ht⟩
end Go.VM
