/- The value machine: each operation keeps the frame. Conditions: none. -/
import Derived.Test.YthkednnfadhidaaVM4
import GoSem.Dispatch
namespace Go.VM
set_option linter.unusedVariables false
set_option linter.unusedSimpArgs false
set_option linter.unusedSectionVars false

section
variable {P : Program} {fid : Nat → FuncId} {cid : FuncId → Nat} {G : Nat → Option (List D)} {E : Entry} {κ : Ctx} {H : Nat → Box} {FN FZ : Nat → Prop} {g : Nat} {s : Sup}
variable {ρ : Operand → Value} {ev : X → V} {o : Oper}

def FN' (FN : Nat → Prop) (g : Nat) : Nat → Prop := fun n => FN n ∧ ¬ (g ≤ n ∧ n < g + 64)
def FZ' (FZ : Nat → Prop) (s : Sup) : Nat → Prop := fun z => FZ z ∧ ∀ k, z ≠ s k

theorem Inv.weak {FN₁ FZ₁ : Nat → Prop} (I : Inv fid G E κ H FN FZ) (h1 : ∀ n, FN₁ n → FN n) (h2 : ∀ n, FZ₁ n → FZ n) : Inv fid G E κ H FN₁ FZ₁ :=
  { I with zfree := fun t h => I.zfree t (h2 t h), nfree := fun b h => I.nfree b (h1 b h) }

/-- The operation runs, without a call, and the frame is kept. -/
def Good (P : Program) (fid : Nat → FuncId) (G : Nat → Option (List D)) (E : Entry) (κ : Ctx) (FN FZ : Nat → Prop) (g : Nat) (s : Sup) (ρ : Operand → Value) (o : Oper) (e : Eff) : Prop :=
  ∃ n v κ', (execOp ρ o).run P κ.w = .ok n κ'.w ∧ (n = .value v ∨ (n = .skip ∧ v = undef)) ∧ κ.le κ' ∧ VRel fid κ' v e.v ∧ Inv fid G E κ' e.H (FN' FN g) (FZ' FZ s)

theorem good_pure (I : Inv fid G E κ H FN FZ) {v : Value} {x : V} {t : List Nat} {b : Bool} (hr : (execOp ρ o).run P κ.w = .ok (.value v) κ.w) (hv : VRel fid κ v x) :
    Good P fid G E κ FN FZ g s ρ o ⟨x, H, t, b⟩ :=
  ⟨_, v, κ, hr, .inl rfl, Ctx.le.refl κ, hv, I.weak (fun n h => h.1) (fun n h => h.1)⟩

theorem ret0_some {v : Option V} {e : Eff} (h : ret0 H v = some e) : ∃ x, v = some x ∧ e = ⟨x, H, [], false⟩ := by
  unfold ret0 at h
  cases v with
  | none => cases h
  | some x => cases h; exact ⟨x, rfl, rfl⟩

theorem slice_len {y : Value} {x : W} {n : Nat} (h : WRel fid κ y x)
    (hx : (∃ b off cap, x = .own b off n cap) ∨ (∃ st rows, x = .d (.l st rows) ∧ n = rows.length) ∨ (∃ st rows, x = .ln st rows ∧ n = rows.length) ∨ (x = .nil ∧ n = 0)) :
    ∃ a cap, y = .slice a n cap := by
  rcases hx with ⟨b, off, cap, rfl⟩ | ⟨st, rows, rfl, rfl⟩ | ⟨st, rows, rfl, rfl⟩ | ⟨rfl, rfl⟩
  · obtain ⟨i, cap', _, _, _, ⟨rfl, rfl, rfl⟩ | ⟨_, o', rfl, _⟩⟩ := h <;> exact ⟨_, _, rfl⟩
  · cases h <;> exact ⟨_, _, rfl⟩
  · obtain ⟨h, _⟩ := h; cases h <;> exact ⟨_, _, rfl⟩
  · cases h; exact ⟨_, _, rfl⟩

section ops
variable (I : Inv fid G E κ H FN FZ) (hev : ∀ x X, stripX cid x = some X → VRel fid κ (ρ x) (ev X))
include I hev

theorem good_mv {x : Operand} {X : X} {e : Eff} (ho : o.op = .move x ∨ o.op = .assign x) (hx : stripX cid x = some X) (h : ret0 H (some (ev X)) = some e) :
    Good P fid G E κ FN FZ g s ρ o e := by
  obtain ⟨v, hv, rfl⟩ := ret0_some h
  cases hv
  refine good_pure I ?_ (hev x X hx)
  rcases ho with ho | ho <;> simp [execOp, ho]

theorem good_pick {c a b : Operand} {C A B : X} {e : Eff} (ho : o.op = .pick c a b) (hc : stripX cid c = some C) (ha : stripX cid a = some A) (hb : stripX cid b = some B)
    (h : ret0 H ((ev C).bool?.map fun t => if t then ev A else ev B) = some e) : Good P fid G E κ FN FZ g s ρ o e := by
  obtain ⟨v, hv, rfl⟩ := ret0_some h
  cases ht : (ev C).bool? with
  | none => simp [ht] at hv
  | some t =>
    simp [ht] at hv
    have hC := bool?_rel (hev c C hc) ht
    have h1 := hev a A ha
    have h2 := hev b B hb
    cases t
    · simp at hv; subst hv
      exact good_pure I (by simp [execOp, ho, hC, asBool]) h2
    · simp at hv; subst hv
      exact good_pure I (by simp [execOp, ho, hC, asBool]) h1

theorem good_nc {x : Operand} {X : X} {e : Eff} {v : V} (ho : o.op = .nilCheck x) (hx : stripX cid x = some X) (he : e = ⟨ev X, H, [], false⟩)
    (hp : (∃ b off, ev X = .w (.ptr b off)) ∨ (∃ b i off, ev X = .w (.rp b i off)) ∨ (∃ r off, ev X = .w (.lp r off)) ∨ (∃ k off, ev X = .w (.gp k off)) ∨ (∃ f cs, ev X = .w (.fn f cs))) :
    Good P fid G E κ FN FZ g s ρ o e := by
  subst he
  have hr := hev x X hx
  refine good_pure I (v := ρ x) ?_ hr
  rcases hp with ⟨b, off, h⟩ | ⟨b, i, off, h⟩ | ⟨r, off, h⟩ | ⟨k, off, h⟩ | ⟨f, cs, h⟩ <;> rw [h] at hr
  · obtain ⟨i, _, _, hv⟩ := hr; simp [execOp, ho, hv]
  · obtain ⟨i, _, hv⟩ := hr; simp [execOp, ho, hv]
  · obtain ⟨blk, o', f, _, hv, _⟩ := hr; simp [execOp, ho, hv]
  · have hv : ρ x = .pointer (some ⟨k, off, none⟩) := hr; simp [execOp, ho, hv]
  · obtain ⟨arr, hv, _⟩ := hr; simp [execOp, ho, hv]

theorem good_un {op : UnOp} {t : TypeId} {x : Operand} {X : X} {e : Eff} (ho : o.op = .unOp op t x) (hx : stripX cid x = some X) (h : ret0 H (unV op (ev X)) = some e) :
    Good P fid G E κ FN FZ g s ρ o e := by
  obtain ⟨v, hv, rfl⟩ := ret0_some h
  unfold unV at hv
  split at hv
  · rename_i k n hs
    cases hv
    exact good_pure I (v := .int k (k.wrap (0 - n))) (by simp [execOp, ho, wrel_s (hev x X hx) hs, Op.unary, Op.intArith]) (sV_rel rfl)
  · rename_i b hs
    cases hv
    exact good_pure I (v := .bool !b) (by simp [execOp, ho, wrel_s (hev x X hx) hs, Op.unary]) (sV_rel rfl)
  · cases hv

theorem good_cvi {src dst : TypeId} {k0 k : IntKind} {x : Operand} {X : X} {e : Eff} (ho : o.op = .convert src dst x) (hs : P.underlying src = some (.int k0)) (hd : P.underlying dst = some (.int k))
    (hx : stripX cid x = some X) (h : ret0 H ((ev X).int?.map fun p => sV (.int k (k.wrap p.2))) = some e) : Good P fid G E κ FN FZ g s ρ o e := by
  obtain ⟨v, hv, rfl⟩ := ret0_some h
  cases hi : (ev X).int? with
  | none => simp [hi] at hv
  | some p =>
    obtain ⟨k', n⟩ := p
    simp [hi] at hv; subst hv
    exact good_pure I (v := .int k (k.wrap n)) (by simp [execOp, ho, int?_rel (hev x X hx) hi, convert, run_underlying hs, run_underlying hd, Conv.intToInt]) (sV_rel rfl)

theorem good_ext {x : Operand} {i : Nat} {X : X} {vs : List (Bool × List W)} {p : Bool × List W} {e : Eff} (ho : o.op = .extract x i) (hx : stripX cid x = some X) (hv : ev X = .tup vs) (hp : vs[i]? = some p)
    (h : ret0 H (mkV p.1 p.2) = some e) : Good P fid G E κ FN FZ g s ρ o e := by
  obtain ⟨v, hv', rfl⟩ := ret0_some h
  have hr := hev x X hx
  rw [hv] at hr
  obtain ⟨arr, ha, hs, hr⟩ := hr
  obtain ⟨y, hy, q⟩ := hr i p hp
  refine good_pure I (v := y) (by simp [execOp, ho, ha, Instr.extract, hy]) ?_
  obtain ⟨b, cs⟩ := p
  cases b with
  | true => simp [mkV] at hv'; subst hv'; exact q
  | false =>
    match cs, q, hv' with
    | [c], q, hv' => simp [mkV] at hv'; subst hv'; exact q

theorem good_lens {t : TypeId} {x : Operand} {X : X} {c : Call} {b : ByteArray} {e : Eff} (ho : o.op = .call c) (hc : c.callee = .builtin .len) (ht : c.argTypes.toList = [t]) (hx : c.args.toList = [x])
    (hu : P.underlying t = some .string) (hX : stripX cid x = some X) (hs : (ev X).s? = some (.string b)) (h : ret0 H (some (sV (.int .i64 b.size))) = some e) : Good P fid G E κ FN FZ g s ρ o e := by
  obtain ⟨v, hv, rfl⟩ := ret0_some h
  cases hv
  have h1 : c.argTypes = #[t] := by rw [← Array.toArray_toList (xs := c.argTypes), ht]
  have h2 : c.args = #[x] := by rw [← Array.toArray_toList (xs := c.args), hx]
  exact good_pure I (v := .int .i64 b.size) (by simp [execOp, ho, resolve, hc, invoke, builtin, h1, h2, Builtin.len_, run_underlying hu, wrel_s (hev x X hX) hs, goInt]) (sV_rel rfl)

theorem good_lenl {t e0 : TypeId} {x : Operand} {X : X} {c : Call} {y : W} {n : Nat} {e : Eff} (ho : o.op = .call c) (hc : c.callee = .builtin .len) (ht : c.argTypes.toList = [t]) (hx : c.args.toList = [x])
    (hu : P.underlying t = some (.slice e0)) (hX : stripX cid x = some X) (hy : ev X = .w y)
    (hn : (∃ b off cap, y = .own b off n cap) ∨ (∃ st rows, y = .d (.l st rows) ∧ n = rows.length) ∨ (∃ st rows, y = .ln st rows ∧ n = rows.length) ∨ (y = .nil ∧ n = 0))
    (he : e = ⟨sV (.int .i64 n), H, [], false⟩) : Good P fid G E κ FN FZ g s ρ o e := by
  subst he
  have h1 : c.argTypes = #[t] := by rw [← Array.toArray_toList (xs := c.argTypes), ht]
  have h2 : c.args = #[x] := by rw [← Array.toArray_toList (xs := c.args), hx]
  have hr := hev x X hX
  rw [hy] at hr
  obtain ⟨a, cap, hv⟩ := slice_len hr hn
  exact good_pure I (v := .int .i64 n) (by simp [execOp, ho, resolve, hc, invoke, builtin, h1, h2, Builtin.len_, run_underlying hu, hv, goInt]) (sV_rel rfl)

theorem good_fa {t : TypeId} {x : Operand} {X : X} {fs : Array Field} {i n : Nat} {f : Field} {e : Eff} {v : V} (ho : o.op = .fieldAddr t x i) (hu : P.underlying t = some (.struct fs)) (hf : fs[i]? = some f)
    (hn : sz? P f.type = some n) (h0 : n ≠ 0) (hX : stripX cid x = some X) (he : e = ⟨v, H, [], false⟩)
    (hp : (∃ b off, ev X = .w (.ptr b off) ∧ v = .w (.ptr b (off + f.offset))) ∨ (∃ b i off, ev X = .w (.rp b i off) ∧ v = .w (.rp b i (off + f.offset))) ∨
      (∃ r off, ev X = .w (.lp r off) ∧ v = .w (.lp r (off + f.offset))) ∨ (∃ k off, ev X = .w (.gp k off) ∧ v = .w (.gp k (off + f.offset)))) :
    Good P fid G E κ FN FZ g s ρ o e := by
  subst he
  have hr := hev x X hX
  have run : ∀ b off, ρ x = .pointer (some ⟨b, off, none⟩) → (execOp ρ o).run P κ.w = .ok (.value (.pointer (some ⟨b, off + f.offset, none⟩))) κ.w := fun b off hv => by
    simp [execOp, ho, Instr.fieldAt, run_underlying hu, hf, hv, Instr.sureAddr, fieldPlace, run_sz hn, h0, Addr.add_none]
  rcases hp with ⟨b, off, h, rfl⟩ | ⟨b, j, off, h, rfl⟩ | ⟨r, off, h, rfl⟩ | ⟨k, off, h, rfl⟩ <;> rw [h] at hr
  · obtain ⟨i, hi, hd, hv⟩ := hr; exact good_pure I (run _ _ hv) ⟨i, hi, hd, rfl⟩
  · obtain ⟨i, hi, hv⟩ := hr; exact good_pure I (run _ _ hv) ⟨i, hi, by rw [Nat.add_assoc]⟩
  · obtain ⟨blk, o', q, hb, hv, hr⟩ := hr; exact good_pure I (run _ _ hv) ⟨blk, o', q, hb, by rw [Nat.add_assoc], hr⟩
  · exact good_pure I (run _ _ hr) rfl

theorem good_iaa {t e0 : TypeId} {x i : Operand} {J X : X} {len n : Nat} {k : IntKind} {j : Int} {e : Eff} {v : V} (ho : o.op = .indexAddr t x i) (hu : P.underlying t = some (.array len e0)) (hn : sz? P e0 = some n)
    (hX : stripX cid x = some X) (hJ : stripX cid i = some J) (hj : (ev J).int? = some (k, j)) (h0 : 0 ≤ j ∧ j < len) (he : e = ⟨v, H, [], false⟩)
    (hp : (∃ b off, ev X = .w (.ptr b off) ∧ v = .w (.ptr b (off + j.toNat * n))) ∨ (∃ b i off, ev X = .w (.rp b i off) ∧ v = .w (.rp b i (off + j.toNat * n))) ∨
      (∃ r off, ev X = .w (.lp r off) ∧ v = .w (.lp r (off + j.toNat * n))) ∨ (∃ k off, ev X = .w (.gp k off) ∧ v = .w (.gp k (off + j.toNat * n)))) :
    Good P fid G E κ FN FZ g s ρ o e := by
  subst he
  have hr := hev x X hX
  have hi := int?_rel (hev i J hJ) hj
  have run : ∀ b off, ρ x = .pointer (some ⟨b, off, none⟩) → (execOp ρ o).run P κ.w = .ok (.value (.pointer (some ⟨b, off + j.toNat * n, none⟩))) κ.w := fun b off hv => by
    simp [execOp, ho, Instr.indexAt, asIntOf, run_underlying hu, hi, hv, Instr.sureAddr, h0, run_sz hn, Addr.add_none]
  rcases hp with ⟨b, off, h, rfl⟩ | ⟨b, j', off, h, rfl⟩ | ⟨r, off, h, rfl⟩ | ⟨k', off, h, rfl⟩ <;> rw [h] at hr
  · obtain ⟨i', hi', hd, hv⟩ := hr; exact good_pure I (run _ _ hv) ⟨i', hi', hd, rfl⟩
  · obtain ⟨i', hi', hv⟩ := hr; exact good_pure I (run _ _ hv) ⟨i', hi', by rw [Nat.add_assoc]⟩
  · obtain ⟨blk, o', q, hb, hv, hr⟩ := hr; exact good_pure I (run _ _ hv) ⟨blk, o', q, hb, by rw [Nat.add_assoc], hr⟩
  · exact good_pure I (run _ _ hr) rfl

theorem good_ixs {t : TypeId} {x i : Operand} {J X : X} {k : IntKind} {j : Int} {b : ByteArray} {c : UInt8} {e : Eff} (ho : o.op = .index t x i) (hu : P.underlying t = some .string)
    (hX : stripX cid x = some X) (hJ : stripX cid i = some J) (hs : (ev X).s? = some (.string b)) (hj : (ev J).int? = some (k, j)) (h0 : 0 ≤ j) (hc : b[j.toNat]? = some c)
    (h : ret0 H (some (sV (.int .u8 c.toNat))) = some e) : Good P fid G E κ FN FZ g s ρ o e := by
  obtain ⟨v, hv, rfl⟩ := ret0_some h
  cases hv
  exact good_pure I (v := .int .u8 c.toNat) (by simp [execOp, ho, Instr.index, asIntOf, run_underlying hu, int?_rel (hev i J hJ) hj, wrel_s (hev x X hX) hs, h0, hc]) (sV_rel rfl)

end ops
end
end Go.VM
