/- The value machine: every operation keeps the frame. Conditions: none. -/
import Derived.Test.YtfpkfcfiihfopaaDoorXVMB
import Derived.Orders
import Derived.Deep.LoopGhost
import Derived.OpenShut
import Derived.ChangeArms
import Derived.DeepKeys4
import Derived.DataReads
import Derived.ProofKit
import Derived.Carry
import Derived.JoinedOf

namespace Go.VM
set_option linter.unusedVariables false
set_option linter.unusedSimpArgs false
set_option linter.unusedSectionVars false
section
variable {P : Program} {fid : Nat → FuncId} {cid : FuncId → Nat} {G : Nat → Option (List D)} {E : Entry} {κ : Ctx} {H : Nat → Box} {FN FZ : Nat → Prop} {g : Nat} {s : Sup}
variable {ρ : Operand → Value} {ev : X → V} {o : Oper} {call : CallT} {M : Nat → Mode} {stamp : Bool}
section ops
variable (I : Inv fid G E κ H FN FZ) (hev : ∀ x X, stripX cid x = some X → VRel fid κ (ρ x) (ev X)) (hfn : ∀ n, g ≤ n → n < g + 64 → FN n) (hinj : ∀ a b, s a = s b → a = b) (hs : ∀ k, FZ (s k))
include I hev
theorem op_ld {t : TypeId} {x : Operand} {a : Bool} {n : Nat} {X : VM.X} {e : Eff} (ho : o.op = .load t x) (ha : agg? P t = some a) (hn : sz? P t = some n) (hX : stripX cid x = some X) (h1 : (a || n == 1) = true)
 (h : opV call M G stamp ev H g s (.ld a n X) = some e) : Good P fid G E κ FN FZ g s ρ o e := by
 have hr := hev x X hX; simp only [opV] at h; split at h
 · rename_i b off hx
   rw [hx] at hr; split at h
   · rename_i cs hH
     split at h
     · rename_i v hv
       cases h
       obtain ⟨i, arr, T, hb, hreal, hρ, hheap, hL, _⟩ := ptr_cell I hr hH; cases hp : part? cs off n with
       | none => simp [hp] at hv
       | some l =>
        simp [hp] at hv; obtain ⟨hfit, hpl, hpg⟩ := part?_some hp; refine good_ld I ho ha hn h1 hρ hpl hv (fun j c hj => ?_) rfl rfl
        rw [hpg] at hj; split at hj
        · obtain ⟨y, hy, q⟩ := hL.2 _ c hj
          exact ⟨y, by rw [cell_of hheap]; exact hy, q⟩
        · cases hj
     · cases h
   · cases h
 · rename_i b j off hx
   rw [hx] at hr; split at h
   · rename_i st sz rows ro hH
     split at h
     · rename_i row hrow
       split at h
       · rename_i v hv
         cases h
         obtain ⟨i, arr, T, hb, hsz, hlen, hρ, q⟩ := row_cell I hr hH hrow; cases hp : part? row off n with
         | none => simp [hp] at hv
         | some l =>
          simp [hp] at hv; obtain ⟨hfit, hpl, hpg⟩ := part?_some hp; refine good_ld I ho ha hn h1 hρ (l := l.map .d) (by simpa using hpl) hv (fun k c hk => ?_) rfl rfl
          rw [List.getElem?_map, hpg] at hk; split at hk
          · cases hd : row[off + k]? with
            | none => simp [hd] at hk
            | some d =>
             simp [hd] at hk; subst hk
             obtain ⟨y, hy, qy⟩ := q.rows _ _ hrow _ _ hd; exact ⟨y, by rw [cell_of q.heap, ← hy]; congr 1; omega, qy⟩
          · cases hk
       · cases h
     · cases h
   · cases h
 · rename_i row off hx
   rw [hx] at hr; obtain ⟨v, hv, rfl⟩ := ret0_some h; obtain ⟨blk, o', f, hb, hρ, hrow⟩ := hr; obtain ⟨l, hp, hv⟩ := Option.bind_eq_some_iff.1 hv; obtain ⟨hfit, hpl, hpg⟩ := part?_some hp; refine good_ld I ho ha hn h1 hρ (l := l.map .d) (by simpa using hpl) hv (fun k c hk => ?_) rfl rfl
   rw [List.getElem?_map, hpg] at hk; split at hk
   · cases hd : row[off + k]? with
     | none => simp [hd] at hk
     | some d =>
      simp [hd] at hk; subst hk
      obtain ⟨_, hc, q⟩ := hrow _ _ hd; exact ⟨_, by rw [Nat.add_assoc]; exact hc, q⟩
   · cases hk
 · rename_i k0 off hx
   rw [hx] at hr; obtain ⟨v, hv, rfl⟩ := ret0_some h; have hρ : ρ x = .pointer (some ⟨k0, off, none⟩) := hr; obtain ⟨row, hg, hv⟩ := Option.bind_eq_some_iff.1 hv; obtain ⟨l, hp, hv⟩ := Option.bind_eq_some_iff.1 hv; obtain ⟨hfit, hpl, hpg⟩ := part?_some hp; obtain ⟨_, hglob⟩ := I.glob k0 row hg; refine good_ld I ho ha hn h1 hρ (l := l.map .d) (by simpa using hpl) hv (fun k c hk => ?_) rfl rfl
   rw [List.getElem?_map, hpg] at hk; split at hk
   · cases hd : row[off + k]? with
     | none => simp [hd] at hk
     | some d =>
      simp [hd] at hk; subst hk
      obtain ⟨_, y, hc, q⟩ := hglob _ _ hd; exact ⟨y, hc, q⟩
   · cases hk
 · cases h
theorem op_st {t : TypeId} {x y : Operand} {n : Nat} {Y X : VM.X} {e : Eff} (hinj : ∀ a b, s a = s b → a = b) (hs : ∀ k, FZ (s k)) (ho : o.op = .store t x y) (hn : sz? P t = some n) (hX : stripX cid x = some X) (hY : stripX cid y = some Y)
 (h : opV call M G stamp ev H g s (.st n X Y) = some e) : Good P fid G E κ FN FZ g s ρ o e := by
 simp only [opV] at h; split at h
 · rename_i cs hcs
   split at h
   · rename_i hl
     split at h
     · rename_i b off hx
       split at h
       · rename_i old hH
         split at h
         · rename_i hf
           cases h
           exact good_stp I hev ho hn hX hY hcs hl hx hH hf rfl
         · cases h
       · cases h
     · rename_i b j off hx
       split at h
       · rename_i l z hz
         split at h
         · rename_i ds st sz rows ro hd hH
           split at h
           · rename_i row hrow
             split at h
             · rename_i hc
               cases h
               exact good_str I hev hinj hs ho hn hX hY hcs hl hx hz hd hH hrow hc.1 hc.2 rfl
             · cases h
           · cases h
         · cases h
       · cases h
     · cases h
   · cases h
 · cases h
theorem op_nc {x : Operand} {X : VM.X} {e : Eff} (ho : o.op = .nilCheck x) (hX : stripX cid x = some X) (h : opV call M G stamp ev H g s (.nc X) = some e) : Good P fid G E κ FN FZ g s ρ o e := by
 simp only [opV] at h; split at h
 · rename_i b off hx; obtain ⟨v, hv, rfl⟩ := ret0_some h; cases hv
   exact good_nc (v := .w .nil) I hev ho hX (by rw [hx]) (.inl ⟨_, _, hx⟩)
 · rename_i b i off hx; obtain ⟨v, hv, rfl⟩ := ret0_some h; cases hv
   exact good_nc (v := .w .nil) I hev ho hX (by rw [hx]) (.inr (.inl ⟨_, _, _, hx⟩))
 · rename_i r off hx; obtain ⟨v, hv, rfl⟩ := ret0_some h; cases hv
   exact good_nc (v := .w .nil) I hev ho hX (by rw [hx]) (.inr (.inr (.inl ⟨_, _, hx⟩)))
 · rename_i k off hx; obtain ⟨v, hv, rfl⟩ := ret0_some h; cases hv
   exact good_nc (v := .w .nil) I hev ho hX (by rw [hx]) (.inr (.inr (.inr (.inl ⟨_, _, hx⟩))))
 · rename_i f c hx; obtain ⟨v, hv, rfl⟩ := ret0_some h; cases hv
   exact good_nc (v := .w .nil) I hev ho hX (by rw [hx]) (.inr (.inr (.inr (.inr ⟨_, _, hx⟩))))
 · cases h
theorem op_fa {t : TypeId} {x : Operand} {i n : Nat} {fs : Array Field} {f : Field} {X : VM.X} {e : Eff} (ho : o.op = .fieldAddr t x i) (hu : P.underlying t = some (.struct fs)) (hf : fs[i]? = some f) (hn : sz? P f.type = some n) (h0 : n ≠ 0) (hX : stripX cid x = some X)
 (h : opV call M G stamp ev H g s (.fa f.offset X) = some e) : Good P fid G E κ FN FZ g s ρ o e := by
 simp only [opV] at h; split at h
 · rename_i b off hx; obtain ⟨v, hv, rfl⟩ := ret0_some h; cases hv
   exact good_fa I hev ho hu hf hn h0 hX rfl (.inl ⟨_, _, hx, rfl⟩)
 · rename_i b i off hx; obtain ⟨v, hv, rfl⟩ := ret0_some h; cases hv
   exact good_fa I hev ho hu hf hn h0 hX rfl (.inr (.inl ⟨_, _, _, hx, rfl⟩))
 · rename_i r off hx; obtain ⟨v, hv, rfl⟩ := ret0_some h; cases hv
   exact good_fa I hev ho hu hf hn h0 hX rfl (.inr (.inr (.inl ⟨_, _, hx, rfl⟩)))
 · rename_i k off hx; obtain ⟨v, hv, rfl⟩ := ret0_some h; cases hv
   exact good_fa I hev ho hu hf hn h0 hX rfl (.inr (.inr (.inr ⟨_, _, hx, rfl⟩)))
 · cases h
theorem op_iaa {t e0 : TypeId} {x i : Operand} {len n : Nat} {J X : VM.X} {e : Eff} (ho : o.op = .indexAddr t x i) (hu : P.underlying t = some (.array len e0)) (hn : sz? P e0 = some n) (hX : stripX cid x = some X) (hJ : stripX cid i = some J)
 (h : opV call M G stamp ev H g s (.iaa len n X J) = some e) : Good P fid G E κ FN FZ g s ρ o e := by
 simp only [opV] at h; split at h
 · rename_i k j hj
   split at h
   · rename_i h0
     split at h
     · rename_i b off hx; obtain ⟨v, hv, rfl⟩ := ret0_some h; cases hv
       exact good_iaa I hev ho hu hn hX hJ hj h0 rfl (.inl ⟨_, _, hx, rfl⟩)
     · rename_i b i off hx; obtain ⟨v, hv, rfl⟩ := ret0_some h; cases hv
       exact good_iaa I hev ho hu hn hX hJ hj h0 rfl (.inr (.inl ⟨_, _, _, hx, rfl⟩))
     · rename_i r off hx; obtain ⟨v, hv, rfl⟩ := ret0_some h; cases hv
       exact good_iaa I hev ho hu hn hX hJ hj h0 rfl (.inr (.inr (.inl ⟨_, _, hx, rfl⟩)))
     · rename_i k off hx; obtain ⟨v, hv, rfl⟩ := ret0_some h; cases hv
       exact good_iaa I hev ho hu hn hX hJ hj h0 rfl (.inr (.inr (.inr ⟨_, _, hx, rfl⟩)))
     · cases h
   · cases h
 · cases h
theorem op_ia {t e0 : TypeId} {x i : Operand} {n : Nat} {J X : VM.X} {e : Eff} (ho : o.op = .indexAddr t x i) (hu : P.underlying t = some (.slice e0)) (hn : sz? P e0 = some n) (hX : stripX cid x = some X) (hJ : stripX cid i = some J)
 (h : opV call M G stamp ev H g s (.ia n X J) = some e) : Good P fid G E κ FN FZ g s ρ o e := by
 simp only [opV] at h; split at h
 · rename_i b off len cap k j hx hj
   split at h
   · rename_i st sz rows ro hH
     split at h
     · rename_i hc
       cases h
       obtain ⟨rfl, h0⟩ := hc; exact good_ia_own I hev ho hu hn hX hJ hj hx hH h0 rfl
     · cases h
   · cases h
 · rename_i st rows k j hx hj
   split at h
   · rename_i h0
     split at h
     · rename_i row hrow
       split at h
       · rename_i hl
         obtain ⟨v, hv, rfl⟩ := ret0_some h; cases hv
         exact good_ia_data I hev ho hu hn hX hJ hj hx (.inl rfl) h0 hrow hl rfl
       · cases h
     · cases h
   · cases h
 · rename_i st rows k j hx hj
   split at h
   · rename_i h0
     split at h
     · rename_i row hrow
       split at h
       · rename_i hl
         obtain ⟨v, hv, rfl⟩ := ret0_some h; cases hv
         exact good_ia_data I hev ho hu hn hX hJ hj hx (.inr rfl) h0 hrow hl rfl
       · cases h
     · cases h
   · cases h
 · cases h
theorem op_ixs {t : TypeId} {x i : Operand} {J X : VM.X} {e : Eff} (ho : o.op = .index t x i) (hu : P.underlying t = some .string) (hX : stripX cid x = some X) (hJ : stripX cid i = some J)
 (h : opV call M G stamp ev H g s (.ixs X J) = some e) : Good P fid G E κ FN FZ g s ρ o e := by
 simp only [opV] at h; split at h
 · rename_i b k j hb hj
   split at h
   · rename_i h0
     split at h
     · rename_i c hc
       exact good_ixs I hev ho hu hX hJ hb hj h0 hc h
     · cases h
   · cases h
 · cases h
theorem op_ixa {t e0 : TypeId} {x i : Operand} {a : Bool} {len n : Nat} {J X : VM.X} {e : Eff} (ho : o.op = .index t x i) (hu : P.underlying t = some (.array len e0)) (ha : agg? P e0 = some a) (hn : sz? P e0 = some n) (h1 : (a || n == 1) = true) (hX : stripX cid x = some X) (hJ : stripX cid i = some J)
 (h : opV call M G stamp ev H g s (.ixa a len n X J) = some e) : Good P fid G E κ FN FZ g s ρ o e := by
 simp only [opV] at h; split at h
 · rename_i cs k j hx hj
   split at h
   · rename_i h0
     obtain ⟨v, hv, rfl⟩ := ret0_some h; cases hp : part? cs (j.toNat * n) n with
     | none => simp [hp] at hv
     | some p =>
      simp [hp] at hv; exact good_ixa I hev ho hu ha hn h1 hX hJ hj h0 hx hp hv rfl
   · cases h
 · cases h
theorem op_fld {t : TypeId} {x : Operand} {i n : Nat} {fs : Array Field} {f : Field} {a : Bool} {X : VM.X} {e : Eff} (ho : o.op = .field t x i) (hu : P.underlying t = some (.struct fs)) (hf : fs[i]? = some f) (ha : agg? P f.type = some a) (hn : sz? P f.type = some n) (h1 : (a || n == 1) = true) (hX : stripX cid x = some X)
 (h : opV call M G stamp ev H g s (.fld a f.offset n X) = some e) : Good P fid G E κ FN FZ g s ρ o e := by
 simp only [opV] at h; split at h
 · rename_i cs hx
   obtain ⟨v, hv, rfl⟩ := ret0_some h; cases hp : part? cs f.offset n with
   | none => simp [hp] at hv
   | some p =>
    simp [hp] at hv; exact good_fld I hev ho hu hf ha hn h1 hX hx hp hv rfl
 · cases h
theorem op_ext {x : Operand} {i : Nat} {X : VM.X} {e : Eff} (ho : o.op = .extract x i) (hX : stripX cid x = some X) (h : opV call M G stamp ev H g s (.ext i X) = some e) : Good P fid G E κ FN FZ g s ρ o e := by
 simp only [opV] at h; split at h
 · rename_i vs hx
   split at h
   · rename_i p hp
     exact good_ext I hev ho hX hx hp h
   · cases h
 · cases h
theorem op_sls {t : TypeId} {x : Operand} {lo hi : Option Operand} {LO HI : Option VM.X} {X : VM.X} {e : Eff} (ho : o.op = .slice t x lo hi none) (hu : P.underlying t = some .string) (hX : stripX cid x = some X) (hLO : stripXo cid lo = some LO) (hHI : stripXo cid hi = some HI)
 (h : opV call M G stamp ev H g s (.sls X LO HI) = some e) : Good P fid G E κ FN FZ g s ρ o e := by
 simp only [opV] at h; split at h
 · rename_i b l u hb hl hh
   split at h
   · rename_i hc
     exact good_sls I hev ho hu hX hLO hHI hb hl hh hc h
   · cases h
 · cases h
theorem op_sl {t e0 : TypeId} {n : Nat} {x : Operand} {lo hi mx : Option Operand} {LO HI MX : Option VM.X} {X : VM.X} {e : Eff} (ho : o.op = .slice t x lo hi mx) (hu : P.underlying t = some (.slice e0)) (hn : sz? P e0 = some n) (hX : stripX cid x = some X) (hLO : stripXo cid lo = some LO) (hHI : stripXo cid hi = some HI) (hMX : stripXo cid mx = some MX)
 (h : opV call M G stamp ev H g s (.sl n X LO HI MX) = some e) : Good P fid G E κ FN FZ g s ρ o e := by
 simp only [opV] at h; split at h
 · rename_i y l u m hy hl hh hm
   split at h
   · rename_i rows tt hr
     split at h
     · rename_i hc
       obtain ⟨h1, h2, h3, h4, h5⟩ := hc; split at h
       · rename_i b off len cap
         split at h
         · rename_i st sz rs ro hH
           split at h
           · rename_i hsz
             subst hsz; cases h
             simp only [rowsOf, hH] at hr; split at hr
             · rename_i hfit
               cases hr
               have hll : ((rs.drop off).take len).length = len := by simp; omega
               rw [hll] at h2 h3 h4 ⊢; exact good_sl_own I hev ho hu hn hX hLO hHI hMX hl hh hm hy hH ⟨h1, h2, h3, h4⟩ h5 rfl
             · cases hr
           · cases h
         · cases h
       · obtain ⟨v, hv, rfl⟩ := ret0_some h; cases hv
         simp [rowsOf] at hr; obtain ⟨rfl, rfl⟩ := hr; exact good_sl_nil I hev ho hu hn hX hLO hHI hMX hl hh hm hy (by simpa using ⟨h1, h2, h3, h4⟩) h5 rfl
       · rename_i st rs
         split at h
         · rename_i hall
           obtain ⟨v, hv, rfl⟩ := ret0_some h; cases hv
           simp [rowsOf] at hr; obtain ⟨rfl, rfl⟩ := hr; have hrel := hev x X hX; rw [hy] at hrel; obtain ⟨v, hrun, hv, hne⟩ := sl_data I hev ho hu hn hLO hHI hMX hl hh hm rfl hrel.1 hall ⟨h1, h2, h3, h4⟩ h5; exact good_pure I hrun ⟨hv, hne hrel.2⟩
         · cases h
       · rename_i st rs
         split at h
         · rename_i hall
           obtain ⟨v, hv, rfl⟩ := ret0_some h; cases hv
           simp [rowsOf] at hr; obtain ⟨rfl, rfl⟩ := hr; have hrel := hev x X hX; rw [hy] at hrel; obtain ⟨v, hrun, hv, hne⟩ := sl_data I hev ho hu hn hLO hHI hMX hl hh hm rfl hrel hall ⟨h1, h2, h3, h4⟩ h5; exact good_pure I hrun hv
         · cases h
       · cases h
     · cases h
   · cases h
 · cases h
end ops
end
end Go.VM

/- The value machine: an operation, whatever it is, and a call. Conditions: none. -/
namespace Go.VM
set_option linter.unusedVariables false
set_option linter.unusedSimpArgs false
set_option linter.unusedSectionVars false
section
variable {P : Program} {fid : Nat → FuncId} {cid : FuncId → Nat} {G : Nat → Option (List D)} {E : Entry} {κ : Ctx} {H : Nat → Box} {FN FZ : Nat → Prop} {g : Nat} {s : Sup}
variable {ρ : Operand → Value} {ev : X → V} {o : Oper} {call : CallT} {M : Nat → Mode} {stamp : Bool}
section ops
variable (I : Inv fid G E κ H FN FZ) (hev : ∀ x X, stripX cid x = some X → VRel fid κ (ρ x) (ev X)) (hfn : ∀ n, g ≤ n → n < g + 64 → FN n) (hinj : ∀ a b, s a = s b → a = b) (hs : ∀ k, FZ (s k))
include I hev hfn
theorem op_builtin {c : Call} {op : O} {e : Eff} (ho : o.op = .call c) (hc : ∀ f, c.callee ≠ .value f) (hO : stripCall P cid c = some op) (h : opV call M G stamp ev H g s op = some e) : Good P fid G E κ FN FZ g s ρ o e := by
 unfold stripCall at hO; split at hO
 · rename_i f hf; exact absurd hf (hc f)
 · rename_i hf
   split at hO
   · rename_i t x ht hx
     split at hO
     · rename_i X hu hX
       cases hO
       simp only [opV] at h; split at h
       · rename_i b hb; exact good_lens I hev ho hf ht hx hu hX hb h
       · cases h
     · rename_i e0 X hu hX
       cases hO
       simp only [opV] at h; split at h
       · rename_i b off len cap hy
         obtain ⟨v, hv, rfl⟩ := ret0_some h; cases hv
         exact good_lenl I hev ho hf ht hx hu hX hy (.inl ⟨_, _, _, rfl⟩) rfl
       · rename_i st rows hy
         obtain ⟨v, hv, rfl⟩ := ret0_some h; cases hv
         exact good_lenl I hev ho hf ht hx hu hX hy (.inr (.inl ⟨_, _, rfl, rfl⟩)) rfl
       · rename_i st rows hy
         obtain ⟨v, hv, rfl⟩ := ret0_some h; cases hv
         exact good_lenl I hev ho hf ht hx hu hX hy (.inr (.inr (.inl ⟨_, _, rfl, rfl⟩))) rfl
       · rename_i hy
         obtain ⟨v, hv, rfl⟩ := ret0_some h; cases hv
         exact good_lenl (n := 0) I hev ho hf ht hx hu hX hy (.inr (.inr (.inr ⟨rfl, rfl⟩))) rfl
       · cases h
     · cases hO
   · cases hO
 · rename_i hf
   split at hO
   · rename_i t u x y hat hag
     split at hO
     · rename_i e0 e1 X Y ht hu hX hY
       split at hO
       · rename_i ti zd hi hz
         split at hO
         · rename_i hpos
           cases hO
           simp only [opV] at h; split at h
           · rename_i yw hy
             split at h
             · rename_i ys tt hr
               split at h
               · rename_i hall
                 simp only [Bool.and_eq_true] at hall; split at h
                 · rename_i hx
                   split at h
                   · rename_i hroom
                     cases h
                     exact good_app_nil I hev hfn ho hf hat hag ht hu hi hz hpos hX hY hx hy hr hall.1 hroom rfl
                   · cases h
                 · rename_i b off len cap hx
                   split at h
                   · rename_i st sz rows ro hH
                     split at h
                     · rename_i hcond
                       obtain ⟨rfl, h1, h2, h3⟩ := hcond; cases h
                       exact good_app_own I hev hfn ho hf hat hag ht hu hi hz hpos hX hY hx hy hr hall.1 hH h1 h2 h3 rfl
                     · cases h
                   · cases h
                 · cases h
               · cases h
             · cases h
           · cases h
         · cases hO
       · cases hO
     · cases hO
   · cases hO
 · rename_i hf
   cases hL : stripXs cid c.args.toList with
   | none => simp [hL] at hO
   | some L =>
    simp [hL] at hO; subst hO
    simp only [opV] at h; split at h
    · rename_i v r hm
      split at h
      · rename_i k a hv
        exact good_mmx (isMax := true) I hev ho (by simpa using hf) hL hm hv h
      · cases h
    · cases h
 · rename_i hf
   cases hL : stripXs cid c.args.toList with
   | none => simp [hL] at hO
   | some L =>
    simp [hL] at hO; subst hO
    simp only [opV] at h; split at h
    · rename_i v r hm
      split at h
      · rename_i k a hv
        exact good_mmx (isMax := false) I hev ho (by simpa using hf) hL hm hv h
      · cases h
    · cases h
 · cases hO
include hinj hs
theorem op_good (hcid : ∀ f, fid (cid f) = f) {op : O} {e : Eff} (hc : ∀ c f, o.op = .call c → c.callee ≠ .value f) (hO : stripO P cid o.op = some op) (h : opV call M G stamp ev H g s op = some e) : Good P fid G E κ FN FZ g s ρ o e := by
 generalize hop : o.op = q at hO; cases q with
 | move x =>
  simp only [stripO, Option.map_eq_some_iff] at hO; obtain ⟨X, hX, rfl⟩ := hO; exact good_mv I hev (.inl hop) hX h
 | assign x =>
  simp only [stripO, Option.map_eq_some_iff] at hO; obtain ⟨X, hX, rfl⟩ := hO; exact good_mv I hev (.inr hop) hX h
 | pick c a b =>
  simp only [stripO] at hO; split at hO
  · rename_i C A B h1 h2 h3; cases hO; exact good_pick I hev hop h1 h2 h3 h
  · cases hO
 | alloc t =>
  simp only [stripO, Option.map_eq_some_iff] at hO; obtain ⟨z, hz, rfl⟩ := hO; simp only [opV] at h; cases h
  exact good_new I hev hfn hop hz rfl
 | box t x =>
  simp only [stripO] at hO; split at hO
  · rename_i n X hn hX
    cases hO
    simp only [opV] at h; split at h
    · rename_i cs hcs
      split at h
      · cases h; exact good_box I hev hfn hop hX hcs rfl
      · cases h
    · cases h
  · cases hO
 | build t parts =>
  simp only [stripO] at hO; split at hO
  · rename_i fs z hu hz
    split at hO
    · rename_i hall
      obtain ⟨L, hL, rfl⟩ := Option.map_eq_some_iff.1 hO; simp only [opV] at h; obtain ⟨v, hv, rfl⟩ := ret0_some h; obtain ⟨out, hs', rfl⟩ := Option.map_eq_some_iff.1 hv; exact good_bld I hev hop hz (.inl ⟨fs, hu, hall, hL⟩) hs' rfl
    · cases hO
  · rename_i n e0 z hu hz
    obtain ⟨k, hk, hO⟩ := Option.bind_eq_some_iff.1 hO; obtain ⟨L, hL, rfl⟩ := Option.map_eq_some_iff.1 hO; simp only [opV] at h; obtain ⟨v, hv, rfl⟩ := ret0_some h; obtain ⟨out, hs', rfl⟩ := Option.map_eq_some_iff.1 hv; exact good_bld I hev hop hz (.inr ⟨n, e0, k, hu, hk, hL⟩) hs' rfl
  · cases hO
 | buildSlice t len parts =>
  simp only [stripO] at hO; split at hO
  · rename_i e0 hu
    split at hO
    · rename_i n z L hn hz hL
      split at hO
      · rename_i hpos
        cases hO
        simp only [opV] at h; split at h
        · rename_i rows z' hr
          cases h
          exact good_bsl I hev hfn hinj hs hop hu hn hz hL hpos hr rfl
        · cases h
      · cases hO
    · cases hO
  · cases hO
 | load t x =>
  simp only [stripO] at hO; split at hO
  · rename_i a n X ha hn hX
    split at hO
    · rename_i h1; cases hO; exact op_ld I hev hop ha hn hX h1 h
    · cases hO
  · cases hO
 | store t x y =>
  simp only [stripO] at hO; split at hO
  · rename_i n X Y hn hX hY; cases hO; exact op_st I hev hinj hs hop hn hX hY h
  · cases hO
 | nilCheck x =>
  simp only [stripO, Option.map_eq_some_iff] at hO; obtain ⟨X, hX, rfl⟩ := hO; exact op_nc I hev hop hX h
 | binOp op' t x y yt =>
  simp only [stripO] at hO; split at hO
  · rename_i c X Y hc hX hY; cases hO; exact good_bin I hev hop hc hX hY h
  · cases hO
 | unOp op' t x =>
  simp only [stripO, Option.map_eq_some_iff] at hO; obtain ⟨X, hX, rfl⟩ := hO; exact good_un I hev hop hX h
 | convert src dst x =>
  simp only [stripO] at hO; split at hO
  · rename_i k0 k X hs' hd hX; cases hO; exact good_cvi I hev hop hs' hd hX h
  · rename_i e0 X hs' hd hX
    split at hO
    · rename_i hu8
      cases hO
      simp only [opV] at h; split at h
      · rename_i y hy
        split at h
        · rename_i rows tt hr
          split at h
          · rename_i bs hb
            cases h
            exact good_cbs I hev hop hs' hd hu8 hX hy hr hb rfl
          · cases h
        · cases h
      · cases h
    · cases hO
  · cases hO
 | makeFunc fn first caps =>
  cases fn with
  | func f =>
   simp only [stripO] at hO; split at hO
   · rename_i h0
     obtain ⟨L, hL, rfl⟩ := Option.map_eq_some_iff.1 hO; simp only [opV] at h; split at h
     · rename_i C hC
       obtain ⟨v, hv, rfl⟩ := ret0_some h; cases hv
       exact good_mkf I hev hop h0 (hcid f) hL hC rfl
     · cases h
   · cases hO
  | _ => simp [stripO] at hO
 | makeSlice t l c =>
  simp only [stripO] at hO; split at hO
  · rename_i e0 hu
    split at hO
    · rename_i ti z L C hi hz hL hC
      split at hO
      · rename_i hpos
        cases hO
        simp only [opV] at h; split at h
        · rename_i ln cp hl hc
          split at h
          · rename_i hcond
            cases h
            exact good_msl I hev hfn hop hu hi hz hpos hL hC hl hc ⟨hcond.1, hcond.2.1⟩ hcond.2.2 rfl
          · cases h
        · cases h
      · cases hO
    · cases hO
  · cases hO
 | slice t x lo hi mx =>
  simp only [stripO] at hO; split at hO
  · rename_i X LO HI hu hX hLO hHI hMX
    cases hO
    cases mx with
    | none => exact op_sls I hev hop hu hX hLO hHI h
    | some m => simp [stripXo] at hMX
  · rename_i e0 X LO HI MX hu hX hLO hHI hMX
    obtain ⟨n, hn, rfl⟩ := Option.map_eq_some_iff.1 hO; exact op_sl I hev hop hu hn hX hLO hHI hMX h
  · cases hO
 | fieldAddr t x f =>
  simp only [stripO] at hO; split at hO
  · rename_i fs X hu hX
    split at hO
    · rename_i fd hf
      split at hO
      · rename_i n hn
        split at hO
        · cases hO
        · rename_i h0; cases hO; exact op_fa I hev hop hu hf hn h0 hX h
      · cases hO
    · cases hO
  · cases hO
 | field t x f =>
  simp only [stripO] at hO; split at hO
  · rename_i fs X hu hX
    split at hO
    · rename_i fd hf
      split at hO
      · rename_i a n ha hn
        split at hO
        · rename_i h1; cases hO; exact op_fld I hev hop hu hf ha hn h1 hX h
        · cases hO
      · cases hO
    · cases hO
  · cases hO
 | indexAddr t x i =>
  simp only [stripO] at hO; split at hO
  · rename_i n e0 X J hu hX hJ
    obtain ⟨k, hk, rfl⟩ := Option.map_eq_some_iff.1 hO; exact op_iaa I hev hop hu hk hX hJ h
  · rename_i e0 X J hu hX hJ
    obtain ⟨k, hk, rfl⟩ := Option.map_eq_some_iff.1 hO; exact op_ia I hev hop hu hk hX hJ h
  · cases hO
 | index t x i =>
  simp only [stripO] at hO; split at hO
  · rename_i n e0 X J hu hX hJ
    split at hO
    · rename_i a k ha hk
      split at hO
      · rename_i h1; cases hO; exact op_ixa I hev hop hu ha hk h1 hX hJ h
      · cases hO
    · cases hO
  · rename_i X J hu hX hJ
    cases hO; exact op_ixs I hev hop hu hX hJ h
  · cases hO
 | extract x i =>
  simp only [stripO, Option.map_eq_some_iff] at hO; obtain ⟨X, hX, rfl⟩ := hO; exact op_ext I hev hop hX h
 | call c => exact op_builtin I hev hfn hop (fun f => hc c f hop) hO h
 | _ => simp [stripO] at hO
theorem op_call (hcall : ∀ f args bs s r, call f args bs s = some r → CallOK P fid G f args bs s r) {c : Call} {f0 : Operand} {op : O} {e : Eff} (ho : o.op = .call c) (hc : c.callee = .value f0) (hO : stripO P cid o.op = some op)
 (h : opV call M G stamp ev H g s op = some e) : ∃ f args, (execOp ρ o).run P κ.w = .ok (.enter f args) κ.w ∧ Calls P f args κ.w fun en w' => ∃ v κ', en = .returned v ∧ κ'.w = w' ∧ κ.le κ' ∧ VRel fid κ' v e.v ∧ Inv fid G E κ' e.H (FN' FN g) (FZ' FZ s) := by
 rw [ho] at hO; simp only [stripO, stripCall, hc] at hO; split at hO
 · rename_i F L hF hL
   cases hO
   simp only [opV] at h; split at h
   · rename_i f caps hf
     have hfr := hev f0 F hF; rw [hf] at hfr; obtain ⟨arr, hρ, hsz, hcr⟩ := hfr; obtain ⟨h1, h2⟩ := map_rel hev hL; obtain ⟨hent, hcalls⟩ := callV_ok (vs := c.args.toList.map ρ ++ arr.toList) hcall I hinj hs hfn (by simp at h1 ⊢; omega) (fun i x hx => by
      rw [List.getElem?_append] at hx; split at hx
      · rename_i hi
        obtain ⟨u, hu, q⟩ := h2 i x hx; exact ⟨u, by rw [List.getElem?_append_left (by rw [h1]; exact hi)]; exact hu, q⟩
      · rename_i hi
        rw [List.getElem?_map] at hx; obtain ⟨cp, hci, rfl⟩ := Option.map_eq_some_iff.1 hx; obtain ⟨u, hu, q⟩ := hcr _ cp hci; refine ⟨u, by rw [List.getElem?_append_right (by rw [h1]; omega), h1]; simpa using hu, ?_⟩
        cases cp with
        | d x => exact q
        | ptr b off => exact q) h
     refine ⟨fid f, (c.args.toList.map ρ ++ arr.toList).toArray, ?_, hcalls⟩
     have hargs : (c.args.toList.map ρ ++ arr.toList).toArray = c.args.map ρ ++ arr := by
      apply Array.ext'; simp
     have he := hent (c.args.map ρ ++ arr) κ.w; have hρ' : ρ f0 = .func (.func (fid f)) #[] arr := hρ; rw [hargs]; simp [execOp, ho, resolve, hc, Deferred.ofValue, hρ', invoke, he]
   · cases h
 · cases hO
theorem op_wp (hcid : ∀ f, fid (cid f) = f) (hcall : ∀ f args bs s r, call f args bs s = some r → CallOK P fid G f args bs s r) {op : O} {e : Eff} {a : Act} {K : Act → World → Prop} {Q : Exit → Act → World → Prop} (ha : a.eval = ρ)
 (hO : stripO P cid o.op = some op) (h : opV call M G stamp ev H g s op = some e)
 (hK : ∀ v κ', κ.le κ' → VRel fid κ' v e.v → Inv fid G E κ' e.H (FN' FN g) (FZ' FZ s) → K (a.put o.dst v) κ'.w) : o.wp P a κ.w K Q := by
 by_cases hc : ∃ c f, o.op = .call c ∧ c.callee = .value f
 · obtain ⟨c, f, ho, hcv⟩ := hc
   obtain ⟨f', args, hrun, hcalls⟩ := op_call I hev hfn hinj hs hcall ho hcv hO h; unfold Oper.wp; rw [ha, hrun]
   show Calls P f' args κ.w _
   refine hcalls.mono ?_
   rintro en w' ⟨v, κ', rfl, rfl, h1, h2, h3⟩; exact hK v κ' h1 h2 h3
 · have hc' : ∀ c f, o.op = .call c → c.callee ≠ .value f := fun c f h1 h2 => hc ⟨c, f, h1, h2⟩
   obtain ⟨n, v, κ', hrun, hn, h1, h2, h3⟩ := op_good I hev hfn hinj hs hcid hc' hO h; unfold Oper.wp; rw [ha, hrun]; rcases hn with rfl | ⟨rfl, rfl⟩
   · exact hK v κ' h1 h2 h3
   · exact hK undef κ' h1 h2 h3
end ops
end
end Go.VM

/- The value machine: regions in any order in which the machine is run, and code. Conditions: none. -/
namespace Go.VM
set_option linter.unusedVariables false
set_option linter.unusedSimpArgs false
set_option linter.unusedSectionVars false
section strip
variable (P : Program) (cid : FuncId → Nat)
def stripRO (ops : Array Oper) (o : Oper) : Option RO :=
 match stripO P cid o.op with
 | none => none
 | some op => match o.guard with
  | none => some ⟨o.dst, op, none⟩
  | some (j, w) => match (ops[j]?).bind (·.dst) with
   | some t => some ⟨o.dst, op, some (t, w)⟩
   | none => none
def stripROs (ops : Array Oper) : List Oper → Option (List RO)
 | [] => some []
 | o :: r => match stripRO P cid ops o, stripROs ops r with
  | some x, some l => some (x :: l)
  | _, _ => none
end strip
def runL (call : CallT) (M : Nat → Mode) (G : Nat → Option (List D)) (stamp : Bool) (N : Nat) (g : Nat) (s : Sup) : List (Nat × RO) → (Nat → V) → (Nat → Box) → Option ((Nat → V) × (Nat → Box))
 | [], τ, H => some (τ, H)
 | (i, o) :: r, τ, H => match stepE call M G stamp τ H (g + 64 * i) (subS s i) o with
  | some e => match put N τ o.dst e.v with
   | some τ' => runL call M G stamp N g s r τ' e.H
   | none => none
  | none => none
theorem odd_pow : ∀ (a b k j : Nat), 2 ^ a * (2 * k + 1) = 2 ^ b * (2 * j + 1) → a = b
 | 0, 0, _, _, _ => rfl
 | 0, b + 1, k, j, h => by rw [Nat.pow_succ] at h; simp [Nat.mul_assoc] at h; rw [Nat.mul_left_comm] at h; omega
 | a + 1, 0, k, j, h => by rw [Nat.pow_succ] at h; simp [Nat.mul_assoc] at h; rw [Nat.mul_left_comm] at h; omega
 | a + 1, b + 1, k, j, h => by
  have := odd_pow a b k j (by rw [Nat.pow_succ, Nat.pow_succ, Nat.mul_comm (2 ^ a) 2, Nat.mul_comm (2 ^ b) 2, Nat.mul_assoc, Nat.mul_assoc] at h; exact Nat.eq_of_mul_eq_mul_left (by omega) h); rw [this]
theorem subS_inj {s : Sup} (h : ∀ a b, s a = s b → a = b) (i : Nat) : ∀ a b, subS s i a = subS s i b → a = b := fun a b e => by
 have := h _ _ e; have := Nat.eq_of_mul_eq_mul_left (Nat.two_pow_pos _) this; omega
theorem subS_ne {s : Sup} (h : ∀ a b, s a = s b → a = b) {i j : Nat} (hij : i ≠ j) (k m : Nat) : subS s i k ≠ subS s j m := fun e => by
 have := odd_pow _ _ _ _ (h _ _ e); omega
theorem restS_ne {s : Sup} (h : ∀ a b, s a = s b → a = b) (i k m : Nat) : restS s m ≠ subS s i k := fun e => by
 have := h _ _ e; have := odd_pow 0 (i + 1) m k (by simpa using this); omega
theorem restS_inj {s : Sup} (h : ∀ a b, s a = s b → a = b) : ∀ a b, restS s a = restS s b → a = b := fun a b e => by have := h _ _ e; omega
section
variable {P : Program} {fid : Nat → FuncId} {cid : FuncId → Nat} {G : Nat → Option (List D)} {E : Entry} {κ : Ctx} {call : CallT} {M : Nat → Mode} {stamp : Bool} {N : Nat}
structure Slots (fid : Nat → FuncId) (N : Nat) (κ : Ctx) (a : Act) (τ : Nat → V) : Prop where
 rel : ∀ t, VRel fid κ (a.tmps.getD t undef) (τ t)
 size : a.tmps.size = N
 defers : a.defers = []
theorem Slots.mono {κ κ' : Ctx} {a : Act} {τ : Nat → V} (h : Slots fid N κ a τ) (hle : κ.le κ') : Slots fid N κ' a τ := ⟨fun t => (h.rel t).mono hle, h.size, h.defers⟩
theorem Slots.put {a : Act} {τ τ' : Nat → V} {d : Option Nat} {v : Value} {x : V} (h : Slots fid N κ a τ) (hp : put N τ d x = some τ') (hv : VRel fid κ v x) : Slots fid N κ (a.put d v) τ' := by
 cases d with
 | none => simp [VM.put] at hp; subst hp; exact h
 | some d =>
  simp only [VM.put] at hp; split at hp
  · rename_i hd
    cases hp
    refine ⟨fun t => ?_, by simp [Act.put, h.size], h.defers⟩
    simp only [Act.put, upd]
    by_cases e : t = d
    · subst e
      have : t < a.tmps.size := by rw [h.size]; exact hd
      rw [if_pos rfl]; have e2 : (a.tmps.setIfInBounds t v).getD t undef = v := by simp [Array.getD, this]
      rw [e2]; exact hv
    · rw [if_neg e]
      have e2 : (a.tmps.setIfInBounds d v).getD t undef = a.tmps.getD t undef := by
       simp only [Array.getD_eq_getD_getElem?, Array.getElem?_setIfInBounds_ne (fun h => e h.symm)]
      rw [e2]; exact h.rel t
  · cases hp
theorem Slots.ev {a : Act} {τ : Nat → V} (hcid : ∀ f, fid (cid f) = f) (h : Slots fid N κ a τ) : ∀ x X, stripX cid x = some X → VRel fid κ (a.eval x) (evX τ X) := by
 intro x X hX; cases x with
 | tmp t => simp [stripX] at hX; subst hX; exact h.rel t
 | const v =>
  simp only [stripX, Option.map_eq_some_iff] at hX; obtain ⟨y, hy, rfl⟩ := hX; exact constV_rel hy
 | global g => simp [stripX] at hX; subst hX; rfl
 | func f => simp [stripX] at hX; subst hX; exact ⟨#[], by simp [Act.eval, hcid f], rfl, by simp⟩
theorem undef_rel : VRel fid κ undef (.tup []) := ⟨#[], rfl, rfl, by simp⟩
def freeN (g total : Nat) (l : List Nat) (n : Nat) : Prop := (∃ i ∈ l, g + 64 * i ≤ n ∧ n < g + 64 * i + 64) ∨ g + 64 * total ≤ n
def freeZ (s : Sup) (l : List Nat) (z : Nat) : Prop := (∃ i ∈ l, ∃ k, z = subS s i k) ∨ ∃ k, z = restS s k
theorem yielded_of {ops : Array Oper} {tmps : Array Value} {j t : Nat} (h : (ops[j]?).bind (·.dst) = some t) : yielded ops tmps j = match tmps[t]? with | some (.bool b) => some b | _ => none := by
 unfold yielded; rw [h]
 rfl
theorem seqL {ops : Array Oper} {Q : Exit → Act → World → Prop} {g total : Nat} {s : Sup} (hcid : ∀ f, fid (cid f) = f) (hcall : ∀ f args bs s r, call f args bs s = some r → CallOK P fid G f args bs s r) (hinj : ∀ a b, s a = s b → a = b) :
 ∀ (l : List (Nat × Oper × RO)), (∀ p ∈ l, p.1 < total ∧ ops[p.1]? = some p.2.1 ∧ stripRO P cid ops p.2.1 = some p.2.2) → (l.map (·.1)).Nodup →
 ∀ {κ : Ctx} {a : Act} {τ τ' : Nat → V} {H H' : Nat → Box}, Inv fid G E κ H (freeN g total (l.map (·.1))) (freeZ s (l.map (·.1))) → Slots fid N κ a τ →
 runL call M G stamp N g s (l.map fun p => (p.1, p.2.2)) τ H = some (τ', H') →
 (∀ a' κ', κ.le κ' → Slots fid N κ' a' τ' → Inv fid G E κ' H' (freeN g total []) (freeZ s []) → Q .normal a' κ'.w) → wpOps P ops Q (l.map (·.1)) a κ.w
 | [], _, _, κ, a, τ, τ', H, H', I, S, hr, hQ => by
  simp [runL] at hr; obtain ⟨rfl, rfl⟩ := hr; exact hQ a κ (Ctx.le.refl κ) S I
 | (i, o, r) :: l, hl, hn, κ, a, τ, τ', H, H', I, S, hr, hQ => by
  obtain ⟨hit, hop, hst⟩ := hl (i, o, r) (List.mem_cons_self ..); simp only at hit hop hst; simp only [List.map_cons, List.nodup_cons] at hn; simp only [List.map_cons, runL] at hr; have hlast : ∀ n, freeN g total (l.map (·.1)) n → FN' (freeN g total ((i, o, r) :: l |>.map (·.1))) (g + 64 * i) n := by
   rintro n (⟨j, hj, h1, h2⟩ | h)
   · have hne : j ≠ i := fun e => hn.1 (e ▸ hj)
     exact ⟨.inl ⟨j, by simp [hj], h1, h2⟩, by omega⟩
   · exact ⟨.inr h, by omega⟩
  have hlastz : ∀ z, freeZ s (l.map (·.1)) z → FZ' (freeZ s ((i, o, r) :: l |>.map (·.1))) (subS s i) z := by
   rintro z (⟨j, hj, k, rfl⟩ | ⟨k, rfl⟩)
   · have hne : j ≠ i := fun e => hn.1 (e ▸ hj)
     exact ⟨.inl ⟨j, by simp [hj], k, rfl⟩, fun m => subS_ne hinj hne k m⟩
   · exact ⟨.inr ⟨k, rfl⟩, fun m => restS_ne hinj i m k⟩
  split at hr
  · rename_i e he
    split at hr
    · rename_i τ₁ hp
      have skip : e = ⟨.tup [], H, [], false⟩ → wpOps P ops Q (l.map (·.1)) (a.put o.dst undef) κ.w := by
       intro hee; subst hee; have hd : r.dst = o.dst := by
        unfold stripRO at hst; split at hst
        · cases hst
        · split at hst
          · cases hst; rfl
          · split at hst
            · cases hst; rfl
            · cases hst
       rw [hd] at hp; exact seqL hcid hcall hinj l (fun p hp => hl p (List.mem_cons_of_mem _ hp)) hn.2 (I.weak (fun n h => (hlast n h).1) (fun z h => (hlastz z h).1)) (S.put hp undef_rel) hr hQ
      have doit : ∀ op, stripO P cid o.op = some op → r.dst = o.dst → opV call M G stamp (evX τ) H (g + 64 * i) (subS s i) op = some e → o.wp P a κ.w (wpOps P ops Q (l.map (·.1))) Q := by
       intro op hO hd hv; rw [hd] at hp; refine op_wp (ρ := a.eval) I (S.ev hcid) (fun n h1 h2 => .inl ⟨i, by simp, h1, h2⟩) (subS_inj hinj i) (fun k => .inl ⟨i, by simp, k, rfl⟩) hcid hcall rfl hO hv ?_
       intro v κ' hle hv' I'; refine seqL hcid hcall hinj l (fun p hp => hl p (List.mem_cons_of_mem _ hp)) hn.2 (I'.weak hlast hlastz) ((S.mono hle).put hp hv') hr ?_
       intro a' κ'' hle' S' I''; exact hQ a' κ'' (hle.trans hle') S' I''
      simp only [List.map_cons, wpOps, hop]; unfold stripRO at hst; split at hst
      · cases hst
      · rename_i op hO
        split at hst
        · rename_i hg
          cases hst
          simp only [stepE] at he; have hw : Region.wanted o (yielded ops a.tmps) = true := by simp [Region.wanted, hg]
          rw [if_pos hw]; exact .inl (doit op hO rfl he)
        · rename_i j w hg
          split at hst
          · rename_i t ht
            cases hst
            simp only [stepE] at he; have hy := yielded_of (tmps := a.tmps) ht; have hrel := S.rel t; split at he
            · rename_i b hb
              rw [hb] at hrel; have hv : a.tmps.getD t undef = .bool b := by generalize a.tmps.getD t undef = vv at hrel; cases hrel; rfl
              have hget : a.tmps[t]? = some (.bool b) := by
               rw [Array.getD_eq_getD_getElem?] at hv; cases hq : a.tmps[t]? with
               | none => rw [hq] at hv; simp [undef] at hv
               | some x => rw [hq] at hv; simp at hv; rw [hv]
              rw [hget] at hy; simp only at hy; split at he
              · rename_i hbw
                have hw : Region.wanted o (yielded ops a.tmps) = true := by simp [Region.wanted, hg, hy, hbw]
                rw [if_pos hw]; exact .inl (doit op hO rfl he)
              · rename_i hbw
                have hw : Region.wanted o (yielded ops a.tmps) = false := by simp [Region.wanted, hg, hy, hbw]
                rw [hw]; cases he
                exact skip rfl
            · rename_i vs hb
              rw [hb] at hrel; obtain ⟨arr, hv, _⟩ := hrel; have hw : Region.wanted o (yielded ops a.tmps) = false := by
               have : yielded ops a.tmps j = none := by
                rw [hy]; rw [Array.getD_eq_getD_getElem?] at hv; cases hq : a.tmps[t]? with
                | none => rfl
                | some x => rw [hq] at hv; simp at hv; rw [hv]
               simp [Region.wanted, hg, this]
              rw [hw]; cases he
              exact skip rfl
            · cases he
          · cases hst
    · cases hr
  · cases hr
theorem regV_runL {g : Nat} {s : Sup} : ∀ (ros : List RO) (i : Nat) (τ : Nat → V) (H : Nat → Box), regV call M G stamp N g s i ros τ H = runL call M G stamp N g s ((List.range' i ros.length).zip ros) τ H
 | [], i, τ, H => rfl
 | r :: ros, i, τ, H => by
  simp only [regV, List.length_cons, List.range'_succ, List.zip_cons_cons, runL]; cases stepE call M G stamp τ H (g + 64 * i) (subS s i) r with
  | none => rfl
  | some e =>
   simp only; cases put N τ r.dst e.v with
   | none => rfl
   | some τ' => exact regV_runL ros (i + 1) _ _
theorem stripROs_get {ops : Array Oper} : ∀ {l : List Oper} {ros : List RO}, stripROs P cid ops l = some ros → l.length = ros.length ∧ ∀ (i : Nat) (o : Oper) (r : RO), l[i]? = some o → ros[i]? = some r → stripRO P cid ops o = some r
 | [], ros, h => by simp [stripROs] at h; subst h; simp
 | o :: l, ros, h => by
  simp only [stripROs] at h; split at h
  · rename_i x r hx hr
    cases h
    obtain ⟨h1, h2⟩ := stripROs_get hr; refine ⟨by simp [h1], fun i o' r' ho hr' => ?_⟩
    match i with
    | 0 => simp at ho hr'; subst ho hr'; exact hx
    | i + 1 => exact h2 i o' r' (by simpa using ho) (by simpa using hr')
  · cases h
end
end Go.VM

/- The value machine: what an operation reads and writes. Conditions: none. -/
namespace Go.VM
set_option linter.unusedVariables false
set_option linter.unusedSimpArgs false
set_option linter.unusedSectionVars false
def FLoc {α : Type} (F : Fz → Option (α × Fz)) : Prop := ∀ z y z', F z = some (y, z') →
 (∀ b ∈ z.touch, b ∈ z'.touch) ∧ (∀ b, b ∉ z'.touch → z'.H b = z.H b) ∧
 ∀ z2 : Fz, z2.k = z.k → z2.touch = z.touch → (∀ b ∈ z'.touch, z2.H b = z.H b) →
  ∃ z2', F z2 = some (y, z2') ∧ z2'.k = z'.k ∧ z2'.touch = z'.touch ∧ ∀ b ∈ z'.touch, z2'.H b = z'.H b
theorem FLoc.pure {α : Type} (x : α) : FLoc fun z => some (x, z) := fun z y z' h => by
 cases h
 exact ⟨fun _ h => h, fun _ _ => rfl, fun z2 h1 h2 h3 => ⟨z2, rfl, h1, h2, h3⟩⟩
theorem FLoc.none {α : Type} : FLoc (α := α) fun _ => .none := fun z y z' h => by cases h
theorem FLoc.bind {α β : Type} {F : Fz → Option (α × Fz)} {K : α → Fz → Option (β × Fz)} (hF : FLoc F) (hK : ∀ x, FLoc (K x)) :
 FLoc fun z => match F z with | some (x, z') => K x z' | .none => .none := by
 intro z y z' h; simp only at h; split at h
 · rename_i x z1 h1
   obtain ⟨a1, a2, a3⟩ := hF z x z1 h1; obtain ⟨b1, b2, b3⟩ := hK x z1 y z' h; refine ⟨fun b hb => b1 b (a1 b hb), fun b hb => ?_, fun z2 hk ht hz => ?_⟩
   · rw [b2 b hb, a2 b (fun hm => hb (b1 b hm))]
   · obtain ⟨z3, c1, c2, c3, c4⟩ := a3 z2 hk ht (fun b hb => hz b (b1 b hb))
     obtain ⟨d1, d2, -⟩ := hF z2 x z3 c1; obtain ⟨z4, e1, e2, e3, e4⟩ := b3 z3 c2 c3 (fun b hb => by
      by_cases hm : b ∈ z1.touch
      · exact c4 b hm
      · rw [d2 b (by rw [c3]; exact hm), hz b hb, a2 b hm])
     exact ⟨z4, by simp only [c1]; exact e1, e2, e3, e4⟩
 · cases h
theorem FLoc.congr {α : Type} {F F' : Fz → Option (α × Fz)} (h : FLoc F) (e : ∀ z, F' z = F z) : FLoc F' := by
 have : F' = F := funext e; rw [this]; exact h
theorem frzW_loc (stamp : Bool) (s : Sup) (x : W) : FLoc fun z => frzW stamp s z x := by
 cases x with
 | own b off len cap =>
  intro z y z' h; simp only [frzW] at h; split at h
  · rename_i st sz rows ro hb
    split at h
    · rename_i hl
      cases h
      refine ⟨fun c hc => by simp [hc], fun c hc => ?_, fun z2 hk ht hz => ?_⟩
      · have : c ≠ b := fun e => hc (by simp [e])
        simp [upd, this]
      · have h2 := hz b (by simp)
        refine ⟨_, by simp only [frzW, h2, hb, if_pos hl, hk]; rfl, by simp [hk], by simp [ht], fun c hc => ?_⟩
        simp only [upd]
        by_cases e : c = b
        · simp [e]
        · simp [e]; exact hz c hc
    · cases h
  · cases h
 | nil => exact FLoc.pure _
 | ln st rows => exact FLoc.pure _
 | d _ => exact FLoc.pure _
 | ptr _ _ => exact FLoc.pure _
 | rp _ _ _ => exact FLoc.pure _
 | lp _ _ => exact FLoc.pure _
 | gp _ _ => exact FLoc.pure _
 | fn _ _ => exact FLoc.pure _
theorem frzL_loc (stamp : Bool) (s : Sup) : ∀ l : List W, FLoc fun z => frzL stamp s z l
 | [] => FLoc.pure _
 | x :: r => ((frzW_loc stamp s x).bind (fun y => (frzL_loc stamp s r).bind (fun l => FLoc.pure (y :: l)))).congr fun z => by
  simp only [frzL]; cases frzW stamp s z x with
  | none => rfl
  | some p =>
   simp only; cases frzL stamp s p.2 r <;> rfl
theorem frzP_loc (stamp : Bool) (s : Sup) : ∀ l : List (Bool × List W), FLoc fun z => frzP stamp s z l
 | [] => FLoc.pure _
 | x :: r => ((frzL_loc stamp s x.2).bind (fun y => (frzP_loc stamp s r).bind (fun l => FLoc.pure ((x.1, y) :: l)))).congr fun z => by
  simp only [frzP]; cases frzL stamp s z x.2 with
  | none => rfl
  | some p =>
   simp only; cases frzP stamp s p.2 r <;> rfl
theorem frzV_loc (stamp : Bool) (s : Sup) : ∀ x : V, FLoc fun z => frzV stamp s z x
 | .w x => ((frzW_loc stamp s x).bind (fun y => FLoc.pure (V.w y))).congr fun z => by
  simp only [frzV]; cases frzW stamp s z x <;> rfl
 | .agg x => ((frzL_loc stamp s x).bind (fun y => FLoc.pure (V.agg y))).congr fun z => by
  simp only [frzV]; cases frzL stamp s z x <;> rfl
 | .tup x => ((frzP_loc stamp s x).bind (fun y => FLoc.pure (V.tup y))).congr fun z => by
  simp only [frzV]; cases frzP stamp s z x <;> rfl
theorem frzA_loc (stamp : Bool) (s : Sup) : ∀ l : List V, FLoc fun z => frzA stamp s z l
 | [] => FLoc.pure _
 | x :: r => ((frzV_loc stamp s x).bind (fun y => (frzA_loc stamp s r).bind (fun l => FLoc.pure (y :: l)))).congr fun z => by
  simp only [frzA]; cases frzV stamp s z x with
  | none => rfl
  | some p =>
   simp only; cases frzA stamp s p.2 r <;> rfl
theorem rowParts_loc (stamp : Bool) (s : Sup) (sz : Nat) : ∀ (l : List (Nat × V)) (rows : List (List D)), FLoc fun z => rowParts stamp s sz rows z l
 | [], rows => FLoc.pure _
 | (i, v) :: r, rows => by
  cases hv : v.cells? with
  | none => exact FLoc.none.congr fun z => by simp [rowParts, hv]
  | some cs =>
   refine ((frzL_loc stamp s cs).bind (K := fun l z => match datas? l with
    | some ds => if ds.length = sz ∧ i < rows.length then rowParts stamp s sz (rows.set i ds) z r else .none
    | .none => .none) (fun l => ?_)).congr fun z => by
     simp only [rowParts, hv]; cases frzL stamp s z cs <;> rfl
   cases datas? l with
   | none => exact FLoc.none
   | some ds =>
    simp only; split
    · exact rowParts_loc stamp s sz r _
    · exact FLoc.none
def Eff.at (e : Eff) (g b : Nat) : Prop := b ∈ e.touch ∨ (g ≤ b ∧ b < g + 64)
def OLoc (g : Nat) (f : (Nat → Box) → Option Eff) : Prop := ∀ H e, f H = some e →
 (∀ b, ¬ e.at g b → e.H b = H b) ∧
 (e.wr = false → ∀ b, ¬ (g ≤ b ∧ b < g + 64) → e.H b = H b) ∧
 ∀ H', (∀ b, e.at g b → H' b = H b) → ∃ e', f H' = some e' ∧ e'.v = e.v ∧ e'.touch = e.touch ∧ e'.wr = e.wr ∧
  ∀ b, e.at g b → e'.H b = e.H b
theorem OLoc.ret {g : Nat} {v : Option V} : OLoc g fun H => ret0 H v := fun H e h => by
 cases v with
 | none => cases h
 | some v => cases h; exact ⟨fun _ _ => rfl, fun _ _ _ => rfl, fun H' hH => ⟨_, rfl, rfl, rfl, rfl, hH⟩⟩
theorem OLoc.none {g : Nat} : OLoc g fun _ => .none := fun H e h => by cases h
theorem OLoc.const {g : Nat} {v : V} {t : List Nat} : OLoc g fun H => some ⟨v, H, t, false⟩ := fun H e h => by
 cases h; exact ⟨fun _ _ => rfl, fun _ _ _ => rfl, fun H' hH => ⟨_, rfl, rfl, rfl, rfl, hH⟩⟩
theorem OLoc.new {g : Nat} {v : V} {t : List Nat} {x : Box} : OLoc g fun H => some ⟨v, upd H g x, t, false⟩ := fun H e h => by
 cases h
 refine ⟨fun b hb => ?_, fun _ b hb => ?_, fun H' hH => ⟨_, rfl, rfl, rfl, rfl, fun b hb => ?_⟩⟩
 · simp only [upd]; rw [if_neg]; intro e; exact hb (.inr ⟨by omega, by omega⟩)
 · simp only [upd]; rw [if_neg]; intro e; exact hb ⟨by omega, by omega⟩
 · simp only [upd]; split
   · rfl
   · exact hH b hb
theorem OLoc.look {g : Nat} {f : (Nat → Box) → Option Eff} (c : Nat) {K : Box → (Nat → Box) → Option Eff} (hf : ∀ H, f H = K (H c) H) (hK : ∀ x, OLoc g (K x))
 (ht : ∀ H e, f H = some e → e.at g c) : OLoc g f := fun H e h => by
 have h' := h; rw [hf] at h'; obtain ⟨a1, a2, a3⟩ := hK _ H e h'; refine ⟨a1, a2, fun H' hH => ?_⟩
 obtain ⟨e', b1, b2⟩ := a3 H' hH; refine ⟨e', ?_, b2⟩
 rw [hf, hH c (ht H e h)]; exact b1
theorem OLoc.congr {g : Nat} {f f' : (Nat → Box) → Option Eff} (h : OLoc g f) (e : ∀ H, f' H = f H) : OLoc g f' := by
 have : f' = f := funext e; rw [this]; exact h
theorem OLoc.rows {g : Nat} {y : W} {K : List (List D) → List Nat → (Nat → Box) → Option Eff} (hK : ∀ rows t, OLoc g (K rows t))
 (ht : ∀ rows t H e, rowsOf H y = some (rows, t) → K rows t H = some e → ∀ b ∈ t, b ∈ e.touch) : OLoc g fun H => match rowsOf H y with | some (rows, t) => K rows t H | .none => .none := by
 cases y with
 | own b off len cap =>
  refine OLoc.look b (K := fun x H => match x with
   | .row _ _ rows _ => if off + len ≤ rows.length then K ((rows.drop off).take len) [b] H else .none
   | _ => .none) (fun H => ?_) (fun x => ?_) (fun H e h => ?_)
  · simp only [rowsOf]
    cases H b with
    | row st sz rows ro => by_cases hl : off + len ≤ rows.length <;> simp [hl]
    | _ => rfl
  · cases x with
    | row st sz rows ro =>
     simp only; split
     · exact hK _ _
     · exact OLoc.none
    | _ => exact OLoc.none
  · simp only [rowsOf] at h
    cases hb : H b with
    | row st sz rows ro =>
     simp only [hb] at h; split at h
     · rename_i rows' t ht'
       split at ht'
       · rename_i hl; cases ht'; exact .inl (ht _ _ H _ (by simp [rowsOf, hb, hl]) h b (by simp))
       · cases ht'
     · cases h
    | cells cs => simp [hb] at h
    | dead => simp [hb] at h
 | nil => exact hK _ _
 | ln st rows => exact hK _ _
 | d x =>
  cases x with
  | s v => exact OLoc.none
  | l st rows => exact hK _ _
 | ptr _ _ => exact OLoc.none
 | rp _ _ _ => exact OLoc.none
 | lp _ _ => exact OLoc.none
 | gp _ _ => exact OLoc.none
 | fn _ _ => exact OLoc.none
theorem OLoc.frz {g : Nat} {α : Type} {F : Fz → Option (α × Fz)} (hF : FLoc F) {K : α → Fz → Option Eff} (k : Nat)
 (h0 : ∀ x z e, K x z = some e → (∀ b ∈ z.touch, b ∈ e.touch) ∧ (e.wr = false → z.touch = []) )
 (hK : ∀ x k t, OLoc g fun H => K x ⟨H, k, t⟩) : OLoc g fun H => match F ⟨H, k, []⟩ with | some (x, z) => K x z | .none => .none := by
 intro H e h; simp only at h; split at h
 · rename_i x z hz
   obtain ⟨a1, a2, a3⟩ := hF _ _ _ hz; obtain ⟨b1, b2, b3⟩ := hK x z.k z.touch z.H e h; obtain ⟨c1, c2⟩ := h0 _ _ _ h; refine ⟨fun b hb => ?_, fun hw b hb => ?_, fun H' hH => ?_⟩
   · rw [b1 b hb, a2 b (fun hm => hb (.inl (c1 b hm)))]
   · rw [b2 hw b hb, a2 b (by rw [c2 hw]; simp)]
   · obtain ⟨z2, d1, d2, d3, d4⟩ := a3 ⟨H', k, []⟩ rfl rfl (fun b hb => hH b (.inl (c1 b hb)))
     have hoff : ∀ b, b ∉ z.touch → z2.H b = H' b := (hF _ _ _ d1).2.1 |> fun q b hb => q b (by rw [d3]; exact hb)
     obtain ⟨e', f1, f2⟩ := b3 z2.H (fun b hb => by
      by_cases hm : b ∈ z.touch
      · exact d4 b hm
      · rw [hoff b hm, hH b hb, a2 b hm])
     refine ⟨e', ?_, f2⟩
     simp only [d1]; rw [← f1, ← d2, ← d3]
 · cases h
theorem updL_off : ∀ (l : List (Nat × Box)) (H : Nat → Box) (b : Nat), (∀ p ∈ l, p.1 ≠ b) → updL H l b = H b
 | [], H, b, h => rfl
 | (c, x) :: r, H, b, h => by
  rw [updL, updL_off r _ b (fun p hp => h p (List.mem_cons_of_mem _ hp))]; have := h (c, x) (List.mem_cons_self ..); simp only [upd]; rw [if_neg (fun e => this e.symm)]
theorem updL_on : ∀ (l : List (Nat × Box)) (H H' : Nat → Box) (b : Nat), (H b = H' b ∨ ∃ p ∈ l, p.1 = b) → updL H l b = updL H' l b
 | [], H, H', b, h => by simpa [updL] using h
 | (c, x) :: r, H, H', b, h => by
  rw [updL, updL]; refine updL_on r _ _ b ?_
  simp only [upd]
  by_cases e : b = c
  · left; simp [e]
  · rcases h with h | ⟨p, hp, he⟩
    · left; simp [e, h]
    · simp only [List.mem_cons] at hp
      rcases hp with rfl | hp
      · exact absurd he.symm e
      · exact .inr ⟨p, hp, he⟩
theorem mem_reach : ∀ (H : Nat → Box) (n : Nat) (acc : List Nat) (b : Nat), b ∈ acc → b ∈ reach H n acc
 | H, 0, acc, b, h => h
 | H, n + 1, acc, b, h => mem_reach H n _ b ((mem_addAll ..).2 (.inl h))
theorem flatMap_congr' {α β : Type} {f f' : α → List β} : ∀ {l : List α}, (∀ x ∈ l, f x = f' x) → l.flatMap f = l.flatMap f'
 | [], h => rfl
 | x :: l, h => by
  simp only [List.flatMap_cons]; rw [h x (List.mem_cons_self ..), flatMap_congr' (fun y hy => h y (List.mem_cons_of_mem _ hy))]
theorem reach_congr : ∀ (H H' : Nat → Box) (n : Nat) (acc : List Nat), (∀ b ∈ reach H n acc, H' b = H b) → reach H' n acc = reach H n acc
 | H, H', 0, acc, h => rfl
 | H, H', n + 1, acc, h => by
  have e : acc.flatMap (fun b => (H' b).names) = acc.flatMap fun b => (H b).names :=
   flatMap_congr' fun b hb => by rw [h b (mem_reach H (n + 1) acc b hb)]
  simp only [reach]; rw [e]; exact reach_congr H H' n _ h
theorem all_congr' {α : Type} {f f' : α → Bool} : ∀ {l : List α}, (∀ x ∈ l, f x = f' x) → l.all f = l.all f'
 | [], h => rfl
 | x :: l, h => by
  simp only [List.all_cons]; rw [h x (List.mem_cons_self ..), all_congr' (fun y hy => h y (List.mem_cons_of_mem _ hy))]
theorem closed_congr {H H' : Nat → Box} {ns : List Nat} (h : ∀ b ∈ ns, H' b = H b) : closed H' ns = closed H ns :=
 all_congr' fun b hb => by simp only [h b hb]
def callK (call : CallT) (g f : Nat) (s : Sup) (args : List V) (z : Fz) : Option Eff :=
 let ns := reach z.H 4 (addAll [] (args.flatMap V.names))
 match call f (args.map (V.ren (idx ns))) (ns.map fun b => (z.H b).ren (idx ns)) (fun k => s (2 * k + 1)) with
 | none => none
 | some r =>
  if r.bs.length = ns.length ∧ r.news.length ≤ 64 ∧ closed z.H ns = true then
   let σ : Nat → Nat := fun k => if k < ns.length then ns.getD k 0 else g + (k - ns.length)
   some ⟨r.v.ren σ, updL z.H ((ns.zip (r.bs.map (Box.ren σ))) ++ ((List.range r.news.length).map (g + ·)).zip (r.news.map (Box.ren σ))),
    z.touch ++ ns, !(z.touch ++ ns).isEmpty⟩
  else none
theorem callK_loc (call : CallT) (g f : Nat) (s : Sup) (args : List V) (k : Nat) (t : List Nat) : OLoc g fun H => callK call g f s args ⟨H, k, t⟩ := by
 intro H e h; simp only [callK] at h; split at h
 · cases h
 · rename_i r hr
   split at h
   · rename_i hc
     cases h
     simp only [Eff.at, Bool.not_eq_false']; generalize hns : reach H 4 (addAll [] (args.flatMap V.names)) = ns at *; obtain ⟨h1, h2, h3⟩ := hc; have hoff : ∀ b, ¬ ((b ∈ t ++ ns) ∨ (g ≤ b ∧ b < g + 64)) → ∀ p ∈ (ns.zip (r.bs.map (Box.ren fun k => if k < ns.length then ns.getD k 0 else g + (k - ns.length)))) ++
      ((List.range r.news.length).map (g + ·)).zip (r.news.map (Box.ren fun k => if k < ns.length then ns.getD k 0 else g + (k - ns.length))), p.1 ≠ b := by
      rintro b hb ⟨c, x⟩ hp rfl; simp only [List.mem_append] at hp; rcases hp with hp | hp
      · exact hb (.inl (by simp [(List.of_mem_zip hp).1]))
      · have := (List.of_mem_zip hp).1
        simp only [List.mem_map, List.mem_range] at this; obtain ⟨i, hi, rfl⟩ := this; exact hb (.inr ⟨by omega, by omega⟩)
     refine ⟨fun b hb => updL_off _ _ _ (hoff b hb), fun hw b hb => updL_off _ _ _ (hoff b ?_), fun H' hH => ?_⟩
     · rintro (hm | hm)
       · rw [List.isEmpty_iff] at hw; rw [hw] at hm; simp at hm
       · exact hb hm
     · have hns' : reach H' 4 (addAll [] (args.flatMap V.names)) = ns := by
        rw [← hns]; exact reach_congr _ _ _ _ fun b hb => hH b (.inl (by rw [hns] at hb; simp [hb]))
       have hHn : ∀ b ∈ ns, H' b = H b := fun b hb => hH b (.inl (by simp [hb]))
       have hmap : (ns.map fun b => (H' b).ren (idx ns)) = ns.map fun b => (H b).ren (idx ns) := List.map_congr_left fun b hb => by rw [hHn b hb]
       refine ⟨_, by simp only [callK, hns', hmap, hr, closed_congr hHn, h1, h2, h3, and_self, if_true]; rfl, rfl, rfl, rfl, fun b hb => ?_⟩
       exact updL_on _ _ _ _ (.inl (hH b hb))
   · cases h
theorem callV_loc (call : CallT) (M : Nat → Mode) (stamp : Bool) (g : Nat) (s : Sup) (f : Nat) (args : List V) : OLoc g fun H => callV call M stamp H g s f args := by
 by_cases hm : (M f).inout
 · exact (callK_loc call g f s args 0 []).congr fun H => by simp only [callV, hm, if_true, callK]; rfl
 · refine (OLoc.frz (F := fun z => frzA stamp (fun k => s (2 * k)) z args) (frzA_loc _ _ _) (K := fun args z => callK call g f s args z) 0 (fun x z e h => ?_) (fun x k t => callK_loc call g f s x k t)).congr fun H => ?_
   · simp only [callK] at h
     split at h
     · cases h
     · split at h
       · cases h
         refine ⟨fun b hb => by simp [hb], fun hw => ?_⟩
         simp only [Bool.not_eq_false', List.isEmpty_iff, List.append_eq_nil_iff] at hw; exact hw.1
       · cases h
   · simp only [callV, hm, callK]
     simp only [Bool.false_eq_true, if_false]; cases frzA stamp (fun k => s (2 * k)) ⟨H, 0, []⟩ args <;> rfl
theorem OLoc.look1 {g : Nat} {f : (Nat → Box) → Option Eff} (b : Nat) (h1 : ∀ H, f H = (f fun _ => H b).map fun e => { e with H := H })
 (h2 : ∀ x e, f (fun _ => x) = some e → b ∈ e.touch ∧ e.wr = false) : OLoc g f := by
 intro H e h; have h' := h; rw [h1] at h'; simp only [Option.map_eq_some_iff] at h'; obtain ⟨e0, he0, rfl⟩ := h'; obtain ⟨k1, k2⟩ := h2 _ _ he0; refine ⟨fun _ _ => rfl, fun _ _ _ => rfl, fun H' hH => ⟨{ e0 with H := H' }, ?_, rfl, rfl, rfl, hH⟩⟩
 rw [h1, hH b (.inl k1), he0]
 rfl
theorem sl_loc (call : CallT) (M : Nat → Mode) (G : Nat → Option (List D)) (stamp : Bool) (ev : X → V) (g : Nat) (s : Sup) (sz : Nat) (x : X) (lo hi mx : Option X) :
 OLoc g fun H => opV call M G stamp ev H g s (.sl sz x lo hi mx) := by
 simp only [opV]; cases ev x with
 | w y =>
  cases optInt ev lo with
  | none => exact OLoc.none
  | some lo =>
   cases optInt ev hi with
   | none => exact OLoc.none
   | some hi =>
    cases optInt ev mx with
    | none => exact OLoc.none
    | some mx =>
     cases y with
     | own b off len cap =>
      refine OLoc.look1 b (fun H => ?_) (fun x e h => ?_)
      · simp only [rowsOf]
        cases H b with
        | row st sz' rows ro =>
         by_cases hl : off + len ≤ rows.length
         · simp only [hl, if_true]
           split
           · split <;> rfl
           · rfl
         · simp [hl]
        | _ => rfl
      · simp only [rowsOf] at h
        cases x with
        | row st sz' rows ro =>
         by_cases hl : off + len ≤ rows.length
         · simp only [hl, if_true] at h
           split at h
           · split at h
             · cases h; exact ⟨by simp, rfl⟩
             · cases h
           · cases h
         · simp [hl] at h
        | cells _ => cases h
        | dead => cases h
     | nil =>
      simp only [rowsOf]; split <;> first | exact OLoc.ret | exact OLoc.none
     | ln st rows =>
      simp only [rowsOf]; split
      · split <;> first | exact OLoc.ret | exact OLoc.none
      · exact OLoc.none
     | d x =>
      cases x with
      | s v => exact OLoc.none
      | l st rows =>
       simp only [rowsOf]; split
       · split <;> first | exact OLoc.ret | exact OLoc.none
       · exact OLoc.none
     | ptr _ _ => exact OLoc.none
     | rp _ _ _ => exact OLoc.none
     | lp _ _ => exact OLoc.none
     | gp _ _ => exact OLoc.none
     | fn _ _ => exact OLoc.none
 | _ => exact OLoc.none
theorem op_loc (call : CallT) (M : Nat → Mode) (G : Nat → Option (List D)) (stamp : Bool) (ev : X → V) (g : Nat) (s : Sup) (o : O) : OLoc g fun H => opV call M G stamp ev H g s o := by
 cases o with
 | mv x =>
  simp only [opV]; exact OLoc.ret
 | pick c a b =>
  simp only [opV]; exact OLoc.ret
 | new zero =>
  simp only [opV]; exact OLoc.new
 | box sz x =>
  simp only [opV]; cases (ev x).cells? with
  | none => exact OLoc.none
  | some cs =>
   simp only; split
   · exact OLoc.new
   · exact OLoc.none
 | bld zero parts =>
  simp only [opV]; exact OLoc.ret
 | bsl sz n zero parts =>
  refine (OLoc.frz (F := fun z => rowParts stamp s sz (List.replicate n zero) z (parts.map fun p => (p.1, ev p.2))) (rowParts_loc _ _ _ _ _)
   (K := fun rows z => some ⟨.w (.own g 0 n (some n)), upd z.H g (.row none sz rows 0), z.touch, !z.touch.isEmpty⟩) 0 (fun x z e h => ?_) (fun x k t => ?_)).congr fun H => ?_
  · cases h
    exact ⟨fun b hb => hb, fun hw => by simpa using hw⟩
  · intro H e h
    cases h
    refine ⟨fun b hb => ?_, fun _ b hb => ?_, fun H' hH => ⟨_, rfl, rfl, rfl, rfl, fun b hb => ?_⟩⟩
    · simp only [upd]; rw [if_neg]; intro e; exact hb (.inr ⟨by omega, by omega⟩)
    · simp only [upd]; rw [if_neg]; intro e; exact hb ⟨by omega, by omega⟩
    · simp only [upd]; split
      · rfl
      · exact hH b hb
  · simp only [opV]
    cases rowParts stamp s sz (List.replicate n zero) ⟨H, 0, []⟩ (parts.map fun p => (p.1, ev p.2)) <;> rfl
 | ld agg sz x =>
  simp only [opV]; cases ev x with
  | w w =>
   cases w with
   | ptr b off =>
    refine OLoc.look b (K := fun x H => match x with
     | .cells cs => match (part? cs off sz).bind (mkV agg) with | some v => some ⟨v, H, [b], false⟩ | none => none
     | _ => none) (fun H => rfl) (fun x => ?_) (fun H e h => ?_)
    · cases x with
      | cells cs =>
       simp only; cases (part? cs off sz).bind (mkV agg) with
       | none => exact OLoc.none
       | some v => exact OLoc.const
      | _ => exact OLoc.none
    · simp only at h
      split at h
      · split at h
        · cases h; exact .inl (by simp)
        · cases h
      · cases h
   | rp b i off =>
    refine OLoc.look b (K := fun x H => match x with
     | .row _ _ rows _ => match rows[i]? with
      | some row => match (part? row off sz).bind (fun l => mkV agg (l.map .d)) with | some v => some ⟨v, H, [b], false⟩ | none => none
      | none => none
     | _ => none) (fun H => rfl) (fun x => ?_) (fun H e h => ?_)
    · cases x with
      | row st sz' rows ro =>
       simp only; cases rows[i]? with
       | none => exact OLoc.none
       | some row =>
        simp only; cases (part? row off sz).bind (fun l => mkV agg (l.map .d)) with
        | none => exact OLoc.none
        | some v => exact OLoc.const
      | _ => exact OLoc.none
    · simp only at h
      split at h
      · split at h
        · split at h
          · cases h; exact .inl (by simp)
          · cases h
        · cases h
      · cases h
   | lp row off => exact OLoc.ret
   | gp k off => exact OLoc.ret
   | _ => exact OLoc.none
  | _ => exact OLoc.none
 | st sz x y =>
  simp only [opV]; cases (ev y).cells? with
  | none => exact OLoc.none
  | some cs =>
   simp only; split
   case isFalse => exact OLoc.none
   cases ev x with
   | w w =>
    cases w with
    | ptr b off =>
     refine OLoc.look b (K := fun x H => match x with
      | .cells old => if off + sz ≤ old.length then some ⟨.tup [], upd H b (.cells (splice old off cs)), [b], true⟩ else none
      | _ => none) (fun H => rfl) (fun x => ?_) (fun H e h => ?_)
     · cases x with
       | cells old =>
        simp only; split
        · intro H e h
          cases h
          refine ⟨fun c hc => ?_, fun hw => by simp at hw, fun H' hH => ⟨_, rfl, rfl, rfl, rfl, fun c hc => ?_⟩⟩
          · simp only [upd]; rw [if_neg]; intro e; exact hc (.inl (by simp [e]))
          · simp only [upd]; split
            · rfl
            · exact hH c hc
        · exact OLoc.none
       | _ => exact OLoc.none
     · simp only at h
       split at h
       · split at h
         · cases h; exact .inl (by simp)
         · cases h
       · cases h
    | rp b i off =>
     refine (OLoc.frz (F := fun z => frzL stamp s z cs) (frzL_loc _ _ _) (K := fun l z => match datas? l, z.H b with
      | some ds, .row st sz' rows ro => match rows[i]? with
       | some row => if ro ≤ i ∧ off + sz ≤ row.length then
        some ⟨.tup [], upd z.H b (.row st sz' (rows.set i (splice row off ds)) ro), z.touch ++ [b], true⟩ else none
       | none => none
      | _, _ => none) 0 (fun x z e h => ?_) (fun x k t => ?_)).congr fun H => ?_
     · split at h
       · split at h
         · split at h
           · cases h; exact ⟨fun b hb => by simp [hb], fun hw => by simp at hw⟩
           · cases h
         · cases h
       · cases h
     · cases datas? x with
       | none => exact OLoc.none
       | some ds =>
        refine OLoc.look b (K := fun x H => match x with
         | .row st sz' rows ro => match rows[i]? with
          | some row => if ro ≤ i ∧ off + sz ≤ row.length then
           some ⟨.tup [], upd H b (.row st sz' (rows.set i (splice row off ds)) ro), t ++ [b], true⟩ else none
          | none => none
         | _ => none) (fun H => by cases hb : H b <;> simp [hb]) (fun x => ?_) (fun H e h => ?_)
        · cases x with
          | row st sz' rows ro =>
           simp only; cases rows[i]? with
           | none => exact OLoc.none
           | some row =>
            simp only; split
            · intro H e h
              cases h
              refine ⟨fun c hc => ?_, fun hw => by simp at hw, fun H' hH => ⟨_, rfl, rfl, rfl, rfl, fun c hc => ?_⟩⟩
              · simp only [upd]; rw [if_neg]; intro e; exact hc (.inl (by simp [e]))
              · simp only [upd]; split
                · rfl
                · exact hH c hc
            · exact OLoc.none
          | _ => exact OLoc.none
        · simp only at h
          split at h
          · split at h
            · split at h
              · cases h; exact .inl (by simp)
              · cases h
            · cases h
          · cases h
     · simp only
       cases frzL stamp s ⟨H, 0, []⟩ cs <;> rfl
    | _ => exact OLoc.none
   | _ => exact OLoc.none
 | nc x =>
  simp only [opV]; split <;> first | exact OLoc.ret | exact OLoc.none
 | bin op c x y =>
  simp only [opV]; exact OLoc.ret
 | un op x =>
  simp only [opV]; exact OLoc.ret
 | cvi k x =>
  simp only [opV]; exact OLoc.ret
 | cbs x =>
  simp only [opV]; cases ev x with
  | w y =>
   refine OLoc.rows (y := y) (K := fun rows t H => match bytesOf rows with
    | some bs => some ⟨sV (.string ⟨bs.toArray⟩), H, t, false⟩
    | none => none) (fun rows t => ?_) (fun rows t H e _ h => ?_)
   · cases bytesOf rows with
     | none => exact OLoc.none
     | some bs => exact OLoc.const
   · skip
     split at h
     · cases h; exact fun b hb => hb
     · cases h
  | _ => exact OLoc.none
 | msl sz bytes zero l c =>
  simp only [opV]; split
  · split
    · exact OLoc.new
    · exact OLoc.none
  · exact OLoc.none
 | sls x lo hi =>
  simp only [opV]; split
  · split <;> first | exact OLoc.ret | exact OLoc.none
  · exact OLoc.none
 | sl sz x lo hi mx => exact sl_loc call M G stamp ev g s sz x lo hi mx
 | fa off x =>
  simp only [opV]; split <;> first | exact OLoc.ret | exact OLoc.none
 | fld agg off sz x =>
  simp only [opV]; split <;> first | exact OLoc.ret | exact OLoc.none
 | ia sz x i =>
  simp only [opV]; cases ev x with
  | w w =>
   cases (ev i).int? with
   | none =>
    refine OLoc.none.congr fun H => ?_
    cases w <;> simp
   | some p =>
    cases w with
    | own b off len cap =>
     refine OLoc.look b (K := fun x H => match x with
      | .row _ sz' _ _ => if sz' = sz ∧ 0 ≤ p.2 ∧ p.2 < len then some ⟨.w (.rp b (off + p.2.toNat) 0), H, [b], false⟩ else none
      | _ => none) (fun H => rfl) (fun x => ?_) (fun H e h => ?_)
     · cases x with
       | row st sz' rows ro =>
        simp only; split
        · exact OLoc.const
        · exact OLoc.none
       | _ => exact OLoc.none
     · simp only at h
       split at h
       · split at h
         · cases h; exact .inl (by simp)
         · cases h
       · cases h
    | d x =>
     cases x with
     | s v => exact OLoc.none
     | l st rows =>
      simp only; split
      · cases rows[p.2.toNat]? with
        | none => exact OLoc.none
        | some row =>
         simp only; split
         · exact OLoc.ret
         · exact OLoc.none
      · exact OLoc.none
    | ln st rows =>
     simp only; split
     · cases rows[p.2.toNat]? with
       | none => exact OLoc.none
       | some row =>
        simp only; split
        · exact OLoc.ret
        · exact OLoc.none
     · exact OLoc.none
    | _ => exact OLoc.none
  | _ => exact OLoc.none
 | iaa n sz x i =>
  simp only [opV]; split
  · split
    · split <;> first | exact OLoc.ret | exact OLoc.none
    · exact OLoc.none
  · exact OLoc.none
 | ixs x i =>
  simp only [opV]; split
  · split
    · split <;> first | exact OLoc.ret | exact OLoc.none
    · exact OLoc.none
  · exact OLoc.none
 | ixa agg n sz x i =>
  simp only [opV]; split
  · split <;> first | exact OLoc.ret | exact OLoc.none
  · exact OLoc.none
 | ext i x =>
  simp only [opV]; split
  · split <;> first | exact OLoc.ret | exact OLoc.none
  · exact OLoc.none
 | mkf f caps =>
  simp only [opV]; split <;> first | exact OLoc.ret | exact OLoc.none
 | call f args =>
  simp only [opV]; split
  · exact callV_loc call M stamp g s _ _
  · exact OLoc.none
 | lens x =>
  simp only [opV]; split <;> first | exact OLoc.ret | exact OLoc.none
 | lenl x =>
  simp only [opV]; split <;> first | exact OLoc.ret | exact OLoc.none
 | app sz bytes zero x y =>
  simp only [opV]; cases ev y with
  | w y =>
   refine OLoc.rows (y := y) (K := fun ys t H => if ys.all (·.length == sz) && zero.length == sz then match ev x with
    | .w .nil => if room ys.length bytes = true then some ⟨.w (.own g 0 ys.length none), upd H g (.row none sz ys 0), t, false⟩ else none
    | .w (.own b off len _) => match H b with
     | .row st sz' rows ro =>
      if sz' = sz ∧ off + len ≤ rows.length ∧ ro ≤ off + len ∧ room (len + ys.length) bytes = true then
       some ⟨.w (.own g 0 (len + ys.length) none),
        upd (upd H b .dead) g (.row (taint st) sz ((rows.drop off).take len ++ ys) (ro - off)), t ++ [b], true⟩
      else none
     | _ => none
    | _ => none
    else none) (fun ys t => ?_) (fun ys t H e _ h => ?_)
   · skip
     split
     case isFalse => exact OLoc.none
     cases ev x with
     | w w =>
      cases w with
      | nil =>
       simp only; split
       · exact OLoc.new
       · exact OLoc.none
      | own b off len cap =>
       refine OLoc.look b (K := fun x H => match x with
        | .row st sz' rows ro =>
         if sz' = sz ∧ off + len ≤ rows.length ∧ ro ≤ off + len ∧ room (len + ys.length) bytes = true then
          some ⟨.w (.own g 0 (len + ys.length) none),
           upd (upd H b .dead) g (.row (taint st) sz ((rows.drop off).take len ++ ys) (ro - off)), t ++ [b], true⟩
         else none
        | _ => none) (fun H => rfl) (fun x => ?_) (fun H e h => ?_)
       · cases x with
         | row st sz' rows ro =>
          simp only; split
          · intro H e h
            cases h
            refine ⟨fun c hc => ?_, fun hw => by simp at hw, fun H' hH => ⟨_, rfl, rfl, rfl, rfl, fun c hc => ?_⟩⟩
            · simp only [upd]
              rw [if_neg (fun e => hc (.inr ⟨by omega, by omega⟩)), if_neg (fun e => hc (.inl (by simp [e])))]
            · simp only [upd]; split
              · rfl
              · split
                · rfl
                · exact hH c hc
          · exact OLoc.none
         | _ => exact OLoc.none
       · simp only at h
         split at h
         · split at h
           · cases h; exact .inl (by simp)
           · cases h
         · cases h
      | _ => exact OLoc.none
     | _ => exact OLoc.none
   · skip
     split at h
     · split at h
       · split at h
         · cases h; exact fun b hb => hb
         · cases h
       · split at h
         · split at h
           · cases h; exact fun b hb => by simp [hb]
           · cases h
         · cases h
       · cases h
     · cases h
  | _ => exact OLoc.none
 | mmx isMax args =>
  simp only [opV]; split
  · split <;> first | exact OLoc.ret | exact OLoc.none
  · exact OLoc.none
 | bad => exact OLoc.none
end Go.VM

/- The value machine: operations without an order between them change places. Conditions: none. -/
namespace Go.VM
set_option linter.unusedVariables false
set_option linter.unusedSimpArgs false
set_option linter.unusedSectionVars false
def O.xs : O → List X
 | .mv x => [x]
 | .pick c a b => [c, a, b]
 | .new _ => []
 | .box _ x => [x]
 | .bld _ parts => parts.map fun p => p.2.2
 | .bsl _ _ _ parts => parts.map fun p => p.2
 | .ld _ _ x => [x]
 | .st _ x y => [x, y]
 | .nc x => [x]
 | .bin _ _ x y => [x, y]
 | .un _ x => [x]
 | .cvi _ x => [x]
 | .cbs x => [x]
 | .msl _ _ _ l c => [l, c]
 | .sls x lo hi => x :: lo.toList ++ hi.toList
 | .sl _ x lo hi mx => x :: lo.toList ++ hi.toList ++ mx.toList
 | .fa _ x => [x]
 | .fld _ _ _ x => [x]
 | .ia _ x i => [x, i]
 | .iaa _ _ x i => [x, i]
 | .ixs x i => [x, i]
 | .ixa _ _ _ x i => [x, i]
 | .ext _ x => [x]
 | .mkf _ caps => caps
 | .call f args => f :: args
 | .lens x => [x]
 | .lenl x => [x]
 | .app _ _ _ x y => [x, y]
 | .mmx _ args => args
 | .bad => []
theorem optInt_congr {ev ev' : X → V} {o : Option X} (h : ∀ x ∈ o.toList, ev x = ev' x) : optInt ev o = optInt ev' o := by
 cases o with
 | none => rfl
 | some x => simp only [optInt]; rw [h x (by simp)]
theorem opV_congr {call : CallT} {M : Nat → Mode} {G : Nat → Option (List D)} {stamp : Bool} {ev ev' : X → V} {H : Nat → Box} {g : Nat} {s : Sup} {o : O} (h : ∀ x ∈ o.xs, ev x = ev' x) :
 opV call M G stamp ev H g s o = opV call M G stamp ev' H g s o := by
 cases o with
 | bld zero parts =>
  simp only [opV]; rw [show parts.map (fun p => (p.1, p.2.1, ev p.2.2)) = parts.map fun p => (p.1, p.2.1, ev' p.2.2) from
   List.map_congr_left fun p hp => by rw [h p.2.2 (List.mem_map.2 ⟨p, hp, rfl⟩)]]
 | bsl sz n zero parts =>
  simp only [opV]; rw [show parts.map (fun p => (p.1, ev p.2)) = parts.map fun p => (p.1, ev' p.2) from
   List.map_congr_left fun p hp => by rw [h p.2 (List.mem_map.2 ⟨p, hp, rfl⟩)]]
 | sls x lo hi =>
  simp only [O.xs, List.mem_cons, List.mem_append] at h; simp only [opV]; rw [h x (by simp), optInt_congr (o := lo) (fun y hy => h y (by simp_all)), optInt_congr (o := hi) (fun y hy => h y (by simp_all))]
 | sl sz x lo hi mx =>
  simp only [O.xs, List.mem_cons, List.mem_append] at h; simp only [opV]; rw [h x (by simp), optInt_congr (o := lo) (fun y hy => h y (by simp_all)), optInt_congr (o := hi) (fun y hy => h y (by simp_all)), optInt_congr (o := mx) (fun y hy => h y (by simp_all))]
 | mkf f caps =>
  simp only [opV]; rw [show caps.map ev = caps.map ev' from List.map_congr_left fun p hp => h p hp]
 | call f args =>
  simp only [opV]; rw [show args.map ev = args.map ev' from List.map_congr_left fun p hp => h p (List.mem_cons_of_mem _ hp), h f (List.mem_cons_self ..)]
 | mmx isMax args =>
  simp only [opV]; rw [show args.map ev = args.map ev' from List.map_congr_left fun p hp => h p hp]
 | _ => simp only [O.xs, List.mem_cons, List.not_mem_nil, or_false, forall_eq_or_imp, forall_eq, List.mem_singleton] at h <;> simp only [opV] <;> simp only [h]
def RO.looks (o : RO) : List Nat := (o.op.xs.filterMap fun | .t n => some n | _ => none) ++ (match o.guard with | some (t, _) => [t] | none => [])
def optNe (a : Option Nat) (b : Option Nat) : Bool := match a, b with | some x, some y => !(x == y) | _, _ => true
def optOut (a : Option Nat) (l : List Nat) : Bool := match a with | some x => !l.contains x | none => true
def apart (x y : RO) : Bool := optOut x.dst y.looks && optOut y.dst x.looks && optNe x.dst y.dst
theorem stepE_congr {call : CallT} {M : Nat → Mode} {G : Nat → Option (List D)} {stamp : Bool} {τ τ' : Nat → V} {H : Nat → Box} {g : Nat} {s : Sup} {o : RO} (h : ∀ t ∈ o.looks, τ t = τ' t) :
 stepE call M G stamp τ H g s o = stepE call M G stamp τ' H g s o := by
 have hx : ∀ x ∈ o.op.xs, evX τ x = evX τ' x := fun x hx => by
  cases x with
  | t n => exact h n (by simp only [RO.looks, List.mem_append, List.mem_filterMap]; exact .inl ⟨.t n, hx, rfl⟩)
  | k v => rfl
  | g n => rfl
 unfold stepE; cases hg : o.guard with
 | none => exact opV_congr hx
 | some p =>
  obtain ⟨t, w⟩ := p; have ht : τ t = τ' t := h t (by simp [RO.looks, hg]); simp only [ht, opV_congr hx]
theorem put_looks {N : Nat} {τ τ' : Nat → V} {d : Option Nat} {v : V} {l : List Nat} (hp : put N τ d v = some τ') (h : optOut d l = true) : ∀ t ∈ l, τ' t = τ t := by
 intro t ht; cases d with
 | none => simp [put] at hp; rw [hp]
 | some d =>
  simp only [put] at hp; split at hp
  · cases hp
    simp [optOut] at h; simp only [upd]; rw [if_neg]; rintro rfl; exact h ht
  · cases hp
theorem put_comm {N : Nat} {τ τ1 τ2 : Nat → V} {d e : Option Nat} {v u : V} (h1 : put N τ d v = some τ1) (h2 : put N τ1 e u = some τ2) (h : optNe d e = true) :
 ∃ τ3, put N τ e u = some τ3 ∧ put N τ3 d v = some τ2 := by
 cases d with
 | none => simp [put] at h1; subst h1; exact ⟨τ2, h2, rfl⟩
 | some d =>
  cases e with
  | none => simp [put] at h2; subst h2; exact ⟨τ, rfl, h1⟩
  | some e =>
   simp only [put] at h1 h2; split at h1
   · rename_i hd
     cases h1
     split at h2
     · rename_i he
       cases h2
       refine ⟨upd τ e u, by simp [put, he], ?_⟩
       simp only [put, if_pos hd, Option.some.injEq]; simp [optNe] at h
       funext t
       simp only [upd]
       by_cases h1 : t = d
       · subst h1; simp [h]
       · simp [h1]
     · cases h2
   · cases h1
section
variable {call : CallT} {M : Nat → Mode} {G : Nat → Option (List D)} {stamp : Bool} {N g : Nat} {s : Sup}
theorem step_loc (call : CallT) (M : Nat → Mode) (G : Nat → Option (List D)) (stamp : Bool) (τ : Nat → V) (g : Nat) (s : Sup) (o : RO) : OLoc g fun H => stepE call M G stamp τ H g s o := by
 unfold stepE; cases o.guard with
 | none => exact op_loc call M G stamp (evX τ) g s o.op
 | some p =>
  simp only; split
  · split
    · exact op_loc call M G stamp (evX τ) g s o.op
    · exact OLoc.const
  · exact OLoc.const
  · exact OLoc.none
theorem step_w (call : CallT) (M : Nat → Mode) (G : Nat → Option (List D)) (stamp : Bool) (τ : Nat → V) (g : Nat) (s : Sup) (o : RO) : ∀ H e, stepE call M G stamp τ H g s o = some e → ∀ b, b ∉ wOf o.op e.touch e.wr → ¬ (g ≤ b ∧ b < g + 64) → e.H b = H b := by
 intro H e he b hb hg; obtain ⟨p1, p2, -⟩ := step_loc call M G stamp τ g s o H e he; cases hw : e.wr with
 | false => exact p2 hw b hg
 | true =>
  unfold wOf at hb; rw [hw] at hb; simp only [if_true] at hb; have plain : b ∉ e.touch → e.H b = H b := fun hm => p1 b (by rintro (h | h); exact hm h; exact hg h)
  obtain ⟨d, op, gd⟩ := o; cases op with
  | app sz bytes zero x y =>
   have key : ∀ e, opV call M G stamp (evX τ) H g s (.app sz bytes zero x y) = some e → e.wr = true → b ∉ e.touch.drop (e.touch.length - 1) → e.H b = H b := by
    intro e he hw hb; unfold opV at he; simp only at he
    repeat' split at he
    all_goals first | cases he; done | skip
    all_goals cases he
    all_goals first | cases hw; done | skip
    all_goals
     have hng : b ≠ g := fun e => hg ⟨by omega, by omega⟩
     simp at hb; simp [upd, hb, hng]
   cases gd with
   | none => exact key e he hw hb
   | some p =>
    unfold stepE at he; simp only at he; split at he
    · split at he
      · exact key e he hw hb
      · cases he; cases hw
    · cases he; cases hw
    · cases he
  | _ => exact plain hb
def step1 (call : CallT) (M : Nat → Mode) (G : Nat → Option (List D)) (stamp : Bool) (N g : Nat) (s : Sup) (x : Nat × RO) (τ : Nat → V) (H : Nat → Box) : Option ((Nat → V) × (Nat → Box) × (List Nat × List Nat)) :=
 match stepE call M G stamp τ H (g + 64 * x.1) (subS s x.1) x.2 with
 | some e => match put N τ x.2.dst e.v with
  | some τ' => some (τ', e.H, (e.touch, wOf x.2.op e.touch e.wr))
  | none => none
 | none => none
theorem step1_some {x : Nat × RO} {τ : Nat → V} {H : Nat → Box} {τ' : Nat → V} {H' : Nat → Box} {l : List Nat × List Nat} (h : step1 call M G stamp N g s x τ H = some (τ', H', l)) :
 ∃ e, stepE call M G stamp τ H (g + 64 * x.1) (subS s x.1) x.2 = some e ∧ put N τ x.2.dst e.v = some τ' ∧ e.H = H' ∧ l = (e.touch, wOf x.2.op e.touch e.wr) := by
 unfold step1 at h; split at h
 · rename_i e he
   split at h
   · rename_i τ1 hp; cases h; exact ⟨e, he, hp, rfl, rfl⟩
   · cases h
 · cases h
theorem step_swap {x y : Nat × RO} {τ τ1 τ2 : Nat → V} {H H1 H2 : Nat → Box} {lx ly : List Nat × List Nat} (hne : x.1 ≠ y.1) (ha : apart x.2 y.2 = true) (hc : ncW g x.1 y.1 lx ly = true)
 (h1 : step1 call M G stamp N g s x τ H = some (τ1, H1, lx)) (h2 : step1 call M G stamp N g s y τ1 H1 = some (τ2, H2, ly)) :
 ∃ τ3 H3, step1 call M G stamp N g s y τ H = some (τ3, H3, ly) ∧ step1 call M G stamp N g s x τ3 H3 = some (τ2, H2, lx) := by
 obtain ⟨e, he, hp, rfl, rfl⟩ := step1_some h1; obtain ⟨e', he', hp', rfl, rfl⟩ := step1_some h2; simp only [apart, Bool.and_eq_true] at ha; obtain ⟨⟨ha1, ha2⟩, ha3⟩ := ha; simp only [ncW, Bool.and_eq_true, Bool.not_eq_true', List.all_eq_true, Bool.and_eq_false_imp, decide_eq_true_eq, decide_eq_false_iff_not] at hc; obtain ⟨⟨⟨hw1, hw2⟩, hc2⟩, hc3⟩ := hc; have hw1 : ∀ b ∈ wOf x.2.op e.touch e.wr, b ∉ e'.touch := fun b hb => by have := hw1 b hb; simpa using this
 have hw2 : ∀ b ∈ wOf y.2.op e'.touch e'.wr, b ∉ e.touch := fun b hb => by have := hw2 b hb; simpa using this
 obtain ⟨p1, p2, p3⟩ := step_loc call M G stamp τ (g + 64 * x.1) (subS s x.1) x.2 H e he; have pw := step_w call M G stamp τ (g + 64 * x.1) (subS s x.1) x.2 H e he; rw [stepE_congr (put_looks hp ha1)] at he'; obtain ⟨q1, q2, q3⟩ := step_loc call M G stamp τ (g + 64 * y.1) (subS s y.1) y.2 e.H e' he'; have qw := step_w call M G stamp τ (g + 64 * y.1) (subS s y.1) y.2 e.H e' he'; have hy : ∀ b, e'.at (g + 64 * y.1) b → e.H b = H b := fun b hb => by
  rcases hb with hb | hb
  · exact pw b (fun hm => hw1 b hm hb) (fun ⟨h1, h2⟩ => hc2 b hb h1 h2)
  · refine p1 b ?_
    rintro (hm | hm)
    · exact hc3 b hm hb.1 hb.2
    · omega
 obtain ⟨f, f1, f2, f3, f4, f5⟩ := q3 H (fun b hb => (hy b hb).symm); simp only at f1; obtain ⟨q1', q2', -⟩ := step_loc call M G stamp τ (g + 64 * y.1) (subS s y.1) y.2 H f f1; have qw' := step_w call M G stamp τ (g + 64 * y.1) (subS s y.1) y.2 H f f1; have hx : ∀ b, e.at (g + 64 * x.1) b → f.H b = H b := fun b hb => by
  rcases hb with hb | hb
  · exact qw' b (fun hm => hw2 b (by rw [f3, f4] at hm; exact hm) hb) (fun ⟨h1, h2⟩ => hc3 b hb h1 h2)
  · refine q1' b ?_
    rintro (hm | hm)
    · rw [f3] at hm; exact hc2 b hm hb.1 hb.2
    · omega
 obtain ⟨k, k1, k2, k3, k4, k5⟩ := p3 f.H hx; simp only at k1; obtain ⟨r1, r2, -⟩ := step_loc call M G stamp τ (g + 64 * x.1) (subS s x.1) x.2 f.H k k1; obtain ⟨τ3, t1, t2⟩ := put_comm hp hp' ha3; have hτ3 : ∀ t ∈ x.2.looks, τ3 t = τ t := put_looks t1 ha2; refine ⟨τ3, f.H, ?_, ?_⟩
 · unfold step1; rw [f1]; simp only; rw [f2, t1]; simp [f3, f4]
 · unfold step1
   rw [stepE_congr hτ3, k1]; simp only; rw [k2, t2]
   simp only [Option.some.injEq, Prod.mk.injEq, true_and]; refine ⟨?_, by rw [k3, k4]; exact ⟨rfl, rfl⟩⟩
   funext b
   by_cases hbx : e.at (g + 64 * x.1) b
   · rw [k5 b hbx]
     by_cases hby : e'.at (g + 64 * y.1) b
     · -- both look at it: none writes
       rcases hby with hb | hb
       · rcases hbx with ha | ha
         · exact (qw b (fun hm => hw2 b hm ha) (fun ⟨h1, h2⟩ => hc3 b ha h1 h2)).symm
         · exact absurd ha.2 (hc2 b hb ha.1)
       · rcases hbx with ha | ha
         · exact absurd hb.2 (hc3 b ha hb.1)
         · omega
     · rw [q1 b hby]
   · rw [r1 b (by simpa [Eff.at, k3] using hbx)]
     by_cases hby : e'.at (g + 64 * y.1) b
     · rw [f5 b hby]
     · rw [q1' b (by simpa [Eff.at, f3] using hby), q1 b hby, p1 b hbx]
def runG (call : CallT) (M : Nat → Mode) (G : Nat → Option (List D)) (stamp : Bool) (N g : Nat) (s : Sup) : List (Nat × RO) → (Nat → V) → (Nat → Box) → Option ((Nat → V) × (Nat → Box) × List (List Nat × List Nat))
 | [], τ, H => some (τ, H, [])
 | x :: r, τ, H => match step1 call M G stamp N g s x τ H with
  | some (τ', H', l) => match runG call M G stamp N g s r τ' H' with
   | some (τ'', H'', ls) => some (τ'', H'', l :: ls)
   | none => none
  | none => none
theorem runG_cons {x : Nat × RO} {r : List (Nat × RO)} {τ τ' : Nat → V} {H H' : Nat → Box} {L : List (List Nat × List Nat)} :
 runG call M G stamp N g s (x :: r) τ H = some (τ', H', L) ↔ ∃ τ1 H1 l L', step1 call M G stamp N g s x τ H = some (τ1, H1, l) ∧ runG call M G stamp N g s r τ1 H1 = some (τ', H', L') ∧ L = l :: L' := by
 simp only [runG]; cases step1 call M G stamp N g s x τ H with
 | none => simp
 | some p =>
  obtain ⟨τ1, H1, l⟩ := p; simp only; cases hr : runG call M G stamp N g s r τ1 H1 with
  | none =>
   constructor
   · intro h; cases h
   · rintro ⟨_, _, _, _, h1, h2, _⟩; cases h1; rw [hr] at h2; cases h2
  | some q =>
   obtain ⟨a, b, c⟩ := q; constructor
   · intro h; cases h; exact ⟨_, _, _, _, rfl, hr, rfl⟩
   · rintro ⟨_, _, _, _, h1, h2, h3⟩; cases h1; rw [hr] at h2; cases h2; rw [h3]
theorem runG_front : ∀ (l1 : List (Nat × RO)) (x : Nat × RO) (l2 : List (Nat × RO)) (L1 : List (List Nat × List Nat)) (lx : List Nat × List Nat) (L2 : List (List Nat × List Nat)) (τ τ' : Nat → V) (H H' : Nat → Box),
 L1.length = l1.length → (∀ p ∈ l1.zip L1, p.1.1 ≠ x.1 ∧ apart p.1.2 x.2 = true ∧ ncW g p.1.1 x.1 p.2 lx = true) →
 runG call M G stamp N g s (l1 ++ x :: l2) τ H = some (τ', H', L1 ++ lx :: L2) → runG call M G stamp N g s (x :: (l1 ++ l2)) τ H = some (τ', H', lx :: (L1 ++ L2))
 | [], x, l2, L1, lx, L2, τ, τ', H, H', hl, ha, h => by
  cases L1 with
  | nil => exact h
  | cons => simp at hl
 | y :: l1, x, l2, [], lx, L2, τ, τ', H, H', hl, ha, h => by simp at hl
 | y :: l1, x, l2, ly :: L1, lx, L2, τ, τ', H, H', hl, ha, h => by
  simp only [List.cons_append] at h; obtain ⟨τ1, H1, l, L', h1, h2, h3⟩ := runG_cons.1 h; simp only [List.cons_append, List.cons.injEq] at h3; obtain ⟨rfl, rfl⟩ := h3; have := runG_front l1 x l2 L1 lx L2 τ1 τ' H1 H' (by simpa using hl) (fun p hp => ha p (by simp [hp])) h2; obtain ⟨τ2, H2, l, L', k1, k2, k3⟩ := runG_cons.1 this; cases k3
  obtain ⟨hne, hap, hnc⟩ := ha (y, ly) (by simp); obtain ⟨τ3, H3, m1, m2⟩ := step_swap hne hap hnc h1 k1; exact runG_cons.2 ⟨τ3, H3, lx, _, m1, runG_cons.2 ⟨τ2, H2, ly, _, m2, k2, rfl⟩, rfl⟩
end
end Go.VM

/- The value machine: a region whose order is drawn. Conditions: none. -/
namespace Go.VM
set_option linter.unusedVariables false
set_option linter.unusedSimpArgs false
set_option linter.unusedSectionVars false
def bfAt (bf : List Nat) (i j : Nat) : Bool := (bf.getD i 0).testBit j
def dregOk (ops : Array Oper) (ros : List RO) (bf : List Nat) : Bool :=
 bf.length == ops.size && ros.length == ops.size &&
 (List.range ops.size).all fun i =>
  ((ops[i]?).map (·.after.all fun e => !Region.binds .any e || decide (e.on < i))).getD false &&
  (List.range i).all fun j =>
   (!bfAt bf i j || ((ops[i]?).map (·.after.toList.any fun e => Region.binds .any e && (e.on == j || (decide (j < e.on) && bfAt bf e.on j)))).getD false) &&
   (bfAt bf i j || apart (ros.getD j default) (ros.getD i default))
section
variable {call : CallT} {M : Nat → Mode} {G : Nat → Option (List D)} {stamp : Bool} {N g : Nat} {s : Sup}
theorem runG_length : ∀ (l : List (Nat × RO)) {τ τ' : Nat → V} {H H' : Nat → Box} {L : List (List Nat × List Nat)}, runG call M G stamp N g s l τ H = some (τ', H', L) → L.length = l.length
 | [], τ, τ', H, H', L, h => by simp [runG] at h; simp [h.2.2.symm]
 | x :: r, τ, τ', H, H', L, h => by
  obtain ⟨τ1, H1, l, L', h1, h2, rfl⟩ := runG_cons.1 h; simp [runG_length r h2]
theorem runG_runL : ∀ (l : List (Nat × RO)) {τ τ' : Nat → V} {H H' : Nat → Box} {L : List (List Nat × List Nat)}, runG call M G stamp N g s l τ H = some (τ', H', L) → runL call M G stamp N g s l τ H = some (τ', H')
 | [], τ, τ', H, H', L, h => by simp [runG] at h; simp [runL, h.1, h.2.1]
 | x :: r, τ, τ', H, H', L, h => by
  obtain ⟨τ1, H1, l, L', h1, h2, rfl⟩ := runG_cons.1 h; obtain ⟨e, he, hp, rfl, rfl⟩ := step1_some h1; obtain ⟨i, o⟩ := x; simp only [runL, he, hp]; exact runG_runL r h2
theorem regL_runG : ∀ (ros : List RO) (i : Nat) {τ τ' : Nat → V} {H H' : Nat → Box} {L : List (List Nat × List Nat)}, regL call M G stamp N g s i ros τ H = some (τ', H', L) →
 runG call M G stamp N g s ((List.range' i ros.length).zip ros) τ H = some (τ', H', L)
 | [], i, τ, τ', H, H', L, h => by simpa [regL, runG] using h
 | r :: ros, i, τ, τ', H, H', L, h => by
  simp only [regL] at h; split at h
  · rename_i e he
    split at h
    · rename_i τ1 hp
      split at h
      · rename_i τ2 H2 l hr
        cases h
        simp only [List.length_cons, List.range'_succ, List.zip_cons_cons]; exact runG_cons.2 ⟨τ1, e.H, _, l, by simp [step1, he, hp], regL_runG ros (i + 1) hr, rfl⟩
      · cases h
    · cases h
  · cases h
def Calm (g : Nat) (bf : List Nat) (l : List ((Nat × RO) × (List Nat × List Nat))) : Prop :=
 l.Pairwise fun p q => bfAt bf q.1.1 p.1.1 = true ∨ ncW g p.1.1 q.1.1 p.2 q.2 = true
theorem calmWith_at {x : List Nat × List Nat} {i : Nat} : ∀ (L : List (List Nat × List Nat)) (j : Nat) (bf : List Nat), calmWith g x i j L bf = true → ∀ k y b, L[k]? = some y → bf[k]? = some b →
 b.testBit i = true ∨ ncW g i (j + k) x y = true
 | [], j, bf, h, k, y, b, hy, hb => by simp at hy
 | z :: L, j, [], h, k, y, b, hy, hb => by simp at hb
 | z :: L, j, c :: bf, h, k, y, b, hy, hb => by
  simp only [calmWith, Bool.and_eq_true, Bool.or_eq_true] at h
  match k with
  | 0 => simp at hy hb; subst hy hb; exact h.1
  | k + 1 =>
   have := calmWith_at L (j + 1) bf h.2 k y b (by simpa using hy) (by simpa using hb)
   rwa [show j + 1 + k = j + (k + 1) by omega] at this
theorem calm_calm : ∀ (L : List (List Nat × List Nat)) (ros : List RO) (i : Nat) (bf bf0 : List Nat), calm g i L bf = true → bf.length = L.length → (∀ k, bf[k]? = bf0[i + k]?) →
 Calm g bf0 (((List.range' i ros.length).zip ros).zip L)
 | [], ros, i, bf, bf0, h, hl, hb => by simp [Calm]
 | x :: L, [], i, bf, bf0, h, hl, hb => by simp [Calm]
 | x :: L, r :: ros, i, [], bf0, h, hl, hb => by simp at hl
 | x :: L, r :: ros, i, c :: bf, bf0, h, hl, hb => by
  simp only [calm, Bool.and_eq_true] at h; simp only [Calm, List.length_cons, List.range'_succ, List.zip_cons_cons, List.pairwise_cons]; refine ⟨?_, calm_calm L ros (i + 1) bf bf0 h.2 (by simpa using hl) (fun k => by have := hb (k + 1); simpa [show i + 1 + k = i + (k + 1) by omega] using this)⟩
  intro q hq; obtain ⟨k, hk⟩ := List.getElem?_of_mem hq; simp only [List.getElem?_zip_eq_some, List.getElem?_range'] at hk; obtain ⟨⟨h1, h2⟩, h3⟩ := hk; have hkl : k < bf.length := by
   have : k < L.length := (List.getElem?_eq_some_iff.1 h3).1; simp at hl; omega
  have hkb : bf[k]? = some bf[k] := List.getElem?_eq_getElem hkl; have e1 : q.1.1 = i + 1 + k := by
   rw [List.getElem?_range' (List.getElem?_eq_some_iff.1 h2).1] at h1; have := Option.some.inj h1; omega
  have := calmWith_at L (i + 1) bf h.1 k q.2 bf[k] h3 hkb; rw [e1]; refine this.imp (fun ht => ?_) (fun h => h)
  have hb' := hb (k + 1); simp only [List.getElem?_cons_succ, hkb] at hb'; simp only [bfAt, List.getD_eq_getElem?_getD]; rw [show i + 1 + k = i + (k + 1) by omega, ← hb']; exact ht
theorem sublist_zip {α β : Type} : ∀ (l1 : List α) (x : α) (l2 : List α) (L1 : List β) (y : β) (L2 : List β), L1.length = l1.length →
 ((l1 ++ l2).zip (L1 ++ L2)).Sublist ((l1 ++ x :: l2).zip (L1 ++ y :: L2))
 | [], x, l2, [], y, L2, h => by simp
 | [], x, l2, z :: L1, y, L2, h => by simp at h
 | a :: l1, x, l2, [], y, L2, h => by simp at h
 | a :: l1, x, l2, b :: L1, y, L2, h => by
  simp only [List.cons_append, List.zip_cons_cons]; exact (sublist_zip l1 x l2 L1 y L2 (by simpa using h)).cons_cons _
theorem perm {ops : Array Oper} {ros : List RO} {bf : List Nat} (hok : dregOk ops ros bf = true) :
 ∀ (fuel t : Nat) (listed : Array Bool) (l : List (Nat × RO)) (L : List (List Nat × List Nat)) (τ τ' : Nat → V) (H H' : Nat → Box),
  fuel = l.length → listed.size = ops.size → (∀ i, i ∈ l.map (·.1) ↔ listed.getD i true = false) → (l.map (·.1)).Pairwise (· < ·) →
  (∀ p ∈ l, ros[p.1]? = some p.2) → (∀ i, i < ops.size → listed.getD i true = true → ∀ j, j < i → bfAt bf i j = true → listed.getD j true = true) →
  Calm g bf (l.zip L) → runG call M G stamp N g s l τ H = some (τ', H', L) →
  ∃ l' : List (Nat × RO), l'.map (·.1) = Region.linearise.go .any ops fuel t listed [] ∧ (l'.map (·.1)).Nodup ∧ (∀ p ∈ l', p ∈ l) ∧ runL call M G stamp N g s l' τ H = some (τ', H')
 | 0, t, listed, l, L, τ, τ', H, H', hf, hs, hl, hp, hr, hcl, hc, h => by
  have : l = [] := List.eq_nil_of_length_eq_zero hf.symm; subst this; exact ⟨[], by simp [Region.linearise.go], by simp, by simp, runG_runL _ h⟩
 | fuel + 1, t, listed, l, L, τ, τ', H, H', hf, hs, hl, hp, hr, hcl, hc, h => by
  simp only [dregOk, Bool.and_eq_true, beq_iff_eq, List.all_eq_true, List.mem_range, Bool.or_eq_true, Bool.not_eq_true'] at hok; obtain ⟨⟨ok1, ok2⟩, ok3⟩ := hok; have hlt : ∀ i, i ∈ l.map (·.1) → i < ops.size := fun i hi => by
   have := (hl i).1 hi; rw [← hs]
   by_cases hlt : i < listed.size
   · exact hlt
   · simp [Array.getD, hlt] at this
  have hedge : ∀ i, i < ops.size → ∀ o, ops[i]? = some o → ∀ e ∈ o.after, Region.binds .any e = true → e.on < i := fun i hi o ho e he hb => by
   have := (ok3 i hi).1; rw [ho] at this; simp only [Option.map_some, Option.getD_some, Array.all_eq_true_iff_forall_mem, Bool.or_eq_true, Bool.not_eq_true', decide_eq_true_eq] at this; have := this e he; rw [hb] at this
   simpa using this
  have hne : Region.ready .any ops listed ≠ [] := by
   cases l with
   | nil => simp at hf
   | cons x l =>
    have hx : x.1 ∈ (x :: l).map (·.1) := by simp
    have hx2 := hlt _ hx; obtain ⟨o, ho⟩ : ∃ o, ops[x.1]? = some o := ⟨ops[x.1], by simp [hx2]⟩; have : x.1 ∈ Region.ready .any ops listed := by
     simp only [Region.ready, List.mem_filter, List.mem_range, Bool.and_eq_true, Bool.not_eq_true']; refine ⟨hx2, (hl _).1 hx, ?_⟩
     rw [ho]; simp only [Option.map_some, Option.getD_some, Array.all_eq_true_iff_forall_mem, Bool.or_eq_true, Bool.not_eq_true']; intro e he; cases hb : Region.binds .any e with
     | false => exact .inl rfl
     | true =>
      have h1 := hedge x.1 hx2 o ho e he hb; right
      have h2 : ¬ e.on ∈ (x :: l).map (·.1) := by
       simp only [List.map_cons, List.pairwise_cons] at hp; simp only [List.map_cons, List.mem_cons, not_or]; exact ⟨by omega, fun hm => by have := hp.1 _ hm; omega⟩
      have h3 : e.on < listed.size := by omega
      have h4 := mt (hl e.on).2 h2; simp [Array.getD, h3] at h4 ⊢; exact h4
    intro e; rw [e] at this; simp at this
  simp only [Region.linearise.go]
  change ∃ l' : List (Nat × RO), l'.map (·.1) = (match (Region.ready .any ops listed)[t % (Region.ready .any ops listed).length]? with
   | some i => Region.linearise.go .any ops fuel (t / (Region.ready .any ops listed).length) (listed.setIfInBounds i true) [i]
   | none => [].reverse) ∧ _
  cases hi : (Region.ready .any ops listed)[t % (Region.ready .any ops listed).length]? with
  | none =>
   exfalso
   have h1 : (Region.ready .any ops listed).length ≤ t % (Region.ready .any ops listed).length := List.getElem?_eq_none_iff.1 hi; have h2 : 0 < (Region.ready .any ops listed).length := List.length_pos_iff.2 hne; have := Nat.mod_lt t h2; omega
  | some i =>
   have him := List.mem_of_getElem? hi; simp only [Region.ready, List.mem_filter, List.mem_range, Bool.and_eq_true, Bool.not_eq_true'] at him; obtain ⟨i1, i2, i3⟩ := him; have hil := (hl i).2 i2; obtain ⟨o, ho⟩ : ∃ o, ops[i]? = some o := ⟨ops[i], by simp [i1]⟩; rw [ho] at i3; simp only [Option.map_some, Option.getD_some, Array.all_eq_true_iff_forall_mem, Bool.or_eq_true, Bool.not_eq_true'] at i3; obtain ⟨⟨i', r⟩, hx, rfl⟩ := List.mem_map.1 hil; obtain ⟨l1, l2, rfl⟩ := List.append_of_mem hx; simp only at *; have hLl := runG_length _ h; obtain ⟨L1, L2', hL, hL1⟩ : ∃ L1 L2', L = L1 ++ L2' ∧ L1.length = l1.length := ⟨L.take l1.length, L.drop l1.length, by simp, by simp at hLl ⊢; omega⟩; subst hL
   cases L2' with
   | nil => simp at hLl; omega
   | cons lx L2 =>
   have hbf : ∀ j, j < i' → bfAt bf i' j = true → listed.getD j true = true := fun j hj hb => by
    have := ((ok3 i' i1).2 j hj).1; rw [hb, ho] at this; simp only [Bool.true_eq_false, Option.map_some, Option.getD_some, List.any_eq_true, Bool.and_eq_true, Bool.or_eq_true, beq_iff_eq, false_or, decide_eq_true_eq, Array.mem_toList_iff] at this; obtain ⟨e, he, hb2, hor⟩ := this; have h1 := hedge i' i1 o ho e he hb2; have h2 : listed.getD e.on false = true := by
     have := i3 e he; rw [hb2] at this
     simpa using this
    have h2' : listed.getD e.on true = true := by
     have h3 : e.on < listed.size := by omega
     simp [Array.getD, h3] at h2 ⊢; exact h2
    rcases hor with rfl | hor
    · exact h2'
    · exact hcl e.on (by omega) h2' j hor.1 hor.2
   have hahead : ∀ p ∈ l1.zip L1, p.1.1 ≠ i' ∧ apart p.1.2 r = true ∧ ncW g p.1.1 i' p.2 lx = true := by
    intro p hpm; have hp1 := (List.of_mem_zip hpm).1; have hlt1 : p.1.1 < i' := by
     simp only [List.map_append, List.map_cons, List.pairwise_append] at hp; exact hp.2.2 _ (List.mem_map.2 ⟨_, hp1, rfl⟩) _ (List.mem_cons_self ..)
    have hun : listed.getD p.1.1 true = false := (hl _).1 (by simp only [List.map_append, List.mem_append]; exact .inl (List.mem_map.2 ⟨_, hp1, rfl⟩)); have hnb : bfAt bf i' p.1.1 = false := by
     cases hb : bfAt bf i' p.1.1 with
     | false => rfl
     | true => rw [hbf _ hlt1 hb] at hun; cases hun
    refine ⟨by omega, ?_, ?_⟩
    · have := ((ok3 i' i1).2 p.1.1 hlt1).2
      rw [hnb] at this; have e1 := hr p.1 (by simp [hp1]); have e2 := hr (i', r) (by simp); simp only [List.getD_eq_getElem?_getD, e1, e2, Option.getD_some] at this
      simpa using this
    · have : (l1 ++ (i', r) :: l2).zip (L1 ++ lx :: L2) = l1.zip L1 ++ ((i', r), lx) :: l2.zip L2 := by
       rw [List.zip_append hL1.symm]; rfl
      rw [this] at hc; simp only [Calm, List.pairwise_append] at hc; have := hc.2.2 p hpm ((i', r), lx) (List.mem_cons_self ..); simp only [hnb] at this
      simpa using this
   have hfront := runG_front l1 (i', r) l2 L1 lx L2 τ τ' H H' hL1 hahead h; obtain ⟨τ1, H1, ly, L', k1, k2, k3⟩ := runG_cons.1 hfront; cases k3
   have hset : ∀ j, (listed.setIfInBounds i' true).getD j true = if j = i' then true else listed.getD j true := fun j => by
    simp only [Array.getD_eq_getD_getElem?, Array.getElem?_setIfInBounds]
    by_cases e : i' = j
    · subst e; simp [hs, i1]
    · simp [e, Ne.symm e]
   have hnd : ∀ j, j ∈ (l1 ++ l2).map (·.1) ↔ j ∈ (l1 ++ (i', r) :: l2).map (·.1) ∧ j ≠ i' := fun j => by
    simp only [List.map_append, List.map_cons, List.mem_append, List.mem_cons]; simp only [List.map_append, List.map_cons, List.pairwise_append, List.pairwise_cons, List.mem_cons] at hp; constructor
    · rintro (hm | hm)
      · exact ⟨.inl hm, by have := hp.2.2 j hm i' (.inl rfl); omega⟩
      · exact ⟨.inr (.inr hm), by have := hp.2.1.1 j hm; omega⟩
    · rintro ⟨hm | hm | hm, hne⟩
      · exact .inl hm
      · exact absurd hm hne
      · exact .inr hm
   have hsub : ((l1 ++ l2).map (·.1)).Sublist ((l1 ++ (i', r) :: l2).map (·.1)) := by
    simp only [List.map_append, List.map_cons]; exact (List.Sublist.refl _).append (List.sublist_cons_self ..)
   obtain ⟨l', m1, m2, m3, m4⟩ := perm (by simp only [dregOk, Bool.and_eq_true, beq_iff_eq, List.all_eq_true, List.mem_range, Bool.or_eq_true, Bool.not_eq_true']; exact ⟨⟨ok1, ok2⟩, ok3⟩) fuel (t / (Region.ready .any ops listed).length) (listed.setIfInBounds i' true) (l1 ++ l2) (L1 ++ L2) τ1 τ' H1 H'
    (by simp at hf ⊢; omega) (by simp [hs]) (fun j => by rw [hnd, hset, hl]; by_cases e : j = i' <;> simp [e])
    (hp.sublist hsub) (fun p hp => hr p (by simp only [List.mem_append, List.mem_cons] at hp ⊢; rcases hp with h | h; exact .inl h; exact .inr (.inr h)))
    (fun a ha hla j hj hb => by
     rw [hset] at hla ⊢; split
     · rfl
     · split at hla
       · rename_i e; subst e; exact hbf j hj hb
       · exact hcl a ha hla j hj hb)
    (hc.sublist (sublist_zip l1 (i', r) l2 L1 lx L2 hL1)) k2
   refine ⟨(i', r) :: l', ?_, ?_, ?_, ?_⟩
   · show ((i', r) :: l').map (·.1) = Region.linearise.go .any ops fuel (t / (Region.ready .any ops listed).length) (listed.setIfInBounds i' true) [i']
     rw [linearise_go_acc, List.reverse_singleton, List.singleton_append, List.map_cons, m1]
   · simp only [List.map_cons, List.nodup_cons]
     refine ⟨fun hm => ?_, m2⟩
     obtain ⟨p, hp, he⟩ := List.mem_map.1 hm; exact ((hnd i').1 (List.mem_map.2 ⟨p, m3 p hp, he⟩)).2 rfl
   · intro p hp
     simp only [List.mem_cons] at hp; rcases hp with rfl | hp
     · simp
     · have := m3 p hp
       simp only [List.mem_append, List.mem_cons] at this ⊢; rcases this with h | h
       · exact .inl h
       · exact .inr (.inr h)
   · obtain ⟨e, he, hp, rfl, rfl⟩ := step1_some k1
     simp only [runL, he, hp]; exact m4
end
end Go.VM

/- The value machine: code. Conditions: none. -/
namespace Go.VM
set_option linter.unusedVariables false
set_option linter.unusedSimpArgs false
set_option linter.unusedSectionVars false
def beforeL : List Oper → List Nat → List Nat
 | [], acc => acc
 | o :: r, acc => beforeL r (acc ++ [o.after.toList.foldl (fun s e => if Region.binds .any e then s ||| 2 ^ e.on ||| acc.getD e.on 0 else s) 0])
def stripC (P : Program) (cid : FuncId → Nat) : Code → Option C
 | .skip => some .skip
 | .region _ ops draw => match stripROs P cid ops ops.toList with
  | some ros => if draw then (if dregOk ops ros (beforeL ops.toList []) then some (.dreg ros (beforeL ops.toList [])) else none) else some (.reg ros)
  | none => none
 | .seq a b => match stripC P cid a, stripC P cid b with
  | some x, some y => some (.seq x y)
  | _, _ => none
 | .cond c a b => match stripX cid c, stripC P cid a, stripC P cid b with
  | some z, some x, some y => some (.cond z x y)
  | _, _, _ => none
 | .block id c => (stripC P cid c).map (.block id)
 | .loop c => (stripC P cid c).map .loop
 | .exit id => some (.exit id)
 | .ret => some .ret
 | _ => none
def Ex.exit? : Ex → Go.Exit
 | .normal => .normal
 | .exit id => .exit id
 | .ret => .ret
section
variable {P : Program} {fid : Nat → FuncId} {cid : FuncId → Nat} {G : Nat → Option (List D)} {E : Entry} {call : CallT} {M : Nat → Mode} {stamp : Bool} {N : Nat}
structure SR (fid : Nat → FuncId) (G : Nat → Option (List D)) (E : Entry) (N : Nat) (κ : Ctx) (a : Act) (st : St) : Prop where
 slots : Slots fid N κ a st.τ
 inv : Inv fid G E κ st.H (fun n => st.g ≤ n) (fun z => ∃ k, z = st.s k)
 inj : ∀ a b, st.s a = st.s b → a = b
theorem freeN_le {g total : Nat} {l : List Nat} {n : Nat} (h : freeN g total l n) : g ≤ n := by
 rcases h with ⟨i, _, h, _⟩ | h <;> omega
theorem freeZ_in {s : Sup} {l : List Nat} {z : Nat} (h : freeZ s l z) : ∃ k, z = s k := by
 rcases h with ⟨i, _, k, rfl⟩ | ⟨k, rfl⟩
 · exact ⟨_, rfl⟩
 · exact ⟨_, rfl⟩
theorem order_ok {ops : Array Oper} {ros : List RO} {Q : Go.Exit → Act → World → Prop} {κ : Ctx} {a : Act} {st : St} {τ' : Nat → V} {H' : Nat → Box}
 (hcid : ∀ f, fid (cid f) = f) (hcall : ∀ f args bs s r, call f args bs s = some r → CallOK P fid G f args bs s r)
 (hros : stripROs P cid ops ops.toList = some ros) (R : SR fid G E N κ a st) (l : List (Nat × RO)) (hn : (l.map (·.1)).Nodup) (hl : ∀ p ∈ l, ros[p.1]? = some p.2)
 (hr : runL call M G stamp N st.g st.s l st.τ st.H = some (τ', H'))
 (hQ : ∀ a' κ', κ.le κ' → SR fid G E N κ' a' ⟨τ', H', st.g + 64 * ros.length, restS st.s⟩ → Q .normal a' κ'.w) : wpOps P ops Q (l.map (·.1)) a κ.w := by
 obtain ⟨s1, s2⟩ := stripROs_get hros; have hget : ∀ p ∈ l, ∃ o, ops[p.1]? = some o := fun p hp => by
  have h1 := hl p hp; have h2 := (List.getElem?_eq_some_iff.1 h1).1; have h3 : p.1 < ops.size := by have := s1; simp at this; omega
  exact ⟨ops[p.1], by simp [h3]⟩
 let l2 : List (Nat × Oper × RO) := l.map fun p => (p.1, ops.getD p.1 default, p.2)
 have e1 : l2.map (·.1) = l.map (·.1) := by simp [l2, List.map_map, Function.comp_def]
 have e2 : (l2.map fun p => (p.1, p.2.2)) = l := by simp [l2, List.map_map, Function.comp_def]
 rw [← e1]; refine seqL (total := ros.length) (g := st.g) (s := st.s) (G := G) (E := E) (call := call) (M := M) (stamp := stamp) (N := N) hcid hcall R.inj l2 (fun p hp => ?_) (by rw [e1]; exact hn)
  (R.inv.weak (fun n h => freeN_le h) (fun z h => freeZ_in h)) R.slots (by rw [e2]; exact hr) (fun a' κ' hle S' I' => ?_)
 · obtain ⟨q, hq, rfl⟩ := List.mem_map.1 hp
   obtain ⟨o, ho⟩ := hget q hq; have h1 := hl q hq; simp only; refine ⟨(List.getElem?_eq_some_iff.1 h1).1, ?_, ?_⟩
   · simp [ho, Array.getD_eq_getD_getElem?]
   · refine s2 q.1 _ q.2 ?_ h1
     simp only [Array.getElem?_toList, ho, Array.getD_eq_getD_getElem?, Option.getD_some]
 · refine hQ a' κ' hle ⟨S', I'.weak (fun n h => .inr h) (fun z h => .inr h), restS_inj R.inj⟩
theorem zip_range_get {ros : List RO} : ∀ p ∈ (List.range' 0 ros.length).zip ros, ros[p.1]? = some p.2 := by
 intro p hp; obtain ⟨k, hk⟩ := List.getElem?_of_mem hp; simp only [List.getElem?_zip_eq_some] at hk; obtain ⟨h1, h2⟩ := hk; rw [List.getElem?_range' (List.getElem?_eq_some_iff.1 h2).1] at h1; have := Option.some.inj h1; rw [← this]; simpa using h2
theorem zip_range_fst {n : Nat} {ros : List RO} (h : ros.length = n) : ((List.range' 0 n).zip ros).map (·.1) = List.range n := by
 rw [List.map_fst_zip (by simp [h]), List.range_eq_range']
theorem exec_ok (hcid : ∀ f, fid (cid f) = f) (hmix : P.follows .mixedOrders = true) (hcall : ∀ f args bs s r, call f args bs s = some r → CallOK P fid G f args bs s r) (n : Nat) :
 ∀ (c : Code) {C : C} {Q : Go.Exit → Act → World → Prop} {κ : Ctx} {a : Act} {st st' : St} {ex : Ex}, stripC P cid c = some C → SR fid G E N κ a st →
  execC call M G stamp N n C st = some (ex, st') → (∀ a' κ', κ.le κ' → SR fid G E N κ' a' st' → Q ex.exit? a' κ'.w) → c.wp P Q a κ.w
 | .skip, C, Q, κ, a, st, st', ex, hC, R, h, hQ => by
  cases hC
  cases h
  exact wp_skip (hQ a κ (Ctx.le.refl κ) R)
 | .exit id, C, Q, κ, a, st, st', ex, hC, R, h, hQ => by
  cases hC
  cases h
  exact wp_exit (hQ a κ (Ctx.le.refl κ) R)
 | .ret, C, Q, κ, a, st, st', ex, hC, R, h, hQ => by
  cases hC
  cases h
  exact wp_ret (hQ a κ (Ctx.le.refl κ) R)
 | .region id ops draw, C, Q, κ, a, st, st', ex, hC, R, h, hQ => by
  simp only [stripC] at hC; split at hC
  · rename_i ros hros
    obtain ⟨s1, s2⟩ := stripROs_get hros; have hlen : ros.length = ops.size := by simpa using s1.symm
    cases draw with
    | false =>
     simp only [Bool.false_eq_true, if_false, Option.some.injEq] at hC; subst hC; simp only [execC] at h; split at h
     · rename_i τ' H' hr
       cases h
       refine wp_region ?_
       rw [regV_runL] at hr; rw [← zip_range_fst hlen, ← hlen]; exact order_ok hcid hcall hros R _ (by rw [zip_range_fst rfl]; exact List.nodup_range) zip_range_get hr hQ
     · cases h
    | true =>
     simp only [if_true] at hC; split at hC
     · rename_i hok
       cases hC
       simp only [execC] at h; split at h
       · rename_i τ' H' L hr
         split at h
         · rename_i hcalm
           cases h
           refine wp_region_draw fun t => ?_
           simp only [Region.schedule, hmix, Bool.true_or, if_true]; have hrg := regL_runG ros 0 hr; have hL := runG_length _ hrg; have hbl : (beforeL ops.toList []).length = ops.size := by
            simp only [dregOk, Bool.and_eq_true, beq_iff_eq] at hok; exact hok.1.1
           have hcal : Calm st.g (beforeL ops.toList []) (((List.range' 0 ros.length).zip ros).zip L) :=
            calm_calm L ros 0 _ _ hcalm (by rw [hbl, hL]; simp [hlen]) (by simp)
           have hfst := zip_range_fst (ros := ros) rfl; obtain ⟨l', m1, m2, m3, m4⟩ := perm hok ops.size t (Array.replicate ops.size false) _ L _ _ _ _ (by simp [hlen]) (by simp)
            (fun i => by
             rw [hfst]; simp only [List.mem_range, hlen]
             by_cases hi : i < ops.size <;> simp [Array.getD_eq_getD_getElem?, Array.getElem?_replicate, hi])
            (by rw [hfst]; exact List.pairwise_lt_range) zip_range_get
            (fun i hi hla => by simp [Array.getD_eq_getD_getElem?, Array.getElem?_replicate, hi] at hla) hcal hrg
           rw [Region.linearise, ← m1]; obtain ⟨I', hle⟩ := R.inv.draw (w' := { κ.w with drawn := κ.w.drawn + 1 }) rfl rfl rfl rfl; refine order_ok (κ := { κ with w := { κ.w with drawn := κ.w.drawn + 1 } }) hcid hcall hros ⟨R.slots.mono hle, I', R.inj⟩ l' m2 (fun p hp => zip_range_get p (m3 p hp)) m4 ?_
           intro a' κ' hle' R'; exact hQ a' κ' (hle.trans hle') R'
         · cases h
       · cases h
     · cases hC
  · cases hC
 | .seq x y, C, Q, κ, a, st, st', ex, hC, R, h, hQ => by
  simp only [stripC] at hC; split at hC
  · rename_i X Y hX hY
    cases hC
    simp only [execC] at h; refine wp_seq ?_
    split at h
    · rename_i st1 h1
      refine exec_ok hcid hmix hcall n x hX R h1 ?_
      intro a' κ' hle R'; exact exec_ok hcid hmix hcall n y hY R' h (fun a'' κ'' hle' R'' => hQ a'' κ'' (hle.trans hle') R'')
    · rename_i hne
      refine exec_ok hcid hmix hcall n x hX R h ?_
      intro a' κ' hle R'; have := hQ a' κ' hle R'; cases ex with
      | normal => exact absurd h (by intro h; exact hne _ h)
      | exit id => exact this
      | ret => exact this
  · cases hC
 | .cond c x y, C, Q, κ, a, st, st', ex, hC, R, h, hQ => by
  simp only [stripC] at hC; split at hC
  · rename_i Z X Y hZ hX hY
    cases hC
    simp only [execC] at h; split at h
    · rename_i t ht
      have hv := R.slots.ev hcid c Z hZ; rw [ht] at hv; have hc : a.eval c = .bool t := by generalize a.eval c = vv at hv; cases hv; rfl
      refine wp_cond hc ?_
      cases t with
      | true => exact exec_ok hcid hmix hcall n x hX R (by simpa using h) hQ
      | false => exact exec_ok hcid hmix hcall n y hY R (by simpa using h) hQ
    · cases h
  · cases hC
 | .block id c, C, Q, κ, a, st, st', ex, hC, R, h, hQ => by
  simp only [stripC, Option.map_eq_some_iff] at hC; obtain ⟨X, hX, rfl⟩ := hC; simp only [execC] at h; refine wp_block ?_
  split at h
  · rename_i id' st1 h1
    refine exec_ok hcid hmix hcall n c hX R h1 ?_
    intro a' κ' hle R'; simp only [Exit.inBlock, Ex.exit?]; split at h
    · rename_i e
      cases h
      rw [if_pos e]; exact hQ a' κ' hle R'
    · rename_i e
      cases h
      rw [if_neg e]; exact hQ a' κ' hle R'
  · rename_i hne
    refine exec_ok hcid hmix hcall n c hX R h ?_
    intro a' κ' hle R'; have := hQ a' κ' hle R'; cases ex with
    | normal => exact this
    | exit id => exact absurd h (by intro h; exact hne _ _ h)
    | ret => exact this
 | .loop c, C, Q, κ, a, st, st', ex, hC, R, h, hQ => by
  simp only [stripC, Option.map_eq_some_iff] at hC; obtain ⟨X, hX, rfl⟩ := hC; simp only [execC] at h; refine wp_loop_ghost (fun m a w => ∃ κ1 st1, κ.le κ1 ∧ κ1.w = w ∧ SR fid G E N κ1 a st1 ∧ iter (execC call M G stamp N n X) m st1 = some (ex, st')) n ⟨κ, st, Ctx.le.refl κ, rfl, R, h⟩ ?_
  rintro m a1 w1 ⟨κ1, st1, hle1, rfl, R1, h1⟩; cases m with
  | zero => cases h1
  | succ m =>
   simp only [iter] at h1; split at h1
   · rename_i st2 h2
     refine exec_ok hcid hmix hcall n c hX R1 h2 ?_
     intro a' κ' hle R'; exact ⟨m, by omega, κ', st2, hle1.trans hle, rfl, R', h1⟩
   · rename_i hne
     refine exec_ok hcid hmix hcall n c hX R1 h1 ?_
     intro a' κ' hle R'; have := hQ a' κ' (hle1.trans hle) R'; cases ex with
     | normal => exact absurd h1 (by intro h; exact hne _ h)
     | exit id => exact this
     | ret => exact this
 | .rangeFunc .., C, Q, κ, a, st, st', ex, hC, R, h, hQ => by simp [stripC] at hC
 | .scope _, C, Q, κ, a, st, st', ex, hC, R, h, hQ => by simp [stripC] at hC
 | .label _, C, Q, κ, a, st, st', ex, hC, R, h, hQ => by simp [stripC] at hC
 | .goto _, C, Q, κ, a, st, st', ex, hC, R, h, hQ => by simp [stripC] at hC
 | .refuse _, C, Q, κ, a, st, st', ex, hC, R, h, hQ => by simp [stripC] at hC
end
end Go.VM

/- The value machine: a whole function. Conditions: none. -/
namespace Go.VM
set_option linter.unusedVariables false
set_option linter.unusedSimpArgs false
set_option linter.unusedSectionVars false
def stripR (P : Program) : ResultVar → Option RV
 | .tmp t => some (.tmp t)
 | .cell a t => match agg? P t, sz? P t with
  | some x, some n => if x || n == 1 then some (.cell a x n) else none
  | _, _ => none
def stripRs (P : Program) : List ResultVar → Option (List RV)
 | [] => some []
 | x :: r => match stripR P x, stripRs P r with | some y, some l => some (y :: l) | _, _ => none
def stripF (P : Program) (cid : FuncId → Nat) (F : Func) : Option Fn :=
 match F.body with
 | none => none
 | some c => match stripC P cid c, stripRs P F.results.toList with
  | some C, some r => if F.name == "runtime.NumGoroutine" then none else some ⟨F.ntmps, r, C⟩
  | _, _ => none
section
variable {P : Program} {fid : Nat → FuncId} {cid : FuncId → Nat} {G : Nat → Option (List D)} {E : Entry} {call : CallT} {M : Nat → Mode} {stamp : Bool} {N : Nat}
def resF (tmps : Array Value) : ResultVar → Sem Value
 | .tmp t => pure (tmps.getD t undef)
 | .cell x t => do loadVar t (← asAddr (tmps.getD x undef))
theorem results_ok {κ : Ctx} {a : Act} {τ : Nat → V} {H : Nat → Box} {FN FZ : Nat → Prop} (S : Slots fid N κ a τ) (I : Inv fid G E κ H FN FZ) :
 ∀ (l : List ResultVar) {rs : List RV} {res : List (Bool × List W)}, stripRs P l = some rs → resV τ H rs = some res →
  ∃ vs : List Value, (l.mapM (resF a.tmps)).run P κ.w = .ok vs κ.w ∧
   vs.length = res.length ∧ ∀ (i : Nat) (p : Bool × List W), res[i]? = some p → ∃ x : Value, vs[i]? = some x ∧ PRel fid κ x p
 | [], rs, res, hs, hr => by
  cases hs
  cases hr
  exact ⟨[], by simp, rfl, by simp⟩
 | r :: l, rs, res, hs, hr => by
  simp only [stripRs] at hs; split at hs
  · rename_i y ys hy hys
    cases hs
    have fin : ∀ (v : Value) (p : Bool × List W) (res' : List (Bool × List W)), PRel fid κ v p → resV τ H ys = some res' → res = p :: res' →
     (resF a.tmps r).run P κ.w = .ok v κ.w →
     ∃ vs : List Value, ((r :: l).mapM (resF a.tmps)).run P κ.w = .ok vs κ.w ∧
      vs.length = res.length ∧ ∀ (i : Nat) (p : Bool × List W), res[i]? = some p → ∃ x : Value, vs[i]? = some x ∧ PRel fid κ x p := by
     intro v p res' hv hres he hrun; subst he; obtain ⟨vs, h1, h2, h3⟩ := results_ok S I l hys hres; refine ⟨v :: vs, ?_, by simp [h2], fun i q hq => ?_⟩
     · rw [List.mapM_cons]
       simp only [Sem.run_bind, hrun, Result.andThen_ok, h1, Sem.run_pure]
     · match i with
       | 0 => simp at hq; subst hq; exact ⟨v, rfl, hv⟩
       | i + 1 => simp at hq ⊢; exact h3 i q hq
    cases r with
    | tmp t =>
     cases hy
     have hrel := S.rel t; simp only [resV] at hr; split at hr
     · rename_i x res' hx hres
       cases hr
       rw [hx] at hrel; exact fin (a.tmps.getD t undef) (false, [x]) _ hrel hres rfl (by simp only [resF, Sem.run_pure])
     · rename_i cs res' hx hres
       cases hr
       rw [hx] at hrel; exact fin (a.tmps.getD t undef) (true, cs) _ hrel hres rfl (by simp only [resF, Sem.run_pure])
     · cases hr
    | cell x t =>
     simp only [stripR] at hy; split at hy
     · rename_i ag n hag hn
       split at hy
       · rename_i h1
         cases hy
         have hrel := S.rel x; simp only [resV] at hr; split at hr
         · rename_i b off res' hx hres
           split at hr
           · rename_i cs hH
             split at hr
             · rename_i p hp
               split at hr
               · rename_i hp1
                 cases hr
                 rw [hx] at hrel; obtain ⟨i, arr, T, hb, hreal, hv, hheap, hl, him⟩ := ptr_cell I hrel hH; simp only [part?] at hp; split at hp
                 · rename_i hfit
                   cases hp
                   have hsz := hl.1; have hload : ∃ v, (loadVar t ⟨i.blk, off, none⟩).run P κ.w = .ok v κ.w ∧ (ag = true → v = .agg ((arr.toList.drop off).take n).toArray) ∧ (ag = false → (arr.toList.drop off).take n = [v]) := by
                    have := run_loadAt_cells (P := P) (w := κ.w) hag hn h1 (b := i.blk) (o := off) ((arr.toList.drop off).take n) (by simp; omega) (fun j v hj => by
                     rw [cell_of hheap]; rw [List.getElem?_take] at hj; split at hj
                     · simpa using hj
                     · cases hj)
                    simpa [Instr.loadAt, Instr.sureAddr] using this
                   obtain ⟨v, hv1, hv2, hv3⟩ := hload; have hpart : LRel fid κ ((arr.toList.drop off).take n).toArray ((cs.drop off).take n) := by
                    refine ⟨by simp; omega, fun j c hj => ?_⟩
                    rw [List.getElem?_take] at hj; split at hj
                    · rename_i hjn
                      simp only [List.getElem?_drop] at hj; obtain ⟨y, hy, q⟩ := hl.2 (off + j) c hj; exact ⟨y, by simp [List.getElem?_take, hjn, hy], q⟩
                    · cases hj
                   refine fin v (ag, (cs.drop off).take n) res' ?_ hres rfl (by simp only [resF, hv, asAddr, Sem.run_bind, Sem.run_pure, Result.andThen_ok, hv1])
                   cases ag with
                   | true => exact ⟨_, hv2 rfl, hpart⟩
                   | false =>
                    simp at hp1; obtain ⟨c, hc⟩ : ∃ c, (cs.drop off).take n = [c] := List.length_eq_one_iff.1 (by simpa using hp1); rw [hc] at hpart ⊢; have e3 := hv3 rfl; rw [e3] at hpart; obtain ⟨y, hy, q⟩ := hpart.2 0 c rfl; simp at hy; subst hy
                    exact q
                 · cases hp
               · cases hr
             · cases hr
           · cases hr
         · cases hr
       · cases hy
     · cases hy
  · cases hs
theorem results_run {κ : Ctx} {fn : Func} {tmps : Array Value} {vs : List Value}
 (h : (fn.results.toList.mapM (resF tmps)).run P κ.w = .ok vs κ.w) :
 (results fn tmps).run P κ.w = .ok (if h : vs.toArray.size = 1 then vs.toArray[0] else .tuple vs.toArray) κ.w := by
 have e : results fn tmps = (do let vs ← fn.results.mapM (resF tmps); pure (if h : vs.size = 1 then vs[0] else .tuple vs)) := by
  unfold results; have : (fun x : ResultVar => (match x with | .tmp t => pure (tmps.getD t undef) | .cell a t => do loadVar t (← asAddr (tmps.getD a undef)) : Sem Value)) = resF tmps := by
   funext x; cases x <;> rfl
  rw [← this]
  rfl
 rw [e, Array.mapM_eq_mapM_toList]; simp only [Sem.run_bind, Sem.run_map, h, Result.andThen_ok, Sem.run_pure]
theorem frzP_len {stamp : Bool} {s : Sup} : ∀ {l y : List (Bool × List W)} {z z' : Fz}, frzP stamp s z l = some (y, z') → y.length = l.length
 | [], y, z, z', h => by cases h; rfl
 | p :: l, y, z, z', h => by
  simp only [frzP] at h; split at h
  · split at h
    · rename_i y' z1 h1 l' z2 h2
      cases h
      simp [frzP_len h2]
    · cases h
  · cases h
theorem one_rel {κ : Ctx} {vs : List Value} {res : List (Bool × List W)} (hl : vs.length = res.length) (h : ∀ (i : Nat) (p : Bool × List W), res[i]? = some p → ∃ x : Value, vs[i]? = some x ∧ PRel fid κ x p) :
 VRel fid κ (if h : vs.toArray.size = 1 then vs.toArray[0] else .tuple vs.toArray) (one? res) := by
 match res, vs with
 | [], [] => exact ⟨#[], rfl, rfl, by simp⟩
 | [p], [v] =>
  obtain ⟨x, hx, q⟩ := h 0 p rfl; simp at hx; subst hx
  obtain ⟨b, cs⟩ := p; cases b with
  | true => exact q
  | false => match cs, q with
   | [x], q => exact q
 | p :: p' :: r, v :: v' :: r' =>
  have h1 : one? (p :: p' :: r) = .tup (p :: p' :: r) := by
   obtain ⟨b, cs⟩ := p; cases b with
   | true => rfl
   | false => match cs with
    | [] => rfl
    | [x] => rfl
    | _ :: _ :: _ => rfl
  rw [h1, dif_neg (by simp)]; exact ⟨_, rfl, by simpa using hl, fun i p hp => by obtain ⟨x, hx, q⟩ := h i p hp; exact ⟨x, by simpa using hx, q⟩⟩
 | [], _ :: _ => simp at hl
 | _ :: _, [] => simp at hl
 | [_], _ :: _ :: _ => simp at hl
 | _ :: _ :: _, [_] => simp at hl
theorem one_names : ∀ {res : List (Bool × List W)} {n : Nat}, n ∈ (one? res).names → n ∈ res.flatMap fun p => wnames p.2 := by
 intro res n h; unfold one? at h; split at h
 · simpa [V.names] using h
 · simpa [V.names, wnames] using h
 · exact h
theorem finish_ok {κ : Ctx} {stamp move : Bool} {bs : List Box} {s : Sup} {st : St} {κ₁ : Ctx} {res : List (Bool × List W)} {vs : List Value} {r : Res}
 (hIn : In fid G κ bs s) (I : Inv fid G ⟨κ, fun t => ∃ k, t = s k, passOf κ bs⟩ κ₁ st.H (fun n => st.g ≤ n) (fun z => ∃ k, z = st.s k)) (hinj : ∀ a b, st.s a = st.s b → a = b)
 (hl : vs.length = res.length) (hres : ∀ (i : Nat) (p : Bool × List W), res[i]? = some p → ∃ x : Value, vs[i]? = some x ∧ PRel fid κ₁ x p) (h : finish stamp move bs.length st res = some r) :
 ∃ κ', κ'.w = κ₁.w ∧ Out fid κ bs s κ' r (if h : vs.toArray.size = 1 then vs.toArray[0] else .tuple vs.toArray) := by
 unfold finish at h; split at h
 · cases h
 · rename_i res' z hz
   obtain ⟨κ₂, hw, hle, hI, hl', hr'⟩ : ∃ κ₂ : Ctx, κ₂.w = κ₁.w ∧ κ₁.le κ₂ ∧ Inv fid G ⟨κ, fun t => ∃ k, t = s k, passOf κ bs⟩ κ₂ z.H (fun n => st.g ≤ n) (fun _ => False) ∧ vs.length = res'.length ∧
    ∀ (i : Nat) (p : Bool × List W), res'[i]? = some p → ∃ x : Value, vs[i]? = some x ∧ PRel fid κ₂ x p := by
    split at hz
    · cases hz
      exact ⟨κ₁, rfl, Ctx.le.refl κ₁, I.weak (fun _ h => h) (fun t h => h.elim), hl, hres⟩
    · obtain ⟨κ₂, F, h1, h2⟩ := frzP_ok (FN := fun n => st.g ≤ n) (FZ := fun z => ∃ k, z = st.s k) (s := st.s) hinj (fun k => ⟨k, rfl⟩) (z := ⟨st.H, 0, []⟩) (vs := vs)
       (I.weak (fun _ h => h) (fun t h => h.1)) hl hres hz
      exact ⟨κ₂, F.w, F.le, F.inv.weak (fun _ h => h) (fun t h => h.elim), h1, h2⟩
   dsimp only at h
   split at h
   · rename_i hcond
     cases h
     generalize hns : reach z.H 4 (addAll (List.range bs.length) ((res'.flatMap fun p => wnames p.2) ++ (List.range bs.length).flatMap fun b => (z.H b).names)) = ns at *; obtain ⟨hm, htake, hclosed⟩ := hcond; have hnd : ns.Nodup := by rw [← hns]; exact reach_nodup (nodup_addAll List.nodup_range)
     have hget : ∀ b, b < bs.length → ns.getD b 0 = b := fun b hb => by
      have : (ns.take bs.length)[b]? = some b := by rw [htake]; simp [hb]
      rw [List.getElem?_take, if_pos hb] at this; simp [List.getD_eq_getElem?_getD, this]
     have hboxes : (List.range bs.length).map (fun b => (z.H b).ren (idx ns)) ++ (ns.drop bs.length).map (fun b => (z.H b).ren (idx ns)) = ns.map fun b => (z.H b).ren (idx ns) := by
      rw [← List.map_append, ← htake, List.take_append_drop]
     have hlenb : ((List.range bs.length).map (fun b => (z.H b).ren (idx ns))).length = bs.length := by simp
     let β' : Nat → Option Inf := fun k => if k < ns.length then κ₂.β (ns.getD k 0) else none
     have hβ : ∀ n ∈ ns, β' (idx ns n) = κ₂.β n := fun n hn => by
      simp only [β']; rw [if_pos (idx_lt hn), idx_get hn]
     have hsome : ∀ k x, (ns.map fun b => (z.H b).ren (idx ns)).getD k .dead = x → x ≠ .dead → k < ns.length := fun k x hx hd => by
      by_cases hk : k < ns.length
      · exact hk
      · rw [getD_ge (by simp; omega)] at hx; exact absurd hx.symm hd
     have hbb : ∀ b, b < bs.length → β' b = κ.β b := fun b hb => by
      simp only [β']; rw [if_pos (by omega), hget b hb]; obtain ⟨i, hi⟩ := hIn.some b hb; rw [hi]; exact hI.le.b _ _ hi
     have hkle : κ.le { κ₂ with β := β' } := ⟨hI.le.size, hI.le.im, hI.le.cell, hI.le.z, fun n i hi => by
      by_cases hn : n < bs.length
      · show β' n = some i
        rw [hbb n hn, hi]
      · rw [hIn.dom n (by omega)] at hi; cases hi⟩
     have hmem : ∀ k, k < ns.length → ns.getD k 0 ∈ ns := fun k hk => by rw [getD_lt hk]; exact List.getElem_mem hk
     have hcl : ∀ b ∈ ns, ∀ n ∈ (z.H b).names, n ∈ ns := fun b hb n hn => by
      simp only [closed, List.all_eq_true, List.contains_iff_mem] at hclosed; exact hclosed b hb n hn
     refine ⟨{ κ₂ with β := β' }, hw, hkle, ?_, ?_, ?_, ?_, ?_, hI.imlt, hI.zlt, hI.zinj, hI.znew, hlenb, hbb, ?_, ?_, ?_, ?_, ?_⟩
     · exact hI.os
     · exact hI.tape
     · exact hI.output
     · exact hI.same
     · exact hI.im
     · intro b hb
       show β' b = none
       simp only [β']; rw [if_neg]; simp only [List.length_map, List.length_drop] at hb; omega
     · intro b i hd hbi hreal
       rw [hboxes] at hd; have hk := hsome b _ rfl hd; rw [getD_map_box hk, ne_eq, Box.ren_dead] at hd; have hbi' : κ₂.β (ns.getD b 0) = some i := by
        have h0 : β' b = some i := hbi; simp only [β'] at h0
        rwa [if_pos hk] at h0
       exact hI.blk _ i hd hbi' hreal
     · intro b
       rw [hboxes]
       by_cases hk : b < ns.length
       · rw [getD_map_box hk]
         refine (hI.box (ns.getD b 0)).ren (fun n hn => hβ n (hcl _ (hmem b hk) n hn)) ?_
         simp only [β']; rw [if_pos hk]
       · rw [getD_ge (by simp; omega)]; trivial
     · intro b b' i i' hne hd hd' hbi hbi' hr hr'
       rw [hboxes] at hd hd'; have hk := hsome b _ rfl hd; have hk' := hsome b' _ rfl hd'; rw [getD_map_box hk, ne_eq, Box.ren_dead] at hd; rw [getD_map_box hk', ne_eq, Box.ren_dead] at hd'; have e1 : κ₂.β (ns.getD b 0) = some i := by
        have h0 : β' b = some i := hbi; simp only [β'] at h0
        rwa [if_pos hk] at h0
       have e2 : κ₂.β (ns.getD b' 0) = some i' := by
        have h0 : β' b' = some i' := hbi'; simp only [β'] at h0
        rwa [if_pos hk'] at h0
       refine hI.dist _ _ i i' (fun e => hne ?_) hd hd' e1 e2 hr hr'
       have := congrArg (idx ns) e
       rwa [idx_at hnd hk, idx_at hnd hk'] at this
     · refine (one_rel hl' hr').ren (fun n hn => hβ n ?_)
       rw [← hns]; exact reach_sub (mem_addAll.2 (.inr (List.mem_append.2 (.inl (one_names hn)))))
   · cases h
theorem runF_ok (hcid : ∀ f, fid (cid f) = f) (hmix : P.follows .mixedOrders = true) (hcall : ∀ f args bs s r, call f args bs s = some r → CallOK P fid G f args bs s r) {n f : Nat} {fn : Func} {F : Fn} {args : List V} {bs : List Box} {s : Sup} {r : Res}
 (hfn : P.funcs[fid f]? = some fn) (hF : stripF P cid fn = some F) (h : runF call M G n f F args bs s = some r) : CallOK P fid G f args bs s r := by
 unfold stripF at hF; split at hF
 · cases hF
 · rename_i c hc
   split at hF
   · rename_i C rs hC hrs
     split at hF
     · cases hF
     · rename_i hname
       cases hF
       unfold runF at h; split at h
       · rename_i hlen
         simp only at hlen; refine ⟨fun as w => ?_, fun κ vs hIn hl hr => ?_⟩
         · have hname' : ¬ fn.name = "runtime.NumGoroutine" := by simpa using hname
           simp [callFunc, hfn, hname', hc]
         · refine calls_of_wp hfn hc ?_
           have R0 : SR fid G ⟨κ, fun t => ∃ k, t = s k, passOf κ bs⟩ fn.ntmps κ { tmps := vs.toArray ++ Array.replicate (fn.ntmps - vs.toArray.size) undef, defers := [] }
            ⟨fun t => args.getD t (.tup []), fun b => bs.getD b .dead, bs.length, s⟩ := by
            refine ⟨⟨fun t => ?_, by simp; omega, rfl⟩, ⟨Ctx.le.refl κ, rfl, rfl, rfl, fun _ _ _ => rfl, fun _ _ h => .inl h, hIn.imlt, hIn.zlt, hIn.zinj, fun _ _ h => .inl h,
             fun t ht => ?_, fun b hb => hIn.dom b hb, fun b i hd hb hre => .inr ⟨b, i, hd, hb, hre, rfl⟩, hIn.box, hIn.dist, hIn.glob⟩, hIn.sinj⟩
            · by_cases ht : t < args.length
              · obtain ⟨v, hv, q⟩ := hr t args[t] (List.getElem?_eq_getElem ht)
                have e1 : (vs.toArray ++ Array.replicate (fn.ntmps - vs.toArray.size) undef).getD t undef = v := by
                 rw [Array.getD_eq_getD_getElem?, Array.getElem?_append_left (by simp; omega)]; simp [hv]
                show VRel fid κ ((vs.toArray ++ Array.replicate (fn.ntmps - vs.toArray.size) undef).getD t undef) (args.getD t (.tup []))
                rw [e1]
                simpa [List.getD_eq_getElem?_getD, List.getElem?_eq_getElem ht] using q
              · have e1 : (vs.toArray ++ Array.replicate (fn.ntmps - vs.toArray.size) undef).getD t undef = undef := by
                 rw [Array.getD_eq_getD_getElem?, Array.getElem?_append_right (by simp; omega), Array.getElem?_replicate]; split <;> rfl
                have e2 : args.getD t (.tup []) = .tup [] := by simp [List.getD_eq_getElem?_getD, List.getElem?_eq_none (by omega : args.length ≤ t)]
                show VRel fid κ ((vs.toArray ++ Array.replicate (fn.ntmps - vs.toArray.size) undef).getD t undef) (args.getD t (.tup []))
                rw [e1, e2]; exact undef_rel
            · obtain ⟨k, rfl⟩ := ht
              exact ⟨(hIn.zfree k).1, (hIn.zfree k).2, k, rfl⟩
           have fin : ∀ (ex : Ex) (st : St) (a' : Act) (κ' : Ctx), ex = .ret ∨ ex = .normal → (match resV st.τ st.H rs with
            | some res => finish (M f).stamp (M f).move bs.length st res
            | none => none) = some r → κ.le κ' → SR fid G ⟨κ, fun t => ∃ k, t = s k, passOf κ bs⟩ fn.ntmps κ' a' st →
            bodyPost P fn (fun e w' => ∃ v κ', e = .returned v ∧ κ'.w = w' ∧ Out fid κ bs s κ' r v) ex.exit? a' κ'.w := by
            intro ex st a' κ' hex hr' hle R; split at hr'
            · rename_i res hres
              obtain ⟨vs', h1, h2, h3⟩ := results_ok R.slots R.inv fn.results.toList hrs hres; obtain ⟨κ₂, e1, O⟩ := finish_ok hIn R.inv R.inj h2 h3 hr'; have hrun := results_run (fn := fn) h1; rcases hex with rfl | rfl
              · exact ⟨R.slots.defers, _, hrun, _, κ₂, rfl, e1, O⟩
              · exact ⟨R.slots.defers, _, hrun, _, κ₂, rfl, e1, O⟩
            · cases hr'
           split at h
           · rename_i st hst
             exact exec_ok hcid hmix hcall n c hC R0 hst (fun a' κ' hle R' => fin .ret st a' κ' (.inl rfl) h hle R')
           · rename_i st hst
             exact exec_ok hcid hmix hcall n c hC R0 hst (fun a' κ' hle R' => fin .normal st a' κ' (.inr rfl) h hle R')
           · cases h
       · cases h
   · cases hF
theorem run_ok {FT : Tab} {O : Nat → Bool} {A : Orc} (hcid : ∀ f, fid (cid f) = f) (hmix : P.follows .mixedOrders = true)
 (hFT : ∀ f F, FT f = some F → ∃ fn, P.funcs[fid f]? = some fn ∧ stripF P cid fn = some F)
 (hA : ∀ f args s r, O f = true → A f args = some r → CallOK P fid G f args [] s r) :
 ∀ (n f : Nat) (args : List V) (bs : List Box) (s : Sup) (r : Res), run FT O A M G n f args bs s = some r → CallOK P fid G f args bs s r
 | 0, f, args, bs, s, r, h => by cases h
 | n + 1, f, args, bs, s, r, h => by
  simp only [run] at h; split at h
  · rename_i ho
    split at h
    · exact hA f args s r ho h
    · cases h
  · split at h
    · rename_i F hF
      obtain ⟨fn, h1, h2⟩ := hFT f F hF; exact runF_ok hcid hmix (run_ok hcid hmix hFT hA n) h1 h2 h
    · cases h
end
end Go.VM

/- The value machine: the functions of a seat under names of their own. Conditions: none. -/
namespace Go.VM
def cidOf (l : List (Nat × Nat)) (f : FuncId) : Nat := match l.lookup f with | some c => c | none => f + 100000
def fidOf (l : List (Nat × Nat)) (c : Nat) : FuncId := match l.find? (fun p => p.2 == c) with | some p => p.1 | none => c - 100000
def cidGood (l : List (Nat × Nat)) : Bool := l.all fun p => fidOf l p.2 == p.1 && decide (p.2 < 100000)
theorem lookup_mem : ∀ {l : List (Nat × Nat)} {f c : Nat}, l.lookup f = some c → (f, c) ∈ l
 | [], f, c, h => by simp at h
 | (a, b) :: l, f, c, h => by
  simp only [List.lookup_cons] at h; split at h
  · rename_i e; simp at e; cases h; simp [e]
  · exact List.mem_cons_of_mem _ (lookup_mem h)
theorem fid_cid {l : List (Nat × Nat)} (h : cidGood l = true) (f : FuncId) : fidOf l (cidOf l f) = f := by
 simp only [cidGood, List.all_eq_true, Bool.and_eq_true, beq_iff_eq, decide_eq_true_eq] at h; unfold cidOf; split
 · rename_i c hc
   exact (h _ (lookup_mem hc)).1
 · unfold fidOf
   split
   · rename_i p hp
     have h1 := List.find?_some hp; have h2 := List.mem_of_find?_eq_some hp; simp at h1; have := (h p h2).2; omega
   · simp
theorem tab_ok {P : Program} {cid : FuncId → Nat} {fid : Nat → FuncId} {tab : List (Nat × Fn)} (h : ∀ p ∈ tab, ∃ fn, P.funcs[fid p.1]? = some fn ∧ stripF P cid fn = some p.2) :
 ∀ f F, tab.lookup f = some F → ∃ fn, P.funcs[fid f]? = some fn ∧ stripF P cid fn = some F := by
 intro f F hf; have : (f, F) ∈ tab := by
  clear h
  induction tab with
  | nil => simp at hf
  | cons a l ih =>
   obtain ⟨a, b⟩ := a; simp only [List.lookup_cons] at hf; split at hf
   · rename_i e; simp at e; cases hf; simp [e]
   · exact List.mem_cons_of_mem _ (ih hf)
 exact h _ this
end Go.VM

/- The value machine: an argument that reads as data. Conditions: none. -/
namespace Go.VM
set_option linter.unusedVariables false
set_option linter.unusedSimpArgs false
set_option linter.unusedSectionVars false
def plainIn (P : Program) (S : List TypeId) : Bool := S.all fun t => decide (t < P.types.size) && match P.underlying t with
 | some .bool => true
 | some (.int _) => true
 | some (.float _) => true
 | some .string => true
 | some (.slice e) => S.contains e && decide (0 < P.cellsOf e) && P.cellsOf t == 1
 | some (.struct fs) => fs.toList.all fun f => S.contains f.type
 | some (.array _ e) => S.contains e
 | _ => false
def TyD (P : Program) : Nat → TypeId → List D → Prop
 | 0, _, _ => False
 | n + 1, t, ds => match P.underlying t with
  | some .bool => ∃ b, ds = [.s (.bool b)]
  | some (.int k) => ∃ m, ds = [.s (.int k m)] ∧ (Lit.int k m).wf = true
  | some (.float k) => ∃ b, ds = [.s (.float k b)] ∧ (Lit.float k b).wf = true
  | some .string => ∃ s : ByteArray, ds = [.s (.string s)] ∧ s.size ≤ maxLen
  | some (.slice e) => ∃ rows : List (List D), ds = [.l 0 rows] ∧ rows.length ≤ maxLen ∧ ∀ row ∈ rows, row.length = P.cellsOf e ∧ TyD P n e row
  | some (.struct fs) => ds.length = P.cellsOf t ∧ ∀ f ∈ fs.toList, TyD P n f.type ((ds.drop f.offset).take (P.cellsOf f.type))
  | some (.array k e) => ds.length = P.cellsOf t ∧ ∀ i, i < k → TyD P n e ((ds.drop (i * P.cellsOf e)).take (P.cellsOf e))
  | _ => False
def ctx0 (w : World) : Ctx := ⟨w, fun b _ => b < w.heap.size, fun _ => none, fun _ => none⟩
def RelL (w : World) (cs : List Value) (ds : List D) : Prop := ds.length = cs.length ∧ ∀ (i : Nat) (v : Value), cs[i]? = some v → ∃ d, ds[i]? = some d ∧ (ctx0 w).rel v d
theorem RelL.one {w : World} {v : Value} {d : D} (h : (ctx0 w).rel v d) : RelL w [v] [d] := by
 refine ⟨rfl, fun i u hu => ?_⟩
 match i with
 | 0 => simp at hu; subst hu; exact ⟨d, rfl, h⟩
 | i + 1 => simp at hu
section
variable {H : Type} {enc : TypeId × Value → H} {P : Program} {w : World} {base : Nat} {held : Bool}
theorem parts_glue {n : Nat} {cs : List Value} : ∀ (l : List (Nat × TypeId)) (o : Nat), (∀ (j : Nat) (f : Nat × TypeId), l[j]? = some f → f.1 = o + ((l.take j).map fun f => P.cellsOf f.2).sum) →
 o + (l.map fun f => P.cellsOf f.2).sum = cs.length → (∀ f ∈ l, ∃ ds, RelL w ((cs.drop f.1).take (P.cellsOf f.2)) ds ∧ TyD P n f.2 ds) →
 ∃ ds, RelL w (cs.drop o) ds ∧ ∀ f ∈ l, TyD P n f.2 ((ds.drop (f.1 - o)).take (P.cellsOf f.2))
 | [], o, ho, hs, hf => by
  simp at hs; refine ⟨[], ⟨by simp; omega, fun i v hv => ?_⟩, by simp⟩
  simp only [List.getElem?_drop] at hv; have := (List.getElem?_eq_some_iff.1 hv).1; omega
 | f :: l, o, ho, hs, hf => by
  have h0 : f.1 = o := by simpa using ho 0 f rfl
  simp only [List.map_cons, List.sum_cons] at hs; obtain ⟨d1, ⟨r1, r2⟩, r3⟩ := hf f (List.mem_cons_self ..); obtain ⟨d2, ⟨q1, q2⟩, q3⟩ := parts_glue l (o + P.cellsOf f.2) (fun j g hj => by
   have := ho (j + 1) g (by simpa using hj); simp only [List.take_succ_cons, List.map_cons, List.sum_cons] at this; omega) (by omega) (fun g hg => hf g (List.mem_cons_of_mem _ hg))
  have hl1 : d1.length = P.cellsOf f.2 := by rw [r1]; simp; omega
  refine ⟨d1 ++ d2, ⟨by simp [q1, hl1]; omega, fun i v hv => ?_⟩, fun g hg => ?_⟩
  · by_cases hi : i < P.cellsOf f.2
    · obtain ⟨d, hd, hr⟩ := r2 i v (by rw [List.getElem?_take, if_pos hi, h0]; exact hv)
      exact ⟨d, by rw [List.getElem?_append_left (by omega)]; exact hd, hr⟩
    · obtain ⟨d, hd, hr⟩ := q2 (i - P.cellsOf f.2) v (by
       simp only [List.getElem?_drop] at hv ⊢; rw [← hv]; congr 1; omega)
      exact ⟨d, by rw [List.getElem?_append_right (by omega), hl1]; exact hd, hr⟩
  · rcases List.mem_cons.1 hg with rfl | hg
    · have : ((d1 ++ d2).drop (g.1 - o)).take (P.cellsOf g.2) = d1 := by
       rw [h0, Nat.sub_self, List.drop_zero, ← hl1, List.take_left]
      rw [this]; exact r3
    · obtain ⟨j, hj⟩ := List.getElem?_of_mem hg
      have hoff := ho (j + 1) g (by simpa using hj); simp only [List.take_succ_cons, List.map_cons, List.sum_cons] at hoff; have := q3 g hg; have e : (d1 ++ d2).drop (g.1 - o) = d2.drop (g.1 - (o + P.cellsOf f.2)) := by
       rw [List.drop_append, hl1]; rw [List.drop_eq_nil_of_le (by omega), List.nil_append]
       congr 1; omega
      rw [e]; exact this
theorem glue (hl : laidOutB P = true) {S : List TypeId} (hS : plainIn P S = true) : ∀ (fuel : Nat) (t : TypeId) (cs : List Value) (x : DataW H × List MemPlace), t ∈ S →
 DataW.trod enc P w base (fun _ => true) held fuel t cs = some x → ∃ ds, RelL w cs ds ∧ TyD P fuel t ds
 | 0, t, cs, x, ht, h => by simp [DataW.trod] at h
 | fuel + 1, t, cs, x, ht, h => by
  have hS' := hS; simp only [plainIn, List.all_eq_true, Bool.and_eq_true, decide_eq_true_eq] at hS'; obtain ⟨hlt, hu⟩ := hS' t ht; have hfine := rowFine_of_laidOut hl hlt; unfold rowFine at hfine; cases hd : P.underlying t with
  | none => rw [hd] at hu; cases hu
  | some d =>
   have hvar : kindOk (some d) = true → isVar P t = true := fun hk => by simp [isVar, hlt, hd, hk]
   cases d
   case bool =>
    obtain ⟨b, rfl, rfl⟩ := DataW.trod_bool hd h; exact ⟨[.s (.bool b)], .one (.s _ rfl), by simp only [TyD, hd]; exact ⟨b, rfl⟩⟩
   case int k =>
    obtain ⟨n, rfl, rfl, hw⟩ := DataW.trod_int hd h; exact ⟨[.s (.int k n)], .one (.s _ rfl), by simp only [TyD, hd]; exact ⟨n, rfl, hw⟩⟩
   case float k =>
    unfold DataW.trod at h; rw [hd] at h; split at h <;> simp_all
    obtain ⟨⟨rfl, hw⟩, rfl⟩ := h; exact ⟨_, .one (.s _ rfl), by simp only [TyD, hd]; exact ⟨_, rfl, hw⟩⟩
   case string =>
    obtain ⟨s, rfl, rfl, hw⟩ := DataW.trod_string hd h; exact ⟨[.s (.string s)], .one (.s _ rfl), by simp only [TyD, hd]; exact ⟨s, rfl, hw⟩⟩
   case slice e =>
    rw [hd] at hu; simp only [Bool.and_eq_true, List.contains_iff_mem, decide_eq_true_eq, beq_iff_eq] at hu; obtain ⟨⟨heS, hpos⟩, hone⟩ := hu; rcases DataW.trod_slice hd h with ⟨rfl, rfl⟩ | ⟨a, len, cap, elems, rest, n, hfu, rfl, rfl, hb, hlc, hm, hlen, hel, hsp, -⟩
    · exact ⟨[.l 0 []], .one (.nil 0), by simp only [TyD, hd]; exact ⟨[], rfl, by simp, by simp⟩⟩
    · have hnf : n = fuel := by omega
      subst hnf; obtain ⟨hrl, hr⟩ := hsp rfl; have each : ∀ i, i < len → ∃ cs', (w.cells? base (a.add (i * P.cellsOf e)) (P.cellsOf e)) = some cs' ∧ ∃ row, RelL w cs' row ∧ TyD P n e row := fun i hi => by
       have h1 := hel i hi; rw [List.getElem?_eq_getElem (by omega)] at h1; obtain ⟨cs', h2, h3⟩ := Option.bind_eq_some_iff.1 h1; exact ⟨cs', h2, glue hl hS n e cs' _ heS h3⟩
      rcases Nat.eq_zero_or_pos cap with hc0 | hc0
      · have hl0 : len = 0 := by omega
        subst hc0 hl0; exact ⟨[.l 0 []], .one (.e a), by simp only [TyD, hd]; exact ⟨[], rfl, by simp, by simp⟩⟩
      · -- the first cell tells that the address is plain
        have hfirst : ∃ v, w.cell? a = some v := by
         have : ∃ cs', w.cells? base (a.add (0 * P.cellsOf e)) (P.cellsOf e) = some cs' := by
          rcases Nat.eq_zero_or_pos len with h0 | h0
          · have h1 := hr 0 (by omega)
            rw [List.getElem?_eq_getElem (by omega)] at h1; obtain ⟨cs', h2, h3⟩ := Option.bind_eq_some_iff.1 h1; exact ⟨cs', by rw [h0] at h2; simpa using h2⟩
          · obtain ⟨cs', h2, _⟩ := each 0 h0
            exact ⟨cs', h2⟩
         obtain ⟨cs', h2⟩ := this; obtain ⟨_, hcl, hc⟩ := World.cells?_some h2; have h3 := hc 0 hpos; rw [List.getElem?_eq_getElem (by omega)] at h3; have e0 : (a.add (0 * P.cellsOf e)).add 0 = a := by simp [Addr.add]
         rw [e0] at h3; exact ⟨_, h3⟩
        obtain ⟨v0, hv0⟩ := hfirst; obtain ⟨hspot, hblk⟩ : a.spot = none ∧ a.block < w.heap.size := by
         unfold World.cell? at hv0; split at hv0
         · rename_i c _ _ hh
           split at hv0
           · cases hv0
           · rename_i hs
             refine ⟨by simpa using hs, ?_⟩
             rcases Nat.lt_or_ge a.block w.heap.size with h' | h'
             · exact h'
             · simp [Array.getElem?_eq_none h'] at hh
         · cases hv0
        obtain ⟨blk, o, sp⟩ := a; simp only at hspot hblk; subst hspot; have hch : ∀ i, ∃ row : List D, i < len → ∃ cs', (w.cells? base (Addr.add ⟨blk, o, none⟩ (i * P.cellsOf e)) (P.cellsOf e)) = some cs' ∧ RelL w cs' row ∧ TyD P n e row := fun i => by
         by_cases hi : i < len
         · obtain ⟨cs', h1, row, h2, h3⟩ := each i hi
           exact ⟨row, fun _ => ⟨cs', h1, h2, h3⟩⟩
         · exact ⟨[], fun h => absurd h hi⟩
        obtain ⟨R, hR⟩ := Classical.axiomOfChoice hch; have hrowlen : ∀ i, i < len → (R i).length = P.cellsOf e := fun i hi => by
         obtain ⟨cs', h1, h2, _⟩ := hR i hi; obtain ⟨_, hcl, _⟩ := World.cells?_some h1; rw [h2.1, hcl]
        have hget : ∀ (i : Nat) (row : List D), ((List.range len).map R)[i]? = some row → i < len ∧ row = R i := fun i row hi => by
         rw [List.getElem?_map] at hi
         by_cases hil : i < len
         · simp [hil] at hi; exact ⟨hil, hi.symm⟩
         · simp [hil] at hi
        refine ⟨[.l 0 ((List.range len).map R)], .one ?_, ?_⟩
        · have key : (ctx0 w).rel (.slice (some ⟨blk, o, none⟩) ((List.range len).map R).length cap) (.l 0 ((List.range len).map R)) := by
           refine .l 0 _ blk o cap (P.cellsOf e) (fun i j => (w.cell? ⟨blk, o + i * P.cellsOf e + j, none⟩).getD undef) ?_ (by simp; omega) hblk ?_ (fun _ _ _ _ => hblk) ?_ (fun h => absurd rfl h)
           · intro i row hi
             obtain ⟨h1, rfl⟩ := hget i row hi; exact hrowlen i h1
           · intro i j hi hj
             simp only [List.length_map, List.length_range] at hi; obtain ⟨cs', h1, _, _⟩ := hR i hi; obtain ⟨_, hcl, hc⟩ := World.cells?_some h1; have h3 := hc j hj; rw [List.getElem?_eq_getElem (by omega), Addr.add_none, Addr.add_none] at h3
             show w.cell? _ = _
             rw [h3]; rfl
           · intro i row j x hi hj
             obtain ⟨h1, rfl⟩ := hget i row hi; obtain ⟨cs', k1, k2, _⟩ := hR i h1; obtain ⟨_, hcl, hc⟩ := World.cells?_some k1; have hjl : j < P.cellsOf e := by rw [← hrowlen i h1]; exact (List.getElem?_eq_some_iff.1 hj).1
             have h3 := hc j hjl; rw [List.getElem?_eq_getElem (by omega), Addr.add_none, Addr.add_none] at h3; rw [h3]; obtain ⟨d, hd', hr'⟩ := k2.2 j cs'[j] (List.getElem?_eq_getElem (by omega)); rw [hj] at hd'; cases hd'
             exact hr'
          simpa using key
        · simp only [TyD, hd]
          refine ⟨_, rfl, by simp; omega, fun row hrow => ?_⟩
          obtain ⟨i, hi, rfl⟩ := List.mem_map.1 hrow; have hi' := List.mem_range.1 hi; obtain ⟨_, _, _, h3⟩ := hR i hi'; exact ⟨hrowlen i hi', h3⟩
   case struct fs =>
    rw [hd] at hu; simp only [List.all_eq_true, List.contains_iff_mem] at hu; rw [hvar rfl, hd] at hfine; simp only [Bool.not_true, Bool.false_or, Bool.and_eq_true, List.all_eq_true, beq_iff_eq, List.mem_range] at hfine; obtain ⟨xs, n, hfu, rfl, hcl, hxl, hx⟩ := DataW.trod_struct hd h; have hnf : n = fuel := by omega
    subst hnf; obtain ⟨ds, h1, h2⟩ := parts_glue (n := n) (cs := cs) (w := w) (P := P) (fs.toList.map fun f => (f.offset, f.type)) 0 (fun j f hj => by
     rw [List.getElem?_map, Option.map_eq_some_iff] at hj; obtain ⟨g, hg, rfl⟩ := hj; have := hfine.2 j (List.getElem?_eq_some_iff.1 hg).1; rw [hg] at this; simp only [beq_iff_eq] at this; rw [Nat.zero_add, ← List.map_take, List.map_map]
     simpa [Function.comp_def] using this) (by rw [List.map_map, hcl, hfine.1.2]; simp [Function.comp_def]) (fun f hf => by
     obtain ⟨g, hg, rfl⟩ := List.mem_map.1 hf; obtain ⟨j, hj⟩ := List.getElem?_of_mem hg; have hj' : fs[j]? = some g := by rw [← Array.getElem?_toList]; exact hj
     have h3 := hx j g hj'; rw [List.getElem?_eq_getElem (by rw [hxl]; exact (Array.getElem?_eq_some_iff.1 hj').1)] at h3; exact glue hl hS n g.type _ _ (hu g hg) h3)
    refine ⟨ds, h1, ?_⟩
    simp only [TyD, hd]; refine ⟨by rw [h1.1, List.drop_zero, hcl], fun f hf => ?_⟩
    have := h2 (f.offset, f.type) (List.mem_map.2 ⟨f, hf, rfl⟩)
    simpa using this
   case array k e =>
    rw [hd] at hu; simp only [List.contains_iff_mem] at hu; rw [hvar rfl, hd] at hfine; simp only [Bool.not_true, Bool.false_or, Bool.and_eq_true, beq_iff_eq] at hfine; obtain ⟨xs, n, hfu, rfl, hcl, hxl, hx⟩ := DataW.trod_array hd h; have hnf : n = fuel := by omega
    subst hnf; have hsum : ∀ m, (((List.range m).map fun i => (i * P.cellsOf e, e)).map fun f : Nat × TypeId => P.cellsOf f.2).sum = m * P.cellsOf e := fun m => by
     rw [List.map_map]
     induction m with
     | zero => simp
     | succ m ih => rw [List.range_succ, List.map_append, List.sum_append, ih]; simp [Nat.add_mul, Function.comp_def]
    obtain ⟨ds, h1, h2⟩ := parts_glue (n := n) (cs := cs) (w := w) (P := P) ((List.range k).map fun i => (i * P.cellsOf e, e)) 0 (fun j f hj => by
     rw [List.getElem?_map, Option.map_eq_some_iff] at hj; obtain ⟨g, hg, rfl⟩ := hj; have hjk : j < k := by simpa using (List.getElem?_eq_some_iff.1 hg).1
     have : g = j := by simp [hjk] at hg; exact hg.symm
     subst this; rw [Nat.zero_add, ← List.map_take, List.take_range, Nat.min_eq_left (by omega), hsum]) (by rw [hsum, hcl, hfine.2]; simp) (fun f hf => by
     obtain ⟨i, hi, rfl⟩ := List.mem_map.1 hf; have hi' := List.mem_range.1 hi; have h3 := hx i hi'; rw [List.getElem?_eq_getElem (by omega)] at h3; exact glue hl hS n e _ _ hu h3)
    refine ⟨ds, h1, ?_⟩
    simp only [TyD, hd]; refine ⟨by rw [h1.1, List.drop_zero, hcl], fun i hi => ?_⟩
    have := h2 (i * P.cellsOf e, e) (List.mem_map.2 ⟨i, by simpa using hi, rfl⟩)
    simpa using this
   all_goals (rw [hd] at hu; cases hu)
end
end Go.VM

/- The value machine: a law over a seat: what its row asks for follows from the machine's answer. Conditions: none. -/
namespace Go.VM
open Go.ChangeShapes Go.WideShapes Go.ChangeAt Go.RowKit
set_option linter.unusedVariables false
set_option linter.unusedSimpArgs false
set_option linter.unusedSectionVars false
def argV (agg : Bool) (ds : List D) : V := if agg then .agg (ds.map .d) else match ds with | [d] => .w (.d d) | _ => .tup []
def ArgOk (P : Program) : List TypeId → List V → Prop
 | [], [] => True
 | t :: ts, x :: xs => (∃ n ds a, TyD P n t ds ∧ agg? P t = some a ∧ x = argV a ds) ∧ ArgOk P ts xs
 | _, _ => False
section
variable {H : Type} {enc : TypeId × Value → H} {P : Program} {W : World} {fid : Nat → FuncId}
theorem arg_rel {S : List TypeId} (hl : laidOutB P = true) (hS : plainIn P S = true) {t : TypeId} (ht : t ∈ S) {v : Value} {d : DataW H} {ps : List MemPlace} {r : Reach} {b0 : Nat}
 (hval : Value.okWide P W r b0 t v) (h : DataW.Trod enc P W 0 (fun _ => true) true t v d ps) :
 ∃ n ds a, TyD P n t ds ∧ agg? P t = some a ∧ VRel fid (ctx0 W) v (argV a ds) := by
 obtain ⟨n, h⟩ := h; obtain ⟨ds, h1, h2⟩ := glue hl hS n t _ _ ht h; have hS' := hS; simp only [plainIn, List.all_eq_true, Bool.and_eq_true, decide_eq_true_eq] at hS'; obtain ⟨hlt, hu⟩ := hS' t ht; unfold Value.okWide at hval; have scalar : ∀ d : D, ds = [d] → v.cells.toList = [v] → VRel fid (ctx0 W) v (argV false ds) := fun d hd hc => by
  subst hd; rw [hc] at h1; obtain ⟨d', hd', hr⟩ := h1.2 0 v rfl; simp at hd'; subst hd'
  exact hr
 have aggr : ∀ cs, v = .agg cs → VRel fid (ctx0 W) v (argV true ds) := fun cs hc => by
  subst hc; refine ⟨cs, rfl, by simpa [Value.cells] using h1.1.symm, fun i c hc => ?_⟩
  rw [List.getElem?_map, Option.map_eq_some_iff] at hc; obtain ⟨d, hd, rfl⟩ := hc; have hlt : i < cs.size := by
   have := (List.getElem?_eq_some_iff.1 hd).1; have h3 : ds.length = cs.size := by simpa [Value.cells] using h1.1
   omega
  obtain ⟨d', hd', hr⟩ := h1.2 i cs[i] (by simp [Value.cells, hlt]); rw [hd] at hd'; cases hd'
  exact ⟨cs[i], by simp [hlt], hr⟩
 cases n with
 | zero => exact absurd h2 (by simp [TyD])
 | succ n =>
  have h2' := h2; unfold TyD at h2'; cases hd : P.underlying t with
  | none => rw [hd] at hu; cases hu
  | some k =>
   have one : ∀ x ds', ds = [x] → v.cells.toList = ds' → ds'.length = 1 → agg? P t = some false → ∃ n ds a, TyD P n t ds ∧ agg? P t = some a ∧ VRel fid (ctx0 W) v (argV a ds) := fun x ds' hx hc hlen ha => by
    refine ⟨n + 1, ds, false, h2, ha, scalar x hx ?_⟩
    subst hc; cases v <;> simp [Value.cells] at hlen ⊢
    rename_i cs
    rw [hd] at hval; cases k <;> simp [agg?, hd] at ha <;> simp [Cell.okWide, hd, Cell.ok] at hval
   rw [hd] at h2' hu hval; have hlen := h1.1; cases k
   case bool => obtain ⟨b, rfl⟩ := h2'; exact one _ _ rfl rfl (by simpa using hlen.symm) (by simp [agg?, hd])
   case int k => obtain ⟨b, rfl, _⟩ := h2'; exact one _ _ rfl rfl (by simpa using hlen.symm) (by simp [agg?, hd])
   case float k => obtain ⟨b, rfl, _⟩ := h2'; exact one _ _ rfl rfl (by simpa using hlen.symm) (by simp [agg?, hd])
   case string => obtain ⟨b, rfl, _⟩ := h2'; exact one _ _ rfl rfl (by simpa using hlen.symm) (by simp [agg?, hd])
   case slice e => obtain ⟨b, rfl, _⟩ := h2'; exact one _ _ rfl rfl (by simpa using hlen.symm) (by simp [agg?, hd])
   case struct fs => obtain ⟨cs, hc, _⟩ := hval; exact ⟨n + 1, ds, true, h2, by simp [agg?, hd], aggr cs hc⟩
   case array k e => obtain ⟨cs, hc, _⟩ := hval; exact ⟨n + 1, ds, true, h2, by simp [agg?, hd], aggr cs hc⟩
   all_goals cases hu
theorem args_rel {S : List TypeId} (hl : laidOutB P = true) (hS : plainIn P S = true) {r : Reach} {b0 : Nat} : ∀ (ts : List TypeId) (vs : List Value) (ds : List (DataW H)) (ps : List MemPlace), (∀ t ∈ ts, t ∈ S) →
 (∀ (j : Nat) (t : TypeId) (v : Value), ts[j]? = some t → vs[j]? = some v → Value.okWide P W r b0 t v) → DataW.TrodAll enc P W 0 (fun _ => true) true ts vs ds ps →
 ∃ xs, ArgOk P ts xs ∧ vs.length = xs.length ∧ ds.length = ts.length ∧ ∀ (i : Nat) (x : V), xs[i]? = some x → ∃ v : Value, vs[i]? = some v ∧ VRel fid (ctx0 W) v x
 | [], [], [], ps, hT, hv, h => ⟨[], trivial, rfl, rfl, by simp⟩
 | t :: ts, v :: vs, d :: ds, ps, hT, hv, h => by
  obtain ⟨p, q, h1, h2, rfl⟩ := h; obtain ⟨n, dd, a, k1, k2, k3⟩ := arg_rel (fid := fid) hl hS (hT t (List.mem_cons_self ..)) (hv 0 t v rfl rfl) h1; obtain ⟨xs, m1, m2, m4, m3⟩ := args_rel hl hS ts vs ds q (fun u hu => hT u (List.mem_cons_of_mem _ hu)) (fun j u w hj hw => hv (j + 1) u w (by simpa using hj) (by simpa using hw)) h2; refine ⟨argV a dd :: xs, ⟨⟨n, dd, a, k1, k2, rfl⟩, m1⟩, by simp [m2], by simp [m4], fun i x hx => ?_⟩
  match i with
  | 0 => simp at hx; subst hx; exact ⟨v, rfl, k3⟩
  | i + 1 => simp at hx ⊢; exact m3 i x hx
 | [], [], _ :: _, ps, hT, hv, h => by cases h
 | [], _ :: _, _, ps, hT, hv, h => by simp [DataW.TrodAll] at h
 | _ :: _, [], _, ps, hT, hv, h => by simp [DataW.TrodAll] at h
 | _ :: _, _ :: _, [], ps, hT, hv, h => by simp [DataW.TrodAll] at h
theorem args_stay (hl : laidOutB P = true) {W' : World} {sp : Nat → Bool} (hb : Below W.heap.size W W') : ∀ (ts : List TypeId) (vs : List Value) (ds : List (DataW H)) (ps : List MemPlace), (∀ t ∈ ts, P.readableRec t = true ∧ t < P.types.size) →
 (∀ x ∈ ps, x.block < W.heap.size) → (∀ x ∈ ps, sp x.block = true) → DataW.TrodAll enc P W 0 (fun _ => true) true ts vs ds ps → DataW.TrodAll enc P W' 0 sp true ts vs ds ps
 | [], [], [], ps, hT, hp, hs, h => h
 | t :: ts, v :: vs, d :: ds, ps, hT, hp, hs, h => by
  obtain ⟨p, q, h1, h2, rfl⟩ := h; refine ⟨p, q, ?_, args_stay hl hb ts vs ds q (fun u hu => hT u (List.mem_cons_of_mem _ hu)) (fun x hx => hp x (by simp [hx])) (fun x hx => hs x (by simp [hx])) h2, rfl⟩
  obtain ⟨k1, k2⟩ := hT t (List.mem_cons_self ..); exact WideElems.Trod_stays hl k1 k2 h1 (fun x hx => hb.same (hp x (by simp [hx]))) (fun x hx => hs x (by simp [hx]))
 | [], [], _ :: _, ps, hT, hp, hs, h => h
 | [], _ :: _, _, ps, hT, hp, hs, h => by simp [DataW.TrodAll] at h
 | _ :: _, [], _, ps, hT, hp, hs, h => by simp [DataW.TrodAll] at h
 | _ :: _, _ :: _, [], ps, hT, hp, hs, h => by simp [DataW.TrodAll] at h
theorem in0 {G : Nat → Option (List D)} {s : Sup} (hs : ∀ k, s k ≠ 0) (hinj : ∀ a b, s a = s b → a = b) (hG : Glob G (ctx0 W)) : In fid G (ctx0 W) [] s where
 imlt := fun _ _ h => h
 zlt := fun _ _ h => by cases h
 zinj := fun _ _ _ h => by cases h
 zfree := fun k => ⟨rfl, hs k⟩
 sinj := hinj
 dom := fun _ _ => rfl
 some := fun _ h => by simp at h
 box := fun b => by simp [BoxRel]
 dist := fun _ _ _ _ _ h => by simp at h
 glob := hG
theorem passOf_nil {κ : Ctx} {k : Nat} : ¬ passOf κ [] k := by
 rintro ⟨n, i, h, _⟩; simp at h
theorem out_below {G : Nat → Option (List D)} {s : Sup} {κ κ' : Ctx} {r : Res} {v : Value} (h : Out fid κ [] s κ' r v) : Below κ.w.heap.size κ.w κ'.w :=
 ⟨h.os, h.tape, h.output, h.le.size, fun k hk => h.same k hk passOf_nil⟩
end
end Go.VM

/- The value machine: a law's row. Conditions: none. -/
namespace Go.VM
open Go.ChangeShapes Go.WideShapes Go.ChangeAt Go.RowKit
set_option linter.unusedVariables false
theorem law_lifted {H : Type} {enc : TypeId × Value → H} {C : Checked} {os : Os} {f : FuncId} {fn : Func} {s : ChangeSpec} {S : List TypeId} {tb : TypeId} {G : Nat → Option (List D)} {fid : Nat → FuncId} {c : Nat}
 (own : ownKnob C.prog.godebug = none) (started : os.Started) (noInit : C.prog.inits.idxOf? f = none) (hfn : C.prog.funcs[f]? = some fn)
 (witness : ∃ (w : World) (tape : Tape) (i : Input), w.os = os ∧ (w.forCall tape i).Shaped C.prog ∧ i.vars = [] ∧ Input.okWide C.prog (w.forCall tape i) .any w.heap.size f i ∧
  s.pre6 enc C.prog fn [] false (w.forCall tape i).memory i.args ∧ ({} : Assume).holds C.prog (lone (Frame.enter C.prog f i.args .normal) [] (w.forCall tape i)))
 (hl : laidOutB C.prog = true) (hS : plainIn C.prog S = true) (hpS : fn.params.toList.all (fun t => S.contains t && C.prog.readableRec t) = true) (hres : fn.resultTypes = #[tb]) (hb : C.prog.underlying tb = some .bool)
 (hvars : s.vars = []) (hspec : ∀ ds : List (DataW H), ds.length = fn.params.size → s.fn H ds = { results := [.lit (.bool true)], args := ds })
 (hG : ∀ W : World, Glob G (ctx0 W)) (hf : fid c = f)
 (hrun : ∀ xs, ArgOk C.prog fn.params.toList xs → ∃ r, CallOK C.prog fid G c xs [] (fun k => k + 1) r ∧ r.v = sV (.bool true)) :
 ReturnsInHanded {} C os f .any (s.pre6 enc C.prog fn [] false) (s.post enc C.prog fn false true false false) := by
 refine returnsInHanded_of_change (C := C) own started noInit hfn witness ?_
 intro W base args ds gs before hval hW _ _; have hW' := hW; obtain ⟨p, q, hA, hV, rfl, hfz, hnd⟩ := hW; simp only [List.all_eq_true, Bool.and_eq_true, List.contains_iff_mem] at hpS; have hS' := hS; simp only [plainIn, List.all_eq_true, Bool.and_eq_true, decide_eq_true_eq] at hS'; obtain ⟨xs, hx, hlen, hdl, hrel⟩ := args_rel (fid := fid) hl hS fn.params.toList args.toList ds p (fun t ht => (hpS t ht).1)
  (fun j t v hj hv => hval j t v (by rw [← Array.getElem?_toList]; exact hj) (by rw [← Array.getElem?_toList]; exact hv)) hA
 obtain ⟨rfl, rfl⟩ : gs = [] ∧ q = [] := by
  rw [hvars] at hV; cases gs with
  | nil => exact ⟨rfl, hV⟩
  | cons => cases hV
 obtain ⟨r, hc, hrv⟩ := hrun xs hx; have := hc.2 (ctx0 W) args.toList (in0 (fun k => Nat.succ_ne_zero k) (fun a b e => Nat.succ.inj e) (hG W)) hlen hrel; rw [hf, Array.toArray_toList] at this; refine this.mono ?_
 rintro e W' ⟨v, κ', rfl, rfl, O⟩; have hv : v = .bool true := by
  have := O.v; rw [hrv] at this; cases this
  rfl
 subst hv; have hbel : Below W.heap.size W κ'.w := out_below (G := G) O; have hlt : ∀ x ∈ p, x.block < W.heap.size := fun x hx => by simpa using hW'.lt x (by simp [hx])
 have hsp : s.fn H (ds ++ []) = { results := [.lit (.bool true)], args := ds } := by rw [List.append_nil]; exact hspec ds (by simpa using hdl)
 refine ⟨_, rfl, ds, [], p ++ [], [], p, [], hW', ?_, ?_, ?_, hbel.frame _, fun h => by cases h⟩
 · rw [hsp, hres]
   exact trodAll_mk1 ⟨1, by simp [DataW.trod, Value.cells, hb]⟩
 · rw [hsp]
   exact args_stay hl hbel _ _ _ _ (fun t ht => ⟨(hpS t ht).2, (hS' t (hpS t ht).1).1⟩) hlt (fun x hx => by simpa using hlt x hx) hA
 · rw [hsp, hvars]; rfl
end Go.VM
