/- The value machine: every operation keeps the frame. Conditions: none. -/
import Derived.Test.YthkednnfadhidaaVM16
namespace Go.VM
set_option linter.unusedVariables false
set_option linter.unusedSimpArgs false
set_option linter.unusedSectionVars false

section
variable {P : Program} {fid : Nat → FuncId} {cid : FuncId → Nat} {G : Nat → Option (List D)} {E : Entry} {κ : Ctx} {H : Nat → Box} {FN FZ : Nat → Prop} {g : Nat} {s : Sup}
variable {ρ : Operand → Value} {ev : X → V} {o : Oper} {call : CallT} {M : Nat → Mode} {stamp : Bool}

section ops
variable (I : Inv fid G E κ H FN FZ) (hev : ∀ x X, stripX cid x = some X → VRel fid κ (ρ x) (ev X)) (hfn : ∀ n, g ≤ n → n < g + 64 → FN n) (hinj : ∀ a b, s a = s b → a = b) (hs : ∀ k, FZ (s k))
include I hev

theorem op_ld {t : TypeId} {x : Operand} {a : Bool} {n : Nat} {X : VM.X} {e : Eff} (ho : o.op = .load t x) (ha : agg? P t = some a) (hn : sz? P t = some n) (hX : stripX cid x = some X) (h1 : (a || n == 1) = true)
    (h : opV call M G stamp ev H g s (.ld a n X) = some e) : Good P fid G E κ FN FZ g s ρ o e := by
  have hr := hev x X hX
  simp only [opV] at h
  split at h
  · rename_i b off hx
    rw [hx] at hr
    split at h
    · rename_i cs hH
      split at h
      · rename_i v hv
        cases h
        obtain ⟨i, arr, T, hb, hreal, hρ, hheap, hL, _⟩ := ptr_cell I hr hH
        cases hp : part? cs off n with
        | none => simp [hp] at hv
        | some l =>
          simp [hp] at hv
          obtain ⟨hfit, hpl, hpg⟩ := part?_some hp
          refine good_ld I ho ha hn h1 hρ hpl hv (fun j c hj => ?_) rfl rfl
          rw [hpg] at hj
          split at hj
          · obtain ⟨y, hy, q⟩ := hL.2 _ c hj
            exact ⟨y, by rw [cell_of hheap]; exact hy, q⟩
          · cases hj
      · cases h
    · cases h
  · rename_i b j off hx
    rw [hx] at hr
    split at h
    · rename_i st sz rows ro hH
      split at h
      · rename_i row hrow
        split at h
        · rename_i v hv
          cases h
          obtain ⟨i, arr, T, hb, hsz, hlen, hρ, q⟩ := row_cell I hr hH hrow
          cases hp : part? row off n with
          | none => simp [hp] at hv
          | some l =>
            simp [hp] at hv
            obtain ⟨hfit, hpl, hpg⟩ := part?_some hp
            refine good_ld I ho ha hn h1 hρ (l := l.map .d) (by simpa using hpl) hv (fun k c hk => ?_) rfl rfl
            rw [List.getElem?_map, hpg] at hk
            split at hk
            · cases hd : row[off + k]? with
              | none => simp [hd] at hk
              | some d =>
                simp [hd] at hk; subst hk
                obtain ⟨y, hy, qy⟩ := q.rows _ _ hrow _ _ hd
                exact ⟨y, by rw [cell_of q.heap, ← hy]; congr 1; omega, qy⟩
            · cases hk
        · cases h
      · cases h
    · cases h
  · rename_i row off hx
    rw [hx] at hr
    obtain ⟨v, hv, rfl⟩ := ret0_some h
    obtain ⟨blk, o', f, hb, hρ, hrow⟩ := hr
    obtain ⟨l, hp, hv⟩ := Option.bind_eq_some_iff.1 hv
    obtain ⟨hfit, hpl, hpg⟩ := part?_some hp
    refine good_ld I ho ha hn h1 hρ (l := l.map .d) (by simpa using hpl) hv (fun k c hk => ?_) rfl rfl
    rw [List.getElem?_map, hpg] at hk
    split at hk
    · cases hd : row[off + k]? with
      | none => simp [hd] at hk
      | some d =>
        simp [hd] at hk; subst hk
        obtain ⟨_, hc, q⟩ := hrow _ _ hd
        exact ⟨_, by rw [Nat.add_assoc]; exact hc, q⟩
    · cases hk
  · rename_i k0 off hx
    rw [hx] at hr
    obtain ⟨v, hv, rfl⟩ := ret0_some h
    have hρ : ρ x = .pointer (some ⟨k0, off, none⟩) := hr
    obtain ⟨row, hg, hv⟩ := Option.bind_eq_some_iff.1 hv
    obtain ⟨l, hp, hv⟩ := Option.bind_eq_some_iff.1 hv
    obtain ⟨hfit, hpl, hpg⟩ := part?_some hp
    obtain ⟨_, hglob⟩ := I.glob k0 row hg
    refine good_ld I ho ha hn h1 hρ (l := l.map .d) (by simpa using hpl) hv (fun k c hk => ?_) rfl rfl
    rw [List.getElem?_map, hpg] at hk
    split at hk
    · cases hd : row[off + k]? with
      | none => simp [hd] at hk
      | some d =>
        simp [hd] at hk; subst hk
        obtain ⟨_, y, hc, q⟩ := hglob _ _ hd
        exact ⟨y, hc, q⟩
    · cases hk
  · cases h

theorem op_st {t : TypeId} {x y : Operand} {n : Nat} {Y X : VM.X} {e : Eff} (hinj : ∀ a b, s a = s b → a = b) (hs : ∀ k, FZ (s k)) (ho : o.op = .store t x y) (hn : sz? P t = some n) (hX : stripX cid x = some X) (hY : stripX cid y = some Y)
    (h : opV call M G stamp ev H g s (.st n X Y) = some e) : Good P fid G E κ FN FZ g s ρ o e := by
  simp only [opV] at h
  split at h
  · rename_i cs hcs
    split at h
    · rename_i hl
      split at h
      · rename_i b off hx
        split at h
        · rename_i old hH
          split at h
          · rename_i hf
            cases h
            exact good_stp I hev ho hn hX hY hcs hl hx hH hf rfl
          · cases h
        · cases h
      · rename_i b j off hx
        split at h
        · rename_i l z hz
          split at h
          · rename_i ds st sz rows ro hd hH
            split at h
            · rename_i row hrow
              split at h
              · rename_i hc
                cases h
                exact good_str I hev hinj hs ho hn hX hY hcs hl hx hz hd hH hrow hc.1 hc.2 rfl
              · cases h
            · cases h
          · cases h
        · cases h
      · cases h
    · cases h
  · cases h

theorem op_nc {x : Operand} {X : VM.X} {e : Eff} (ho : o.op = .nilCheck x) (hX : stripX cid x = some X) (h : opV call M G stamp ev H g s (.nc X) = some e) : Good P fid G E κ FN FZ g s ρ o e := by
  simp only [opV] at h
  split at h
  · rename_i b off hx; obtain ⟨v, hv, rfl⟩ := ret0_some h; cases hv
    exact good_nc (v := .w .nil) I hev ho hX (by rw [hx]) (.inl ⟨_, _, hx⟩)
  · rename_i b i off hx; obtain ⟨v, hv, rfl⟩ := ret0_some h; cases hv
    exact good_nc (v := .w .nil) I hev ho hX (by rw [hx]) (.inr (.inl ⟨_, _, _, hx⟩))
  · rename_i r off hx; obtain ⟨v, hv, rfl⟩ := ret0_some h; cases hv
    exact good_nc (v := .w .nil) I hev ho hX (by rw [hx]) (.inr (.inr (.inl ⟨_, _, hx⟩)))
  · rename_i k off hx; obtain ⟨v, hv, rfl⟩ := ret0_some h; cases hv
    exact good_nc (v := .w .nil) I hev ho hX (by rw [hx]) (.inr (.inr (.inr (.inl ⟨_, _, hx⟩))))
  · rename_i f c hx; obtain ⟨v, hv, rfl⟩ := ret0_some h; cases hv
    exact good_nc (v := .w .nil) I hev ho hX (by rw [hx]) (.inr (.inr (.inr (.inr ⟨_, _, hx⟩))))
  · cases h

theorem op_fa {t : TypeId} {x : Operand} {i n : Nat} {fs : Array Field} {f : Field} {X : VM.X} {e : Eff} (ho : o.op = .fieldAddr t x i) (hu : P.underlying t = some (.struct fs)) (hf : fs[i]? = some f) (hn : sz? P f.type = some n) (h0 : n ≠ 0) (hX : stripX cid x = some X)
    (h : opV call M G stamp ev H g s (.fa f.offset X) = some e) : Good P fid G E κ FN FZ g s ρ o e := by
  simp only [opV] at h
  split at h
  · rename_i b off hx; obtain ⟨v, hv, rfl⟩ := ret0_some h; cases hv
    exact good_fa I hev ho hu hf hn h0 hX rfl (.inl ⟨_, _, hx, rfl⟩)
  · rename_i b i off hx; obtain ⟨v, hv, rfl⟩ := ret0_some h; cases hv
    exact good_fa I hev ho hu hf hn h0 hX rfl (.inr (.inl ⟨_, _, _, hx, rfl⟩))
  · rename_i r off hx; obtain ⟨v, hv, rfl⟩ := ret0_some h; cases hv
    exact good_fa I hev ho hu hf hn h0 hX rfl (.inr (.inr (.inl ⟨_, _, hx, rfl⟩)))
  · rename_i k off hx; obtain ⟨v, hv, rfl⟩ := ret0_some h; cases hv
    exact good_fa I hev ho hu hf hn h0 hX rfl (.inr (.inr (.inr ⟨_, _, hx, rfl⟩)))
  · cases h

theorem op_iaa {t e0 : TypeId} {x i : Operand} {len n : Nat} {J X : VM.X} {e : Eff} (ho : o.op = .indexAddr t x i) (hu : P.underlying t = some (.array len e0)) (hn : sz? P e0 = some n) (hX : stripX cid x = some X) (hJ : stripX cid i = some J)
    (h : opV call M G stamp ev H g s (.iaa len n X J) = some e) : Good P fid G E κ FN FZ g s ρ o e := by
  simp only [opV] at h
  split at h
  · rename_i k j hj
    split at h
    · rename_i h0
      split at h
      · rename_i b off hx; obtain ⟨v, hv, rfl⟩ := ret0_some h; cases hv
        exact good_iaa I hev ho hu hn hX hJ hj h0 rfl (.inl ⟨_, _, hx, rfl⟩)
      · rename_i b i off hx; obtain ⟨v, hv, rfl⟩ := ret0_some h; cases hv
        exact good_iaa I hev ho hu hn hX hJ hj h0 rfl (.inr (.inl ⟨_, _, _, hx, rfl⟩))
      · rename_i r off hx; obtain ⟨v, hv, rfl⟩ := ret0_some h; cases hv
        exact good_iaa I hev ho hu hn hX hJ hj h0 rfl (.inr (.inr (.inl ⟨_, _, hx, rfl⟩)))
      · rename_i k off hx; obtain ⟨v, hv, rfl⟩ := ret0_some h; cases hv
        exact good_iaa I hev ho hu hn hX hJ hj h0 rfl (.inr (.inr (.inr ⟨_, _, hx, rfl⟩)))
      · cases h
    · cases h
  · cases h

theorem op_ia {t e0 : TypeId} {x i : Operand} {n : Nat} {J X : VM.X} {e : Eff} (ho : o.op = .indexAddr t x i) (hu : P.underlying t = some (.slice e0)) (hn : sz? P e0 = some n) (hX : stripX cid x = some X) (hJ : stripX cid i = some J)
    (h : opV call M G stamp ev H g s (.ia n X J) = some e) : Good P fid G E κ FN FZ g s ρ o e := by
  simp only [opV] at h
  split at h
  · rename_i b off len cap k j hx hj
    split at h
    · rename_i st sz rows ro hH
      split at h
      · rename_i hc
        cases h
        obtain ⟨rfl, h0⟩ := hc
        exact good_ia_own I hev ho hu hn hX hJ hj hx hH h0 rfl
      · cases h
    · cases h
  · rename_i st rows k j hx hj
    split at h
    · rename_i h0
      split at h
      · rename_i row hrow
        split at h
        · rename_i hl
          obtain ⟨v, hv, rfl⟩ := ret0_some h; cases hv
          exact good_ia_data I hev ho hu hn hX hJ hj hx (.inl rfl) h0 hrow hl rfl
        · cases h
      · cases h
    · cases h
  · rename_i st rows k j hx hj
    split at h
    · rename_i h0
      split at h
      · rename_i row hrow
        split at h
        · rename_i hl
          obtain ⟨v, hv, rfl⟩ := ret0_some h; cases hv
          exact good_ia_data I hev ho hu hn hX hJ hj hx (.inr rfl) h0 hrow hl rfl
        · cases h
      · cases h
    · cases h
  · cases h

theorem op_ixs {t : TypeId} {x i : Operand} {J X : VM.X} {e : Eff} (ho : o.op = .index t x i) (hu : P.underlying t = some .string) (hX : stripX cid x = some X) (hJ : stripX cid i = some J)
    (h : opV call M G stamp ev H g s (.ixs X J) = some e) : Good P fid G E κ FN FZ g s ρ o e := by
  simp only [opV] at h
  split at h
  · rename_i b k j hb hj
    split at h
    · rename_i h0
      split at h
      · rename_i c hc
        exact good_ixs I hev ho hu hX hJ hb hj h0 hc h
      · cases h
    · cases h
  · cases h

theorem op_ixa {t e0 : TypeId} {x i : Operand} {a : Bool} {len n : Nat} {J X : VM.X} {e : Eff} (ho : o.op = .index t x i) (hu : P.underlying t = some (.array len e0)) (ha : agg? P e0 = some a) (hn : sz? P e0 = some n) (h1 : (a || n == 1) = true) (hX : stripX cid x = some X) (hJ : stripX cid i = some J)
    (h : opV call M G stamp ev H g s (.ixa a len n X J) = some e) : Good P fid G E κ FN FZ g s ρ o e := by
  simp only [opV] at h
  split at h
  · rename_i cs k j hx hj
    split at h
    · rename_i h0
      obtain ⟨v, hv, rfl⟩ := ret0_some h
      cases hp : part? cs (j.toNat * n) n with
      | none => simp [hp] at hv
      | some p =>
        simp [hp] at hv
        exact good_ixa I hev ho hu ha hn h1 hX hJ hj h0 hx hp hv rfl
    · cases h
  · cases h

theorem op_fld {t : TypeId} {x : Operand} {i n : Nat} {fs : Array Field} {f : Field} {a : Bool} {X : VM.X} {e : Eff} (ho : o.op = .field t x i) (hu : P.underlying t = some (.struct fs)) (hf : fs[i]? = some f) (ha : agg? P f.type = some a) (hn : sz? P f.type = some n) (h1 : (a || n == 1) = true) (hX : stripX cid x = some X)
    (h : opV call M G stamp ev H g s (.fld a f.offset n X) = some e) : Good P fid G E κ FN FZ g s ρ o e := by
  simp only [opV] at h
  split at h
  · rename_i cs hx
    obtain ⟨v, hv, rfl⟩ := ret0_some h
    cases hp : part? cs f.offset n with
    | none => simp [hp] at hv
    | some p =>
      simp [hp] at hv
      exact good_fld I hev ho hu hf ha hn h1 hX hx hp hv rfl
  · cases h

theorem op_ext {x : Operand} {i : Nat} {X : VM.X} {e : Eff} (ho : o.op = .extract x i) (hX : stripX cid x = some X) (h : opV call M G stamp ev H g s (.ext i X) = some e) : Good P fid G E κ FN FZ g s ρ o e := by
  simp only [opV] at h
  split at h
  · rename_i vs hx
    split at h
    · rename_i p hp
      exact good_ext I hev ho hX hx hp h
    · cases h
  · cases h

theorem op_sls {t : TypeId} {x : Operand} {lo hi : Option Operand} {LO HI : Option VM.X} {X : VM.X} {e : Eff} (ho : o.op = .slice t x lo hi none) (hu : P.underlying t = some .string) (hX : stripX cid x = some X) (hLO : stripXo cid lo = some LO) (hHI : stripXo cid hi = some HI)
    (h : opV call M G stamp ev H g s (.sls X LO HI) = some e) : Good P fid G E κ FN FZ g s ρ o e := by
  simp only [opV] at h
  split at h
  · rename_i b l u hb hl hh
    split at h
    · rename_i hc
      exact good_sls I hev ho hu hX hLO hHI hb hl hh hc h
    · cases h
  · cases h

theorem op_sl {t e0 : TypeId} {n : Nat} {x : Operand} {lo hi mx : Option Operand} {LO HI MX : Option VM.X} {X : VM.X} {e : Eff} (ho : o.op = .slice t x lo hi mx) (hu : P.underlying t = some (.slice e0)) (hn : sz? P e0 = some n) (hX : stripX cid x = some X) (hLO : stripXo cid lo = some LO) (hHI : stripXo cid hi = some HI) (hMX : stripXo cid mx = some MX)
    (h : opV call M G stamp ev H g s (.sl n X LO HI MX) = some e) : Good P fid G E κ FN FZ g s ρ o e := by
  simp only [opV] at h
  split at h
  · rename_i y l u m hy hl hh hm
    split at h
    · rename_i rows tt hr
      split at h
      · rename_i hc
        obtain ⟨h1, h2, h3, h4, h5⟩ := hc
        split at h
        · rename_i b off len cap
          split at h
          · rename_i st sz rs ro hH
            split at h
            · rename_i hsz
              subst hsz
              cases h
              simp only [rowsOf, hH] at hr
              split at hr
              · rename_i hfit
                cases hr
                have hll : ((rs.drop off).take len).length = len := by simp; omega
                rw [hll] at h2 h3 h4 ⊢
                exact good_sl_own I hev ho hu hn hX hLO hHI hMX hl hh hm hy hH ⟨h1, h2, h3, h4⟩ h5 rfl
              · cases hr
            · cases h
          · cases h
        · obtain ⟨v, hv, rfl⟩ := ret0_some h; cases hv
          simp [rowsOf] at hr
          obtain ⟨rfl, rfl⟩ := hr
          exact good_sl_nil I hev ho hu hn hX hLO hHI hMX hl hh hm hy (by simpa using ⟨h1, h2, h3, h4⟩) h5 rfl
        · rename_i st rs
          split at h
          · rename_i hall
            obtain ⟨v, hv, rfl⟩ := ret0_some h; cases hv
            simp [rowsOf] at hr
            obtain ⟨rfl, rfl⟩ := hr
            have hrel := hev x X hX
            rw [hy] at hrel
            obtain ⟨v, hrun, hv, hne⟩ := sl_data I hev ho hu hn hLO hHI hMX hl hh hm rfl hrel.1 hall ⟨h1, h2, h3, h4⟩ h5
            exact good_pure I hrun ⟨hv, hne hrel.2⟩
          · cases h
        · rename_i st rs
          split at h
          · rename_i hall
            obtain ⟨v, hv, rfl⟩ := ret0_some h; cases hv
            simp [rowsOf] at hr
            obtain ⟨rfl, rfl⟩ := hr
            have hrel := hev x X hX
            rw [hy] at hrel
            obtain ⟨v, hrun, hv, hne⟩ := sl_data I hev ho hu hn hLO hHI hMX hl hh hm rfl hrel hall ⟨h1, h2, h3, h4⟩ h5
            exact good_pure I hrun hv
          · cases h
        · cases h
      · cases h
    · cases h
  · cases h

end ops
end
end Go.VM
