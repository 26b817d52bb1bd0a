/- The document's lists out of ladders: one net more, a net. Conditions: none. -/
import Derived.Test.YtfpkfcfiihfopaaDoorPVP18
import Derived.Test.YtfpkfcfiihfopaaDoorPVP9

namespace Go.VM
set_option linter.unusedSimpArgs false
set_option linter.unusedVariables false
set_option maxHeartbeats 16000000
def OwnE (st : St) (t : Nat) (L : List Ins) : Prop := ∃ b c, 0 < b ∧ b < st.g ∧ st.τ t = .w (.own b 0 L.length c) ∧ st.H b = .row none 3 (insRows L) 0
theorem OwnE.mk {st : St} {t n b : Nat} {L : List Ins} {c : Option Nat} (h2 : st.τ t = .w (.own b 0 n c)) (h0 : 0 < b) (h1 : b < st.g) (hn : n = L.length) (h3 : st.H b = .row none 3 (insRows L) 0) : OwnE st t L :=
 ⟨b, c, h0, h1, by rw [h2, hn], h3⟩
theorem OwnE.keep {st st' : St} {t : Nat} {L : List Ins} (h : OwnE st t L) (e : st'.τ t = st.τ t) (eH : ∀ b, b < st.g → st'.H b = st.H b) (hg : st.g ≤ st'.g) : OwnE st' t L := by
 obtain ⟨b, c, h0, h1, h2, h3⟩ := h; exact ⟨b, c, h0, by omega, e.trans h2, (eH b h1).trans h3⟩
end Go.VM

/- The laws of exactness for WayPlain and WayDown. Conditions: none. -/
namespace Go.VM
set_option linter.unusedVariables false
set_option linter.unusedSimpArgs false
set_option maxHeartbeats 4000000
def sup0 : Sup := fun k => k + 1
theorem sup0_ne (k : Nat) : sup0 k ≠ 0 := Nat.succ_ne_zero k
theorem sup0_inj : Inj sup0 := fun a b e => Nat.succ.inj e
abbrev OnW (w0 w : World) : Prop := Tou (fun b => w0.heap.size ≤ b) w0 w
section
variable {P : Program} {fid : Nat → FuncId} {cid : FuncId → Nat} {w0 w : World}
theorem glob_at (hg : Glob GT (ctxN w0.heap.size w0)) (hw : OnW w0 w) : Glob GT (ctxN w.heap.size w) := hg.up (Nat.le_refl _) hw (fun _ h => h) hw.size
theorem Rd.here {N : Nat} {v : Value} {d : D} (h : Rd N w v d) : Rel w (fun b _ => b < w.heap.size) (fun _ => none) v d := (h.up h.1 (Nat.le_refl _)).2
theorem Env.call (E : Env P fid cid) (hg : Glob GT (ctxN w0.heap.size w0)) (hw : OnW w0 w) {f n : Nat} {args : List V} {r : Res} (h : go n f args [] sup0 = some r) {vs : List Value} (hl : vs.length = args.length) (hr : ∀ (i : Nat) (x : V), args[i]? = some x → ∃ v : Value, vs[i]? = some v ∧ VRel fid (ctxN w.heap.size w) v x) :
 MC P fid f vs w fun u w' => ∃ κ', κ'.w = w' ∧ Out fid (ctxN w.heap.size w) [] sup0 κ' r u :=
 call_at (E.goOk _ _ _ _ _ _ h) sup0_ne sup0_inj (Nat.le_refl _) (glob_at hg hw) hl hr
theorem Env.calls (E : Env P fid cid) (hg : Glob GT (ctxN w0.heap.size w0)) (hw : OnW w0 w) {f n : Nat} {d : D} {r : Res} (h : goS n f [.w (.d d)] [] sup0 = some r) {N : Nat} {v : Value} (hv : Rd N w v d) :
 MC P fid f [v] w fun u w' => ∃ κ', κ'.w = w' ∧ Out fid (ctxN w.heap.size w) [] sup0 κ' r u :=
 call_at (E.gosOk _ _ _ _ _ _ h) sup0_ne sup0_inj (Nat.le_refl _) (glob_at hg hw) rfl fun i x hx => by
  match i with
  | 0 => simp at hx; subst hx; exact ⟨v, rfl, hv.here⟩
  | i + 1 => simp at hx
theorem out_s {N : Nat} {s : Sup} {κ' : Ctx} {v x : Value} (O : Out fid (ctxN N w) [] s κ' ⟨.w (.d (.s x)), [], []⟩ v) : v = x := by
 have h : Rel κ'.w κ'.Im κ'.ζ v (.s x) := O.v; cases h; rfl
theorem glob_in {κ : Ctx} {bs : List Box} {s : Sup} (hI : In fid GT κ bs s) (hG : ∀ g row, GT g = some row → erL row = row) : Glob GT (ctxN κ.w.heap.size κ.w) := by
 intro g row hg; obtain ⟨h1, h2⟩ := hI.glob g row hg; refine ⟨h1, fun j x hj => ?_⟩
 obtain ⟨a, y, hy, q⟩ := h2 j x hj; refine ⟨h1, y, hy, ?_⟩
 have e : x.er = x := by
  have h := hG g row hg; have h3 : (erL row)[j]? = some x.er := by rw [erL_get, hj]; rfl
  rw [h, hj] at h3; exact (Option.some.inj h3).symm
 have := Rel.er (ζ' := fun _ => none) (Rel.size (Rel.top q)); rw [e] at this; exact this
end
end Go.VM

/- Lists of instructions as arguments of the laws of exactness. Conditions: none. -/
namespace Go.VM
set_option linter.unusedVariables false
set_option linter.unusedSimpArgs false
set_option maxHeartbeats 4000000
section
variable {P : Program} {fid : Nat → FuncId} {cid : FuncId → Nat} {w0 w : World}
end
end Go.VM

/- The laws of exactness, by the shape of their code, whatever the kinds of what they take and give. Conditions: none. -/
namespace Go.VM
set_option linter.unusedVariables false
set_option linter.unusedSimpArgs false
set_option maxHeartbeats 4000000
structure Kind where
 Rd : Nat → World → Value → Prop
 Ow : World → (Nat → Option Nat) → Value → List Nat → Prop
 Mk : World → (Nat → Option Nat) → Value → List Nat → Prop
 n : Nat
 rd_tou : ∀ {N : Nat} {S : Nat → Prop} {w w' : World} {v : Value}, Rd N w v → Tou S w w' → (∀ b, S b → N ≤ b) → Rd N w' v
 ow_tou : ∀ {S : Nat → Prop} {w w' : World} {ζ : Nat → Option Nat} {v : Value} {l : List Nat}, Ow w ζ v l → Tou S w w' → (∀ b, Sb ζ l b → ¬ S b) → Ow w' ζ v l
 mk_tou : ∀ {S : Nat → Prop} {w w' : World} {ζ : Nat → Option Nat} {v : Value} {l : List Nat}, Mk w ζ v l → Tou S w w' → (∀ b, Sb ζ l b → ¬ S b) → Mk w' ζ v l
 ow_lt : ∀ {w : World} {ζ : Nat → Option Nat} {v : Value} {l : List Nat}, Ow w ζ v l → ∀ b, Sb ζ l b → b < w.heap.size
 ow_rd : ∀ {w : World} {ζ : Nat → Option Nat} {v : Value} {l : List Nat}, Ow w ζ v l → Rd w.heap.size w v
theorem Kind.same (K : Kind) {w w' : World} {ζ : Nat → Option Nat} {v : Value} {l : List Nat} (h : K.Ow w ζ v l) (hw : Tou Old w w') : K.Ow w' ζ v l := K.ow_tou h hw fun _ _ h => h.elim
theorem Kind.msame (K : Kind) {w w' : World} {ζ : Nat → Option Nat} {v : Value} {l : List Nat} (h : K.Mk w ζ v l) (hw : Tou Old w w') : K.Mk w' ζ v l := K.mk_tou h hw fun _ _ h => h.elim
theorem Kind.rsame (K : Kind) {N : Nat} {w w' : World} {v : Value} (h : K.Rd N w v) (hw : Tou Old w w') : K.Rd N w' v := K.rd_tou h hw fun _ h => h.elim
structure KNew (K : Kind) (w w' : World) (ζ : Nat → Option Nat) (v : Value) (l : List Nat) : Prop where
 tou : Tou Old w w'
 own : K.Ow w' ζ v l
 inj : ZInj ζ
 low : ∀ b, Sb ζ l b → w.heap.size ≤ b
theorem KNew.rd {K : Kind} {w w' : World} {ζ : Nat → Option Nat} {v : Value} {l : List Nat} (h : KNew K w w' ζ v l) : K.Rd w'.heap.size w' v := K.ow_rd h.own
section
variable {P : Program} {fid : Nat → FuncId} {cid : FuncId → Nat}
def KMark (P : Program) (fid : Nat → FuncId) (K : Kind) (f : Nat) : Prop := ∀ (w : World) (ζ : Nat → Option Nat) (v : Value) (l : List Nat), ZInj ζ → K.Ow w ζ v l →
 MC P fid f [v, .int .i64 1] w fun r w' => r = .int .i64 ((1 + K.n : Nat) : Int) ∧ Tou (Sb ζ l) w w' ∧ K.Mk w' ζ v l
def KHeld (P : Program) (fid : Nat → FuncId) (K : Kind) (f : Nat) : Prop := ∀ (w : World) (ζ : Nat → Option Nat) (v : Value) (l : List Nat), K.Mk w ζ v l →
 MC P fid f [v, .int .i64 1] w fun r w' => r = .int .i64 ((1 + K.n : Nat) : Int) ∧ Tou Old w w'
def KEq (P : Program) (fid : Nat → FuncId) (w0 : World) (K : Kind) (f : Nat) : Prop := ∀ N M u v w, Tou (fun b => w0.heap.size ≤ b) w0 w → K.Rd N w u → K.Rd M w v → MC P fid f [u, v] w fun r w' => r = .bool true ∧ Tou Old w w'
structure KSound (P : Program) (fid : Nat → FuncId) (w0 : World) (a : Value) (K : Kind) (toA eqA markA : Nat) : Prop where
 to : ∀ w, Tou (fun b => w0.heap.size ≤ b) w0 w → MC P fid toA [a] w fun v w' => ∃ ζ l, KNew K w w' ζ v l
 eq : KEq P fid w0 K eqA
 mark : KMark P fid K markA
structure KGives2 (P : Program) (fid : Nat → FuncId) (w0 : World) (KA KR : Kind) (c : Value) (specF implF eqR markR heldR : Nat) : Prop where
 spec : ∀ N v w, Tou (fun b => w0.heap.size ≤ b) w0 w → KA.Rd N w v → MC P fid specF [v] w fun r w' => ∃ r0, r = .tuple #[r0, c] ∧ Tou Old w w' ∧ KR.Rd w'.heap.size w' r0
 impl : ∀ N v w, Tou (fun b => w0.heap.size ≤ b) w0 w → KA.Rd N w v → MC P fid implF [v] w fun r w' => ∃ r0, r = .tuple #[r0, c] ∧ ∃ ζ l, KNew KR w w' ζ r0 l
 eq : KEq P fid w0 KR eqR
 mark : KMark P fid KR markR
 held : KHeld P fid KR heldR
end
end Go.VM

/- The laws of exactness over kinds of data: a bool beside what is handed back. Conditions: none. -/
namespace Go.VM
set_option linter.unusedVariables false
set_option linter.unusedSimpArgs false
set_option maxHeartbeats 4000000
section
variable {P : Program} {fid : Nat → FuncId} {cid : FuncId → Nat}
end
end Go.VM
