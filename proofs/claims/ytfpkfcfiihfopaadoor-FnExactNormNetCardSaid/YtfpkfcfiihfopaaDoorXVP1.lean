/- The laws' own helpers over ladders: copies, and that what is the same is told to be. Conditions: none. -/
import Derived.Test.YtfpkfcfiihfopaaDoorXVLX
import Derived.Test.YtfpkfcfiihfopaaDoorXVP0

namespace Go.VM
set_option linter.unusedSimpArgs false
set_option linter.unusedVariables false
set_option maxHeartbeats 4000000
theorem to_arg {n : Nat} (a : Arg) (s : Sup) : go (n + 1) 241 [argX a] [] s = some ⟨argX a, [], []⟩ := by
 simp [go_of FT_241 rfl, F241]
theorem same_arg {n : Nat} (a : Arg) (s : Sup) : go (n + 1) 242 [argX a, argX a] [] s = some ⟨bV true, [], []⟩ := by
 simp [go_of FT_242 rfl, F242]
theorem same_args {n : Nat} (l : List Arg) (hn : l.length + 3 ≤ n) (hl : l.length < 2 ^ 30) (s : Sup) : go n 238 [.w (asW l), .w (asW l)] [] s = some ⟨bV true, [], []⟩ := by
 obtain ⟨n, rfl⟩ : ∃ k, n = k + 2 := ⟨n - 2, by omega⟩; exact run_eqT (f := 238) (sz := 3) (c := 242) (n := n + 1) rfl rfl rfl rfl rfl 0 0 (argRows l) (argRows l) rfl (argRows_all fun a _ => argRow_len a) (argRows_all fun a _ => argRow_len a)
  (fun i r r' h1 h2 s => by rw [h1] at h2; cases h2; exact argRows_all (p := fun r => go (n + 1) 242 [rowX r, rowX r] [] s = some ⟨bV true, [], []⟩) (fun a _ => same_arg a s) r (List.mem_of_getElem? h1)) (by simp [argRows]; omega) (by simp [argRows]; omega) s
theorem same_el {n : Nat} (e : El) (hn : e.as.length + 4 ≤ n) (hl : e.as.length < 2 ^ 30) (s : Sup) : go n 230 [elX e, elX e] [] s = some ⟨bV true, [], []⟩ := by
 obtain ⟨n, rfl⟩ : ∃ k, n = k + 1 := ⟨n - 1, by omega⟩; have w := same_args (n := n) e.as (by omega) hl; simp [go_of FT_230 rfl, F230, w]
theorem same_net : ∀ (m : Nat) (t : Net), t.wt ≤ m → m < 2 ^ 30 → ∀ (n : Nat), 2 * m + 6 ≤ n → ∀ s, go n 223 [netX t, netX t] [] s = some ⟨bV true, [], []⟩
 | 0, t, h, hm, n, hn, s => by have := t.wt_pos; omega
 | m + 1, .mk k op as ks, h, hm, n, hn, s => by
  obtain ⟨n, rfl⟩ : ∃ k, n = k + 3 := ⟨n - 3, by omega⟩; simp only [Net.wt] at h; have hlen := netsWt_len ks; have w2 : ∀ s, go (n + 2) 231 [.w (nsW ks), .w (nsW ks)] [] s = some ⟨bV true, [], []⟩ := fun s =>
   run_eqT (f := 231) (sz := 4) (c := 223) (n := n + 1) rfl rfl rfl rfl rfl 0 0 (netRows ks) (netRows ks) rfl (netRows_all fun a _ => netRow_len a) (netRows_all fun a _ => netRow_len a)
    (fun i r r' h1 h2 s => by rw [h1] at h2; cases h2; exact netRows_all (p := fun r => go (n + 1) 223 [rowX r, rowX r] [] s = some ⟨bV true, [], []⟩) (fun a ha => by rw [rowX_net]; exact same_net m a (by have := netsWt_mem ha; omega) (by omega) (n + 1) (by omega) s) r (List.mem_of_getElem? h1)) (by rw [netRows_map]; simp; omega) (by rw [netRows_map]; simp; omega) s
  have w1 := same_el (n := n + 2) ⟨op, as⟩ (by simp only; omega) (by simp only; omega); simp [go_of FT_223 rfl, F223, w1, w2]
@[simp] theorem stamp_new (s : Sup) (k : Nat) : stampOf true s k none = s k := (rfl)
def Makes (n c : Nat) (args : List V) (sz : Nat) (r : List D) : Prop :=
 ∃ o : Sup → List D, ∀ s, goS n c args [] s = some ⟨rowX (o s), [], []⟩ ∧ (o s).length = sz ∧ erL (o s) = r ∧ (Inj s → Fr s (stsL (o s)))
def MakesL (n c : Nat) (args : List V) (R0 : List (List D)) : Prop :=
 ∃ (t : Sup → Nat) (R : Sup → List (List D)), ∀ s, goS n c args [] s = some ⟨.w (.d (.l (t s) (R s))), [], []⟩ ∧ erR (R s) = R0 ∧ (Inj s → Fr s (D.l (t s) (R s)).sts)
theorem MakesL.of {n c : Nat} {args : List V} {R0 : List (List D)} (h : ∀ s, ∃ t R, goS n c args [] s = some ⟨.w (.d (.l t R)), [], []⟩ ∧ erR R = R0 ∧ (Inj s → Fr s (D.l t R).sts)) : MakesL n c args R0 :=
 ⟨fun s => (h s).choose, fun s => (h s).choose_spec.choose, fun s => (h s).choose_spec.choose_spec⟩
theorem Makes.of {n c : Nat} {args : List V} {sz : Nat} {r : List D} (h : ∀ s, ∃ o, goS n c args [] s = some ⟨rowX o, [], []⟩ ∧ o.length = sz ∧ erL o = r ∧ (Inj s → Fr s (stsL o))) : Makes n c args sz r :=
 ⟨fun s => (h s).choose, fun s => (h s).choose_spec⟩
theorem Past.lastL {s0 s : Sup} {R : List (List D)} (h : Past s0 s (stsR R)) (k : Nat) : Fr s0 (D.l (s k) R).sts := by
 rw [sts_l]; split
 · exact ⟨by simp, by simp⟩
 · exact h.last k
def ToInv (rows : List (List D)) (tgt : List D → List D) (zero : List D) (sz bx st0 : Nat) (s0 : Sup) (k : Nat) (st : St) : Prop :=
 ∃ (i : Nat) (R : List (List D)), i + k = rows.length ∧ st.τ 0 = .w (.d (.l st0 rows)) ∧ st.τ 3 = .w (.own bx 0 rows.length (some rows.length)) ∧ st.τ 4 = iV i ∧ st.H bx = .row none sz (R ++ List.replicate k zero) 0 ∧ bx < st.g ∧
  erR R = (rows.take i).map tgt ∧ R.length = i ∧ (Inj s0 → Past s0 st.s (stsR R))
theorem runS_toS_L (sz bytes c n : Nat) (zero : List D) (hz : zero.length = sz) (hci : (modeT c).inout = false) (st0 : Nat) (tgt : List D → List D) (rows : List (List D)) (hr : ∀ r ∈ rows, r.length = sz)
 (hc : ∀ r ∈ rows, Makes n c [rowX r] sz (tgt r)) (hl : rows.length < 2 ^ 40) (hn : rows.length < n) (s0 : Sup) (st : St) (bx : Nat)
 (h0 : st.τ 0 = .w (.d (.l st0 rows))) (h3 : st.τ 3 = .w (.own bx 0 rows.length (some rows.length))) (h4 : st.τ 4 = iV 0) (hB : st.H bx = .row none sz (List.replicate rows.length zero) 0) (hg : bx < st.g) (hp : Inj s0 → Past s0 st.s []) :
 ∃ e st', execC (goS n) modeT GT true 23 n (toS_L0 sz bytes zero c) st = some (e, st') ∧ e ≠ .normal ∧ (e = .exit 0 ∧ ∃ R, st'.τ 3 = .w (.own bx 0 rows.length (some rows.length)) ∧ st'.H bx = .row none sz R 0 ∧ erR R = rows.map tgt ∧ R.length = rows.length ∧ (Inj s0 → Past s0 st'.s (stsR R))) := by
 rw [toS_L0, execC_loop]; refine iter_rule (ToInv rows tgt zero sz bx st0 s0) ?_ n rows.length st hn ⟨0, [], by omega, h0, h3, by simpa using h4, by simpa using hB, hg, by simp [erR], rfl, by simpa [stsR] using hp⟩
 clear h0 h3 h4 hB hg hp; rintro k ⟨τ, H, g, s⟩ ⟨i, R, hk, h0, h3, h4, hB, hg, hR, hRl, hp⟩; simp only at h0 h3 h4 hB hg hp; cases k with
 | zero =>
  have : i = rows.length := by omega
  subst this; rw [List.take_length] at hR; simp only [List.replicate_zero, List.append_nil] at hB; refine ⟨.exit 0, ?_⟩
  simp [toS_B0, h0, h3, h4, hB]; exact ⟨hR, hRl, fun hi => (hp hi).weak⟩
 | succ k =>
  have hlt : i < rows.length := by omega
  have hlt' : ((i : Int) < (rows.length : Int)) = True := eq_true (by omega); have hgt := List.getElem?_eq_getElem hlt; have hmem := List.getElem_mem hlt; have hw := wrap_succ (i := i) (by omega); have hrl := hr _ hmem; obtain ⟨o, ho⟩ := hc _ hmem; generalize rows[i] = r at hgt hrl ho; have w := fun s => (ho s).1
  have hol := fun s => (ho s).2.1
  have hget := fill_get (k := k) hRl zero; have hset := fun x => fill_set (k := k) hRl zero x
  have pf : List.take sz r = r := List.take_of_length_le (by omega); have sp : List.drop sz zero = [] := List.drop_of_length_le (by omega); have fgX := far hg; refine ⟨.normal, ?_⟩
  simp [-getElem?_pos, -List.map_take, -modeT, hci, toS_B0, h0, h3, h4, hB, hlt, hlt', hgt, hrl, hol, pf, mkV, w, hw, hget, hset, frzL_map, ren_comp, ren_map, datas_map, sp, hz, wnames_map, fnames_map, fgX]; refine ⟨k, by omega, i + 1, R ++ [o fun k => subS (restS s) 6 (2 * k + 1)], by omega, by simp [upd, h0], by simp [upd, h3], by simp [upd], by simp [upd], by show bx < g + 256 + 576 + 192; omega, ?_, by simp [hRl], fun hi => ?_⟩
  · rw [erR_append, hR, List.take_add_one, hgt]
    simp [erR, (ho _).2.2.1]
  · have h1 := (hp hi).weak
    have h2 := (ho (fun k => subS (restS s) 6 (2 * k + 1))).2.2.2 (inj_arg (inj_sub h1.inj 6)); have h3 := (h1.one 6 (Fr.sub (f := fun k => 2 * k + 1) h2)).weak; rw [stsR_append]
    simpa [stsR] using h3
theorem runS_toS {f sz bytes c n : Nat} {zero : List D} (hF : FT f = some (toS sz bytes zero c)) (hz : zero.length = sz) (hs : isS f = true := by rfl) (hm : modeT f = { stamp := true } := by rfl) (hci : (modeT c).inout = false := by rfl) (st0 : Nat) (tgt : List D → List D) (rows : List (List D)) (hr : ∀ r ∈ rows, r.length = sz)
 (hc : ∀ r ∈ rows, Makes n c [rowX r] sz (tgt r)) (hb : bytes ≤ 128) (hl : rows.length < 2 ^ 30) (hn : rows.length < n) : MakesL (n + 1) f [.w (.d (.l st0 rows))] (rows.map tgt) := by
 refine .of fun s => ?_
 have hrm : room rows.length bytes = true := room_of (by omega) (by omega); simp [-modeT, gos_of hF hs, toS, hm, hrm, hz]; generalize hst : St.mk _ _ _ _ = st; obtain ⟨e, ⟨τ', H', g', s'⟩, hx, -, rfl, R, h3, hB, hR, hRl, hp⟩ := runS_toS_L sz bytes c n zero hz hci st0 tgt rows hr hc (by omega) (by omega) s st 192 (by simp [← hst]) (by simp [← hst]) (by simp [← hst]) (by simp [← hst]) (by simp [← hst]) (by rw [← hst]; exact fun hi => (past_0 hi).weak.weak.weak); simp only at h3 hB hp; clear hst; have tk : List.take rows.length R = R := List.take_of_length_le (by omega); refine ⟨restS s' 0, R, ?_, hR, fun hi => (hp hi).weak.lastL 0⟩
 simp [-modeT, hx, h3, hB, hm, tk, hRl]
end Go.VM
