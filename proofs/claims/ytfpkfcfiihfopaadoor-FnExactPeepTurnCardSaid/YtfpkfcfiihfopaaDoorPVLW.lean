/- The laws' own helpers: the shape of their code, and what it reckons. Conditions: none. -/
import Derived.Test.YtfpkfcfiihfopaaDoorPVZ1

namespace Go.VM
set_option linter.unusedSimpArgs false
set_option linter.unusedVariables false
set_option maxHeartbeats 4000000
def toS_B0 (sz : Nat) (bytes : Nat) (zero : List D) (c : Nat) : C :=
 (.seq (.seq (.reg [⟨(some 8), .mv (.t 4), none⟩,
 ⟨(some 9), .mv (.t 0), none⟩,
 ⟨(some 10), .lenl (.t 9), none⟩,
 ⟨(some 11), .bin .lss .one (.t 8) (.t 10), none⟩])
 (.cond (.t 11)
  .skip
  (.exit 0)))
 (.seq (.block 1
  (.reg [⟨(some 14), .mv (.t 3), none⟩,
   ⟨(some 15), .mv (.t 4), none⟩,
   ⟨(some 16), .mv (.t 0), none⟩,
   ⟨(some 17), .mv (.t 4), none⟩,
   ⟨(some 18), .ia sz (.t 16) (.t 17), none⟩,
   ⟨(some 19), .ld true sz (.t 18), none⟩,
   ⟨(some 20), .call (.k (.w (.fn c []))) [(.t 19)], none⟩,
   ⟨(some 21), .ia sz (.t 14) (.t 15), none⟩,
   ⟨none, .st sz (.t 21) (.t 20), none⟩]))
 (.reg [⟨(some 12), .mv (.t 4), none⟩,
  ⟨(some 13), .bin .add .one (.t 12) (.k (.w (.d (.s (.int .i64 1))))), none⟩,
  ⟨(some 4), .mv (.t 13), none⟩])))
def toS_L0 (sz : Nat) (bytes : Nat) (zero : List D) (c : Nat) : C :=
 .loop (toS_B0 sz bytes zero c)
def toS (sz : Nat) (bytes : Nat) (zero : List D) (c : Nat) : Fn :=
 ⟨23, [.tmp 2],
 (.seq (.reg [⟨(some 2), .mv (.k (.w .nil)), none⟩])
 (.seq (.reg [⟨(some 5), .mv (.t 0), none⟩,
  ⟨(some 6), .lenl (.t 5), none⟩,
  ⟨(some 7), .msl sz bytes zero (.t 6) (.t 6), none⟩,
  ⟨(some 3), .mv (.t 7), none⟩])
 (.seq (.seq (.reg [⟨(some 4), .mv (.k (.w (.d (.s (.int .i64 0))))), none⟩])
 (.block 0
  (toS_L0 sz bytes zero c)))
 (.seq (.reg [⟨(some 22), .mv (.t 3), none⟩,
  ⟨(some 2), .mv (.t 22), none⟩])
 .ret))))⟩
def szL : Fn :=
 ⟨12, [.tmp 4],
 (.seq (.reg [⟨(some 4), .mv (.k (.w (.d (.s (.int .i64 0))))), none⟩])
 (.seq (.reg [⟨(some 5), .mv (.t 1), none⟩,
  ⟨(some 6), .mv (.t 0), none⟩,
  ⟨(some 7), .lenl (.t 6), none⟩,
  ⟨(some 8), .bin .sub .one (.t 5) (.t 7), none⟩,
  ⟨(some 1), .mv (.t 8), none⟩])
 (.seq (.seq (.reg [⟨(some 9), .mv (.t 1), none⟩,
  ⟨(some 10), .bin .lss .one (.t 9) (.k (.w (.d (.s (.int .i64 0))))), none⟩])
 (.cond (.t 10)
  (.seq (.reg [⟨(some 4), .mv (.k (.w (.d (.s (.int .i64 (-1)))))), none⟩])
  .ret)
  .skip))
 (.seq (.reg [⟨(some 11), .mv (.t 1), none⟩,
  ⟨(some 4), .mv (.t 11), none⟩])
 .ret))))⟩
def eqS_B0 (sz : Nat) (c : Nat) : C :=
 (.seq (.seq (.reg [⟨(some 11), .mv (.t 5), none⟩,
 ⟨(some 12), .mv (.t 0), none⟩,
 ⟨(some 13), .lenl (.t 12), none⟩,
 ⟨(some 14), .bin .lss .one (.t 11) (.t 13), none⟩])
 (.cond (.t 14)
  .skip
  (.exit 0)))
 (.seq (.block 1
  (.seq (.dreg [⟨(some 17), .mv (.t 0), none⟩,
   ⟨(some 18), .mv (.t 5), none⟩,
   ⟨(some 19), .ia sz (.t 17) (.t 18), none⟩,
   ⟨(some 20), .ld true sz (.t 19), none⟩,
   ⟨(some 21), .mv (.t 1), none⟩,
   ⟨(some 22), .mv (.t 5), none⟩,
   ⟨(some 23), .ia sz (.t 21) (.t 22), none⟩,
   ⟨(some 24), .ld true sz (.t 23), none⟩,
   ⟨(some 25), .call (.k (.w (.fn c []))) [(.t 20), (.t 24)], none⟩,
   ⟨(some 26), .un .not (.t 25), none⟩] [0, 0, 3, 7, 0, 0, 48, 112, 255, 511])
  (.cond (.t 26)
   (.seq (.reg [⟨(some 4), .mv (.k (.w (.d (.s (.bool false))))), none⟩])
   .ret)
   .skip)))
 (.reg [⟨(some 15), .mv (.t 5), none⟩,
  ⟨(some 16), .bin .add .one (.t 15) (.k (.w (.d (.s (.int .i64 1))))), none⟩,
  ⟨(some 5), .mv (.t 16), none⟩])))
def eqS_L0 (sz : Nat) (c : Nat) : C :=
 .loop (eqS_B0 sz c)
def eqS (sz : Nat) (c : Nat) : Fn :=
 ⟨27, [.tmp 4],
 (.seq (.reg [⟨(some 4), .mv (.k (.w (.d (.s (.bool false))))), none⟩])
 (.seq (.seq (.reg [⟨(some 6), .mv (.t 0), none⟩,
  ⟨(some 7), .lenl (.t 6), none⟩,
  ⟨(some 8), .mv (.t 1), none⟩,
  ⟨(some 9), .lenl (.t 8), none⟩,
  ⟨(some 10), .bin .neq .one (.t 7) (.t 9), none⟩])
 (.cond (.t 10)
  (.seq (.reg [⟨(some 4), .mv (.k (.w (.d (.s (.bool false))))), none⟩])
  .ret)
  .skip))
 (.seq (.seq (.reg [⟨(some 5), .mv (.k (.w (.d (.s (.int .i64 0))))), none⟩])
 (.block 0
  (eqS_L0 sz c)))
 (.seq (.reg [⟨(some 4), .mv (.k (.w (.d (.s (.bool true))))), none⟩])
 .ret))))⟩
theorem datas_map (l : List D) : datas? (l.map W.d) = some l := by
 induction l with
 | nil => rfl
 | cons a r ih => simp [datas?, ih, W.data?]
theorem frzL_map (stamp : Bool) (s : Sup) (z : Fz) (l : List D) : frzL stamp s z (l.map W.d) = some (l.map W.d, z) := by
 induction l with
 | nil => rfl
 | cons a r ih => simp [frzL, ih, frzW]
theorem wnames_map (l : List D) : wnames (l.map W.d) = [] := by
 induction l with
 | nil => rfl
 | cons a r ih => simp [wnames, W.names]
theorem ren_map (ρ : Nat → Nat) (l : List D) : (l.map W.d).map (W.ren ρ) = l.map W.d := by
 rw [List.map_map]; rfl
abbrev rowX (r : List D) : V := .agg (r.map W.d)
theorem fnames_map (l : List D) : (l.map W.d).flatMap W.names = [] := wnames_map l
theorem ren_comp (ρ : Nat → Nat) : (W.ren ρ ∘ W.d) = W.d := funext fun _ => rfl
theorem run_szL {f n : Nat} (hF : FT f = some szL) (hof : orc f = false := by rfl) (hsf : spIds.contains f = false := by rfl) (hm : mode f = {} := by rfl) (st0 : Nat) (rows : List (List D)) (hl : rows.length < 2 ^ 63) (K : Nat) (hK : K < 2 ^ 40) (s : Sup) :
 go (n + 1) f [.w (.d (.l st0 rows)), iV K] [] s = some ⟨iV (if rows.length ≤ K then ((K - rows.length : Nat) : Int) else -1), [], []⟩ := by
 have hwr : IntKind.i64.wrap ((K : Int) - (rows.length : Int)) = (K : Int) - (rows.length : Int) := wrap_id (by omega) (by omega)
 by_cases hKl : K < rows.length
 · have hi : ((K : Int) - (rows.length : Int) < 0) = True := eq_true (by omega)
   rw [if_neg (by omega)]; simp [-mode, go_of hF hof hsf, szL, hm, hwr, hi]
 · have hi : ((K : Int) - (rows.length : Int) < 0) = False := eq_false (by omega)
   rw [if_pos (by omega)]; simp [-mode, go_of hF hof hsf, szL, hm, hwr, hi]; omega
theorem run_eqT {f sz c n : Nat} (hF : FT f = some (eqS sz c)) (hof : orc f = false := by rfl) (hsf : spIds.contains f = false := by rfl) (hm : mode f = {} := by rfl) (hci : (mode c).inout = false := by rfl) (a b : Nat) (rows rows' : List (List D)) (hlen : rows.length = rows'.length) (hr : ∀ r ∈ rows, r.length = sz) (hr' : ∀ r ∈ rows', r.length = sz)
 (hc : ∀ (i : Nat) r r', rows[i]? = some r → rows'[i]? = some r' → ∀ s, go n c [rowX r, rowX r'] [] s = some ⟨bV true, [], []⟩) (hl : rows.length < 2 ^ 60) (hn : rows.length < n) (s : Sup) :
 go (n + 1) f [.w (.d (.l a rows)), .w (.d (.l b rows'))] [] s = some ⟨bV true, [], []⟩ := by
 have hli : ((rows.length : Int) = (rows'.length : Int)) = True := eq_true (by omega); simp [-mode, go_of hF hof hsf, eqS, hm, hli, hlen]; generalize hst : St.mk _ _ _ _ = st; have key : ∃ e st', execC (go n) mode GT false 27 n (eqS_L0 sz c) st = some (e, st') ∧ e ≠ .normal ∧ e = .exit 0 := by
  rw [eqS_L0, execC_loop]; refine iter_rule (fun k st => ∃ i, i + k = rows.length ∧ st.τ 0 = .w (.d (.l a rows)) ∧ st.τ 1 = .w (.d (.l b rows')) ∧ st.τ 5 = iV i) ?_ n rows.length st hn ⟨0, by omega, by simp [← hst], by simp [← hst], by simp [← hst]⟩
  clear hst; rintro k ⟨τ, H, g, s⟩ ⟨i, hk, h0, h1, h5⟩; simp only at h0 h1 h5; cases k with
  | zero =>
   have : i = rows.length := by omega
   subst this; refine ⟨.exit 0, ?_⟩
   simp [-getElem?_pos, eqS_B0, h0, h1, h5]
  | succ k =>
   have hlt : i < rows.length := by omega
   have hlt' : ((i : Int) < (rows.length : Int)) = True := eq_true (by omega); have hgt := List.getElem?_eq_getElem hlt; have hmem := List.getElem_mem hlt; have hltm : i < rows'.length := by omega
   have hgm := List.getElem?_eq_getElem hltm; have hmm := List.getElem_mem hltm; have hw := wrap_succ (i := i) (by omega); have hrl := hr _ hmem; have hrm := hr' _ hmm; have w := hc i _ _ hgt hgm; generalize rows[i] = r at hgt hrl w; generalize rows'[i] = r' at hgm hrm w; have pf : List.take sz r = r := List.take_of_length_le (by omega); have pf' : List.take sz r' = r' := List.take_of_length_le (by omega); refine ⟨.normal, ?_⟩
   simp [-getElem?_pos, -mode, hci, eqS_B0, h0, h1, h5, hlt, hlt', hltm, hgt, hgm, hrl, hrm, pf, pf', mkV, w, hw, frzL_map, ren_comp, ren_map, datas_map, wnames_map, fnames_map]; exact ⟨k, by omega, i + 1, by omega, by simp⟩
 obtain ⟨e, ⟨τ', H', g', s'⟩, hx, -, rfl⟩ := key; clear hst; simp [-mode, hx, hm]
end Go.VM
