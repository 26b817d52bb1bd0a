/- A store that is played, reckoned. Conditions: none. -/
import Derived.Test.YthkednnfadhidaaVH3
namespace Go.VM
set_option linter.unusedSimpArgs false
set_option linter.unusedVariables false
set_option maxHeartbeats 4000000

theorem wrs_get {l : List Wr} {i : Nat} {a : Wr} (h : l[i]? = some a) : (wrs l)[i]? = some [.s (.int .i64 a.k), .s (.int .i64 a.s), .s (.int .u8 a.v)] := by simp [wrs, Wr.row, h]

theorem RomAt.mono {H : Nat → Box} {g b : Nat} {r : Rom} (h : RomAt H g b r) {g' : Nat} (hg : g ≤ g') : RomAt H g' b r := by
  cases h with
  | nn hb h ha hb' => exact .nn (by omega) h ha hb'
  | on p c hb hp hpb h hr hb' => exact .on p c (by omega) (by omega) hpb h hr hb'
  | no q d hb hq hqb h hs ha => exact .no q d (by omega) (by omega) hqb h hs ha
  | oo p c q d hb hp hpb hq hqb hpq h hr hs => exact .oo p c q d (by omega) (by omega) hpb (by omega) hqb hpq h hr hs
theorem RomAt.lt {H : Nat → Box} {g b : Nat} {r : Rom} (h : RomAt H g b r) : b < g := by
  cases h <;> assumption

theorem loop12 {n : Nat} (sw : Nat) (l : List Wr) (hn : l.length < n + 2) (hl : l.length < 2 ^ 62) (b q : Nat) (r : Rom) (cs : List W) (st : St) (h7 : st.τ 7 = .w (.ptr b 0)) (h18 : st.τ 18 = .w (wW sw l)) (h19 : st.τ 19 = sV (.int .i64 l.length)) (h20 : st.τ 20 = sV (.int .i64 0))
    (h6 : st.τ 6 = .w (.ptr q 0)) (hq : q < st.g) (hqb : q ≠ b) (hQ : st.H q = .cells cs) (hR : RomAt st.H st.g b r) :
    ∃ e st', execC (go (n + 2)) mode (fun _ => none) false 29 (n + 2) F12_L0 st = some (e, st') ∧ e ≠ .normal ∧ (e = .exit 0 ∧ st'.τ 7 = .w (.ptr b 0) ∧ st'.τ 6 = .w (.ptr q 0) ∧ q < st'.g ∧ st'.H q = .cells cs ∧ RomAt st'.H st'.g b (l.foldl Rom.doW r)) := by
  rw [F12_L0, execC_loop]
  refine iter_rule (fun k st => ∃ i, i + k = l.length ∧ st.τ 7 = .w (.ptr b 0) ∧ st.τ 18 = .w (wW sw l) ∧ st.τ 19 = sV (.int .i64 l.length) ∧ st.τ 20 = sV (.int .i64 i) ∧
    st.τ 6 = .w (.ptr q 0) ∧ q < st.g ∧ st.H q = .cells cs ∧ RomAt st.H st.g b ((l.take i).foldl Rom.doW r)) ?_ (n + 2) l.length st hn ⟨0, by omega, h7, h18, h19, by simpa using h20, h6, hq, hQ, by simpa using hR⟩
  rintro k ⟨τ, H, g, s⟩ ⟨i, hk, h7, h18, h19, h20, h6, hq, hQ, hR⟩
  simp only at h7 h18 h19 h20 h6 hq hQ hR
  cases k with
  | zero =>
    have : i = l.length := by omega
    subst this
    rw [List.take_length] at hR
    refine ⟨.exit 0, ?_⟩
    simp [F12_B0, h7, h18, h19, h20, h6, hQ]
    exact ⟨by omega, hR.mono (by omega)⟩
  | succ k =>
    have hlt : i < l.length := by omega
    have hg := List.getElem?_eq_getElem hlt
    have hb := wrs_get hg
    have hw := wrap_succ (i := i) (by omega)
    refine ⟨.normal, ?_⟩
    simp [-callV_at, -getElem?_pos, F12_B0, h7, h18, h19, h20, h6, hQ, hlt, hb, hw]
    generalize hHH : VM.upd (VM.upd H (g + 64 + 128) _) (g + 64 + 128) _ = HH
    have hRH : RomAt HH (g + 64 + 256 + 64) b ((l.take i).foldl Rom.doW r) := by
      rw [← hHH]
      exact (hR.upd (m := g + 64 + 128) (g' := g) (by omega) (Nat.le_refl _) _).upd (m := g + 64 + 128) (g' := g + 64 + 256 + 64) (by omega) (by omega) _
    have hQH : HH q = .cells cs := by
      rw [← hHH]
      have e1 : (q = g + 64 + 128) = False := eq_false (by omega)
      simp [hQ, e1]
    obtain ⟨⟨v1, H1, t1, w1⟩, he, hR', hK⟩ := write_call (n := n) (s := subS (restS (restS s)) 1) l[i] hRH
    have hQ' := hK q cs (by omega) hqb hQH
    simp only at hR' hQ'
    simp [-callV_at, he, h7, h18, h19, h20, h6, hw, hQ']

    refine ⟨k, by omega, i + 1, by omega, rfl, by omega, ?_⟩
    rw [List.take_add_one, hg, List.foldl_append]
    exact hR'.mono (by omega)


def Rom.play (r : Rom) (l : List Wr) (k : Int) : Rom := (l.take (max 0 (min k l.length)).toNat).foldl Rom.doW r
theorem doW_a (r : Rom) (w : Wr) : (r.doW w).ra.length ≤ max r.ra.length 20100 := by
  unfold Rom.doW
  repeat' split
  all_goals (try simp only [List.length_append, List.length_cons, List.length_nil])
  all_goals omega
theorem doW_b (r : Rom) (w : Wr) : (r.doW w).rb.length ≤ max r.rb.length 20100 := by
  unfold Rom.doW
  repeat' split
  all_goals (try simp only [List.length_append, List.length_cons, List.length_nil])
  all_goals omega
theorem fold_a : ∀ (l : List Wr) (r : Rom), (l.foldl Rom.doW r).ra.length ≤ max r.ra.length 20100
  | [], r => by simp; omega
  | w :: l, r => by
    have h1 := fold_a l (r.doW w)
    have h2 := doW_a r w
    rw [List.foldl_cons]
    omega
theorem fold_b : ∀ (l : List Wr) (r : Rom), (l.foldl Rom.doW r).rb.length ≤ max r.rb.length 20100
  | [], r => by simp; omega
  | w :: l, r => by
    have h1 := fold_b l (r.doW w)
    have h2 := doW_b r w
    rw [List.foldl_cons]
    omega
theorem room_b {n : Nat} (h : n ≤ 2 ^ 30) : room n 1 = true := by simp [room]; omega
def Rom.small (r : Rom) : Prop := r.ra.length ≤ 2 ^ 30 ∧ r.rb.length ≤ 2 ^ 30
theorem play_small {r : Rom} (h : r.small) (l : List Wr) (k : Int) : (r.play l k).small := by
  have h1 := fold_a (l.take (max 0 (min k l.length)).toNat) r
  have h2 := fold_b (l.take (max 0 (min k l.length)).toNat) r
  exact ⟨Nat.le_trans h1 (by have := h.1; omega), Nat.le_trans h2 (by have := h.2; omega)⟩

/-- A store in a box is copied. -/
theorem copy_call {n : Nat} {H : Nat → Box} {g b : Nat} {s : Sup} {r : Rom} (h : RomAt H g b r) (hsm : r.small) (cs : List W) (hc : H b = .cells cs) :
    ∃ e, callV (go (n + 3)) mode false H g s 54 [.agg cs] = some e ∧ e.v = .agg (romV r.am r.at_ (ownW g r.ra.length (some r.ra.length)) r.bm r.bt (ownW (g + 1) r.rb.length (some r.rb.length))) ∧ e.H g = rowB r.ra ∧ e.H (g + 1) = rowB r.rb ∧
      (∀ m ds, H m = .cells ds → m < g → e.H m = .cells ds) := by
  have h1 := room_b hsm.1
  have h2 := room_b hsm.2
  cases h with
  | nn hb hh ha hb' =>
    rw [hc] at hh; cases hh
    have C : ∀ s, go (n + 3) 54 [.agg (romV r.am r.at_ (.d (.l 0 [])) r.bm r.bt (.d (.l 0 [])))] [] s = some ⟨.agg (romV r.am r.at_ (ownW 0 0 (some 0)) r.bm r.bt (ownW 1 0 (some 0))), [], [.row none 1 [] 0, .row none 1 [] 0]⟩ :=
      fun s => run_copyOf (n := n + 3) (by omega) r.am r.at_ r.bm r.bt 0 0 [] [] rfl rfl s
    simp [C, ha, hb']
    intro m ds hm hg
    have e1 : (m = g) = False := eq_false (by omega)
    have e2 : (m = g + 1) = False := eq_false (by omega)
    simp [e1, e2, hm]
  | on p c hb hp hpb hh hr hb' =>
    rw [hc] at hh; cases hh
    have C : ∀ s, go (n + 3) 54 [.agg (romV r.am r.at_ (dW 0 r.ra) r.bm r.bt (.d (.l 0 [])))] [] s = some ⟨.agg (romV r.am r.at_ (ownW 0 r.ra.length (some r.ra.length)) r.bm r.bt (ownW 1 0 (some 0))), [], [rowB r.ra, .row none 1 [] 0]⟩ :=
      fun s => run_copyOf (n := n + 3) (by omega) r.am r.at_ r.bm r.bt 0 0 r.ra [] h1 rfl s
    have np3 : (p = g) = False := eq_false (by omega)
    have np4 : (g = p) = False := eq_false (by omega)
    have np5 : (p = g + 1) = False := eq_false (by omega)
    have np6 : (g + 1 = p) = False := eq_false (by omega)
    simp [C, np3, np4, np5, np6, hr, hb']
    intro m ds hm hg
    have e1 : (m = g) = False := eq_false (by omega)
    have e2 : (m = g + 1) = False := eq_false (by omega)
    have ep : (m = p) = False := eq_false (fun e => by subst e; rw [hr] at hm; cases hm)
    simp [e1, e2, hm, ep]
  | no q d hb hq hqb hh hs ha =>
    rw [hc] at hh; cases hh
    have C : ∀ s, go (n + 3) 54 [.agg (romV r.am r.at_ (.d (.l 0 [])) r.bm r.bt (dW 0 r.rb))] [] s = some ⟨.agg (romV r.am r.at_ (ownW 0 0 (some 0)) r.bm r.bt (ownW 1 r.rb.length (some r.rb.length))), [], [.row none 1 [] 0, rowB r.rb]⟩ :=
      fun s => run_copyOf (n := n + 3) (by omega) r.am r.at_ r.bm r.bt 0 0 [] r.rb rfl h2 s
    have nq3 : (q = g) = False := eq_false (by omega)
    have nq4 : (g = q) = False := eq_false (by omega)
    have nq5 : (q = g + 1) = False := eq_false (by omega)
    have nq6 : (g + 1 = q) = False := eq_false (by omega)
    simp [C, nq3, nq4, nq5, nq6, hs, ha]
    intro m ds hm hg
    have e1 : (m = g) = False := eq_false (by omega)
    have e2 : (m = g + 1) = False := eq_false (by omega)
    have eq : (m = q) = False := eq_false (fun e => by subst e; rw [hs] at hm; cases hm)
    simp [e1, e2, hm, eq]
  | oo p c q d hb hp hpb hq hqb hpq hh hr hs =>
    rw [hc] at hh; cases hh
    have C : ∀ s, go (n + 3) 54 [.agg (romV r.am r.at_ (dW 0 r.ra) r.bm r.bt (dW 0 r.rb))] [] s = some ⟨.agg (romV r.am r.at_ (ownW 0 r.ra.length (some r.ra.length)) r.bm r.bt (ownW 1 r.rb.length (some r.rb.length))), [], [rowB r.ra, rowB r.rb]⟩ :=
      fun s => run_copyOf (n := n + 3) (by omega) r.am r.at_ r.bm r.bt 0 0 r.ra r.rb h1 h2 s
    have np3 : (p = g) = False := eq_false (by omega)
    have np4 : (g = p) = False := eq_false (by omega)
    have np5 : (p = g + 1) = False := eq_false (by omega)
    have np6 : (g + 1 = p) = False := eq_false (by omega)
    have nq3 : (q = g) = False := eq_false (by omega)
    have nq4 : (g = q) = False := eq_false (by omega)
    have nq5 : (q = g + 1) = False := eq_false (by omega)
    have nq6 : (g + 1 = q) = False := eq_false (by omega)
    have n5 : (p = q) = False := eq_false hpq
    have n6 : (q = p) = False := eq_false (Ne.symm hpq)
    simp [C, np3, np4, np5, np6, nq3, nq4, nq5, nq6, n5, n6, hr, hs]
    intro m ds hm hg
    have e1 : (m = g) = False := eq_false (by omega)
    have e2 : (m = g + 1) = False := eq_false (by omega)
    have ep : (m = p) = False := eq_false (fun e => by subst e; rw [hr] at hm; cases hm)
    have eq : (m = q) = False := eq_false (fun e => by subst e; rw [hs] at hm; cases hm)
    simp [e1, e2, hm, ep, eq]

end Go.VM
