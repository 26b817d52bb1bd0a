/- A write to a store, reckoned. Conditions: none. -/
import Derived.Test.YthkednnfadhidaaVH2
namespace Go.VM
set_option linter.unusedSimpArgs false
set_option linter.unusedVariables false
set_option maxHeartbeats 4000000

/-- A store in a box, its bytes in rows of their own. -/
inductive RomAt (H : Nat → Box) (g b : Nat) (r : Rom) : Prop
  | nn (hb : b < g) (h : H b = .cells (romV r.am r.at_ .nil r.bm r.bt .nil)) (ha : r.ra = []) (hb' : r.rb = [])
  | on (p : Nat) (c : Option Nat) (hb : b < g) (hp : p < g) (hpb : p ≠ b) (h : H b = .cells (romV r.am r.at_ (ownW p r.ra.length c) r.bm r.bt .nil)) (hr : H p = rowB r.ra) (hb' : r.rb = [])
  | no (q : Nat) (d : Option Nat) (hb : b < g) (hq : q < g) (hqb : q ≠ b) (h : H b = .cells (romV r.am r.at_ .nil r.bm r.bt (ownW q r.rb.length d))) (hs : H q = rowB r.rb) (ha : r.ra = [])
  | oo (p : Nat) (c : Option Nat) (q : Nat) (d : Option Nat) (hb : b < g) (hp : p < g) (hpb : p ≠ b) (hq : q < g) (hqb : q ≠ b) (hpq : p ≠ q)
      (h : H b = .cells (romV r.am r.at_ (ownW p r.ra.length c) r.bm r.bt (ownW q r.rb.length d))) (hr : H p = rowB r.ra) (hs : H q = rowB r.rb)

theorem RomAt.upd {H : Nat → Box} {g b : Nat} {r : Rom} (h : RomAt H g b r) {m g' : Nat} (hm : g ≤ m) (hg : g ≤ g') (x : Box) : RomAt (VM.upd H m x) g' b r := by
  cases h with
  | nn hb h ha hb' => exact .nn (by omega) (by simp only [VM.upd]; rw [if_neg (by omega)]; exact h) ha hb'
  | on p c hb hp hpb h hr hb' => exact .on p c (by omega) (by omega) hpb (by simp only [VM.upd]; rw [if_neg (by omega)]; exact h) (by simp only [VM.upd]; rw [if_neg (by omega)]; exact hr) hb'
  | no q d hb hq hqb h hs ha => exact .no q d (by omega) (by omega) hqb (by simp only [VM.upd]; rw [if_neg (by omega)]; exact h) (by simp only [VM.upd]; rw [if_neg (by omega)]; exact hs) ha
  | oo p c q d hb hp hpb hq hqb hpq h hr hs =>
    exact .oo p c q d (by omega) (by omega) hpb (by omega) hqb hpq (by simp only [VM.upd]; rw [if_neg (by omega)]; exact h) (by simp only [VM.upd]; rw [if_neg (by omega)]; exact hr) (by simp only [VM.upd]; rw [if_neg (by omega)]; exact hs)

def Rom.doW (r : Rom) (w : Wr) : Rom :=
  if w.s = 0 then
    (if w.k = 1 then { r with am := w.v } else if w.k = 2 then { r with at_ := w.v } else if w.k = 3 then { r with ra := [] } else if w.k = 4 then (if r.ra.length < 20100 then { r with ra := r.ra ++ [w.v] } else r) else r)
  else if w.s = 1 then
    (if w.k = 1 then { r with bm := w.v } else if w.k = 2 then { r with bt := w.v } else if w.k = 3 then { r with rb := [] } else if w.k = 4 then (if r.rb.length < 20100 then { r with rb := r.rb ++ [w.v] } else r) else r)
  else r

/-- The other boxes of cells stay. -/
def Keeps (H H' : Nat → Box) (g b : Nat) : Prop := ∀ m cs, m < g → m ≠ b → H m = .cells cs → H' m = .cells cs

theorem room_1 {n : Nat} (h : n ≤ 20100) : room n 1 = true := by simp [room]; omega
theorem byt_app (l : List Int) (v : Int) : byt (l ++ [v]) = byt l ++ [[.s (.int .u8 v)]] := by simp [byt]
@[simp] theorem byt_nil : byt [] = [] := rfl
theorem byt_cons (x : Int) (l : List Int) : byt (x :: l) = [.s (.int .u8 x)] :: byt l := rfl

theorem write_nn_0 {n : Nat} {H : Nat → Box} {g b : Nat} {s : Sup} {am at_ bm bt : Int} {ra rb : List Int} {k sl v : Int} (hb : b < g) (h : H b = .cells (romV am at_ .nil bm bt .nil)) :
    ∃ e, callV (go (n + 2)) mode false H g s 55 [.w (.ptr b 0), .agg [.d (.s (.int .i64 k)), .d (.s (.int .i64 (0))), u8W v]] = some e ∧ RomAt e.H (g + 64) b (Rom.doW ⟨am, at_, [], bm, bt, []⟩ ⟨k, 0, v⟩) ∧ Keeps H e.H g b := by
  have nb3 : (b = g) = False := eq_false (by omega)
  have nb4 : (g = b) = False := eq_false (by omega)
  by_cases k1 : k = 1
  · subst k1
    simp [go_of FT_55 rfl, F55, go_of FT_52 rfl, F52, rowParts, Rom.doW, byt_app, byt_cons, byt_all, h, nb3, nb4]
    exact ⟨.nn (by omega) (by simp [nb3, nb4, h]) rfl rfl, fun m cs hm hmb hc => by
      have e1 : (m = g) = False := eq_false (by omega)
      have e2 : (m = b) = False := eq_false hmb
      simp [e1, e2, hc]⟩
  by_cases k2 : k = 2
  · subst k2
    simp [go_of FT_55 rfl, F55, go_of FT_52 rfl, F52, rowParts, Rom.doW, byt_app, byt_cons, byt_all, h, nb3, nb4]
    exact ⟨.nn (by omega) (by simp [nb3, nb4, h]) rfl rfl, fun m cs hm hmb hc => by
      have e1 : (m = g) = False := eq_false (by omega)
      have e2 : (m = b) = False := eq_false hmb
      simp [e1, e2, hc]⟩
  by_cases k3 : k = 3
  · subst k3
    simp [go_of FT_55 rfl, F55, go_of FT_52 rfl, F52, rowParts, Rom.doW, byt_app, byt_cons, byt_all, h, nb3, nb4]
    exact ⟨.nn (by omega) (by simp [nb3, nb4, h]) rfl rfl, fun m cs hm hmb hc => by
      have e1 : (m = g) = False := eq_false (by omega)
      have e2 : (m = b) = False := eq_false hmb
      simp [e1, e2, hc]⟩
  by_cases k4 : k = 4
  · subst k4
    have hm : room 1 1 = true := room_1 (by omega)
    simp [go_of FT_55 rfl, F55, go_of FT_52 rfl, F52, rowParts, Rom.doW, byt_app, byt_cons, byt_all, h, nb3, nb4, hm]
    exact ⟨.on g none (by omega) (by omega) (by omega) (by simp [nb3, nb4, h, byt_app, byt_cons]) (by simp [nb3, nb4, h, byt_app, byt_cons]) rfl, fun m cs hm hmb hc => by
      have e1 : (m = g) = False := eq_false (by omega)
      have e2 : (m = b) = False := eq_false hmb
      simp [e1, e2, hc]⟩
  simp [go_of FT_55 rfl, F55, go_of FT_52 rfl, F52, rowParts, Rom.doW, byt_app, byt_cons, byt_all, h, nb3, nb4, k1, k2, k3, k4]
  exact ⟨.nn (by omega) (by simp [nb3, nb4, h]) rfl rfl, fun m cs hm hmb hc => by
      have e1 : (m = g) = False := eq_false (by omega)
      have e2 : (m = b) = False := eq_false hmb
      simp [e1, e2, hc]⟩
theorem write_nn_1 {n : Nat} {H : Nat → Box} {g b : Nat} {s : Sup} {am at_ bm bt : Int} {ra rb : List Int} {k sl v : Int} (hb : b < g) (h : H b = .cells (romV am at_ .nil bm bt .nil)) :
    ∃ e, callV (go (n + 2)) mode false H g s 55 [.w (.ptr b 0), .agg [.d (.s (.int .i64 k)), .d (.s (.int .i64 (1))), u8W v]] = some e ∧ RomAt e.H (g + 64) b (Rom.doW ⟨am, at_, [], bm, bt, []⟩ ⟨k, 1, v⟩) ∧ Keeps H e.H g b := by
  have nb3 : (b = g) = False := eq_false (by omega)
  have nb4 : (g = b) = False := eq_false (by omega)
  by_cases k1 : k = 1
  · subst k1
    simp [go_of FT_55 rfl, F55, go_of FT_52 rfl, F52, rowParts, Rom.doW, byt_app, byt_cons, byt_all, h, nb3, nb4]
    exact ⟨.nn (by omega) (by simp [nb3, nb4, h]) rfl rfl, fun m cs hm hmb hc => by
      have e1 : (m = g) = False := eq_false (by omega)
      have e2 : (m = b) = False := eq_false hmb
      simp [e1, e2, hc]⟩
  by_cases k2 : k = 2
  · subst k2
    simp [go_of FT_55 rfl, F55, go_of FT_52 rfl, F52, rowParts, Rom.doW, byt_app, byt_cons, byt_all, h, nb3, nb4]
    exact ⟨.nn (by omega) (by simp [nb3, nb4, h]) rfl rfl, fun m cs hm hmb hc => by
      have e1 : (m = g) = False := eq_false (by omega)
      have e2 : (m = b) = False := eq_false hmb
      simp [e1, e2, hc]⟩
  by_cases k3 : k = 3
  · subst k3
    simp [go_of FT_55 rfl, F55, go_of FT_52 rfl, F52, rowParts, Rom.doW, byt_app, byt_cons, byt_all, h, nb3, nb4]
    exact ⟨.nn (by omega) (by simp [nb3, nb4, h]) rfl rfl, fun m cs hm hmb hc => by
      have e1 : (m = g) = False := eq_false (by omega)
      have e2 : (m = b) = False := eq_false hmb
      simp [e1, e2, hc]⟩
  by_cases k4 : k = 4
  · subst k4
    have hm : room 1 1 = true := room_1 (by omega)
    simp [go_of FT_55 rfl, F55, go_of FT_52 rfl, F52, rowParts, Rom.doW, byt_app, byt_cons, byt_all, h, nb3, nb4, hm]
    exact ⟨.no g none (by omega) (by omega) (by omega) (by simp [nb3, nb4, h, byt_app, byt_cons]) (by simp [nb3, nb4, h, byt_app, byt_cons]) rfl, fun m cs hm hmb hc => by
      have e1 : (m = g) = False := eq_false (by omega)
      have e2 : (m = b) = False := eq_false hmb
      simp [e1, e2, hc]⟩
  simp [go_of FT_55 rfl, F55, go_of FT_52 rfl, F52, rowParts, Rom.doW, byt_app, byt_cons, byt_all, h, nb3, nb4, k1, k2, k3, k4]
  exact ⟨.nn (by omega) (by simp [nb3, nb4, h]) rfl rfl, fun m cs hm hmb hc => by
      have e1 : (m = g) = False := eq_false (by omega)
      have e2 : (m = b) = False := eq_false hmb
      simp [e1, e2, hc]⟩
theorem write_nn_x {n : Nat} {H : Nat → Box} {g b : Nat} {s : Sup} {am at_ bm bt : Int} {ra rb : List Int} {k sl v : Int} (hb : b < g) (h : H b = .cells (romV am at_ .nil bm bt .nil)) (h0 : sl ≠ 0) (h1 : sl ≠ 1) :
    ∃ e, callV (go (n + 2)) mode false H g s 55 [.w (.ptr b 0), .agg [.d (.s (.int .i64 k)), .d (.s (.int .i64 (sl))), u8W v]] = some e ∧ RomAt e.H (g + 64) b (Rom.doW ⟨am, at_, [], bm, bt, []⟩ ⟨k, sl, v⟩) ∧ Keeps H e.H g b := by
  have nb3 : (b = g) = False := eq_false (by omega)
  have nb4 : (g = b) = False := eq_false (by omega)
  simp [go_of FT_55 rfl, F55, go_of FT_52 rfl, F52, rowParts, Rom.doW, byt_app, byt_cons, byt_all, h, nb3, nb4, h0, h1]
  exact ⟨.nn (by omega) (by simp [nb3, nb4, h]) rfl rfl, fun m cs hm hmb hc => by
      have e1 : (m = g) = False := eq_false (by omega)
      have e2 : (m = b) = False := eq_false hmb
      simp [e1, e2, hc]⟩

theorem write_on_0 {n : Nat} {H : Nat → Box} {g b : Nat} {s : Sup} {am at_ bm bt : Int} {ra rb : List Int} {k sl v : Int} {p : Nat} {c : Option Nat} (hb : b < g) (hp : p < g) (hpb : p ≠ b) (h : H b = .cells (romV am at_ (ownW p ra.length c) bm bt .nil)) (hr : H p = rowB ra) :
    ∃ e, callV (go (n + 2)) mode false H g s 55 [.w (.ptr b 0), .agg [.d (.s (.int .i64 k)), .d (.s (.int .i64 (0))), u8W v]] = some e ∧ RomAt e.H (g + 64) b (Rom.doW ⟨am, at_, ra, bm, bt, []⟩ ⟨k, 0, v⟩) ∧ Keeps H e.H g b := by
  have np1 : (p = b) = False := eq_false hpb
  have np2 : (b = p) = False := eq_false (Ne.symm hpb)
  have np3 : (p = g) = False := eq_false (by omega)
  have np4 : (g = p) = False := eq_false (by omega)
  have nb3 : (b = g) = False := eq_false (by omega)
  have nb4 : (g = b) = False := eq_false (by omega)
  by_cases k1 : k = 1
  · subst k1
    simp [go_of FT_55 rfl, F55, go_of FT_52 rfl, F52, rowParts, Rom.doW, byt_app, byt_cons, byt_all, h, hr, np1, np2, np3, np4, nb3, nb4]
    exact ⟨.on p c (by omega) (by omega) (by omega) (by simp [np1, np2, np3, np4, nb3, nb4, h, hr]) (by simp [np1, np2, np3, np4, nb3, nb4, h, hr]) rfl, fun m cs hm hmb hc => by
      have e1 : (m = g) = False := eq_false (by omega)
      have e2 : (m = b) = False := eq_false hmb
      have ep : (m = p) = False := eq_false (fun e => by subst e; rw [hr] at hc; cases hc)
      simp [e1, e2, hc, ep]⟩
  by_cases k2 : k = 2
  · subst k2
    simp [go_of FT_55 rfl, F55, go_of FT_52 rfl, F52, rowParts, Rom.doW, byt_app, byt_cons, byt_all, h, hr, np1, np2, np3, np4, nb3, nb4]
    exact ⟨.on p c (by omega) (by omega) (by omega) (by simp [np1, np2, np3, np4, nb3, nb4, h, hr]) (by simp [np1, np2, np3, np4, nb3, nb4, h, hr]) rfl, fun m cs hm hmb hc => by
      have e1 : (m = g) = False := eq_false (by omega)
      have e2 : (m = b) = False := eq_false hmb
      have ep : (m = p) = False := eq_false (fun e => by subst e; rw [hr] at hc; cases hc)
      simp [e1, e2, hc, ep]⟩
  by_cases k3 : k = 3
  · subst k3
    simp [go_of FT_55 rfl, F55, go_of FT_52 rfl, F52, rowParts, Rom.doW, byt_app, byt_cons, byt_all, h, hr, np1, np2, np3, np4, nb3, nb4]
    exact ⟨.nn (by omega) (by simp [np1, np2, np3, np4, nb3, nb4, h, hr]) rfl rfl, fun m cs hm hmb hc => by
      have e1 : (m = g) = False := eq_false (by omega)
      have e2 : (m = b) = False := eq_false hmb
      have ep : (m = p) = False := eq_false (fun e => by subst e; rw [hr] at hc; cases hc)
      simp [e1, e2, hc, ep]⟩
  by_cases k4 : k = 4
  · subst k4
    by_cases hl : ra.length < 20100
    · have hl2 : ((ra.length : Int) < 20100) = True := eq_true (by omega)
      have hm : room (ra.length + 1) 1 = true := room_1 (by omega)
      simp [go_of FT_55 rfl, F55, go_of FT_52 rfl, F52, rowParts, Rom.doW, byt_app, byt_cons, byt_all, h, hr, np1, np2, np3, np4, nb3, nb4, hl, hl2, hm]
      exact ⟨.on g none (by omega) (by omega) (by omega) (by simp [np1, np2, np3, np4, nb3, nb4, h, hr, byt_app, byt_cons]) (by simp [np1, np2, np3, np4, nb3, nb4, h, hr, byt_app, byt_cons]) rfl, fun m cs hm hmb hc => by
      have e1 : (m = g) = False := eq_false (by omega)
      have e2 : (m = b) = False := eq_false hmb
      have ep : (m = p) = False := eq_false (fun e => by subst e; rw [hr] at hc; cases hc)
      simp [e1, e2, hc, ep]⟩
    · have hl2 : ((ra.length : Int) < 20100) = False := eq_false (by omega)
      simp [go_of FT_55 rfl, F55, go_of FT_52 rfl, F52, rowParts, Rom.doW, byt_app, byt_cons, byt_all, h, hr, np1, np2, np3, np4, nb3, nb4, hl, hl2]
      exact ⟨.on p c (by omega) (by omega) (by omega) (by simp [np1, np2, np3, np4, nb3, nb4, h, hr]) (by simp [np1, np2, np3, np4, nb3, nb4, h, hr]) rfl, fun m cs hm hmb hc => by
      have e1 : (m = g) = False := eq_false (by omega)
      have e2 : (m = b) = False := eq_false hmb
      have ep : (m = p) = False := eq_false (fun e => by subst e; rw [hr] at hc; cases hc)
      simp [e1, e2, hc, ep]⟩
  simp [go_of FT_55 rfl, F55, go_of FT_52 rfl, F52, rowParts, Rom.doW, byt_app, byt_cons, byt_all, h, hr, np1, np2, np3, np4, nb3, nb4, k1, k2, k3, k4]
  exact ⟨.on p c (by omega) (by omega) (by omega) (by simp [np1, np2, np3, np4, nb3, nb4, h, hr]) (by simp [np1, np2, np3, np4, nb3, nb4, h, hr]) rfl, fun m cs hm hmb hc => by
      have e1 : (m = g) = False := eq_false (by omega)
      have e2 : (m = b) = False := eq_false hmb
      have ep : (m = p) = False := eq_false (fun e => by subst e; rw [hr] at hc; cases hc)
      simp [e1, e2, hc, ep]⟩
theorem write_on_1 {n : Nat} {H : Nat → Box} {g b : Nat} {s : Sup} {am at_ bm bt : Int} {ra rb : List Int} {k sl v : Int} {p : Nat} {c : Option Nat} (hb : b < g) (hp : p < g) (hpb : p ≠ b) (h : H b = .cells (romV am at_ (ownW p ra.length c) bm bt .nil)) (hr : H p = rowB ra) :
    ∃ e, callV (go (n + 2)) mode false H g s 55 [.w (.ptr b 0), .agg [.d (.s (.int .i64 k)), .d (.s (.int .i64 (1))), u8W v]] = some e ∧ RomAt e.H (g + 64) b (Rom.doW ⟨am, at_, ra, bm, bt, []⟩ ⟨k, 1, v⟩) ∧ Keeps H e.H g b := by
  have np1 : (p = b) = False := eq_false hpb
  have np2 : (b = p) = False := eq_false (Ne.symm hpb)
  have np3 : (p = g) = False := eq_false (by omega)
  have np4 : (g = p) = False := eq_false (by omega)
  have nb3 : (b = g) = False := eq_false (by omega)
  have nb4 : (g = b) = False := eq_false (by omega)
  by_cases k1 : k = 1
  · subst k1
    simp [go_of FT_55 rfl, F55, go_of FT_52 rfl, F52, rowParts, Rom.doW, byt_app, byt_cons, byt_all, h, hr, np1, np2, np3, np4, nb3, nb4]
    exact ⟨.on p c (by omega) (by omega) (by omega) (by simp [np1, np2, np3, np4, nb3, nb4, h, hr]) (by simp [np1, np2, np3, np4, nb3, nb4, h, hr]) rfl, fun m cs hm hmb hc => by
      have e1 : (m = g) = False := eq_false (by omega)
      have e2 : (m = b) = False := eq_false hmb
      have ep : (m = p) = False := eq_false (fun e => by subst e; rw [hr] at hc; cases hc)
      simp [e1, e2, hc, ep]⟩
  by_cases k2 : k = 2
  · subst k2
    simp [go_of FT_55 rfl, F55, go_of FT_52 rfl, F52, rowParts, Rom.doW, byt_app, byt_cons, byt_all, h, hr, np1, np2, np3, np4, nb3, nb4]
    exact ⟨.on p c (by omega) (by omega) (by omega) (by simp [np1, np2, np3, np4, nb3, nb4, h, hr]) (by simp [np1, np2, np3, np4, nb3, nb4, h, hr]) rfl, fun m cs hm hmb hc => by
      have e1 : (m = g) = False := eq_false (by omega)
      have e2 : (m = b) = False := eq_false hmb
      have ep : (m = p) = False := eq_false (fun e => by subst e; rw [hr] at hc; cases hc)
      simp [e1, e2, hc, ep]⟩
  by_cases k3 : k = 3
  · subst k3
    simp [go_of FT_55 rfl, F55, go_of FT_52 rfl, F52, rowParts, Rom.doW, byt_app, byt_cons, byt_all, h, hr, np1, np2, np3, np4, nb3, nb4]
    exact ⟨.on p c (by omega) (by omega) (by omega) (by simp [np1, np2, np3, np4, nb3, nb4, h, hr]) (by simp [np1, np2, np3, np4, nb3, nb4, h, hr]) rfl, fun m cs hm hmb hc => by
      have e1 : (m = g) = False := eq_false (by omega)
      have e2 : (m = b) = False := eq_false hmb
      have ep : (m = p) = False := eq_false (fun e => by subst e; rw [hr] at hc; cases hc)
      simp [e1, e2, hc, ep]⟩
  by_cases k4 : k = 4
  · subst k4
    have hm : room 1 1 = true := room_1 (by omega)
    simp [go_of FT_55 rfl, F55, go_of FT_52 rfl, F52, rowParts, Rom.doW, byt_app, byt_cons, byt_all, h, hr, np1, np2, np3, np4, nb3, nb4, hm]
    exact ⟨.oo p c g none (by omega) (by omega) (by omega) (by omega) (by omega) (by omega) (by simp [np1, np2, np3, np4, nb3, nb4, h, hr, byt_app, byt_cons]) (by simp [np1, np2, np3, np4, nb3, nb4, h, hr, byt_app, byt_cons]) (by simp [np1, np2, np3, np4, nb3, nb4, h, hr, byt_app, byt_cons]), fun m cs hm hmb hc => by
      have e1 : (m = g) = False := eq_false (by omega)
      have e2 : (m = b) = False := eq_false hmb
      have ep : (m = p) = False := eq_false (fun e => by subst e; rw [hr] at hc; cases hc)
      simp [e1, e2, hc, ep]⟩
  simp [go_of FT_55 rfl, F55, go_of FT_52 rfl, F52, rowParts, Rom.doW, byt_app, byt_cons, byt_all, h, hr, np1, np2, np3, np4, nb3, nb4, k1, k2, k3, k4]
  exact ⟨.on p c (by omega) (by omega) (by omega) (by simp [np1, np2, np3, np4, nb3, nb4, h, hr]) (by simp [np1, np2, np3, np4, nb3, nb4, h, hr]) rfl, fun m cs hm hmb hc => by
      have e1 : (m = g) = False := eq_false (by omega)
      have e2 : (m = b) = False := eq_false hmb
      have ep : (m = p) = False := eq_false (fun e => by subst e; rw [hr] at hc; cases hc)
      simp [e1, e2, hc, ep]⟩
theorem write_on_x {n : Nat} {H : Nat → Box} {g b : Nat} {s : Sup} {am at_ bm bt : Int} {ra rb : List Int} {k sl v : Int} {p : Nat} {c : Option Nat} (hb : b < g) (hp : p < g) (hpb : p ≠ b) (h : H b = .cells (romV am at_ (ownW p ra.length c) bm bt .nil)) (hr : H p = rowB ra) (h0 : sl ≠ 0) (h1 : sl ≠ 1) :
    ∃ e, callV (go (n + 2)) mode false H g s 55 [.w (.ptr b 0), .agg [.d (.s (.int .i64 k)), .d (.s (.int .i64 (sl))), u8W v]] = some e ∧ RomAt e.H (g + 64) b (Rom.doW ⟨am, at_, ra, bm, bt, []⟩ ⟨k, sl, v⟩) ∧ Keeps H e.H g b := by
  have np1 : (p = b) = False := eq_false hpb
  have np2 : (b = p) = False := eq_false (Ne.symm hpb)
  have np3 : (p = g) = False := eq_false (by omega)
  have np4 : (g = p) = False := eq_false (by omega)
  have nb3 : (b = g) = False := eq_false (by omega)
  have nb4 : (g = b) = False := eq_false (by omega)
  simp [go_of FT_55 rfl, F55, go_of FT_52 rfl, F52, rowParts, Rom.doW, byt_app, byt_cons, byt_all, h, hr, np1, np2, np3, np4, nb3, nb4, h0, h1]
  exact ⟨.on p c (by omega) (by omega) (by omega) (by simp [np1, np2, np3, np4, nb3, nb4, h, hr]) (by simp [np1, np2, np3, np4, nb3, nb4, h, hr]) rfl, fun m cs hm hmb hc => by
      have e1 : (m = g) = False := eq_false (by omega)
      have e2 : (m = b) = False := eq_false hmb
      have ep : (m = p) = False := eq_false (fun e => by subst e; rw [hr] at hc; cases hc)
      simp [e1, e2, hc, ep]⟩

theorem write_no_0 {n : Nat} {H : Nat → Box} {g b : Nat} {s : Sup} {am at_ bm bt : Int} {ra rb : List Int} {k sl v : Int} {q : Nat} {d : Option Nat} (hb : b < g) (hq : q < g) (hqb : q ≠ b) (h : H b = .cells (romV am at_ .nil bm bt (ownW q rb.length d))) (hs : H q = rowB rb) :
    ∃ e, callV (go (n + 2)) mode false H g s 55 [.w (.ptr b 0), .agg [.d (.s (.int .i64 k)), .d (.s (.int .i64 (0))), u8W v]] = some e ∧ RomAt e.H (g + 64) b (Rom.doW ⟨am, at_, [], bm, bt, rb⟩ ⟨k, 0, v⟩) ∧ Keeps H e.H g b := by
  have nq1 : (q = b) = False := eq_false hqb
  have nq2 : (b = q) = False := eq_false (Ne.symm hqb)
  have nq3 : (q = g) = False := eq_false (by omega)
  have nq4 : (g = q) = False := eq_false (by omega)
  have nb3 : (b = g) = False := eq_false (by omega)
  have nb4 : (g = b) = False := eq_false (by omega)
  by_cases k1 : k = 1
  · subst k1
    simp [go_of FT_55 rfl, F55, go_of FT_52 rfl, F52, rowParts, Rom.doW, byt_app, byt_cons, byt_all, h, hs, nq1, nq2, nq3, nq4, nb3, nb4]
    exact ⟨.no q d (by omega) (by omega) (by omega) (by simp [nq1, nq2, nq3, nq4, nb3, nb4, h, hs]) (by simp [nq1, nq2, nq3, nq4, nb3, nb4, h, hs]) rfl, fun m cs hm hmb hc => by
      have e1 : (m = g) = False := eq_false (by omega)
      have e2 : (m = b) = False := eq_false hmb
      have eq : (m = q) = False := eq_false (fun e => by subst e; rw [hs] at hc; cases hc)
      simp [e1, e2, hc, eq]⟩
  by_cases k2 : k = 2
  · subst k2
    simp [go_of FT_55 rfl, F55, go_of FT_52 rfl, F52, rowParts, Rom.doW, byt_app, byt_cons, byt_all, h, hs, nq1, nq2, nq3, nq4, nb3, nb4]
    exact ⟨.no q d (by omega) (by omega) (by omega) (by simp [nq1, nq2, nq3, nq4, nb3, nb4, h, hs]) (by simp [nq1, nq2, nq3, nq4, nb3, nb4, h, hs]) rfl, fun m cs hm hmb hc => by
      have e1 : (m = g) = False := eq_false (by omega)
      have e2 : (m = b) = False := eq_false hmb
      have eq : (m = q) = False := eq_false (fun e => by subst e; rw [hs] at hc; cases hc)
      simp [e1, e2, hc, eq]⟩
  by_cases k3 : k = 3
  · subst k3
    simp [go_of FT_55 rfl, F55, go_of FT_52 rfl, F52, rowParts, Rom.doW, byt_app, byt_cons, byt_all, h, hs, nq1, nq2, nq3, nq4, nb3, nb4]
    exact ⟨.no q d (by omega) (by omega) (by omega) (by simp [nq1, nq2, nq3, nq4, nb3, nb4, h, hs]) (by simp [nq1, nq2, nq3, nq4, nb3, nb4, h, hs]) rfl, fun m cs hm hmb hc => by
      have e1 : (m = g) = False := eq_false (by omega)
      have e2 : (m = b) = False := eq_false hmb
      have eq : (m = q) = False := eq_false (fun e => by subst e; rw [hs] at hc; cases hc)
      simp [e1, e2, hc, eq]⟩
  by_cases k4 : k = 4
  · subst k4
    have hm : room 1 1 = true := room_1 (by omega)
    simp [go_of FT_55 rfl, F55, go_of FT_52 rfl, F52, rowParts, Rom.doW, byt_app, byt_cons, byt_all, h, hs, nq1, nq2, nq3, nq4, nb3, nb4, hm]
    exact ⟨.oo g none q d (by omega) (by omega) (by omega) (by omega) (by omega) (by omega) (by simp [nq1, nq2, nq3, nq4, nb3, nb4, h, hs, byt_app, byt_cons]) (by simp [nq1, nq2, nq3, nq4, nb3, nb4, h, hs, byt_app, byt_cons]) (by simp [nq1, nq2, nq3, nq4, nb3, nb4, h, hs, byt_app, byt_cons]), fun m cs hm hmb hc => by
      have e1 : (m = g) = False := eq_false (by omega)
      have e2 : (m = b) = False := eq_false hmb
      have eq : (m = q) = False := eq_false (fun e => by subst e; rw [hs] at hc; cases hc)
      simp [e1, e2, hc, eq]⟩
  simp [go_of FT_55 rfl, F55, go_of FT_52 rfl, F52, rowParts, Rom.doW, byt_app, byt_cons, byt_all, h, hs, nq1, nq2, nq3, nq4, nb3, nb4, k1, k2, k3, k4]
  exact ⟨.no q d (by omega) (by omega) (by omega) (by simp [nq1, nq2, nq3, nq4, nb3, nb4, h, hs]) (by simp [nq1, nq2, nq3, nq4, nb3, nb4, h, hs]) rfl, fun m cs hm hmb hc => by
      have e1 : (m = g) = False := eq_false (by omega)
      have e2 : (m = b) = False := eq_false hmb
      have eq : (m = q) = False := eq_false (fun e => by subst e; rw [hs] at hc; cases hc)
      simp [e1, e2, hc, eq]⟩
theorem write_no_1 {n : Nat} {H : Nat → Box} {g b : Nat} {s : Sup} {am at_ bm bt : Int} {ra rb : List Int} {k sl v : Int} {q : Nat} {d : Option Nat} (hb : b < g) (hq : q < g) (hqb : q ≠ b) (h : H b = .cells (romV am at_ .nil bm bt (ownW q rb.length d))) (hs : H q = rowB rb) :
    ∃ e, callV (go (n + 2)) mode false H g s 55 [.w (.ptr b 0), .agg [.d (.s (.int .i64 k)), .d (.s (.int .i64 (1))), u8W v]] = some e ∧ RomAt e.H (g + 64) b (Rom.doW ⟨am, at_, [], bm, bt, rb⟩ ⟨k, 1, v⟩) ∧ Keeps H e.H g b := by
  have nq1 : (q = b) = False := eq_false hqb
  have nq2 : (b = q) = False := eq_false (Ne.symm hqb)
  have nq3 : (q = g) = False := eq_false (by omega)
  have nq4 : (g = q) = False := eq_false (by omega)
  have nb3 : (b = g) = False := eq_false (by omega)
  have nb4 : (g = b) = False := eq_false (by omega)
  by_cases k1 : k = 1
  · subst k1
    simp [go_of FT_55 rfl, F55, go_of FT_52 rfl, F52, rowParts, Rom.doW, byt_app, byt_cons, byt_all, h, hs, nq1, nq2, nq3, nq4, nb3, nb4]
    exact ⟨.no q d (by omega) (by omega) (by omega) (by simp [nq1, nq2, nq3, nq4, nb3, nb4, h, hs]) (by simp [nq1, nq2, nq3, nq4, nb3, nb4, h, hs]) rfl, fun m cs hm hmb hc => by
      have e1 : (m = g) = False := eq_false (by omega)
      have e2 : (m = b) = False := eq_false hmb
      have eq : (m = q) = False := eq_false (fun e => by subst e; rw [hs] at hc; cases hc)
      simp [e1, e2, hc, eq]⟩
  by_cases k2 : k = 2
  · subst k2
    simp [go_of FT_55 rfl, F55, go_of FT_52 rfl, F52, rowParts, Rom.doW, byt_app, byt_cons, byt_all, h, hs, nq1, nq2, nq3, nq4, nb3, nb4]
    exact ⟨.no q d (by omega) (by omega) (by omega) (by simp [nq1, nq2, nq3, nq4, nb3, nb4, h, hs]) (by simp [nq1, nq2, nq3, nq4, nb3, nb4, h, hs]) rfl, fun m cs hm hmb hc => by
      have e1 : (m = g) = False := eq_false (by omega)
      have e2 : (m = b) = False := eq_false hmb
      have eq : (m = q) = False := eq_false (fun e => by subst e; rw [hs] at hc; cases hc)
      simp [e1, e2, hc, eq]⟩
  by_cases k3 : k = 3
  · subst k3
    simp [go_of FT_55 rfl, F55, go_of FT_52 rfl, F52, rowParts, Rom.doW, byt_app, byt_cons, byt_all, h, hs, nq1, nq2, nq3, nq4, nb3, nb4]
    exact ⟨.nn (by omega) (by simp [nq1, nq2, nq3, nq4, nb3, nb4, h, hs]) rfl rfl, fun m cs hm hmb hc => by
      have e1 : (m = g) = False := eq_false (by omega)
      have e2 : (m = b) = False := eq_false hmb
      have eq : (m = q) = False := eq_false (fun e => by subst e; rw [hs] at hc; cases hc)
      simp [e1, e2, hc, eq]⟩
  by_cases k4 : k = 4
  · subst k4
    by_cases hl : rb.length < 20100
    · have hl2 : ((rb.length : Int) < 20100) = True := eq_true (by omega)
      have hm : room (rb.length + 1) 1 = true := room_1 (by omega)
      simp [go_of FT_55 rfl, F55, go_of FT_52 rfl, F52, rowParts, Rom.doW, byt_app, byt_cons, byt_all, h, hs, nq1, nq2, nq3, nq4, nb3, nb4, hl, hl2, hm]
      exact ⟨.no g none (by omega) (by omega) (by omega) (by simp [nq1, nq2, nq3, nq4, nb3, nb4, h, hs, byt_app, byt_cons]) (by simp [nq1, nq2, nq3, nq4, nb3, nb4, h, hs, byt_app, byt_cons]) rfl, fun m cs hm hmb hc => by
      have e1 : (m = g) = False := eq_false (by omega)
      have e2 : (m = b) = False := eq_false hmb
      have eq : (m = q) = False := eq_false (fun e => by subst e; rw [hs] at hc; cases hc)
      simp [e1, e2, hc, eq]⟩
    · have hl2 : ((rb.length : Int) < 20100) = False := eq_false (by omega)
      simp [go_of FT_55 rfl, F55, go_of FT_52 rfl, F52, rowParts, Rom.doW, byt_app, byt_cons, byt_all, h, hs, nq1, nq2, nq3, nq4, nb3, nb4, hl, hl2]
      exact ⟨.no q d (by omega) (by omega) (by omega) (by simp [nq1, nq2, nq3, nq4, nb3, nb4, h, hs]) (by simp [nq1, nq2, nq3, nq4, nb3, nb4, h, hs]) rfl, fun m cs hm hmb hc => by
      have e1 : (m = g) = False := eq_false (by omega)
      have e2 : (m = b) = False := eq_false hmb
      have eq : (m = q) = False := eq_false (fun e => by subst e; rw [hs] at hc; cases hc)
      simp [e1, e2, hc, eq]⟩
  simp [go_of FT_55 rfl, F55, go_of FT_52 rfl, F52, rowParts, Rom.doW, byt_app, byt_cons, byt_all, h, hs, nq1, nq2, nq3, nq4, nb3, nb4, k1, k2, k3, k4]
  exact ⟨.no q d (by omega) (by omega) (by omega) (by simp [nq1, nq2, nq3, nq4, nb3, nb4, h, hs]) (by simp [nq1, nq2, nq3, nq4, nb3, nb4, h, hs]) rfl, fun m cs hm hmb hc => by
      have e1 : (m = g) = False := eq_false (by omega)
      have e2 : (m = b) = False := eq_false hmb
      have eq : (m = q) = False := eq_false (fun e => by subst e; rw [hs] at hc; cases hc)
      simp [e1, e2, hc, eq]⟩
theorem write_no_x {n : Nat} {H : Nat → Box} {g b : Nat} {s : Sup} {am at_ bm bt : Int} {ra rb : List Int} {k sl v : Int} {q : Nat} {d : Option Nat} (hb : b < g) (hq : q < g) (hqb : q ≠ b) (h : H b = .cells (romV am at_ .nil bm bt (ownW q rb.length d))) (hs : H q = rowB rb) (h0 : sl ≠ 0) (h1 : sl ≠ 1) :
    ∃ e, callV (go (n + 2)) mode false H g s 55 [.w (.ptr b 0), .agg [.d (.s (.int .i64 k)), .d (.s (.int .i64 (sl))), u8W v]] = some e ∧ RomAt e.H (g + 64) b (Rom.doW ⟨am, at_, [], bm, bt, rb⟩ ⟨k, sl, v⟩) ∧ Keeps H e.H g b := by
  have nq1 : (q = b) = False := eq_false hqb
  have nq2 : (b = q) = False := eq_false (Ne.symm hqb)
  have nq3 : (q = g) = False := eq_false (by omega)
  have nq4 : (g = q) = False := eq_false (by omega)
  have nb3 : (b = g) = False := eq_false (by omega)
  have nb4 : (g = b) = False := eq_false (by omega)
  simp [go_of FT_55 rfl, F55, go_of FT_52 rfl, F52, rowParts, Rom.doW, byt_app, byt_cons, byt_all, h, hs, nq1, nq2, nq3, nq4, nb3, nb4, h0, h1]
  exact ⟨.no q d (by omega) (by omega) (by omega) (by simp [nq1, nq2, nq3, nq4, nb3, nb4, h, hs]) (by simp [nq1, nq2, nq3, nq4, nb3, nb4, h, hs]) rfl, fun m cs hm hmb hc => by
      have e1 : (m = g) = False := eq_false (by omega)
      have e2 : (m = b) = False := eq_false hmb
      have eq : (m = q) = False := eq_false (fun e => by subst e; rw [hs] at hc; cases hc)
      simp [e1, e2, hc, eq]⟩

theorem write_oo_0 {n : Nat} {H : Nat → Box} {g b : Nat} {s : Sup} {am at_ bm bt : Int} {ra rb : List Int} {k sl v : Int} {p : Nat} {c : Option Nat} {q : Nat} {d : Option Nat} (hb : b < g) (hp : p < g) (hpb : p ≠ b) (hq : q < g) (hqb : q ≠ b) (hpq : p ≠ q) (h : H b = .cells (romV am at_ (ownW p ra.length c) bm bt (ownW q rb.length d))) (hr : H p = rowB ra) (hs : H q = rowB rb) :
    ∃ e, callV (go (n + 2)) mode false H g s 55 [.w (.ptr b 0), .agg [.d (.s (.int .i64 k)), .d (.s (.int .i64 (0))), u8W v]] = some e ∧ RomAt e.H (g + 64) b (Rom.doW ⟨am, at_, ra, bm, bt, rb⟩ ⟨k, 0, v⟩) ∧ Keeps H e.H g b := by
  have np1 : (p = b) = False := eq_false hpb
  have np2 : (b = p) = False := eq_false (Ne.symm hpb)
  have np3 : (p = g) = False := eq_false (by omega)
  have np4 : (g = p) = False := eq_false (by omega)
  have nq1 : (q = b) = False := eq_false hqb
  have nq2 : (b = q) = False := eq_false (Ne.symm hqb)
  have nq3 : (q = g) = False := eq_false (by omega)
  have nq4 : (g = q) = False := eq_false (by omega)
  have n5 : (p = q) = False := eq_false hpq
  have n6 : (q = p) = False := eq_false (Ne.symm hpq)
  have nb3 : (b = g) = False := eq_false (by omega)
  have nb4 : (g = b) = False := eq_false (by omega)
  by_cases k1 : k = 1
  · subst k1
    simp [go_of FT_55 rfl, F55, go_of FT_52 rfl, F52, rowParts, Rom.doW, byt_app, byt_cons, byt_all, h, hr, hs, np1, np2, np3, np4, nq1, nq2, nq3, nq4, n5, n6, nb3, nb4]
    exact ⟨.oo p c q d (by omega) (by omega) (by omega) (by omega) (by omega) (by omega) (by simp [np1, np2, np3, np4, nq1, nq2, nq3, nq4, n5, n6, nb3, nb4, h, hr, hs]) (by simp [np1, np2, np3, np4, nq1, nq2, nq3, nq4, n5, n6, nb3, nb4, h, hr, hs]) (by simp [np1, np2, np3, np4, nq1, nq2, nq3, nq4, n5, n6, nb3, nb4, h, hr, hs]), fun m cs hm hmb hc => by
      have e1 : (m = g) = False := eq_false (by omega)
      have e2 : (m = b) = False := eq_false hmb
      have ep : (m = p) = False := eq_false (fun e => by subst e; rw [hr] at hc; cases hc)
      have eq : (m = q) = False := eq_false (fun e => by subst e; rw [hs] at hc; cases hc)
      simp [e1, e2, hc, ep, eq]⟩
  by_cases k2 : k = 2
  · subst k2
    simp [go_of FT_55 rfl, F55, go_of FT_52 rfl, F52, rowParts, Rom.doW, byt_app, byt_cons, byt_all, h, hr, hs, np1, np2, np3, np4, nq1, nq2, nq3, nq4, n5, n6, nb3, nb4]
    exact ⟨.oo p c q d (by omega) (by omega) (by omega) (by omega) (by omega) (by omega) (by simp [np1, np2, np3, np4, nq1, nq2, nq3, nq4, n5, n6, nb3, nb4, h, hr, hs]) (by simp [np1, np2, np3, np4, nq1, nq2, nq3, nq4, n5, n6, nb3, nb4, h, hr, hs]) (by simp [np1, np2, np3, np4, nq1, nq2, nq3, nq4, n5, n6, nb3, nb4, h, hr, hs]), fun m cs hm hmb hc => by
      have e1 : (m = g) = False := eq_false (by omega)
      have e2 : (m = b) = False := eq_false hmb
      have ep : (m = p) = False := eq_false (fun e => by subst e; rw [hr] at hc; cases hc)
      have eq : (m = q) = False := eq_false (fun e => by subst e; rw [hs] at hc; cases hc)
      simp [e1, e2, hc, ep, eq]⟩
  by_cases k3 : k = 3
  · subst k3
    simp [go_of FT_55 rfl, F55, go_of FT_52 rfl, F52, rowParts, Rom.doW, byt_app, byt_cons, byt_all, h, hr, hs, np1, np2, np3, np4, nq1, nq2, nq3, nq4, n5, n6, nb3, nb4]
    exact ⟨.no q d (by omega) (by omega) (by omega) (by simp [np1, np2, np3, np4, nq1, nq2, nq3, nq4, n5, n6, nb3, nb4, h, hr, hs]) (by simp [np1, np2, np3, np4, nq1, nq2, nq3, nq4, n5, n6, nb3, nb4, h, hr, hs]) rfl, fun m cs hm hmb hc => by
      have e1 : (m = g) = False := eq_false (by omega)
      have e2 : (m = b) = False := eq_false hmb
      have ep : (m = p) = False := eq_false (fun e => by subst e; rw [hr] at hc; cases hc)
      have eq : (m = q) = False := eq_false (fun e => by subst e; rw [hs] at hc; cases hc)
      simp [e1, e2, hc, ep, eq]⟩
  by_cases k4 : k = 4
  · subst k4
    by_cases hl : ra.length < 20100
    · have hl2 : ((ra.length : Int) < 20100) = True := eq_true (by omega)
      have hm : room (ra.length + 1) 1 = true := room_1 (by omega)
      simp [go_of FT_55 rfl, F55, go_of FT_52 rfl, F52, rowParts, Rom.doW, byt_app, byt_cons, byt_all, h, hr, hs, np1, np2, np3, np4, nq1, nq2, nq3, nq4, n5, n6, nb3, nb4, hl, hl2, hm]
      exact ⟨.oo g none q d (by omega) (by omega) (by omega) (by omega) (by omega) (by omega) (by simp [np1, np2, np3, np4, nq1, nq2, nq3, nq4, n5, n6, nb3, nb4, h, hr, hs, byt_app, byt_cons]) (by simp [np1, np2, np3, np4, nq1, nq2, nq3, nq4, n5, n6, nb3, nb4, h, hr, hs, byt_app, byt_cons]) (by simp [np1, np2, np3, np4, nq1, nq2, nq3, nq4, n5, n6, nb3, nb4, h, hr, hs, byt_app, byt_cons]), fun m cs hm hmb hc => by
      have e1 : (m = g) = False := eq_false (by omega)
      have e2 : (m = b) = False := eq_false hmb
      have ep : (m = p) = False := eq_false (fun e => by subst e; rw [hr] at hc; cases hc)
      have eq : (m = q) = False := eq_false (fun e => by subst e; rw [hs] at hc; cases hc)
      simp [e1, e2, hc, ep, eq]⟩
    · have hl2 : ((ra.length : Int) < 20100) = False := eq_false (by omega)
      simp [go_of FT_55 rfl, F55, go_of FT_52 rfl, F52, rowParts, Rom.doW, byt_app, byt_cons, byt_all, h, hr, hs, np1, np2, np3, np4, nq1, nq2, nq3, nq4, n5, n6, nb3, nb4, hl, hl2]
      exact ⟨.oo p c q d (by omega) (by omega) (by omega) (by omega) (by omega) (by omega) (by simp [np1, np2, np3, np4, nq1, nq2, nq3, nq4, n5, n6, nb3, nb4, h, hr, hs]) (by simp [np1, np2, np3, np4, nq1, nq2, nq3, nq4, n5, n6, nb3, nb4, h, hr, hs]) (by simp [np1, np2, np3, np4, nq1, nq2, nq3, nq4, n5, n6, nb3, nb4, h, hr, hs]), fun m cs hm hmb hc => by
      have e1 : (m = g) = False := eq_false (by omega)
      have e2 : (m = b) = False := eq_false hmb
      have ep : (m = p) = False := eq_false (fun e => by subst e; rw [hr] at hc; cases hc)
      have eq : (m = q) = False := eq_false (fun e => by subst e; rw [hs] at hc; cases hc)
      simp [e1, e2, hc, ep, eq]⟩
  simp [go_of FT_55 rfl, F55, go_of FT_52 rfl, F52, rowParts, Rom.doW, byt_app, byt_cons, byt_all, h, hr, hs, np1, np2, np3, np4, nq1, nq2, nq3, nq4, n5, n6, nb3, nb4, k1, k2, k3, k4]
  exact ⟨.oo p c q d (by omega) (by omega) (by omega) (by omega) (by omega) (by omega) (by simp [np1, np2, np3, np4, nq1, nq2, nq3, nq4, n5, n6, nb3, nb4, h, hr, hs]) (by simp [np1, np2, np3, np4, nq1, nq2, nq3, nq4, n5, n6, nb3, nb4, h, hr, hs]) (by simp [np1, np2, np3, np4, nq1, nq2, nq3, nq4, n5, n6, nb3, nb4, h, hr, hs]), fun m cs hm hmb hc => by
      have e1 : (m = g) = False := eq_false (by omega)
      have e2 : (m = b) = False := eq_false hmb
      have ep : (m = p) = False := eq_false (fun e => by subst e; rw [hr] at hc; cases hc)
      have eq : (m = q) = False := eq_false (fun e => by subst e; rw [hs] at hc; cases hc)
      simp [e1, e2, hc, ep, eq]⟩
theorem write_oo_1 {n : Nat} {H : Nat → Box} {g b : Nat} {s : Sup} {am at_ bm bt : Int} {ra rb : List Int} {k sl v : Int} {p : Nat} {c : Option Nat} {q : Nat} {d : Option Nat} (hb : b < g) (hp : p < g) (hpb : p ≠ b) (hq : q < g) (hqb : q ≠ b) (hpq : p ≠ q) (h : H b = .cells (romV am at_ (ownW p ra.length c) bm bt (ownW q rb.length d))) (hr : H p = rowB ra) (hs : H q = rowB rb) :
    ∃ e, callV (go (n + 2)) mode false H g s 55 [.w (.ptr b 0), .agg [.d (.s (.int .i64 k)), .d (.s (.int .i64 (1))), u8W v]] = some e ∧ RomAt e.H (g + 64) b (Rom.doW ⟨am, at_, ra, bm, bt, rb⟩ ⟨k, 1, v⟩) ∧ Keeps H e.H g b := by
  have np1 : (p = b) = False := eq_false hpb
  have np2 : (b = p) = False := eq_false (Ne.symm hpb)
  have np3 : (p = g) = False := eq_false (by omega)
  have np4 : (g = p) = False := eq_false (by omega)
  have nq1 : (q = b) = False := eq_false hqb
  have nq2 : (b = q) = False := eq_false (Ne.symm hqb)
  have nq3 : (q = g) = False := eq_false (by omega)
  have nq4 : (g = q) = False := eq_false (by omega)
  have n5 : (p = q) = False := eq_false hpq
  have n6 : (q = p) = False := eq_false (Ne.symm hpq)
  have nb3 : (b = g) = False := eq_false (by omega)
  have nb4 : (g = b) = False := eq_false (by omega)
  by_cases k1 : k = 1
  · subst k1
    simp [go_of FT_55 rfl, F55, go_of FT_52 rfl, F52, rowParts, Rom.doW, byt_app, byt_cons, byt_all, h, hr, hs, np1, np2, np3, np4, nq1, nq2, nq3, nq4, n5, n6, nb3, nb4]
    exact ⟨.oo p c q d (by omega) (by omega) (by omega) (by omega) (by omega) (by omega) (by simp [np1, np2, np3, np4, nq1, nq2, nq3, nq4, n5, n6, nb3, nb4, h, hr, hs]) (by simp [np1, np2, np3, np4, nq1, nq2, nq3, nq4, n5, n6, nb3, nb4, h, hr, hs]) (by simp [np1, np2, np3, np4, nq1, nq2, nq3, nq4, n5, n6, nb3, nb4, h, hr, hs]), fun m cs hm hmb hc => by
      have e1 : (m = g) = False := eq_false (by omega)
      have e2 : (m = b) = False := eq_false hmb
      have ep : (m = p) = False := eq_false (fun e => by subst e; rw [hr] at hc; cases hc)
      have eq : (m = q) = False := eq_false (fun e => by subst e; rw [hs] at hc; cases hc)
      simp [e1, e2, hc, ep, eq]⟩
  by_cases k2 : k = 2
  · subst k2
    simp [go_of FT_55 rfl, F55, go_of FT_52 rfl, F52, rowParts, Rom.doW, byt_app, byt_cons, byt_all, h, hr, hs, np1, np2, np3, np4, nq1, nq2, nq3, nq4, n5, n6, nb3, nb4]
    exact ⟨.oo p c q d (by omega) (by omega) (by omega) (by omega) (by omega) (by omega) (by simp [np1, np2, np3, np4, nq1, nq2, nq3, nq4, n5, n6, nb3, nb4, h, hr, hs]) (by simp [np1, np2, np3, np4, nq1, nq2, nq3, nq4, n5, n6, nb3, nb4, h, hr, hs]) (by simp [np1, np2, np3, np4, nq1, nq2, nq3, nq4, n5, n6, nb3, nb4, h, hr, hs]), fun m cs hm hmb hc => by
      have e1 : (m = g) = False := eq_false (by omega)
      have e2 : (m = b) = False := eq_false hmb
      have ep : (m = p) = False := eq_false (fun e => by subst e; rw [hr] at hc; cases hc)
      have eq : (m = q) = False := eq_false (fun e => by subst e; rw [hs] at hc; cases hc)
      simp [e1, e2, hc, ep, eq]⟩
  by_cases k3 : k = 3
  · subst k3
    simp [go_of FT_55 rfl, F55, go_of FT_52 rfl, F52, rowParts, Rom.doW, byt_app, byt_cons, byt_all, h, hr, hs, np1, np2, np3, np4, nq1, nq2, nq3, nq4, n5, n6, nb3, nb4]
    exact ⟨.on p c (by omega) (by omega) (by omega) (by simp [np1, np2, np3, np4, nq1, nq2, nq3, nq4, n5, n6, nb3, nb4, h, hr, hs]) (by simp [np1, np2, np3, np4, nq1, nq2, nq3, nq4, n5, n6, nb3, nb4, h, hr, hs]) rfl, fun m cs hm hmb hc => by
      have e1 : (m = g) = False := eq_false (by omega)
      have e2 : (m = b) = False := eq_false hmb
      have ep : (m = p) = False := eq_false (fun e => by subst e; rw [hr] at hc; cases hc)
      have eq : (m = q) = False := eq_false (fun e => by subst e; rw [hs] at hc; cases hc)
      simp [e1, e2, hc, ep, eq]⟩
  by_cases k4 : k = 4
  · subst k4
    by_cases hl : rb.length < 20100
    · have hl2 : ((rb.length : Int) < 20100) = True := eq_true (by omega)
      have hm : room (rb.length + 1) 1 = true := room_1 (by omega)
      simp [go_of FT_55 rfl, F55, go_of FT_52 rfl, F52, rowParts, Rom.doW, byt_app, byt_cons, byt_all, h, hr, hs, np1, np2, np3, np4, nq1, nq2, nq3, nq4, n5, n6, nb3, nb4, hl, hl2, hm]
      exact ⟨.oo p c g none (by omega) (by omega) (by omega) (by omega) (by omega) (by omega) (by simp [np1, np2, np3, np4, nq1, nq2, nq3, nq4, n5, n6, nb3, nb4, h, hr, hs, byt_app, byt_cons]) (by simp [np1, np2, np3, np4, nq1, nq2, nq3, nq4, n5, n6, nb3, nb4, h, hr, hs, byt_app, byt_cons]) (by simp [np1, np2, np3, np4, nq1, nq2, nq3, nq4, n5, n6, nb3, nb4, h, hr, hs, byt_app, byt_cons]), fun m cs hm hmb hc => by
      have e1 : (m = g) = False := eq_false (by omega)
      have e2 : (m = b) = False := eq_false hmb
      have ep : (m = p) = False := eq_false (fun e => by subst e; rw [hr] at hc; cases hc)
      have eq : (m = q) = False := eq_false (fun e => by subst e; rw [hs] at hc; cases hc)
      simp [e1, e2, hc, ep, eq]⟩
    · have hl2 : ((rb.length : Int) < 20100) = False := eq_false (by omega)
      simp [go_of FT_55 rfl, F55, go_of FT_52 rfl, F52, rowParts, Rom.doW, byt_app, byt_cons, byt_all, h, hr, hs, np1, np2, np3, np4, nq1, nq2, nq3, nq4, n5, n6, nb3, nb4, hl, hl2]
      exact ⟨.oo p c q d (by omega) (by omega) (by omega) (by omega) (by omega) (by omega) (by simp [np1, np2, np3, np4, nq1, nq2, nq3, nq4, n5, n6, nb3, nb4, h, hr, hs]) (by simp [np1, np2, np3, np4, nq1, nq2, nq3, nq4, n5, n6, nb3, nb4, h, hr, hs]) (by simp [np1, np2, np3, np4, nq1, nq2, nq3, nq4, n5, n6, nb3, nb4, h, hr, hs]), fun m cs hm hmb hc => by
      have e1 : (m = g) = False := eq_false (by omega)
      have e2 : (m = b) = False := eq_false hmb
      have ep : (m = p) = False := eq_false (fun e => by subst e; rw [hr] at hc; cases hc)
      have eq : (m = q) = False := eq_false (fun e => by subst e; rw [hs] at hc; cases hc)
      simp [e1, e2, hc, ep, eq]⟩
  simp [go_of FT_55 rfl, F55, go_of FT_52 rfl, F52, rowParts, Rom.doW, byt_app, byt_cons, byt_all, h, hr, hs, np1, np2, np3, np4, nq1, nq2, nq3, nq4, n5, n6, nb3, nb4, k1, k2, k3, k4]
  exact ⟨.oo p c q d (by omega) (by omega) (by omega) (by omega) (by omega) (by omega) (by simp [np1, np2, np3, np4, nq1, nq2, nq3, nq4, n5, n6, nb3, nb4, h, hr, hs]) (by simp [np1, np2, np3, np4, nq1, nq2, nq3, nq4, n5, n6, nb3, nb4, h, hr, hs]) (by simp [np1, np2, np3, np4, nq1, nq2, nq3, nq4, n5, n6, nb3, nb4, h, hr, hs]), fun m cs hm hmb hc => by
      have e1 : (m = g) = False := eq_false (by omega)
      have e2 : (m = b) = False := eq_false hmb
      have ep : (m = p) = False := eq_false (fun e => by subst e; rw [hr] at hc; cases hc)
      have eq : (m = q) = False := eq_false (fun e => by subst e; rw [hs] at hc; cases hc)
      simp [e1, e2, hc, ep, eq]⟩
theorem write_oo_x {n : Nat} {H : Nat → Box} {g b : Nat} {s : Sup} {am at_ bm bt : Int} {ra rb : List Int} {k sl v : Int} {p : Nat} {c : Option Nat} {q : Nat} {d : Option Nat} (hb : b < g) (hp : p < g) (hpb : p ≠ b) (hq : q < g) (hqb : q ≠ b) (hpq : p ≠ q) (h : H b = .cells (romV am at_ (ownW p ra.length c) bm bt (ownW q rb.length d))) (hr : H p = rowB ra) (hs : H q = rowB rb) (h0 : sl ≠ 0) (h1 : sl ≠ 1) :
    ∃ e, callV (go (n + 2)) mode false H g s 55 [.w (.ptr b 0), .agg [.d (.s (.int .i64 k)), .d (.s (.int .i64 (sl))), u8W v]] = some e ∧ RomAt e.H (g + 64) b (Rom.doW ⟨am, at_, ra, bm, bt, rb⟩ ⟨k, sl, v⟩) ∧ Keeps H e.H g b := by
  have np1 : (p = b) = False := eq_false hpb
  have np2 : (b = p) = False := eq_false (Ne.symm hpb)
  have np3 : (p = g) = False := eq_false (by omega)
  have np4 : (g = p) = False := eq_false (by omega)
  have nq1 : (q = b) = False := eq_false hqb
  have nq2 : (b = q) = False := eq_false (Ne.symm hqb)
  have nq3 : (q = g) = False := eq_false (by omega)
  have nq4 : (g = q) = False := eq_false (by omega)
  have n5 : (p = q) = False := eq_false hpq
  have n6 : (q = p) = False := eq_false (Ne.symm hpq)
  have nb3 : (b = g) = False := eq_false (by omega)
  have nb4 : (g = b) = False := eq_false (by omega)
  simp [go_of FT_55 rfl, F55, go_of FT_52 rfl, F52, rowParts, Rom.doW, byt_app, byt_cons, byt_all, h, hr, hs, np1, np2, np3, np4, nq1, nq2, nq3, nq4, n5, n6, nb3, nb4, h0, h1]
  exact ⟨.oo p c q d (by omega) (by omega) (by omega) (by omega) (by omega) (by omega) (by simp [np1, np2, np3, np4, nq1, nq2, nq3, nq4, n5, n6, nb3, nb4, h, hr, hs]) (by simp [np1, np2, np3, np4, nq1, nq2, nq3, nq4, n5, n6, nb3, nb4, h, hr, hs]) (by simp [np1, np2, np3, np4, nq1, nq2, nq3, nq4, n5, n6, nb3, nb4, h, hr, hs]), fun m cs hm hmb hc => by
      have e1 : (m = g) = False := eq_false (by omega)
      have e2 : (m = b) = False := eq_false hmb
      have ep : (m = p) = False := eq_false (fun e => by subst e; rw [hr] at hc; cases hc)
      have eq : (m = q) = False := eq_false (fun e => by subst e; rw [hs] at hc; cases hc)
      simp [e1, e2, hc, ep, eq]⟩

/-- A write, whatever the store. -/
theorem write_call {n : Nat} {H : Nat → Box} {g b : Nat} {s : Sup} {r : Rom} (w : Wr) (h : RomAt H g b r) :
    ∃ e, callV (go (n + 2)) mode false H g s 55 [.w (.ptr b 0), .agg [.d (.s (.int .i64 w.k)), .d (.s (.int .i64 w.s)), u8W w.v]] = some e ∧ RomAt e.H (g + 64) b (r.doW w) ∧ Keeps H e.H g b := by
  obtain ⟨am, at_, ra, bm, bt, rb⟩ := r
  obtain ⟨k, sl, v⟩ := w
  by_cases h0 : sl = 0
  · subst h0
    cases h with
    | nn hb h ha hb' => cases ha; cases hb'; exact write_nn_0 (ra := []) (rb := []) (sl := 0) hb h
    | on p c hb hp hpb h hr hb' => cases hb'; exact write_on_0 (rb := []) (sl := 0) hb hp hpb h hr
    | no q d hb hq hqb h hs ha => cases ha; exact write_no_0 (ra := []) (sl := 0) hb hq hqb h hs
    | oo p c q d hb hp hpb hq hqb hpq h hr hs => exact write_oo_0 (sl := 0) hb hp hpb hq hqb hpq h hr hs
  · by_cases h1 : sl = 1
    · subst h1
      cases h with
      | nn hb h ha hb' => cases ha; cases hb'; exact write_nn_1 (ra := []) (rb := []) (sl := 0) hb h
      | on p c hb hp hpb h hr hb' => cases hb'; exact write_on_1 (rb := []) (sl := 0) hb hp hpb h hr
      | no q d hb hq hqb h hs ha => cases ha; exact write_no_1 (ra := []) (sl := 0) hb hq hqb h hs
      | oo p c q d hb hp hpb hq hqb hpq h hr hs => exact write_oo_1 (sl := 0) hb hp hpb hq hqb hpq h hr hs
    · cases h with
      | nn hb h ha hb' => cases ha; cases hb'; exact write_nn_x (ra := []) (rb := []) hb h h0 h1
      | on p c hb hp hpb h hr hb' => cases hb'; exact write_on_x (rb := []) hb hp hpb h hr h0 h1
      | no q d hb hq hqb h hs ha => cases ha; exact write_no_x (ra := []) hb hq hqb h hs h0 h1
      | oo p c q d hb hp hpb hq hqb hpq h hr hs => exact write_oo_x hb hp hpb hq hqb hpq h hr hs h0 h1

end Go.VM
