/- Draws: a number out of a code, reckoned. Conditions: none. -/
import Derived.Test.YtcjdokngpmnkjaaGreatDoorVT1
import Derived.Test.YtcjdokngpmnkjaaGreatDoorVQ9

namespace Go.VM
set_option linter.unusedSimpArgs false
set_option linter.unusedVariables false
set_option maxHeartbeats 4000000
abbrev w64 (x : Int) : Int := IntKind.wrap .i64 x
def atB (b : List Int) (e : Int) : Int := b.getD e.toNat 0
theorem atB_get {b : List Int} {e : Int} (h0 : 0 ≤ e) (h1 : e < b.length) : (byt b)[e.toNat]? = some [.s (.int .u8 (atB b e))] := by
 have : e.toNat < b.length := by omega
 simp [byt, atB, this]
theorem atB_ok {b : List Int} (hb : ∀ x ∈ b, 0 ≤ x ∧ x < 256) (e : Int) : 0 ≤ atB b e ∧ atB b e < 256 := by
 unfold atB
 by_cases h : e.toNat < b.length
 · have : b.getD e.toNat 0 = b[e.toNat] := by simp [h]
   rw [this]; exact hb _ (List.getElem_mem h)
 · have : b.getD e.toNat 0 = 0 := by simp [List.getD_eq_getElem?_getD, List.getElem?_eq_none (by omega : b.length ≤ e.toNat)]
   rw [this]; omega
def pickX (a1 a2 p q : Int) : Int :=
 w64 (w64 (w64 (w64 (w64 a1 * 131) + w64 (w64 a2 * 1117)) + w64 (p * 29)) + w64 (w64 q * 53))
def xorX (x : Int) : Int := w64 ((BitVec.ofInt 64 x ^^^ BitVec.ofInt 64 (w64 (x.tdiv 64))).toNat : Nat)
def pickV (b : List Int) (p : Int) (n : Int) : Int :=
 if n < 1 ∨ b.length = 0 then 0 else if p < b.length then (w64 (atB b p)).tmod n else (xorX (pickX (atB b (p.tmod b.length)) (atB b ((p * 7 + 3).tmod b.length)) p (p.tdiv b.length))).tmod n
abbrev rdB (sc : Nat) (b : List Int) (p : Int) : Box := .cells [.d (.l sc (byt b)), .d (.s (.int .i64 p))]
theorem run_pick {n : Nat} (hn : 1 ≤ n) (sc : Nat) (b : List Int) (p : Nat) (hp : p < 2 ^ 40) (hl : b.length ≤ 2 ^ 40) (m : Int) (s : Sup) :
 go n 67 [.w (.ptr 0 0), .w (.d (.s (.int .i64 m)))] [rdB sc b p] s = some ⟨sV (.int .i64 (pickV b p m)), [rdB sc b (p + 1 : Nat)], []⟩ := by
 obtain ⟨n, rfl⟩ : ∃ k, n = k + 1 := ⟨n - 1, by omega⟩; have w1 : IntKind.wrap .i64 ((p : Int) + 1) = p + 1 := wrap_id (by omega) (by omega); have w2 : IntKind.wrap .i64 (p : Int) = p := wrap_id (by omega) (by omega); unfold pickV
 by_cases c1 : m < 1
 · simp [go_of FT_67 rfl, F67, c1, w1]
 · by_cases c2 : b.length = 0
   · have c2' : b = [] := List.eq_nil_of_length_eq_zero c2
     simp [go_of FT_67 rfl, F67, c1, c2, c2', w1]
   · have c2' : b ≠ [] := fun e => c2 (by rw [e]; rfl)
     have c2i : ((b.length : Int) = 0) = False := eq_false (by omega); have c3 : (m = 0) = False := eq_false (by omega); rw [if_neg (by omega)]
     by_cases c4 : (p : Int) < b.length
     · have c4' : p < b.length := by omega
       have hg := atB_get (b := b) (e := p) (by omega) c4; simp only [Int.toNat_natCast] at hg; rw [if_pos c4]; simp [-getElem?_pos, go_of FT_67 rfl, F67, c1, c2, c2', c2i, c3, c4', hg, w1, w2]
     · have c4' : (p < b.length) = False := eq_false (by omega)
       have c4i : ((p : Int) < b.length) = False := eq_false c4; have wa : IntKind.wrap .i64 ((p : Int) * 7) = p * 7 := wrap_id (by omega) (by omega); have wb : IntKind.wrap .i64 ((p : Int) * 7 + 3) = p * 7 + 3 := wrap_id (by omega) (by omega); have m1 : (p : Int).tmod b.length = (p : Int) % b.length := Int.tmod_eq_emod_of_nonneg (by omega); have m2 : ((p : Int) * 7 + 3).tmod b.length = ((p : Int) * 7 + 3) % b.length := Int.tmod_eq_emod_of_nonneg (by omega); have k1 : 0 ≤ (p : Int).tmod b.length := by rw [m1]; exact Int.emod_nonneg _ (by omega)
       have k2 : 0 ≤ ((p : Int) * 7 + 3).tmod b.length := by rw [m2]; exact Int.emod_nonneg _ (by omega)
       have l1 : (p : Int).tmod b.length < b.length := by rw [m1]; exact Int.emod_lt_of_pos _ (by omega)
       have l2 : ((p : Int) * 7 + 3).tmod b.length < b.length := by rw [m2]; exact Int.emod_lt_of_pos _ (by omega)
       have hg1 := atB_get k1 l1; have hg2 := atB_get k2 l2; have k1' := eq_true k1; have k2' := eq_true k2; rw [if_neg c4]; unfold pickX xorX w64; simp [-getElem?_pos, go_of FT_67 rfl, F67, c1, c2, c2', c2i, c3, c4', c4i, w1, w2, wa, wb, hg1, hg2, k1', k2']
       rfl
theorem w64_id {x : Int} (h1 : -(2 ^ 63) ≤ x) (h2 : x < 2 ^ 63) : w64 x = x := wrap_id h1 h2
theorem xorX_ok {x : Int} (h0 : 0 ≤ x) (h1 : x < 2 ^ 60) : 0 ≤ xorX x := by
 obtain ⟨y, rfl⟩ : ∃ y : Nat, x = y := ⟨x.toNat, by omega⟩; have hd : (y : Int).tdiv 64 = (y / 64 : Nat) := by rw [Int.tdiv_eq_ediv_of_nonneg (by omega)]; rfl
 unfold xorX; rw [hd, w64_id (x := ((y / 64 : Nat) : Int)) (by omega) (by omega)]; have hx : (BitVec.ofInt 64 (y : Int) ^^^ BitVec.ofInt 64 ((y / 64 : Nat) : Int)).toNat < 2 ^ 60 := by
  rw [BitVec.toNat_xor]; refine Nat.xor_lt_two_pow ?_ ?_
  · simp only [BitVec.toNat_ofInt]; omega
  · simp only [BitVec.toNat_ofInt]; omega
 rw [w64_id (by omega) (by omega)]; omega
theorem pickV_ok {b : List Int} (hb : ∀ x ∈ b, 0 ≤ x ∧ x < 256) {p : Nat} (hp : p < 2 ^ 40) (n : Int) : 0 ≤ pickV b p n ∧ (1 ≤ n → pickV b p n < n) := by
 unfold pickV; have key : ∀ y : Int, 0 ≤ y → ¬ n < 1 → 0 ≤ y.tmod n ∧ (1 ≤ n → y.tmod n < n) := fun y hy hn => by
  rw [Int.tmod_eq_emod_of_nonneg hy]; exact ⟨Int.emod_nonneg _ (by omega), fun _ => Int.emod_lt_of_pos _ (by omega)⟩
 split
 · exact ⟨by omega, fun h => by omega⟩
 · rename_i hn
   have hn1 : ¬ n < 1 := fun h => hn (.inl h)
   split
   · have := atB_ok hb p
     exact key _ (by rw [w64_id (by omega) (by omega)]; exact this.1) hn1
   · have h1 := atB_ok hb ((p : Int).tmod b.length)
     have h2 := atB_ok hb (((p : Int) * 7 + 3).tmod b.length); have h3 : 0 ≤ (p : Int).tdiv b.length ∧ (p : Int).tdiv b.length ≤ p := by
      rw [Int.tdiv_eq_ediv_of_nonneg (by omega)]; exact ⟨Int.ediv_nonneg (by omega) (by omega), Int.ediv_le_self _ (by omega)⟩
     refine key _ (xorX_ok ?_ ?_) hn1
     all_goals
      generalize atB b ((p : Int).tmod b.length) = a1 at h1 ⊢; generalize atB b (((p : Int) * 7 + 3).tmod b.length) = a2 at h2 ⊢; generalize (p : Int).tdiv b.length = q at h3 ⊢; unfold pickX; rw [w64_id (x := a1) (by omega) (by omega), w64_id (x := a2) (by omega) (by omega), w64_id (x := a1 * 131) (by omega) (by omega), w64_id (x := a2 * 1117) (by omega) (by omega), w64_id (x := a1 * 131 + a2 * 1117) (by omega) (by omega),
       w64_id (x := (p : Int) * 29) (by omega) (by omega), w64_id (x := a1 * 131 + a2 * 1117 + p * 29) (by omega) (by omega), w64_id (x := q) (by omega) (by omega), w64_id (x := q * 53) (by omega) (by omega), w64_id (by omega) (by omega)]
      omega
set_option maxHeartbeats 8000000
def RD (b : List Int) : Prop := (∀ x ∈ b, 0 ≤ x ∧ x < 256) ∧ b.length ≤ 2 ^ 40
abbrev rB (b : List Int) (p : Nat) : Box := rdB 0 b p
abbrev pV : V := .w (.ptr 0 0)
abbrev lV (l : List Int) : V := .w (.d (.l 0 (l.map fun x => [iD x])))
theorem draw_pick {b : List Int} (hb : RD b) (m : Int) (p : Nat) (hp : p < 2 ^ 39) (n : Nat) (hn : 1 ≤ n) :
 ∃ (v : Int) (q : Nat), 0 ≤ v ∧ (1 ≤ m → v < m) ∧ q ≤ p + 1 ∧ ∀ s, go n 67 [pV, iV m] [rB b p] s = some ⟨iV v, [rB b q], []⟩ := by
 have h := pickV_ok hb.1 (p := p) (by omega) m; exact ⟨pickV b p m, p + 1, h.1, h.2, Nat.le_refl _, fun s => run_pick hn 0 b p (by omega) hb.2 m s⟩
theorem draw_num {b : List Int} (hb : RD b) (l : List Int) (hl : 1 ≤ l.length ∧ l.length < 2 ^ 40) (p : Nat) (hp : p < 2 ^ 39) (n : Nat) (hn : 2 ≤ n) :
 ∃ (v : Int) (q : Nat), v ∈ l ∧ q ≤ p + 1 ∧ ∀ s, go n 96 [pV, lV l] [rB b p] s = some ⟨iV v, [rB b q], []⟩ := by
 obtain ⟨n, rfl⟩ : ∃ k, n = k + 1 := ⟨n - 1, by omega⟩; obtain ⟨v, q, h1, h2, h3, w⟩ := draw_pick hb (l.length : Int) p hp n (by omega); have h2 := h2 (by omega); obtain ⟨j, rfl⟩ : ∃ j : Nat, v = j := ⟨v.toNat, by omega⟩; have hj : j < l.length := by omega
 have hg : (l.map fun x => [iD x])[j]? = some [iD l[j]] := by simp [hj]
 refine ⟨l[j], q, List.getElem_mem hj, h3, fun s => ?_⟩
 simp [-getElem?_pos, go_of FT_96 rfl, F96, w, hg]
theorem draw_Arg {b : List Int} (hb : RD b) (kind : Int) (p : Nat) (hp : p < 2 ^ 38) (n : Nat) (hn : 4 ≤ n) :
 ∃ (a : Arg) (q : Nat), q ≤ p + 4 ∧ ∀ s, go n 153 [pV, iV kind] [rB b p] s = some ⟨argX a, [rB b q], []⟩ := by
 obtain ⟨n, rfl⟩ : ∃ k, n = k + 1 := ⟨n - 1, by omega⟩
 by_cases c1 : kind = 11
 · obtain ⟨v, q, h1, h2, w⟩ := draw_num hb [0, 1, 2, 3, 5, -1, -7, 10, 100, 32767, -32768, 1000] (by simp) p (by omega) n (by omega)
   simp only [lV, List.map_cons, List.map_nil] at w; refine ⟨⟨kind, v, 0⟩, q, by omega, fun s => ?_⟩
   simp [go_of FT_153 rfl, F153, c1, w, List.replicate]
 by_cases c2 : kind = 12
 · obtain ⟨v, q, h1, h2, w⟩ := draw_num hb [0, 1, 5, -5, 25, -15, 999999999, -999999999, 3, 1001, 7] (by simp) p (by omega) n (by omega)
   simp only [lV, List.map_cons, List.map_nil] at w; obtain ⟨u, q2, h3, h4, h5, w2⟩ := draw_pick hb 6 q (by omega) n (by omega)
   by_cases c3 : v.tmod 10 = 0
   · refine ⟨⟨kind, v, 1⟩, q2, by omega, fun s => ?_⟩
     simp [go_of FT_153 rfl, F153, c1, c2, c3, w, w2, List.replicate]
   · refine ⟨⟨kind, v, IntKind.wrap .i64 (1 + u)⟩, q2, by omega, fun s => ?_⟩
     simp [go_of FT_153 rfl, F153, c1, c2, c3, w, w2, List.replicate]
 by_cases c3 : kind = 13
 · obtain ⟨u, q2, h3, h4, h5, w2⟩ := draw_pick hb 4 p (by omega) n (by omega)
   refine ⟨⟨kind, u, 0⟩, q2, by omega, fun s => ?_⟩
   simp [go_of FT_153 rfl, F153, c1, c2, c3, w2]
 · obtain ⟨u, q2, h3, h4, h5, w2⟩ := draw_pick hb 4 p (by omega) n (by omega)
   obtain ⟨u2, q3, h6, h7, h8, w3⟩ := draw_pick hb 6 q2 (by omega) n (by omega); have wd := run_DevSizeS (n := n) (by omega) kind
   by_cases c4 : u2 = 0
   · obtain ⟨u3, q4, h9, h10, h11, w4⟩ := draw_pick hb (devSize kind) q3 (by omega) n (by omega)
     by_cases c5 : devSize kind ≤ u3
     · refine ⟨⟨kind, 0, 0⟩, q4, by omega, fun s => ?_⟩
       simp [go_of FT_153 rfl, F153, c1, c2, c3, c4, c5, w2, w3, w4, wd]
     · refine ⟨⟨kind, u3, 0⟩, q4, by omega, fun s => ?_⟩
       simp [go_of FT_153 rfl, F153, c1, c2, c3, c4, c5, w2, w3, w4, wd]
   · by_cases c5 : devSize kind ≤ u
     · refine ⟨⟨kind, 0, 0⟩, q3, by omega, fun s => ?_⟩
       simp [go_of FT_153 rfl, F153, c1, c2, c3, c4, c5, w2, w3, wd]
     · refine ⟨⟨kind, u, 0⟩, q3, by omega, fun s => ?_⟩
       simp [go_of FT_153 rfl, F153, c1, c2, c3, c4, c5, w2, w3, wd]
theorem draw_Bit {b : List Int} (hb : RD b) (p : Nat) (hp : p < 2 ^ 37) (n : Nat) (hn : 5 ≤ n) : ∃ (a : Arg) (q : Nat), q ≤ p + 5 ∧ ∀ s, go n 155 [pV] [rB b p] s = some ⟨argX a, [rB b q], []⟩ := by
 obtain ⟨n, rfl⟩ : ∃ k, n = k + 1 := ⟨n - 1, by omega⟩; obtain ⟨v, q, h1, h2, w⟩ := draw_num hb [1, 1, 2, 3, 3, 4, 6, 7, 8] (by simp) p (by omega) n (by omega); simp only [lV, List.map_cons, List.map_nil] at w; obtain ⟨a, q2, h3, w2⟩ := draw_Arg hb v q (by omega) n (by omega); refine ⟨a, q2, by omega, fun s => ?_⟩
 simp [go_of FT_155 rfl, F155, w, w2, List.replicate]
theorem draw_Whole {b : List Int} (hb : RD b) (p : Nat) (hp : p < 2 ^ 37) (n : Nat) (hn : 5 ≤ n) : ∃ (a : Arg) (q : Nat), q ≤ p + 5 ∧ ∀ s, go n 156 [pV] [rB b p] s = some ⟨argX a, [rB b q], []⟩ := by
 obtain ⟨n, rfl⟩ : ∃ k, n = k + 1 := ⟨n - 1, by omega⟩; obtain ⟨v, q, h1, h2, w⟩ := draw_num hb [9, 9, 9, 11, 11, 7, 8] (by simp) p (by omega) n (by omega); simp only [lV, List.map_cons, List.map_nil] at w; obtain ⟨a, q2, h3, w2⟩ := draw_Arg hb v q (by omega) n (by omega); refine ⟨a, q2, by omega, fun s => ?_⟩
 simp [go_of FT_156 rfl, F156, w, w2, List.replicate]
theorem draw_Real {b : List Int} (hb : RD b) (p : Nat) (hp : p < 2 ^ 37) (n : Nat) (hn : 5 ≤ n) : ∃ (a : Arg) (q : Nat), q ≤ p + 5 ∧ ∀ s, go n 157 [pV] [rB b p] s = some ⟨argX a, [rB b q], []⟩ := by
 obtain ⟨n, rfl⟩ : ∃ k, n = k + 1 := ⟨n - 1, by omega⟩; obtain ⟨v, q, h1, h2, w⟩ := draw_num hb [10, 10, 10, 12, 13] (by simp) p (by omega) n (by omega); simp only [lV, List.map_cons, List.map_nil] at w; obtain ⟨a, q2, h3, w2⟩ := draw_Arg hb v q (by omega) n (by omega); refine ⟨a, q2, by omega, fun s => ?_⟩
 simp [go_of FT_157 rfl, F157, w, w2, List.replicate]
theorem draw_Contact {b : List Int} (hb : RD b) (p : Nat) (hp : p < 2 ^ 36) (n : Nat) (hn : 6 ≤ n) : ∃ (e : El) (q : Nat), e.as.length ≤ 2 ∧ q ≤ p + 24 ∧ ∀ s, go n 134 [pV] [rB b p] s = some ⟨elX e, [rB b q], []⟩ := by
 obtain ⟨n, rfl⟩ : ∃ k, n = k + 1 := ⟨n - 1, by omega⟩; obtain ⟨v, q, h1, h2, h3, w⟩ := draw_pick hb 8 p (by omega) n (by omega); have h2 := h2 (by omega); obtain ⟨a1, q1, g1, w1⟩ := draw_Bit hb q (by omega) n (by omega)
 by_cases c1 : v = 0 ∨ v = 1 ∨ v = 2
 · refine ⟨⟨1, [a1]⟩, q1, by simp, by omega, fun s => ?_⟩
   rcases c1 with rfl | rfl | rfl <;> simp [go_of FT_134 rfl, F134, w, w1, List.replicate, argRows, Arg.row]
 by_cases c2 : v = 3 ∨ v = 4
 · refine ⟨⟨2, [a1]⟩, q1, by simp, by omega, fun s => ?_⟩
   rcases c2 with rfl | rfl <;> simp [go_of FT_134 rfl, F134, w, w1, List.replicate, argRows, Arg.row]
 by_cases c3 : v = 5
 · obtain ⟨u, q2, h4, h5, h6, w2⟩ := draw_pick hb 2 q (by omega) n (by omega)
   obtain ⟨a1, q1, g1, w1⟩ := draw_Bit hb q2 (by omega) n (by omega); obtain ⟨a2, q3, g2, w3⟩ := draw_Arg hb 5 q1 (by omega) n (by omega); refine ⟨⟨IntKind.wrap .i64 (3 + u), [a1, a2]⟩, q3, by simp, by omega, fun s => ?_⟩
   subst c3; simp [go_of FT_134 rfl, F134, w, w1, w2, w3, List.replicate, argRows, Arg.row]
 · have hv : ∀ m : Int, m ≤ 5 → (v = m) = False := fun m hm => eq_false (by omega)
   clear w1 g1; obtain ⟨a, q1, g1, w1⟩ := draw_Whole hb q (by omega) n (by omega); obtain ⟨a2, q2, g2, w2⟩ := draw_Whole hb q1 (by omega) n (by omega); obtain ⟨u, q3, h4, h5, h6, w3⟩ := draw_pick hb 2 q2 (by omega) n (by omega)
   by_cases c4 : u = 0
   · obtain ⟨a3, q4, g3, w4⟩ := draw_Real hb q3 (by omega) n (by omega)
     obtain ⟨a4, q5, g4, w5⟩ := draw_Real hb q4 (by omega) n (by omega); obtain ⟨u2, q6, h7, h8, h9, w6⟩ := draw_pick hb 4 q5 (by omega) n (by omega); obtain ⟨u3, q7, h10, h11, h12, w7⟩ := draw_pick hb 6 q6 (by omega) n (by omega)
     by_cases c5 : u2 = 0
     · refine ⟨⟨IntKind.wrap .i64 (5 + u3), [a3, a3]⟩, q7, by simp, by omega, fun s => ?_⟩
       simp [go_of FT_134 rfl, F134, w, w1, w2, w3, w4, w5, w6, w7, hv, c4, c5, List.replicate, argRows, Arg.row]
     · refine ⟨⟨IntKind.wrap .i64 (5 + u3), [a3, a4]⟩, q7, by simp, by omega, fun s => ?_⟩
       simp [go_of FT_134 rfl, F134, w, w1, w2, w3, w4, w5, w6, w7, hv, c4, c5, List.replicate, argRows, Arg.row]
   · obtain ⟨u2, q6, h7, h8, h9, w6⟩ := draw_pick hb 4 q3 (by omega) n (by omega)
     obtain ⟨u3, q7, h10, h11, h12, w7⟩ := draw_pick hb 6 q6 (by omega) n (by omega)
     by_cases c5 : u2 = 0
     · refine ⟨⟨IntKind.wrap .i64 (5 + u3), [a, a]⟩, q7, by simp, by omega, fun s => ?_⟩
       simp [go_of FT_134 rfl, F134, w, w1, w2, w3, w6, w7, hv, c4, c5, List.replicate, argRows, Arg.row]
     · refine ⟨⟨IntKind.wrap .i64 (5 + u3), [a, a2]⟩, q7, by simp, by omega, fun s => ?_⟩
       simp [go_of FT_134 rfl, F134, w, w1, w2, w3, w6, w7, hv, c4, c5, List.replicate, argRows, Arg.row]
end Go.VM
