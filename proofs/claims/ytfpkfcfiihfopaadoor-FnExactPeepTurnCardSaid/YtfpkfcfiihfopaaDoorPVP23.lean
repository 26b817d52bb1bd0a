/- PeepTurn, as the document has it and with stamps. Conditions: the code of its functions is a premise; that the variable cmpFlips holds its table. -/
import Derived.Test.YtfpkfcfiihfopaaDoorPVP18
import Derived.Test.YtfpkfcfiihfopaaDoorPVY8

namespace Go.VM
set_option linter.unusedSimpArgs false
set_option linter.unusedVariables false
set_option maxHeartbeats 64000000
set_option maxRecDepth 10000
def F369T : Fn := ⟨51, [.cell 2 true 2, .tmp 3], (.seq (.reg [oo 1 (.box 2 (.t 0)), oo 2 (.new [(wi 0), .nil]), oo 3 (.mv (xb false))]) (.seq (.seq (.reg [oo 5 (.ld true 2 (.t 1)), oo 6 (.call (xf 166) [(.t 5)]), oo 7 (.un .not (.t 6)), om 8 7, og 9 (.fa 0 (.t 1)) 8 false, og 10 (.ld false 1 (.t 9)) 8 false, og 11 (.bin .eql .one (.t 10) (xi 3)) 8 false, oo 12 (.pick (.t 8) (xb true) (.t 11)), om 13 12, og 14 (.fa 0 (.t 1)) 13 false, og 15 (.ld false 1 (.t 14)) 13 false, og 16 (.bin .eql .one (.t 15) (xi 4)) 13 false, oo 17 (.pick (.t 13) (xb true) (.t 16)), om 18 17, og 19 (.fa 0 (.t 1)) 18 false, og 20 (.ld false 1 (.t 19)) 18 false, og 21 (.bin .geq .one (.t 20) (xi 5)) 18 false, og 22 (.mv (.t 21)) 18 false, og 23 (.fa 1 (.t 1)) 22 true, og 24 (.ld false 1 (.t 23)) 22 true, og 25 (.ia 3 (.t 24) (xi 0)) 22 true, og 26 (.ld true 3 (.t 25)) 22 true, og 27 (.call (xf 168) [(.t 26)]) 22 true, og 28 (.un .not (.t 27)) 22 true, og 29 (.pick (.t 22) (.t 28) (xb false)) 18 false, oo 30 (.pick (.t 18) (xb true) (.t 29))]) (.cond (.t 30) (.seq (.reg [oo 31 (.bld [(wi 0), .nil] []), on (.st 2 (.t 2) (.t 31)), oo 3 (.mv (xb false))]) .ret) .skip)) (.seq (.reg [oo 32 (.fa 0 (.t 1)), oo 33 (.ld false 1 (.t 32)), oo 34 (.bin .sub .one (xi 3) (.t 33)), om 4 34]) (.seq (.seq (.reg [oo 35 (.fa 0 (.t 1)), oo 36 (.ld false 1 (.t 35)), oo 37 (.bin .geq .one (.t 36) (xi 5))]) (.cond (.t 37) (.reg [oo 38 (.fa 0 (.t 1)), oo 39 (.ld false 1 (.t 38)), oo 40 (.bin .sub .one (.t 39) (xi 5)), oo 41
 (.bin .add .one (.t 40) (xi 1)), oo 42 (.call (xf 377) [(.t 41)]), oo 43 (.bin .add .one (.t 42) (xi 5)), oo 44 (.bin .sub .one (.t 43) (xi 1)), om 4 44]) .skip)) (.seq (.reg [om 45 4, oo 46 (.bsl 3 0 [(.s (.int .i64 0)), (.s (.int .i64 0)), (.s (.int .i64 0))] []), oo 47 (.fa 1 (.t 1)), oo 48 (.ld false 1 (.t 47)), oo 49 (.app 3 24 [(.s (.int .i64 0)), (.s (.int .i64 0)), (.s (.int .i64 0))] (.t 46) (.t 48)), oo 50 (.bld [(wi 0), .nil] [(0, 1, (.t 45)), (1, 1, (.t 49))]), on (.st 2 (.t 2) (.t 50)), oo 3 (.mv (xb true))]) .ret)))))⟩
def F375T : Fn := ⟨35, [.cell 2 true 2, .tmp 3], (.seq (.reg [oo 1 (.box 2 (.t 0)), oo 2 (.new [(wi 0), .nil]), oo 3 (.mv (xb false))]) (.seq (.reg [oo 5 (.ld true 2 (.t 1)), oo 6 (.call (xf 163) [(.t 5)]), oo 4 (.new [(wi 0), .nil]), on (.st 2 (.t 4) (.t 6))]) (.seq (.block 0 (.seq (.reg [oo 9 (.ld true 2 (.t 1)), oo 10 (.call (xf 137) [(.t 9)]), oo 11 (.un .not (.t 10)), om 8 11]) (.cond (.t 8) (.seq (.reg [oo 12 (.bld [(wi 0), .nil] []), on (.st 2 (.t 2) (.t 12)), oo 3 (.mv (xb false))]) .ret) (.seq (.reg [oo 14 (.fa 0 (.t 1)), oo 15 (.ld false 1 (.t 14)), oo 16 (.bin .eql .one (.t 15) (xi 1)), om 13 16]) (.cond (.t 13) (.reg [oo 17 (.fa 0 (.t 4)), on (.st 1 (.t 17) (xi 2))]) (.seq (.reg [oo 19 (.fa 0 (.t 1)), oo 20 (.ld false 1 (.t 19)), oo 21 (.bin .eql .one (.t 20) (xi 2)), om 18 21]) (.cond (.t 18) (.reg [oo 22 (.fa 0 (.t 4)), on (.st 1 (.t 22) (xi 1))]) (.seq (.reg [oo 24 (.ld true 2 (.t 1)), oo 25 (.call (xf 378) [(.t 24)]), om 23 25]) (.cond (.t 23) (.reg [oo 26 (.fa 0 (.t 1)), oo 27 (.ld false 1 (.t 26)), oo 28 (.bin .sub .one (.t 27) (xi 5)), oo 29 (.bin .add .one (.t 28) (xi 1)), oo 30 (.call (xf 380) [(.t 29)]), oo 31 (.bin .sub .one (.t 30) (xi 1)), oo 32 (.bin .add .one (.t 31) (xi 5)), oo 33 (.fa 0 (.t 4)), on (.st 1 (.t 33) (.t 32))]) (.seq (.reg [oo 7 (.bld [(wi 0), .nil] []), on (.st 2 (.t 2) (.t 7)), oo 3 (.mv (xb false))]) .ret)))))))))) (.seq (.reg [oo 34 (.ld true 2 (.t 4)), on (.st 2 (.t 2) (.t 34)), oo 3 (.mv (xb true))]) .ret))))⟩
def F377T : Fn := ⟨14, [.tmp 2], (.seq (.reg [oo 2 (.mv (xi 0))]) (.seq (.seq (.reg [om 3 0, oo 4 (.bin .lss .one (.t 3) (xi 1)), om 5 4, og 6 (.mv (.t 0)) 5 false, og 7 (.bin .gtr .one (.t 6) (xi 6)) 5 false, oo 8 (.pick (.t 5) (xb true) (.t 7))]) (.cond (.t 8) (.seq (.reg [oo 2 (.mv (xi 0))]) .ret) .skip)) (.seq (.reg [oo 9 (.bsl 1 6 [(.s (.int .i64 0))] [(0, (xi 5)), (1, (xi 6)), (2, (xi 4)), (3, (xi 3)), (4, (xi 1)), (5, (xi 2))]), om 10 0, oo 11 (.bin .sub .one (.t 10) (xi 1)), oo 12 (.ia 1 (.t 9) (.t 11)), oo 13 (.ld false 1 (.t 12)), om 2 13]) .ret)))⟩
def F378T : Fn := ⟨15, [.tmp 2], (.seq (.reg [oo 1 (.box 2 (.t 0)), oo 2 (.mv (xb false))]) (.seq (.reg [oo 3 (.ld true 2 (.t 1)), oo 4 (.call (xf 137) [(.t 3)]), om 5 4, og 6 (.fa 0 (.t 1)) 5 true, og 7 (.ld false 1 (.t 6)) 5 true, og 8 (.call (xf 60) [(.t 7), (xi 5), (xi 10)]) 5 true, oo 9 (.pick (.t 5) (.t 8) (xb false)), om 10 9, og 11 (.fa 1 (.t 1)) 10 true, og 12 (.ld false 1 (.t 11)) 10 true, og 13 (.call (xf 183) [(.t 12), (xf 184)]) 10 true, oo 14 (.pick (.t 10) (.t 13) (xb false)), om 2 14]) .ret))⟩
def F382T : Fn := ⟨5, [.tmp 2], (.seq (.reg [oo 2 (.mv (xb false))]) (.seq (.reg [om 3 0, oo 4 (.call (xf 60) [(.t 3), (xi 1), (xi 6)]), om 2 4]) .ret))⟩
def F380T (g : Nat) : Fn := ⟨10, [.tmp 2], (.seq (.reg [oo 2 (.mv (xi 0))]) (.seq (.seq (.reg [om 3 0, oo 4 (.call (xf 382) [(.t 3)]), oo 5 (.un .not (.t 4))]) (.cond (.t 5) (.seq (.reg [oo 2 (.mv (xi 0))]) .ret) .skip)) (.seq (.reg [oo 6 (.ld false 1 (.g g)), om 7 0, oo 8 (.ia 1 (.t 6) (.t 7)), oo 9 (.ld false 1 (.t 8)), om 2 9]) .ret)))⟩
def flipsD : List D := ints [0, 5, 6, 4, 3, 1, 2]
def flipI (k : Int) : Int := if k = 1 then 5 else if k = 2 then 6 else if k = 3 then 4 else if k = 4 then 3 else if k = 5 then 1 else if k = 6 then 2 else 0
def El.turn (e : El) : Option El := if e.contact = true ∧ ¬ (e.op = 3 ∨ e.op = 4) ∧ (5 ≤ e.op → e.as.all Arg.whole = true) then some ⟨if 5 ≤ e.op then flipI (e.op - 4) + 4 else 3 - e.op, e.as⟩ else none
def El.nil : El := ⟨0, []⟩
theorem contact_cases {e : El} (h : e.contact = true) : (∃ a, (e = ⟨1, [a]⟩ ∨ e = ⟨2, [a]⟩)) ∨ (∃ a b, (e = ⟨3, [a, b]⟩ ∨ e = ⟨4, [a, b]⟩)) ∨ ∃ a b, ((a.whole = true ∧ b.whole = true) ∨ a.whole = false) ∧ (e = ⟨5, [a, b]⟩ ∨ e = ⟨6, [a, b]⟩ ∨ e = ⟨7, [a, b]⟩ ∨ e = ⟨8, [a, b]⟩ ∨ e = ⟨9, [a, b]⟩ ∨ e = ⟨10, [a, b]⟩) := by
 obtain ⟨op, as⟩ := e; unfold El.contact at h
 match as, h with
 | [a], h =>
  simp only [Bool.and_eq_true, decide_eq_true_eq] at h; rcases h.1 with rfl | rfl
  · exact .inl ⟨a, .inl rfl⟩
  · exact .inl ⟨a, .inr rfl⟩
 | [a, b], h =>
  simp only at h; split at h
  · rename_i h2
    rcases h2 with rfl | rfl
    · exact .inr (.inl ⟨a, b, .inl rfl⟩)
    · exact .inr (.inl ⟨a, b, .inr rfl⟩)
  · simp only [Bool.and_eq_true, decide_eq_true_eq, Bool.or_eq_true] at h
    obtain ⟨⟨h5, h10⟩, h⟩ := h; refine .inr (.inr ⟨a, b, ?_, ?_⟩)
    · rcases h with h | ⟨h, -⟩
      · exact .inl h
      · refine .inr ?_
        simp only [Arg.real, Arg.whole, Arg.isK, Bool.and_eq_true, List.contains_cons, List.contains_nil, Bool.or_eq_true, beq_iff_eq, Bool.or_false, Bool.false_eq_true, or_false] at h ⊢; simp only [Bool.and_eq_false_iff, Bool.or_eq_false_iff, beq_eq_false_iff_ne]; exact .inr ⟨by omega, by omega, by omega, by omega⟩
    · have : op = 5 ∨ op = 6 ∨ op = 7 ∨ op = 8 ∨ op = 9 ∨ op = 10 := by omega
      rcases this with rfl | rfl | rfl | rfl | rfl | rfl <;> simp
 | [], h => simp at h
 | a :: b :: c :: r, h => simp at h
theorem run_flipS {n : Nat} (h377 : FT 377 = some F377T) (k : Int) (h1 : 1 ≤ k) (h2 : k ≤ 6) (s : Sup) : go (n + 1) 377 [iV k] [] s = some ⟨iV (flipI k), [], []⟩ := by
 have : k = 1 ∨ k = 2 ∨ k = 3 ∨ k = 4 ∨ k = 5 ∨ k = 6 := by omega
 rcases this with rfl | rfl | rfl | rfl | rfl | rfl <;> simp [go_of h377 rfl, F377T, flipI, wrap_id]
theorem run_PeepTurnS {n : Nat} (h369 : FT 369 = some F369T) (h377 : FT 377 = some F377T) (hn : 20 ≤ n) (e : El) (s : Sup) : go n 369 [elX e] [] s = some ⟨.tup [(true, ((e.turn).getD El.nil).row.map W.d), (false, [.d (.s (.bool (e.turn).isSome))])], [], []⟩ := by
 obtain ⟨n, rfl⟩ : ∃ k, n = k + 2 := ⟨n - 2, by omega⟩; have w := run_ElemIsContactS (n := n + 1) (by omega) e; have w2 := fun a => run_DevIsWholeS (n := n + 1) (by omega) a
 have w3 := fun k h1 h2 => run_flipS (n := n) h377 k h1 h2
 have rm1 : room 1 24 = true := room_of (by omega) (by omega); have rm2 : room 2 24 = true := room_of (by omega) (by omega); cases hc : e.contact with
 | false =>
  rw [hc] at w; obtain ⟨op, as⟩ := e; simp [go_of h369 rfl, F369T, rm1, rm2, w, El.turn, hc, El.nil, El.row]
 | true =>
  rw [hc] at w; rcases contact_cases hc with ⟨a, rfl | rfl⟩ | ⟨a, b, rfl | rfl⟩ | ⟨a, b, hab, h⟩
  · simp only [elX, argX, argRows, List.map_cons, List.map_nil, Arg.row] at w
    simp [go_of h369 rfl, F369T, rm1, rm2, wrap_id, w, El.turn, hc, El.nil, El.row, argRows, Arg.row]
  · simp only [elX, argX, argRows, List.map_cons, List.map_nil, Arg.row] at w
    simp [go_of h369 rfl, F369T, rm1, rm2, wrap_id, w, El.turn, hc, El.nil, El.row, argRows, Arg.row]
  · simp only [elX, argX, argRows, List.map_cons, List.map_nil, Arg.row] at w
    simp [go_of h369 rfl, F369T, rm1, rm2, w, El.turn, hc, El.nil, El.row, argRows, Arg.row]
  · simp only [elX, argX, argRows, List.map_cons, List.map_nil, Arg.row] at w
    simp [go_of h369 rfl, F369T, rm1, rm2, w, El.turn, hc, El.nil, El.row, argRows, Arg.row]
  · have w2 := w2 a
    simp only [elX, argX, argRows, List.map_cons, List.map_nil, Arg.row] at w2; rcases hab with ⟨ha, hb⟩ | ha
    · rw [ha] at w2
      rcases h with rfl | rfl | rfl | rfl | rfl | rfl <;> simp only [elX, argX, argRows, List.map_cons, List.map_nil, Arg.row] at w <;> simp [go_of h369 rfl, F369T, rm1, rm2, wrap_id, w, w2, w3, El.turn, hc, ha, hb, El.nil, El.row, argRows, Arg.row, flipI]
    · rw [ha] at w2
      rcases h with rfl | rfl | rfl | rfl | rfl | rfl <;> simp only [elX, argX, argRows, List.map_cons, List.map_nil, Arg.row] at w <;> simp [go_of h369 rfl, F369T, rm1, rm2, wrap_id, w, w2, w3, El.turn, hc, ha, El.nil, El.row, argRows, Arg.row]
theorem run_flip {n g : Nat} (h380 : FT 380 = some (F380T g)) (h382 : FT 382 = some F382T) (hG : GT g = some (gRow flipsD)) (k : Int) (h1 : 1 ≤ k) (h2 : k ≤ 6) (s : Sup) : go (n + 3) 380 [iV k] [] s = some ⟨iV (flipI k), [], []⟩ := by
 have w := run_within (n := n + 1) (by omega); have : k = 1 ∨ k = 2 ∨ k = 3 ∨ k = 4 ∨ k = 5 ∨ k = 6 := by omega
 rcases this with rfl | rfl | rfl | rfl | rfl | rfl <;> simp [go_of h380 rfl, go_of h382 rfl, F380T, F382T, w, wrap_id, hG, gRow, flipsD, ints, flipI]
theorem run_wholeC {n : Nat} (h378 : FT 378 = some F378T) (e : El) (hn : e.as.length + 60 ≤ n) (hl : e.as.length < 2 ^ 30) (s : Sup) : go n 378 [elX e] [] s = some ⟨sV (.bool (e.contact && (decide (5 ≤ e.op) && decide (e.op ≤ 10)) && e.as.all Arg.whole)), [], []⟩ := by
 obtain ⟨n, rfl⟩ : ∃ k, n = k + 1 := ⟨n - 1, by omega⟩; have w := run_ElemIsContact (n := n) (by omega) e (by omega); have w2 := run_within (n := n) (by omega) e.op 5 10; have w3 := run_allW (n := n) e.as (by omega) (by omega); obtain ⟨op, as⟩ := e; simp only at w2 w3 ⊢; generalize El.contact ⟨op, as⟩ = b1 at w ⊢; generalize (decide (5 ≤ op) && decide (op ≤ 10)) = b2 at w2 ⊢; generalize as.all Arg.whole = b3 at w3 ⊢; cases b1 <;> cases b2 <;> cases b3 <;> simp [go_of h378 rfl, F378T, w, w2, w3]
theorem ps_PeepTurn {n g : Nat} (h375 : FT 375 = some F375T) (h378 : FT 378 = some F378T) (h380 : FT 380 = some (F380T g)) (h382 : FT 382 = some F382T) (hG : GT g = some (gRow flipsD)) (e : El) (hn : e.as.length + 80 ≤ n) (hl : e.as.length < 2 ^ 30) (s : Sup) :
 ∃ ds : List D, goS n 375 [elX e] [] s = some ⟨.tup [(true, ds.map W.d), (false, [.d (.s (.bool (e.turn).isSome))])], [], []⟩ ∧ erL ds = ((e.turn).getD El.nil).row ∧ (Inj s → Fr s (stsL ds)) := by
 obtain ⟨n, rfl⟩ : ∃ k, n = k + 4 := ⟨n - 4, by omega⟩; have w := run_ElemIsContact (n := n + 3) (by omega) e (by omega); have w2 := run_wholeC (n := n + 3) h378 e (by omega) hl; have w3 := fun k h1 h2 => run_flip (n := n) h380 h382 hG k h1 h2
 have g1 : goS (n + 3) 137 = go (n + 3) 137 := gos_go rfl; have g2 : goS (n + 3) 378 = go (n + 3) 378 := gos_go rfl; have g3 : goS (n + 3) 380 = go (n + 3) 380 := gos_go rfl; obtain ⟨t, R, v⟩ := cp_elem (n := n + 3) (by omega) e hl; have v1 := fun s => (v s).1
 have nil : e.turn = none → erL [iD 0, .l 0 []] = ((e.turn).getD El.nil).row ∧ (Inj s → Fr s (stsL [iD 0, .l 0 []])) := fun h => ⟨by rw [h]; simp [erL, D.er, erR, El.row, argRows, El.nil], fun _ => by simpa [stsL_c, stsL_n, sts_s, D.sts] using fr_nil⟩
 have none_ : e.turn = none → goS (n + 4) 375 [elX e] [] s = some ⟨.tup [(true, [iW 0, .d (.l 0 [])]), (false, [.d (.s (.bool false))])], [], []⟩ → ∃ ds : List D, goS (n + 4) 375 [elX e] [] s = some ⟨.tup [(true, ds.map W.d), (false, [.d (.s (.bool (e.turn).isSome))])], [], []⟩ ∧ erL ds = ((e.turn).getD El.nil).row ∧ (Inj s → Fr s (stsL ds)) :=
  fun ht h => ⟨[iD 0, .l 0 []], by rw [ht]; exact h, nil ht⟩
 have key : ∀ op' : Int, e.turn = some ⟨op', e.as⟩ → goS (n + 4) 375 [elX e] [] s = some ⟨.tup [(true, [iW op', .d (.l (t fun k => subS (restS s) 1 (2 * k + 1)) (R fun k => subS (restS s) 1 (2 * k + 1)))]), (false, [.d (.s (.bool true))])], [], []⟩ →
  ∃ ds : List D, goS (n + 4) 375 [elX e] [] s = some ⟨.tup [(true, ds.map W.d), (false, [.d (.s (.bool (e.turn).isSome))])], [], []⟩ ∧ erL ds = ((e.turn).getD El.nil).row ∧ (Inj s → Fr s (stsL ds)) := by
  intro op' ht e1; rw [ht]; refine ⟨[iD op', .l (t fun k => subS (restS s) 1 (2 * k + 1)) (R fun k => subS (restS s) 1 (2 * k + 1))], e1, by simp [erL, D.er, (v _).2.1, El.row], fun hi => ?_⟩
  have := ((past_0 hi).weak.call 1 (v _).2.2).fr
  simpa [stsL_c, stsL_n, sts_s] using this
 clear nil; cases hc : e.contact with
 | false =>
  rw [hc] at w; have ht : e.turn = none := by simp [El.turn, hc]
  refine none_ ht ?_
  clear none_ key v; obtain ⟨op, as⟩ := e; simp [gos_of h375 rfl, F375T, g1, g2, g3, w, v1]
 | true =>
  rw [hc] at w w2; rcases contact_cases hc with ⟨a, h | h⟩ | ⟨a, b, h | h⟩ | ⟨a, b, hab, h⟩
  · refine key 2 (by subst h; simp [El.turn, hc]) ?_
    clear none_ key v; subst h; simp only [elX, argX, argRows, List.map_cons, List.map_nil, Arg.row] at w w2 v1 ⊢; simp [gos_of h375 rfl, F375T, g1, g2, g3, w, w2, v1]
  · refine key 1 (by subst h; simp [El.turn, hc]) ?_
    clear none_ key v; subst h; simp only [elX, argX, argRows, List.map_cons, List.map_nil, Arg.row] at w w2 v1 ⊢; simp [gos_of h375 rfl, F375T, g1, g2, g3, w, w2, v1]
  · refine none_ (by subst h; simp [El.turn]) ?_
    clear none_ key v; subst h; simp only [elX, argX, argRows, List.map_cons, List.map_nil, Arg.row] at w w2 v1 ⊢; simp [gos_of h375 rfl, F375T, g1, g2, g3, w, w2, v1]
  · refine none_ (by subst h; simp [El.turn]) ?_
    clear none_ key v; subst h; simp only [elX, argX, argRows, List.map_cons, List.map_nil, Arg.row] at w w2 v1 ⊢; simp [gos_of h375 rfl, F375T, g1, g2, g3, w, w2, v1]
  · rcases hab with ⟨ha, hb⟩ | ha
    · rcases h with h | h | h | h | h | h
      · refine key 9 (by subst h; simp [El.turn, hc, ha, hb, flipI]) ?_
        clear none_ key v; subst h; simp only [elX, argX, argRows, List.map_cons, List.map_nil, Arg.row] at w w2 v1 ⊢; simp [gos_of h375 rfl, F375T, g1, g2, g3, w, w2, v1, w3, wrap_id, ha, hb, flipI]
      · refine key 10 (by subst h; simp [El.turn, hc, ha, hb, flipI]) ?_
        clear none_ key v; subst h; simp only [elX, argX, argRows, List.map_cons, List.map_nil, Arg.row] at w w2 v1 ⊢; simp [gos_of h375 rfl, F375T, g1, g2, g3, w, w2, v1, w3, wrap_id, ha, hb, flipI]
      · refine key 8 (by subst h; simp [El.turn, hc, ha, hb, flipI]) ?_
        clear none_ key v; subst h; simp only [elX, argX, argRows, List.map_cons, List.map_nil, Arg.row] at w w2 v1 ⊢; simp [gos_of h375 rfl, F375T, g1, g2, g3, w, w2, v1, w3, wrap_id, ha, hb, flipI]
      · refine key 7 (by subst h; simp [El.turn, hc, ha, hb, flipI]) ?_
        clear none_ key v; subst h; simp only [elX, argX, argRows, List.map_cons, List.map_nil, Arg.row] at w w2 v1 ⊢; simp [gos_of h375 rfl, F375T, g1, g2, g3, w, w2, v1, w3, wrap_id, ha, hb, flipI]
      · refine key 5 (by subst h; simp [El.turn, hc, ha, hb, flipI]) ?_
        clear none_ key v; subst h; simp only [elX, argX, argRows, List.map_cons, List.map_nil, Arg.row] at w w2 v1 ⊢; simp [gos_of h375 rfl, F375T, g1, g2, g3, w, w2, v1, w3, wrap_id, ha, hb, flipI]
      · refine key 6 (by subst h; simp [El.turn, hc, ha, hb, flipI]) ?_
        clear none_ key v; subst h; simp only [elX, argX, argRows, List.map_cons, List.map_nil, Arg.row] at w w2 v1 ⊢; simp [gos_of h375 rfl, F375T, g1, g2, g3, w, w2, v1, w3, wrap_id, ha, hb, flipI]
    · rcases h with h | h | h | h | h | h
      · refine none_ (by subst h; simp [El.turn, ha]) ?_
        clear none_ key v; subst h; simp only [elX, argX, argRows, List.map_cons, List.map_nil, Arg.row] at w w2 v1 ⊢; simp [gos_of h375 rfl, F375T, g1, g2, g3, w, w2, v1, ha]
      · refine none_ (by subst h; simp [El.turn, ha]) ?_
        clear none_ key v; subst h; simp only [elX, argX, argRows, List.map_cons, List.map_nil, Arg.row] at w w2 v1 ⊢; simp [gos_of h375 rfl, F375T, g1, g2, g3, w, w2, v1, ha]
      · refine none_ (by subst h; simp [El.turn, ha]) ?_
        clear none_ key v; subst h; simp only [elX, argX, argRows, List.map_cons, List.map_nil, Arg.row] at w w2 v1 ⊢; simp [gos_of h375 rfl, F375T, g1, g2, g3, w, w2, v1, ha]
      · refine none_ (by subst h; simp [El.turn, ha]) ?_
        clear none_ key v; subst h; simp only [elX, argX, argRows, List.map_cons, List.map_nil, Arg.row] at w w2 v1 ⊢; simp [gos_of h375 rfl, F375T, g1, g2, g3, w, w2, v1, ha]
      · refine none_ (by subst h; simp [El.turn, ha]) ?_
        clear none_ key v; subst h; simp only [elX, argX, argRows, List.map_cons, List.map_nil, Arg.row] at w w2 v1 ⊢; simp [gos_of h375 rfl, F375T, g1, g2, g3, w, w2, v1, ha]
      · refine none_ (by subst h; simp [El.turn, ha]) ?_
        clear none_ key v; subst h; simp only [elX, argX, argRows, List.map_cons, List.map_nil, Arg.row] at w w2 v1 ⊢; simp [gos_of h375 rfl, F375T, g1, g2, g3, w, w2, v1, ha]
end Go.VM
