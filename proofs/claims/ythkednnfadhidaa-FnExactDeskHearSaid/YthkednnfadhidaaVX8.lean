/- What a desk hears: the whole, reckoned. Conditions: none. -/
import Derived.Test.YthkednnfadhidaaVX7
import Derived.Test.YthkednnfadhidaaVX6

namespace Go.VM
set_option linter.unusedSimpArgs false
set_option linter.unusedVariables false
set_option maxHeartbeats 8000000

/-- What a desk's next piece and state are once it has heard a word. -/
def hearN (b : Bool) (kd nm ix num next state of : Int) : Int × Int :=
  if b = false ∨ nm ≠ num ∨ state ≠ 1 then (next, state)
  else if kd = 3 then (if of < ix then of else ix, state)
  else if kd = 4 then (next, 2) else if kd = 5 then (next, 3) else (next, state)

def goQ (n : Nat) : CallT := fun f args bs s => if f = 92 then runMv (brw (go n)) modeI (fun _ => none) n F92 args bs s else go n f args bs s
def modeQ (f : Nat) : Mode := ⟨false, true, f == 92⟩

theorem run_copyDeskS {n : Nat} (hn : 3 ≤ n) (last num next state : Int) (st : Nat) (l : List Int) (hl : room l.length 1 = true) (s : Sup) :
    go n 89 [dkD last num (bW st l) next state] [] s = some ⟨dkD last num (bW 0 l) next state, [], []⟩ := by
  obtain ⟨n, rfl⟩ : ∃ k, n = k + 2 := ⟨n - 2, by omega⟩
  simp [go_of FT_89 rfl, F89, go_of FT_98 rfl, F98, rowParts, hl, byt_all]
theorem run_copyDeskI {n : Nat} (hn : 4 ≤ n) (last num next state : Int) (st : Nat) (l : List Int) (hl : room l.length 1 = true) (s : Sup) :
    go n 91 [dkD last num (bW st l) next state] [] s = some ⟨dkD last num (ownW 0 l.length (some l.length)) next state, [], [rowB l]⟩ := by
  obtain ⟨n, rfl⟩ : ∃ k, n = k + 1 := ⟨n - 1, by omega⟩
  have C := fun st s => run_clone (n := n) (by omega) st l hl s
  simp [go_of FT_91 rfl, F91, C, byt_all]

theorem run_hearS {n : Nat} (hn : 10 ≤ n) (last num next state : Int) (l : List Int) (hl : l.length ≤ 2 ^ 20) (kd nm of ix : Int) (p : List Int) (b : Bool) (hb : b = true ↔ WordOk kd nm of ix p.length) 
    (hok : deskOk last num next state l.length = true) (st st' : Nat) (s : Sup) :
    go n 50 [dkD last num (bW st l) next state, wwD kd nm of ix (bW st' p)] [] s = some ⟨dkD last num (bW 0 l) (hearN b kd nm ix num next state (wireOf l.length)).1 (hearN b kd nm ix num next state (wireOf l.length)).2, [], []⟩ := by
  obtain ⟨n, rfl⟩ : ∃ k, n = k + 1 := ⟨n - 1, by omega⟩
  have hr : room l.length 1 = true := room_p (by omega)
  have Q := fun s => run_deskOkS (n := n) (by omega) last num next state st l (by omega) s
  have C := fun st s => run_copyDeskS (n := n) (by omega) last num next state st l hr s
  have O := fun st s => run_wordS (n := n) (by omega) kd nm of ix st p b hb s
  have W := fun st s => run_wireOfS (n := n) (by omega) st l (by omega) s
  cases b with
  | false => simp [go_of FT_50 rfl, F50, Q, hok, C, O, hearN]
  | true =>
    by_cases h1 : nm = num
    · have h1' := eq_true h1
      by_cases h2 : state = 1
      · have h2' := eq_true h2
        by_cases h3 : kd = 3
        · have h3' := eq_true h3
          by_cases h6 : wireOf l.length < ix
          · have h6' := eq_true h6
            simp [go_of FT_50 rfl, F50, Q, hok, C, O, W, hearN, h1', h2', h3', h6']
          · have h6' := eq_false h6
            simp [go_of FT_50 rfl, F50, Q, hok, C, O, W, hearN, h1', h2', h3', h6']
        · have h3' := eq_false h3
          by_cases h4 : kd = 4
          · have h4' := eq_true h4
            simp [go_of FT_50 rfl, F50, Q, hok, C, O, W, hearN, h1', h2', h3', h4']
          · have h4' := eq_false h4
            by_cases h5 : kd = 5
            · have h5' := eq_true h5
              simp [go_of FT_50 rfl, F50, Q, hok, C, O, W, hearN, h1', h2', h3', h4', h5']
            · have h5' := eq_false h5
              simp [go_of FT_50 rfl, F50, Q, hok, C, O, W, hearN, h1', h2', h3', h4', h5']
      · have h2' := eq_false h2
        simp [go_of FT_50 rfl, F50, Q, hok, C, O, hearN, h1', h2']
    · have h1' := eq_false h1
      simp [go_of FT_50 rfl, F50, Q, hok, C, O, hearN, h1']

end Go.VM
