/- What a desk hears, the program's, its result one's own. Conditions: none. -/
import Derived.Test.YthkednnfadhidaaVX8

namespace Go.VM
set_option linter.unusedSimpArgs false
set_option linter.unusedVariables false
set_option maxHeartbeats 8000000

theorem run_hearI {n : Nat} (hn : 10 ≤ n) (last num next state : Int) (l : List Int) (hl : l.length ≤ 2 ^ 20) (kd nm of ix : Int) (p : List Int) (b : Bool) (hb : b = true ↔ WordOk kd nm of ix p.length) 
    (hok : deskOk last num next state l.length = true) (st st' : Nat) (s : Sup) :
    runMv (goQ n) modeQ (fun _ => none) n F51 [dkD last num (bW st l) next state, wwD kd nm of ix (bW st' p)] [] s = some ⟨dkD last num (ownW 0 l.length (some l.length)) (hearN b kd nm ix num next state (wireOf l.length)).1 (hearN b kd nm ix num next state (wireOf l.length)).2, [], [rowB l]⟩ := by
  have hr : room l.length 1 = true := room_p (by omega)
  have Q : ∀ s, goQ n 18 [dkD last num (bW st l) next state] [] s = _ := fun s => (show goQ n 18 _ _ _ = go n 18 _ _ _ from rfl).trans (run_deskOkI (n := n) (by omega) last num next state st l (by omega) s)
  have C : ∀ st s, goQ n 91 [dkD last num (bW st l) next state] [] s = _ := fun st s => (show goQ n 91 _ _ _ = go n 91 _ _ _ from rfl).trans (run_copyDeskI (n := n) (by omega) last num next state st l hr s)
  have O := fun st s => run_wordI (n := n) (by omega) kd nm of ix st p b hb s
  have WO := fun st s => run_wireOfI (n := n) (by omega) st l (by omega) s
  have X92 : ∀ args bs s, goQ n 92 args bs s = runMv (brw (go n)) modeI (fun _ => none) n F92 args bs s := fun _ _ _ => rfl
  cases b with
  | false => simp [runMv_at, F51, modeQ, Q, hok, C, X92, F92, modeI, brw_at, brwCall, brwEnd, O, hearN, V.flat, W.flat]
  | true =>
    by_cases h1 : nm = num
    · have h1' := eq_true h1
      by_cases h2 : state = 1
      · have h2' := eq_true h2
        by_cases h3 : kd = 3
        · have h3' := eq_true h3
          by_cases h6 : wireOf l.length < ix
          · have h6' := eq_true h6
            simp [runMv_at, F51, modeQ, Q, hok, C, X92, F92, modeI, brw_at, brwCall, brwEnd, O, WO, V.flat, W.flat,  hearN, h1', h2', h3', h6']
          · have h6' := eq_false h6
            simp [runMv_at, F51, modeQ, Q, hok, C, X92, F92, modeI, brw_at, brwCall, brwEnd, O, WO, V.flat, W.flat,  hearN, h1', h2', h3', h6']
        · have h3' := eq_false h3
          by_cases h4 : kd = 4
          · have h4' := eq_true h4
            simp [runMv_at, F51, modeQ, Q, hok, C, X92, F92, modeI, brw_at, brwCall, brwEnd, O, WO, V.flat, W.flat,  hearN, h1', h2', h3', h4']
          · have h4' := eq_false h4
            by_cases h5 : kd = 5
            · have h5' := eq_true h5
              simp [runMv_at, F51, modeQ, Q, hok, C, X92, F92, modeI, brw_at, brwCall, brwEnd, O, WO, V.flat, W.flat,  hearN, h1', h2', h3', h4', h5']
            · have h5' := eq_false h5
              simp [runMv_at, F51, modeQ, Q, hok, C, X92, F92, modeI, brw_at, brwCall, brwEnd, O, WO, V.flat, W.flat,  hearN, h1', h2', h3', h4', h5']
      · have h2' := eq_false h2
        simp [runMv_at, F51, modeQ, Q, hok, C, X92, F92, modeI, brw_at, brwCall, brwEnd, O, WO, V.flat, W.flat,  hearN, h1', h2']
    · have h1' := eq_false h1
      simp [runMv_at, F51, modeQ, Q, hok, C, X92, F92, modeI, brw_at, brwCall, brwEnd, O, WO, V.flat, W.flat,  hearN, h1']

end Go.VM
