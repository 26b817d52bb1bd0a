/- What a desk says: the whole, reckoned. Conditions: none. -/
import Derived.Test.YthkednnfadhidaaVX5

namespace Go.VM
set_option linter.unusedSimpArgs false
set_option linter.unusedVariables false
set_option maxHeartbeats 8000000

def goZ (n : Nat) : CallT := fun f args bs s => if f = 97 then runMv (go n) mode (fun _ => none) n F97 args bs s else go n f args bs s
def goS (n : Nat) : CallT := fun f args bs s => if f = 79 then runMv (goZ n) mode (fun _ => none) n F79 args bs s else go n f args bs s

theorem ok_at {last num next state : Int} {n : Nat} (h : deskOk last num next state n = true) (hs : state = 1) : 0 ≤ next ∧ next ≤ wireOf n ∧ n ≤ 21600 ∧ wireOf n = ((n + 23) / 24 : Nat) := by
  unfold deskOk at h
  rw [hs, if_neg (by decide)] at h
  simp only [Bool.and_eq_true, decide_eq_true_eq] at h
  have hw : 0 < wireOf n := h.2.2.2.2.2.1
  refine ⟨h.2.2.2.2.2.2.1, h.2.2.2.2.2.2.2, ?_, ?_⟩
  · unfold wireOf at hw; split at hw <;> omega
  · unfold wireOf at hw ⊢; split
    · rename_i c; rw [if_pos c] at hw; omega
    · rfl

section
variable {n : Nat} (hn : 10 ≤ n) (last num next state : Int) (l : List Int) (hl : l.length ≤ 2 ^ 20)
include hn hl

theorem say_no (h : ¬ (deskOk last num next state l.length = true ∧ state = 1)) (st : Nat) (s : Sup) :
    go n 34 [dkD last num (bW st l) next state] [] s = some ⟨.tup [(true, [iW 0, iW 0, iW 0, iW 0, .d (.l 0 [])]), (false, [.d (.s (.bool false))])], [], []⟩ ∧
    runMv (goS n) mode (fun _ => none) n F35 [dkD last num (bW st l) next state] [] s = some ⟨.tup [(true, [iW 0, iW 0, iW 0, iW 0, .nil]), (false, [.d (.s (.bool false))])], [], []⟩ := by
  constructor
  · obtain ⟨n, rfl⟩ : ∃ k, n = k + 1 := ⟨n - 1, by omega⟩
    have Q := fun s => run_deskOkS (n := n) (by omega) last num next state st l (by omega) s
    cases hok : deskOk last num next state l.length with
    | false => simp [go_of FT_34 rfl, F34, Q, hok]
    | true =>
      have hs : (state = 1) = False := eq_false (fun e => h ⟨hok, e⟩)
      simp [go_of FT_34 rfl, F34, Q, hok, hs]
  · have Q : ∀ s, goS n 18 [dkD last num (bW st l) next state] [] s = _ := fun s => (show goS n 18 _ _ _ = go n 18 _ _ _ from rfl).trans (run_deskOkI (n := n) (by omega) last num next state st l (by omega) s)
    cases hok : deskOk last num next state l.length with
    | false => simp [runMv_at, F35, Q, hok]
    | true =>
      have hs : (state = 1) = False := eq_false (fun e => h ⟨hok, e⟩)
      have X79 : ∀ args bs s, goS n 79 args bs s = runMv (goZ n) mode (fun _ => none) n F79 args bs s := fun _ _ _ => rfl
      simp [runMv_at, F35, Q, hok, X79, F79, hs]

theorem say_ask (hok : deskOk last num next state l.length = true) (hs : state = 1) (hx : next = wireOf l.length) (st : Nat) (s : Sup) :
    go n 34 [dkD last num (bW st l) next state] [] s = some ⟨.tup [(true, [iW 2, iW num, iW 0, iW 0, .d (.l 0 [])]), (false, [.d (.s (.bool true))])], [], []⟩ ∧
    runMv (goS n) mode (fun _ => none) n F35 [dkD last num (bW st l) next state] [] s = some ⟨.tup [(true, [iW 2, iW num, iW 0, iW 0, .nil]), (false, [.d (.s (.bool true))])], [], []⟩ := by
  subst hs
  constructor
  · obtain ⟨n, rfl⟩ : ∃ k, n = k + 1 := ⟨n - 1, by omega⟩
    have Q := fun s => run_deskOkS (n := n) (by omega) last num next 1 st l (by omega) s
    have W := fun st s => run_wireOfS (n := n) (by omega) st l (by omega) s
    have hx' := eq_true hx
    simp [go_of FT_34 rfl, F34, Q, hok, W, hx']
  · have Q : ∀ s, goS n 18 [dkD last num (bW st l) next 1] [] s = _ := fun s => (show goS n 18 _ _ _ = go n 18 _ _ _ from rfl).trans (run_deskOkI (n := n) (by omega) last num next 1 st l (by omega) s)
    have W : ∀ st s, goZ n 61 [.w (bW st l)] [] s = _ := fun st s => (show goZ n 61 _ _ _ = go n 61 _ _ _ from rfl).trans (run_wireOfI (n := n) (by omega) st l (by omega) s)
    have X79 : ∀ args bs s, goS n 79 args bs s = runMv (goZ n) mode (fun _ => none) n F79 args bs s := fun _ _ _ => rfl
    have hx' := eq_true hx
    simp [runMv_at, F35, Q, hok, X79, F79, W, hx']

theorem say_piece (hok : deskOk last num next state l.length = true) (hs : state = 1) (i : Nat) (hi : next = i) (hx : next ≠ wireOf l.length) (st : Nat) (s : Sup) :
    go n 34 [dkD last num (bW st l) next state] [] s = some ⟨.tup [(true, [iW 1, iW num, iW (wireOf l.length), iW i, bW 0 (pieceL l i)]), (false, [.d (.s (.bool true))])], [], []⟩ ∧
    runMv (goS n) mode (fun _ => none) n F35 [dkD last num (bW st l) next state] [] s =
      some ⟨.tup [(true, [iW 1, iW num, iW (wireOf l.length), iW i, ownW 0 (pieceL l i).length (some (pieceL l i).length)]), (false, [.d (.s (.bool true))])], [], [rowB (pieceL l i)]⟩ := by
  obtain ⟨h1, h2, h3, h4⟩ := ok_at hok hs
  subst hs
  subst hi
  have hle : 24 * i ≤ l.length := by omega
  constructor
  · obtain ⟨n, rfl⟩ : ∃ k, n = k + 1 := ⟨n - 1, by omega⟩
    have Q := fun s => run_deskOkS (n := n) (by omega) last num i 1 st l (by omega) s
    have W := fun st s => run_wireOfS (n := n) (by omega) st l (by omega) s
    have P := fun st s => run_pieceS (n := n) (by omega) num i st l hl hle s
    have hx' := eq_false hx
    simp [go_of FT_34 rfl, F34, Q, hok, W, hx', P]
  · have Q : ∀ s, goS n 18 [dkD last num (bW st l) i 1] [] s = _ := fun s => (show goS n 18 _ _ _ = go n 18 _ _ _ from rfl).trans (run_deskOkI (n := n) (by omega) last num i 1 st l (by omega) s)
    have W : ∀ st s, goZ n 61 [.w (bW st l)] [] s = _ := fun st s => (show goZ n 61 _ _ _ = go n 61 _ _ _ from rfl).trans (run_wireOfI (n := n) (by omega) st l (by omega) s)
    have X79 : ∀ args bs s, goS n 79 args bs s = runMv (goZ n) mode (fun _ => none) n F79 args bs s := fun _ _ _ => rfl
    have P : ∀ st s, goZ n 97 [.w (bW st l), iV i] [] s = _ := fun st s => (show goZ n 97 _ _ _ = runMv (go n) mode (fun _ => none) n F97 _ _ _ from rfl).trans (run_pieceI (n := n) (by omega) i st l hl hle s)
    have hx' := eq_false hx
    simp [runMv_at, F35, Q, hok, X79, F79, W, hx', P]
end

end Go.VM
