/- A desk says what the reference's says: the law's run. Conditions: none. -/
import Derived.Test.YthkednnfadhidaaVX6
import Derived.Test.YthkednnfadhidaaVL9

namespace Go.VM
set_option linter.unusedSimpArgs false
set_option linter.unusedVariables false
set_option maxHeartbeats 8000000
set_option maxRecDepth 10000

def goE (n : Nat) : CallT := fun f args bs s => if markIds.contains f then goM n f args bs s else if specIds.contains f then go n f args bs s else
  if f = 35 then brw (fun _ args bs s => runMv (goS n) mode (fun _ => none) n F35 args bs s) f args bs s else brw (go n) f args bs s
def goET (n : Nat) : CallT := fun f args bs s => match FT f with | some F => runF (goE n) modeT (fun _ => none) n f F args bs s | none => none
theorem goET_of {f : Nat} {F : Fn} (hF : FT f = some F) {n : Nat} {args : List V} {bs : List Box} {s : Sup} : goET n f args bs s = runF (goE n) modeT (fun _ => none) n f F args bs s := by
  unfold goET
  simp [hF]
theorem goE_mark {f : Nat} (h : markIds.contains f = true) {n : Nat} {args : List V} {bs : List Box} {s : Sup} : goE n f args bs s = goM n f args bs s := by
  unfold goE; rw [if_pos h]
theorem goE_spec {f : Nat} (h : markIds.contains f = false) (h2 : specIds.contains f = true) {n : Nat} {args : List V} {bs : List Box} {s : Sup} : goE n f args bs s = go n f args bs s := by
  unfold goE; rw [if_neg (by rw [h]; simp), if_pos h2]
theorem goE_else {f : Nat} (h : markIds.contains f = false) (h2 : specIds.contains f = false) (h3 : f ≠ 35) {n : Nat} {args : List V} {bs : List Box} {s : Sup} : goE n f args bs s = brw (go n) f args bs s := by
  unfold goE; rw [if_neg (by rw [h]; simp), if_neg (by rw [h2]; simp), if_neg h3]
theorem goE_35 {n : Nat} {args : List V} {bs : List Box} {s : Sup} : goE n 35 args bs s = brw (fun _ args bs s => runMv (goS n) mode (fun _ => none) n F35 args bs s) 35 args bs s := rfl

theorem say_nil {n : Nat} (last num next state : Int) (l : List Int) (hnl : 2 ^ 21 ≤ n) (hle : l.length ≤ 2 ^ 20) (h : ¬ szD 1048576 l.length < 0) (kd nm of ix : Int) (fl : Bool)
    (A : ∀ st s, go n 34 [dkD last num (bW st l) next state] [] s = some ⟨.tup [(true, [iW kd, iW nm, iW of, iW ix, .d (.l 0 [])]), (false, [.d (.s (.bool fl))])], [], []⟩)
    (B : ∀ st s, runMv (goS n) mode (fun _ => none) n F35 [dkD last num (bW st l) next state] [] s = some ⟨.tup [(true, [iW kd, iW nm, iW of, iW ix, .nil]), (false, [.d (.s (.bool fl))])], [], []⟩) (s : Sup) :
    goET n 6 [dkD last num (bW 0 l) next state] [] s = some ⟨sV (.bool true), [], []⟩ := by
  have hl : l.length < 2 ^ 62 := by omega
  have hr : room l.length 1 = true := room_p (by omega)
  have S := fun s => run_szDesk (n := n) (by omega) last num next state 1048576 0 l s
  have T := fun st s => run_toDesk (n := n) last num next state st l (by omega) hr s
  have E1 := fun s0 s1 s => run_eqDesk (n := n) last num next state last num next state s0 s1 l l (by omega) hl s
  have K1 := fun c s => run_markDesk (n := n) last num next state l (by omega) (by omega) 1 (by omega) c s
  have hk : ((1 : Int) + l.length < 0) = False := eq_false (by omega)
  have X15 := fun args bs s => goE_else (f := 15) (n := n) (args := args) (bs := bs) (s := s) rfl rfl (by omega)
  have X16 := fun args bs s => goE_else (f := 16) (n := n) (args := args) (bs := bs) (s := s) rfl rfl (by omega)
  have X19 := fun args bs s => goE_else (f := 19) (n := n) (args := args) (bs := bs) (s := s) rfl rfl (by omega)
  have X36 := fun args bs s => goE_else (f := 36) (n := n) (args := args) (bs := bs) (s := s) rfl rfl (by omega)
  have X38 := fun args bs s => goE_else (f := 38) (n := n) (args := args) (bs := bs) (s := s) rfl rfl (by omega)
  have X34 := fun args bs s => goE_spec (f := 34) (n := n) (args := args) (bs := bs) (s := s) rfl rfl
  have X35 := fun args bs s => goE_35 (n := n) (args := args) (bs := bs) (s := s)
  have X22 := fun args bs s => goE_mark (f := 22) (n := n) (args := args) (bs := bs) (s := s) rfl
  have X37 := fun args bs s => goE_mark (f := 37) (n := n) (args := args) (bs := bs) (s := s) rfl
  have E2 : ∀ s, go n 36 [wwD kd nm of ix (.d (.l 0 [])), wwD kd nm of ix (.d (.l 0 []))] [] s = some ⟨sV (.bool true), [], []⟩ := fun s => run_eqWord (n := n) kd nm of ix 0 0 [] (by simp; omega) (by simp) s
  have K2 := fun s => run_markWordNil (n := n) (by omega) kd nm of ix 1 s
  have D2 : ∀ s, go n 38 [wwD kd nm of ix (.d (.l 0 [])), iV 1] [] s = some ⟨iV 1, [], []⟩ := fun s => run_heldWord (n := n) kd nm of ix 0 (by omega) (by omega) 1 (by omega) 0 s
  simp only [Int.natCast_add, Int.cast_ofNat_Int] at K1 K2
  cases fl <;> simp [goET_of FT_6, F6, modeT, specIds, X15, X16, X19, X34, X35, X36, X38, X22, X37, brw_at, brwCall, brwEnd, S, h, T, A, B, E1, E2, K1, K2, D2, hk,  take_mark, V.flat, W.flat]

theorem say_own {n : Nat} (last num next state : Int) (l : List Int) (hnl : 2 ^ 21 ≤ n) (hle : l.length ≤ 2 ^ 20) (h : ¬ szD 1048576 l.length < 0) (kd nm of ix : Int) (fl : Bool) (p : List Int) (hp : p.length ≤ 24)
    (A : ∀ st s, go n 34 [dkD last num (bW st l) next state] [] s = some ⟨.tup [(true, [iW kd, iW nm, iW of, iW ix, bW 0 p]), (false, [.d (.s (.bool fl))])], [], []⟩)
    (B : ∀ st s, runMv (goS n) mode (fun _ => none) n F35 [dkD last num (bW st l) next state] [] s = some ⟨.tup [(true, [iW kd, iW nm, iW of, iW ix, ownW 0 p.length (some p.length)]), (false, [.d (.s (.bool fl))])], [], [rowB p]⟩) (s : Sup) :
    goET n 6 [dkD last num (bW 0 l) next state] [] s = some ⟨sV (.bool true), [], []⟩ := by
  have hl : l.length < 2 ^ 62 := by omega
  have hr : room l.length 1 = true := room_p (by omega)
  have S := fun s => run_szDesk (n := n) (by omega) last num next state 1048576 0 l s
  have T := fun st s => run_toDesk (n := n) last num next state st l (by omega) hr s
  have E1 := fun s0 s1 s => run_eqDesk (n := n) last num next state last num next state s0 s1 l l (by omega) hl s
  have K1 := fun c s => run_markDesk (n := n) last num next state l (by omega) (by omega) 1 (by omega) c s
  have hk : ((1 : Int) + l.length < 0) = False := eq_false (by omega)
  have X15 := fun args bs s => goE_else (f := 15) (n := n) (args := args) (bs := bs) (s := s) rfl rfl (by omega)
  have X16 := fun args bs s => goE_else (f := 16) (n := n) (args := args) (bs := bs) (s := s) rfl rfl (by omega)
  have X19 := fun args bs s => goE_else (f := 19) (n := n) (args := args) (bs := bs) (s := s) rfl rfl (by omega)
  have X36 := fun args bs s => goE_else (f := 36) (n := n) (args := args) (bs := bs) (s := s) rfl rfl (by omega)
  have X38 := fun args bs s => goE_else (f := 38) (n := n) (args := args) (bs := bs) (s := s) rfl rfl (by omega)
  have X34 := fun args bs s => goE_spec (f := 34) (n := n) (args := args) (bs := bs) (s := s) rfl rfl
  have X35 := fun args bs s => goE_35 (n := n) (args := args) (bs := bs) (s := s)
  have X22 := fun args bs s => goE_mark (f := 22) (n := n) (args := args) (bs := bs) (s := s) rfl
  have X37 := fun args bs s => goE_mark (f := 37) (n := n) (args := args) (bs := bs) (s := s) rfl
  have E2 := fun s0 s1 s => run_eqWord (n := n) kd nm of ix s0 s1 p (by omega) (by omega) s
  have K2 := fun c s => run_markWord (n := n) kd nm of ix p (by omega) (by omega) 1 (by omega) c s
  have D2 := fun st s => run_heldWord (n := n) kd nm of ix p.length (by omega) (by omega) 1 (by omega) st s
  have hk2 : ((1 : Int) + p.length < 0) = False := eq_false (by omega)
  simp only [Int.natCast_add, Int.cast_ofNat_Int] at K1 K2 D2
  cases fl <;> simp [goET_of FT_6, F6, modeT, specIds, X15, X16, X19, X34, X35, X36, X38, X22, X37, brw_at, brwCall, brwEnd, S, h, T, A, B, E1, E2, K1, K2, D2, hk, hk2, take_mark, V.flat, W.flat]

theorem run_lawDeskSay (last num next state : Int) (l : List Int) (hl0 : l.length < 2 ^ 63) (s : Sup) :
    goET (2 ^ 22) 6 [dkD last num (bW 0 l) next state] [] s = some ⟨sV (.bool true), [], []⟩ := by
  obtain ⟨n, hn⟩ : ∃ n, (2 ^ 22 : Nat) = n := ⟨_, rfl⟩
  rw [hn]
  have hnl : 2 ^ 22 ≤ n := by omega
  clear hn
  by_cases h : szD 1048576 l.length < 0
  · have S := fun s => run_szDesk (n := n) (by omega) last num next state 1048576 0 l s
    have X15 := fun args bs s => goE_else (f := 15) (n := n) (args := args) (bs := bs) (s := s) rfl rfl (by omega)
    simp [goET_of FT_6, F6, modeT, specIds, X15, brw_at, brwCall, brwEnd, S, h, V.flat, W.flat]
  · have hle := szD_ge' h (by omega) (by omega) hl0
    have hl : l.length ≤ 2 ^ 20 := by omega
    by_cases c : deskOk last num next state l.length = true ∧ state = 1
    · obtain ⟨hok, hs⟩ := c
      obtain ⟨h1, h2, h3, h4⟩ := ok_at hok hs
      by_cases hx : next = wireOf l.length
      · exact say_nil last num next state l (by omega) hl h _ _ _ _ true (fun st s => (say_ask (by omega) last num next state l hl hok hs hx st s).1) (fun st s => (say_ask (by omega) last num next state l hl hok hs hx st s).2) s
      · obtain ⟨i, hi⟩ : ∃ i : Nat, next = i := ⟨next.toNat, by omega⟩
        exact say_own last num next state l (by omega) hl h _ _ _ _ true (pieceL l i) (pieceL_len l i) (fun st s => (say_piece (by omega) last num next state l hl hok hs i hi hx st s).1) (fun st s => (say_piece (by omega) last num next state l hl hok hs i hi hx st s).2) s
    · exact say_nil last num next state l (by omega) hl h _ _ _ _ false (fun st s => (say_no (by omega) last num next state l hl c st s).1) (fun st s => (say_no (by omega) last num next state l hl c st s).2) s

end Go.VM
