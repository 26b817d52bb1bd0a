/- A desk hears as the reference's: the law's run. Conditions: none. -/
import Derived.Test.YthkednnfadhidaaVX9
import Derived.Test.YthkednnfadhidaaVL6

namespace Go.VM
set_option linter.unusedSimpArgs false
set_option linter.unusedVariables false
set_option maxHeartbeats 8000000
set_option maxRecDepth 10000

def goU (n : Nat) : CallT := fun f args bs s => if markIds.contains f then goM n f args bs s else if specIds.contains f then go n f args bs s else
  if f = 51 then brw (fun _ args bs s => runMv (goQ n) modeQ (fun _ => none) n F51 args bs s) f args bs s else brw (go n) f args bs s
def goUT (n : Nat) : CallT := fun f args bs s => match FT f with | some F => runF (goU n) modeT (fun _ => none) n f F args bs s | none => none
theorem goUT_of {f : Nat} {F : Fn} (hF : FT f = some F) {n : Nat} {args : List V} {bs : List Box} {s : Sup} : goUT n f args bs s = runF (goU n) modeT (fun _ => none) n f F args bs s := by
  unfold goUT
  simp [hF]
theorem goU_mark {f : Nat} (h : markIds.contains f = true) {n : Nat} {args : List V} {bs : List Box} {s : Sup} : goU n f args bs s = goM n f args bs s := by
  unfold goU; rw [if_pos h]
theorem goU_spec {f : Nat} (h : markIds.contains f = false) (h2 : specIds.contains f = true) {n : Nat} {args : List V} {bs : List Box} {s : Sup} : goU n f args bs s = go n f args bs s := by
  unfold goU; rw [if_neg (by rw [h]; simp), if_pos h2]
theorem goU_else {f : Nat} (h : markIds.contains f = false) (h2 : specIds.contains f = false) (h3 : f ≠ 51) {n : Nat} {args : List V} {bs : List Box} {s : Sup} : goU n f args bs s = brw (go n) f args bs s := by
  unfold goU; rw [if_neg (by rw [h]; simp), if_neg (by rw [h2]; simp), if_neg h3]
theorem goU_51 {n : Nat} {args : List V} {bs : List Box} {s : Sup} : goU n 51 args bs s = brw (fun _ args bs s => runMv (goQ n) modeQ (fun _ => none) n F51 args bs s) 51 args bs s := rfl

theorem run_szWord {n : Nat} (hn : 2 ≤ n) (kd nm of ix left : Int) (st : Nat) (p : List Int) (s : Sup) :
    go n 48 [wwD kd nm of ix (bW st p), iV left] [] s = some ⟨iV (szJ left p.length), [], []⟩ := by
  obtain ⟨n, rfl⟩ : ∃ k, n = k + 1 := ⟨n - 1, by omega⟩
  unfold szJ
  by_cases h : szB left p.length < 0 <;> simp [go_of FT_48 rfl, F48, run_szByteS (n := n) (by omega), h]
theorem run_toWord {n : Nat} (kd nm of ix : Int) (st : Nat) (p : List Int) (hn : p.length + 3 ≤ n) (hl : room p.length 1 = true) (s : Sup) :
    go n 49 [wwD kd nm of ix (bW st p)] [] s = some ⟨wwD kd nm of ix (.own 0 0 p.length (some p.length)), [], [.row none 1 (byt p) 0]⟩ := by
  obtain ⟨n, rfl⟩ : ∃ k, n = k + 1 := ⟨n - 1, by omega⟩
  simp [go_of FT_49 rfl, F49, run_toByteS (n := n) p (by omega) hl]

section
variable {n : Nat} (last num next state : Int) (l : List Int) (hnl : 2 ^ 22 ≤ n) (hle : l.length ≤ 2 ^ 20) (h : ¬ szD 1048576 l.length < 0) (kd nm of ix : Int) (p : List Int) (hpe : p.length ≤ 2 ^ 20) (h2 : ¬ szJ (szD 1048576 l.length) p.length < 0) 
include hnl hle h hpe h2

theorem hear_no 
    (A : ∀ st st' s, go n 50 [dkD last num (bW st l) next state, wwD kd nm of ix (bW st' p)] [] s = some ⟨dkD 0 0 (.d (.l 0 [])) 0 0, [], []⟩)
    (B : ∀ st st' s, runMv (goQ n) modeQ (fun _ => none) n F51 [dkD last num (bW st l) next state, wwD kd nm of ix (bW st' p)] [] s = some ⟨dkD 0 0 .nil 0 0, [], []⟩) (s : Sup) :
    goUT n 10 [dkD last num (bW 0 l) next state, wwD kd nm of ix (bW 0 p)] [] s = some ⟨sV (.bool true), [], []⟩ := by
  have hl : l.length < 2 ^ 62 := by omega
  have hr : room l.length 1 = true := room_p (by omega)
  have hr2 : room p.length 1 = true := room_p (by omega)
  have S := fun s => run_szDesk (n := n) (by omega) last num next state 1048576 0 l s
  have S2 := fun left s => run_szWord (n := n) (by omega) kd nm of ix left 0 p s
  have T := fun st s => run_toDesk (n := n) last num next state st l (by omega) hr s
  have T2 := fun st s => run_toWord (n := n) kd nm of ix st p (by omega) hr2 s
  have E1 := fun s0 s1 s => run_eqDesk (n := n) last num next state last num next state s0 s1 l l (by omega) hl s
  have E3 := fun s0 s1 s => run_eqWord (n := n) kd nm of ix s0 s1 p (by omega) (by omega) s
  have K1 := fun c s => run_markDesk (n := n) last num next state l (by omega) (by omega) 1 (by omega) c s
  have K3 := fun c s => run_markWord (n := n) kd nm of ix p (by omega) (by omega) (1 + l.length) (by omega) c s
  have hk : ((1 : Int) + l.length + p.length < 0) = False := eq_false (by omega)
  have X15 := fun args bs s => goU_else (f := 15) (n := n) (args := args) (bs := bs) (s := s) rfl rfl (by omega)
  have X16 := fun args bs s => goU_else (f := 16) (n := n) (args := args) (bs := bs) (s := s) rfl rfl (by omega)
  have X48 := fun args bs s => goU_else (f := 48) (n := n) (args := args) (bs := bs) (s := s) rfl rfl (by omega)
  have X49 := fun args bs s => goU_else (f := 49) (n := n) (args := args) (bs := bs) (s := s) rfl rfl (by omega)
  have X19 := fun args bs s => goU_else (f := 19) (n := n) (args := args) (bs := bs) (s := s) rfl rfl (by omega)
  have X23 := fun args bs s => goU_else (f := 23) (n := n) (args := args) (bs := bs) (s := s) rfl rfl (by omega)
  have X36 := fun args bs s => goU_else (f := 36) (n := n) (args := args) (bs := bs) (s := s) rfl rfl (by omega)
  have X50 := fun args bs s => goU_spec (f := 50) (n := n) (args := args) (bs := bs) (s := s) rfl rfl
  have X51 := fun args bs s => goU_51 (n := n) (args := args) (bs := bs) (s := s)
  have X22 := fun args bs s => goU_mark (f := 22) (n := n) (args := args) (bs := bs) (s := s) rfl
  have X37 := fun args bs s => goU_mark (f := 37) (n := n) (args := args) (bs := bs) (s := s) rfl
  have E2 : ∀ s, go n 19 [dkD 0 0 (.d (.l 0 [])) 0 0, dkD 0 0 (.d (.l 0 [])) 0 0] [] s = some ⟨sV (.bool true), [], []⟩ := fun s =>
      (run_eqDesk (n := n) 0 0 0 0 0 0 0 0 0 0 [] [] (by simp; omega) (by simp) s).trans (by simp)
  have K2 := fun s => run_markDeskNil (n := n) (by omega) 0 0 0 0 1 s
  have D2 : ∀ s, go n 23 [dkD 0 0 (.d (.l 0 [])) 0 0, iV 1] [] s = some ⟨iV 1, [], []⟩ := fun s => run_heldDesk (n := n) 0 0 0 0 0 (by omega) (by omega) 1 (by omega) 0 s
  simp only [Int.natCast_add, Int.cast_ofNat_Int] at K1 K2 K3
  simp [goUT_of FT_10, F10, modeT, specIds, X15, X16, X48, X49, X19, X23, X36, X50, X51, X22, X37, brw_at, brwCall, brwEnd, S, S2, h, h2, T, T2, A, B, E1, E2, E3, K1, K2, K3, D2, hk, take_mark, V.flat, W.flat]

theorem hear_own (nx stt : Int) 
    (A : ∀ st st' s, go n 50 [dkD last num (bW st l) next state, wwD kd nm of ix (bW st' p)] [] s = some ⟨dkD last num (bW 0 l) nx stt, [], []⟩)
    (B : ∀ st st' s, runMv (goQ n) modeQ (fun _ => none) n F51 [dkD last num (bW st l) next state, wwD kd nm of ix (bW st' p)] [] s = some ⟨dkD last num (ownW 0 l.length (some l.length)) nx stt, [], [rowB l]⟩) (s : Sup) :
    goUT n 10 [dkD last num (bW 0 l) next state, wwD kd nm of ix (bW 0 p)] [] s = some ⟨sV (.bool true), [], []⟩ := by
  have hl : l.length < 2 ^ 62 := by omega
  have hr : room l.length 1 = true := room_p (by omega)
  have hr2 : room p.length 1 = true := room_p (by omega)
  have S := fun s => run_szDesk (n := n) (by omega) last num next state 1048576 0 l s
  have S2 := fun left s => run_szWord (n := n) (by omega) kd nm of ix left 0 p s
  have T := fun st s => run_toDesk (n := n) last num next state st l (by omega) hr s
  have T2 := fun st s => run_toWord (n := n) kd nm of ix st p (by omega) hr2 s
  have E1 := fun s0 s1 s => run_eqDesk (n := n) last num next state last num next state s0 s1 l l (by omega) hl s
  have E3 := fun s0 s1 s => run_eqWord (n := n) kd nm of ix s0 s1 p (by omega) (by omega) s
  have K1 := fun c s => run_markDesk (n := n) last num next state l (by omega) (by omega) 1 (by omega) c s
  have K3 := fun c s => run_markWord (n := n) kd nm of ix p (by omega) (by omega) (1 + l.length) (by omega) c s
  have hk : ((1 : Int) + l.length + p.length < 0) = False := eq_false (by omega)
  have X15 := fun args bs s => goU_else (f := 15) (n := n) (args := args) (bs := bs) (s := s) rfl rfl (by omega)
  have X16 := fun args bs s => goU_else (f := 16) (n := n) (args := args) (bs := bs) (s := s) rfl rfl (by omega)
  have X48 := fun args bs s => goU_else (f := 48) (n := n) (args := args) (bs := bs) (s := s) rfl rfl (by omega)
  have X49 := fun args bs s => goU_else (f := 49) (n := n) (args := args) (bs := bs) (s := s) rfl rfl (by omega)
  have X19 := fun args bs s => goU_else (f := 19) (n := n) (args := args) (bs := bs) (s := s) rfl rfl (by omega)
  have X23 := fun args bs s => goU_else (f := 23) (n := n) (args := args) (bs := bs) (s := s) rfl rfl (by omega)
  have X36 := fun args bs s => goU_else (f := 36) (n := n) (args := args) (bs := bs) (s := s) rfl rfl (by omega)
  have X50 := fun args bs s => goU_spec (f := 50) (n := n) (args := args) (bs := bs) (s := s) rfl rfl
  have X51 := fun args bs s => goU_51 (n := n) (args := args) (bs := bs) (s := s)
  have X22 := fun args bs s => goU_mark (f := 22) (n := n) (args := args) (bs := bs) (s := s) rfl
  have X37 := fun args bs s => goU_mark (f := 37) (n := n) (args := args) (bs := bs) (s := s) rfl
  have E2 := fun s0 s1 s => run_eqDesk (n := n) last num nx stt last num nx stt s0 s1 l l (by omega) hl s
  have K2 := fun c s => run_markDesk (n := n) last num nx stt l (by omega) (by omega) 1 (by omega) c s
  have D2 := fun st s => run_heldDesk (n := n) last num nx stt l.length (by omega) (by omega) 1 (by omega) st s
  have hk2 : ((1 : Int) + l.length < 0) = False := eq_false (by omega)
  simp only [Int.natCast_add, Int.cast_ofNat_Int] at K1 K2 K3 D2
  simp [goUT_of FT_10, F10, modeT, specIds, X15, X16, X48, X49, X19, X23, X36, X50, X51, X22, X37, brw_at, brwCall, brwEnd, S, S2, h, h2, T, T2, A, B, E1, E2, E3, K1, K2, K3, D2, hk, hk2, take_mark, V.flat, W.flat]
end

theorem szJ_le {left : Int} {n : Nat} (h : ¬ szJ left n < 0) (h0 : 0 ≤ left) (h1 : left < 2 ^ 40) (h2 : n < 2 ^ 63) : (n : Int) ≤ left := by
  refine szB_ge' (left := left) (n := n) (fun hb => h ?_) h0 h1 h2
  unfold szJ
  simp [hb]
theorem szD_val {left : Int} {n : Nat} (h : ¬ szD left n < 0) (h0 : 0 ≤ left) (h1 : left < 2 ^ 40) (h2 : n < 2 ^ 63) : szD left n = left - n := by
  have hle := szD_ge' h h0 h1 h2
  have w : IntKind.wrap .i64 (left - n) = left - n := wrap_id (by omega) (by omega)
  have e : szB left n = left - n := by unfold szB; rw [w, if_neg (by omega)]
  unfold szD szJ
  rw [e, if_neg (by omega), if_neg (by omega)]

theorem run_hearNoS {n : Nat} (hn : 10 ≤ n) (last num next state : Int) (l : List Int) (hl : l.length ≤ 2 ^ 20) (kd nm of ix : Int) (p : List Int)
    (hok : deskOk last num next state l.length = false) (st st' : Nat) (s : Sup) :
    go n 50 [dkD last num (bW st l) next state, wwD kd nm of ix (bW st' p)] [] s = some ⟨dkD 0 0 (.d (.l 0 [])) 0 0, [], []⟩ := by
  obtain ⟨n, rfl⟩ : ∃ k, n = k + 1 := ⟨n - 1, by omega⟩
  have Q := fun s => run_deskOkS (n := n) (by omega) last num next state st l (by omega) s
  simp [go_of FT_50 rfl, F50, Q, hok]
theorem run_hearNoI {n : Nat} (hn : 10 ≤ n) (last num next state : Int) (l : List Int) (hl : l.length ≤ 2 ^ 20) (kd nm of ix : Int) (p : List Int)
    (hok : deskOk last num next state l.length = false) (st st' : Nat) (s : Sup) :
    runMv (goQ n) modeQ (fun _ => none) n F51 [dkD last num (bW st l) next state, wwD kd nm of ix (bW st' p)] [] s = some ⟨dkD 0 0 .nil 0 0, [], []⟩ := by
  have Q : ∀ s, goQ n 18 [dkD last num (bW st l) next state] [] s = _ := fun s => (show goQ n 18 _ _ _ = go n 18 _ _ _ from rfl).trans (run_deskOkI (n := n) (by omega) last num next state st l (by omega) s)
  simp [runMv_at, F51, modeQ, Q, hok]

theorem run_lawDeskHear (last num next state : Int) (l : List Int) (hl0 : l.length < 2 ^ 63) (kd nm of ix : Int) (p : List Int) (hp0 : p.length < 2 ^ 63) (s : Sup) :
    goUT (2 ^ 22) 10 [dkD last num (bW 0 l) next state, wwD kd nm of ix (bW 0 p)] [] s = some ⟨sV (.bool true), [], []⟩ := by
  obtain ⟨n, hn⟩ : ∃ n, (2 ^ 22 : Nat) = n := ⟨_, rfl⟩
  rw [hn]
  have hnl : 2 ^ 22 ≤ n := by omega
  clear hn
  have S := fun s => run_szDesk (n := n) (by omega) last num next state 1048576 0 l s
  have X15 := fun args bs s => goU_else (f := 15) (n := n) (args := args) (bs := bs) (s := s) rfl rfl (by omega)
  by_cases h : szD 1048576 l.length < 0
  · simp [goUT_of FT_10, F10, modeT, specIds, X15, brw_at, brwCall, brwEnd, S, h, V.flat, W.flat]
  · have hle := szD_ge' h (by omega) (by omega) hl0
    have hv := szD_val h (by omega) (by omega) hl0
    have hl : l.length ≤ 2 ^ 20 := by omega
    by_cases h2 : szJ (szD 1048576 l.length) p.length < 0
    · have S2 := fun left s => run_szWord (n := n) (by omega) kd nm of ix left 0 p s
      have X48 := fun args bs s => goU_else (f := 48) (n := n) (args := args) (bs := bs) (s := s) rfl rfl (by omega)
      simp [goUT_of FT_10, F10, modeT, specIds, X15, X48, brw_at, brwCall, brwEnd, S, S2, h, h2, V.flat, W.flat]
    · have hpe := szJ_le h2 (by omega) (by omega) hp0
      have hp : p.length ≤ 2 ^ 20 := by omega
      cases hok : deskOk last num next state l.length with
      | false => exact hear_no last num next state l hnl hl h kd nm of ix p hp h2 (fun st st' s => run_hearNoS (by omega) last num next state l hl kd nm of ix p hok st st' s) (fun st st' s => run_hearNoI (by omega) last num next state l hl kd nm of ix p hok st st' s) s
      | true =>
        obtain ⟨b, hb⟩ : ∃ b : Bool, b = true ↔ WordOk kd nm of ix p.length := ⟨decide (WordOk kd nm of ix p.length), by simp⟩
        exact hear_own last num next state l hnl hl h kd nm of ix p hp h2 _ _ (fun st st' s => run_hearS (by omega) last num next state l hl kd nm of ix p b hb hok st st' s) (fun st st' s => run_hearI (by omega) last num next state l hl kd nm of ix p b hb hok st st' s) s

end Go.VM
