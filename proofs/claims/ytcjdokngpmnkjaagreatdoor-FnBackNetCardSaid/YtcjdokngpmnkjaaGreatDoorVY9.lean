/- The plain list of a ladder, reckoned. Conditions: none. -/
import Derived.Test.YtcjdokngpmnkjaaGreatDoorVY6

namespace Go.VM
set_option linter.unusedSimpArgs false
set_option linter.unusedVariables false
set_option maxHeartbeats 16000000
theorem plainOf_take {l : List Arm} {i : Nat} {x : Arm} (h : l[i]? = some x) : plainOf (l.take (i + 1)) = plainOf (l.take i) ++ (x.net.begins ++ x.tail ++ [Ins.bare 11]) := by
 rw [List.take_add_one, h]; simp [plainOf, Arm.plain]
theorem plainOf_le (l : List Arm) (i : Nat) : (plainOf (l.take i)).length ≤ (plainOf l).length := by
 conv => rhs; rw [← List.take_append_drop i l]
 simp only [plainOf, List.flatMap_append, List.length_append]; omega
def PlainPost (st' : St) (L : List Ins) : Prop := 0 < st'.g ∧ AccI st'.τ st'.H st'.g 3 L 0 0
theorem loop297_0 {n : Nat} (l : List Arm) (hc : ∀ x ∈ l, ∀ s, go n 329 [armX x] [] s = some ⟨.w (isW x.tail), [], []⟩) (hb : ∀ x ∈ l, ∀ s, ∃ c, go n 328 [netX x.net] [] s = some (insOwn x.net.begins c))
 (hlen : (plainOf l).length < 2 ^ 29) (hn : l.length < n) (hl : l.length < 2 ^ 40) (st : St) (h7 : st.τ 7 = .w (ksW l)) (h8 : st.τ 8 = iV l.length) (h9 : st.τ 9 = iV 0) (hacc : PlainPost st []) :
 ∃ e st', execC (go n) mode GT false 29 n F297_L0 st = some (e, st') ∧ e ≠ .normal ∧ (e = .exit 0 ∧ PlainPost st' (plainOf l)) := by
 rw [F297_L0, execC_loop]; refine iter_rule (fun m st1 => ∃ i, i + m = l.length ∧ st1.τ 7 = .w (ksW l) ∧ st1.τ 8 = iV l.length ∧ st1.τ 9 = iV i ∧ PlainPost st1 (plainOf (l.take i))) ?_ n l.length st hn
  ⟨0, by omega, h7, h8, by simpa using h9, by simpa [plainOf] using hacc⟩
 clear h7 h8 h9 hacc; rintro m ⟨τ, H, g, s⟩ ⟨i, hm, h7, h8, h9, hg, hacc⟩; simp only at h7 h8 h9 hg hacc; cases m with
 | zero =>
  have : i = l.length := by omega
  subst this; rw [List.take_length] at hacc; refine ⟨.exit 0, ?_⟩
  simp [F297_B0, h8, h9]; exact ⟨by simp only; omega, hacc.keep rfl rfl (by simp only; omega)⟩
 | succ m =>
  have hlt : i < l.length := by omega
  have hlt' := ltT hlt; have hgt := List.getElem?_eq_getElem hlt; have hmem := List.getElem_mem hlt; have hw := wrap_succ (i := i) (by omega); obtain ⟨xk, xo, xa, xns, xcs, xks, hx⟩ : ∃ xk xo xa xns xcs xks, l[i] = .mk (.mk xk xo xa xns) xcs xks := by
   cases hq : l[i] with | mk nn cs ks => cases nn; exact ⟨_, _, _, _, _, _, rfl⟩
  have w := hc _ hmem; have wb := hb _ hmem; rw [hx] at hgt w wb; have hstep := plainOf_take hgt; have hle := plainOf_le l (i + 1); rw [hstep, List.length_append, List.length_append, List.length_append] at hle; have hrow := armRows_get hgt; rw [show Arm.net (.mk (.mk xk xo xa xns) xcs xks) = .mk xk xo xa xns from rfl] at wb hstep hle; generalize Net.begins (.mk xk xo xa xns) = N at wb hstep hle; generalize Arm.tail (.mk (.mk xk xo xa xns) xcs xks) = T at w hstep hle; generalize hSS : plainOf (l.take i) = S at hacc hstep hle; simp only [List.length_singleton] at hle; have zX := far hg; have rm0 : room N.length 40 = true := room_of (by omega) (by omega)
  have rm1 : room (S.length + N.length) 40 = true := room_of (by omega) (by omega); have rm2 : room (S.length + N.length + T.length) 40 = true := room_of (by omega) (by omega); have rm3 : room (S.length + N.length + T.length + 1) 40 = true := room_of (by omega) (by omega); have rn2 : room (N.length + T.length) 40 = true := room_of (by omega) (by omega); have rn3 : room (N.length + T.length + 1) 40 = true := room_of (by omega) (by omega); have tkS := take_insRows S; have tkN := take_insRows N; have tkT := take_insRows T; have tkSN := take_insRows (S ++ N); have tkSNT := take_insRows (S ++ (N ++ T)); have tkNT := take_insRows (N ++ T)
  have uNT : List.take (N.length + T.length) (insRows N ++ insRows T) = insRows N ++ insRows T := List.take_of_length_le (by simp [insRows_length]); have uSN : List.take (S.length + N.length) (insRows S ++ insRows N) = insRows S ++ insRows N := List.take_of_length_le (by simp [insRows_length]); have uSNT : List.take (S.length + N.length + T.length) (insRows S ++ (insRows N ++ insRows T)) = insRows S ++ (insRows N ++ insRows T) := List.take_of_length_le (by simp [insRows_length]; omega); have alN := eq_true (insRow_all N); have alT := eq_true (insRow_all T)
  suffices hsuf : ∃ st', execC (go n) mode GT false 29 n F297_B0 ⟨τ, H, g, s⟩ = some (.normal, st') ∧ PlainPost st' (S ++ (N ++ T ++ [Ins.bare 11])) ∧ st'.τ 7 = .w (ksW l) ∧ st'.τ 8 = iV l.length ∧ st'.τ 9 = iV ((i + 1 : Nat) : Int) by
   obtain ⟨st', a0, a1, a2, a3, a4⟩ := hsuf; rw [a0]; refine ⟨.normal, st', rfl, fun _ => ⟨m, by omega, i + 1, by omega, a2, a3, a4, ?_⟩, fun h => absurd rfl h⟩
   rw [hstep]; exact a1
  have wb' : ∃ f : Sup → Option Nat, ∀ s, go n 328 [netX (.mk xk xo xa xns)] [] s = some (insOwn N (f s)) := ⟨fun s => (wb s).choose, fun s => (wb s).choose_spec⟩; obtain ⟨f, wb'⟩ := wb'; rcases hacc with ⟨rfl, h3⟩ | ⟨b, hb0, hbq, hbg, h3, hB⟩
  · simp [-getElem?_pos, F297_B0, h7, h8, h9, h3, hlt, hlt', hrow, hw, w, wb', rm0, rn2, rn3, tkN, tkT, tkNT, alN, alT, insRows_length, insRows_append]
    exact ⟨by simp only; omega, AccI.mk rfl (by omega) (by omega) (by simp only; omega) (by simp; try omega) (by simp [insRows_append, insRows_one, Ins.row, ar0, uNT, uSN, uSNT])⟩
  · have bX := far hbg
    have e1 : (0 = b) = False := eq_false (fun e => hb0 e.symm); have e3 : (b = 0) = False := eq_false hb0; simp [-getElem?_pos, F297_B0, h7, h8, h9, h3, hB, hlt, hlt', hrow, hw, w, wb', rm1, rm2, rm3, tkS, tkN, tkT, tkSN, tkSNT, alN, alT, insRows_length, insRows_append, e1, e3, bX, zX]; exact ⟨by simp only; omega, AccI.mk rfl (by omega) (by omega) (by simp only; omega) (by simp; try omega) (by simp [insRows_append, insRows_one, Ins.row, ar0, uNT, uSN, uSNT])⟩
theorem insRows_take {l : List Ins} {i : Nat} {x : Ins} (h : l[i]? = some x) : insRows (l.take i) ++ [x.row] = insRows (l.take (i + 1)) := by
 rw [List.take_add_one, h]; simp [insRows]
theorem insRows_get {l : List Ins} {i : Nat} {c op : Int} {as : List Arg} (h : l[i]? = some ⟨c, ⟨op, as⟩⟩) : (insRows l)[i]? = some [iD c, iD op, .l 0 (argRows as)] := by simp [insRows, h, Ins.row]
theorem loop330_0 {n : Nat} (b : Nat) (l : List Ins) (ha : ∀ x ∈ l, x.e.as.length < 2 ^ 30) (h4n : 4 ≤ n) (hn : l.length < n) (hl : l.length < 2 ^ 40) (st : St) (h3 : st.τ 3 = .w (.own b 0 l.length (some l.length))) (hB : st.H b = .row none 3 (List.replicate l.length [iD 0, iD 0, .l 0 []]) 0) (h9 : st.τ 9 = .w (isW l)) (h10 : st.τ 10 = iV l.length) (h11 : st.τ 11 = iV 0) (hgg : b < st.g) :
 ∃ e st', execC (go n) mode GT false 27 n F330_L0 st = some (e, st') ∧ e ≠ .normal ∧ (e = .exit 0 ∧ st'.τ 3 = .w (.own b 0 l.length (some l.length)) ∧ st'.H b = .row none 3 (insRows l) 0) := by
 rw [F330_L0, execC_loop]; refine iter_rule (fun k st => ∃ i, i + k = l.length ∧ st.τ 3 = .w (.own b 0 l.length (some l.length)) ∧ st.H b = .row none 3 (insRows (l.take i) ++ List.replicate k [iD 0, iD 0, .l 0 []]) 0 ∧ st.τ 9 = .w (isW l) ∧ st.τ 10 = iV l.length ∧ st.τ 11 = iV i ∧ b < st.g) ?_ n l.length st hn ⟨0, by omega, h3, by simpa [insRows] using hB, h9, h10, by simpa using h11, hgg⟩
 clear h3 hB h9 h10 h11 hgg; rintro k ⟨τ, H, g, s⟩ ⟨i, hk, h3, hB, h9, h10, h11, hgg⟩; simp only at h3 hB h9 h10 h11 hgg; cases k with
 | zero =>
  have : i = l.length := by omega
  subst this; rw [List.take_length] at hB; refine ⟨.exit 0, ?_⟩
  simp [F330_B0, h3, h9, h10, h11, hB]
 | succ k =>
  have hlt : i < l.length := by omega
  have hlt' := ltT hlt; have hg := List.getElem?_eq_getElem hlt; have hmem := List.getElem_mem hlt; have hw := wrap_succ (i := i) (by omega); have hlT : (insRows (l.take i)).length = i := by simp [insRows_length]; omega
  have hget := fill_get (k := k) hlT [iD 0, iD 0, .l 0 []]; have hset := fill_set (k := k) hlT [iD 0, iD 0, .l 0 []]; have hset := hset (Ins.row l[i]); rw [insRows_take hg] at hset; have w := run_elemCopy (n := n) h4n l[i].e (ha _ hmem); obtain ⟨c, op, as, hx⟩ : ∃ c op as, l[i] = ⟨c, ⟨op, as⟩⟩ := ⟨_, _, _, rfl⟩; rw [hx] at hg w hset; have hb := insRows_get hg; simp only [Ins.row] at hset; have fgX := far hgg; have gl : (g < g + 64 + 384) = True := eq_true (by omega); refine ⟨.normal, ?_⟩
  simp [-getElem?_pos, F330_B0, h3, h9, h10, h11, hB, hlt, hlt', hb, w, hw, hget, hset, fgX, gl]; exact ⟨k, by omega, i + 1, by omega, by first | exact rfl | exact ⟨rfl, rfl⟩ | exact ⟨rfl, rfl, by omega⟩ | exact ⟨rfl, by omega⟩⟩
theorem run_copyList {n : Nat} (l : List Ins) (ha : ∀ x ∈ l, x.e.as.length < 2 ^ 30) (hl : l.length < 2 ^ 29) (hn : l.length < n) (h4n : 4 ≤ n) (s : Sup) : go (n + 1) 330 [.w (isW l)] [] s = some ⟨.w (isW l), [], []⟩ := by
 have rm : room l.length 40 = true := room_of (by omega) (by omega); have tkL := take_insRows l; simp [go_of (n := n) FT_330 rfl, F330, insRows_length, rm]; generalize hst : St.mk _ _ _ _ = st; obtain ⟨e, ⟨τ', H', g', s'⟩, hx, -, rfl, h3, hB⟩ := loop330_0 (n := n) 192 l ha h4n hn (by omega) st (by simp [← hst]) (by simp [← hst]) (by simp [← hst]) (by simp [← hst]) (by simp [← hst]) (by simp [← hst]); simp only at h3 hB; clear hst; simp [hx, h3, hB, insRows_length, tkL]
end Go.VM

/- Plain lists: how many arguments an instruction has. Conditions: none. -/
namespace Go.VM
set_option linter.unusedSimpArgs false
set_option linter.unusedVariables false
set_option maxHeartbeats 16000000
mutual
theorem begins_args : ∀ t : Net, ∀ x ∈ t.begins, x.e.as.length ≤ t.wt
 | .mk k op as [], x, hx => by
  simp only [Net.begins, List.mem_singleton] at hx; subst hx; simp only [Net.wt, netsWt]; omega
 | .mk k op as (y :: r), x, hx => by
  simp only [Net.begins, List.mem_append] at hx; simp only [Net.wt, netsWt]; rcases hx with hx | hx
  · have := begins_args y x hx; omega
  · split at hx
    · simp only [List.mem_singleton] at hx; subst hx; simp
    · have := taken_args r k x hx; omega
theorem taken_args : ∀ l : List Net, ∀ k : Int, ∀ x ∈ netsTaken k l, x.e.as.length ≤ netsWt l
 | [], k, x, hx => by simp [netsTaken] at hx
 | .mk yk yo ya yks :: r, k, x, hx => by
  simp only [netsTaken, List.mem_append] at hx; simp only [netsWt]; rcases hx with hx | hx
  · split at hx
    · simp only [List.mem_singleton] at hx; subst hx; simp only [Net.as, Net.wt]; omega
    · rw [List.mem_append] at hx
      rcases hx with hx | hx
      · have := begins_args (.mk yk yo ya yks) x hx; omega
      · simp only [List.mem_singleton] at hx; subst hx; simp
  · have := taken_args r k x hx; omega
end
theorem sep_args {N i : Nat} {x : Ins} (h : x ∈ sepI N i) : x.e.as = [] := by
 unfold sepI at h; split at h
 · simp at h
 · split at h
   · simp only [List.mem_singleton] at h; subst h; rfl
   · split at h <;> (simp only [List.mem_singleton] at h; subst h; rfl)
mutual
theorem tail_args : ∀ a : Arm, ∀ x ∈ a.tail, x.e.as.length ≤ a.wt
 | .mk n cs ks, x, hx => by
  simp only [Arm.tail, List.mem_append] at hx; simp only [Arm.wt]; rcases hx with hx | hx
  · simp only [coilsI, List.mem_map] at hx
    obtain ⟨e, he, rfl⟩ := hx; have := elsWt_mem he; simp only [El.wt] at this; simp only; omega
  · have := armsTail_args ks _ _ x hx; omega
theorem armsTail_args : ∀ l : List Arm, ∀ N i : Nat, ∀ x ∈ armsTail N i l, x.e.as.length ≤ armsWt l
 | [], N, i, x, hx => by simp [armsTail] at hx
 | .mk n cs ks :: r, N, i, x, hx => by
  simp only [armsTail, List.mem_append] at hx; simp only [armsWt]; rcases hx with ((hx | hx) | hx) | hx
  · rw [sep_args hx]; simp
  · have h1 := taken_args _ _ x hx
    have h2 := parts_wt n; simp only [Arm.net, Arm.wt] at h1 ⊢; omega
  · have := tail_args (.mk n cs ks) x hx; omega
  · have := armsTail_args r N (i + 1) x hx; omega
end
theorem plain_args (l : List Arm) : ∀ x ∈ plainOf l, x.e.as.length ≤ armsWt l := fun x hx => by
 simp only [plainOf, List.mem_flatMap] at hx; obtain ⟨a, ha, hx⟩ := hx; have hw := armsWt_mem ha; simp only [Arm.plain, List.mem_append, List.mem_singleton] at hx; rcases hx with (hx | hx) | hx
 · have := begins_args _ x hx
   obtain ⟨n, cs, ks⟩ := a; simp only [Arm.net, Arm.wt] at this hw; omega
 · have := tail_args a x hx; omega
 · subst hx; simp
end Go.VM
