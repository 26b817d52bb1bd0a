/- The plain list of a ladder, reckoned. Conditions: none. -/
import Derived.Test.YtcjdokngpmnkjaaGreatDoorVY6
import Derived.Test.YtcjdokngpmnkjaaGreatDoorVQ9
import Derived.Test.YtcjdokngpmnkjaaGreatDoorVN1

namespace Go.VM
set_option linter.unusedSimpArgs false
set_option linter.unusedVariables false
set_option maxHeartbeats 16000000
theorem kq4 {l : List Arm} {i : Nat} {x : Arm} (h : l[i]? = some x) : plainOf (l.take (i + 1)) = plainOf (l.take i) ++ (x.net.begins ++ x.tail ++ [Ins.bare 11]) := by
 rw [List.take_add_one, h]; simp [plainOf, Arm.plain]
theorem kx0 (l : List Arm) (i : Nat) : (plainOf (l.take i)).length ≤ (plainOf l).length := by
 conv => rhs; rw [← List.take_append_drop i l]
 simp only [plainOf, List.flatMap_append, List.length_append]; omega
def PlainPost (st' : St) (L : List Ins) : Prop := 0 < st'.g ∧ AccI st'.τ st'.H st'.g 3 L 0 0
theorem loop297_0 {n : Nat} (l : List Arm) (hc : ∀ x ∈ l, ∀ s, go n 329 [armX x] [] s = some ⟨.w (isW x.tail), [], []⟩) (hb : ∀ x ∈ l, ∀ s, ∃ c, go n 328 [netX x.net] [] s = some (insOwn x.net.begins c))
 (hlen : (plainOf l).length < 2 ^ 29) (hn : l.length < n) (hl : l.length < 2 ^ 40) (st : St) (h7 : st.τ 7 = .w (ksW l)) (h8 : st.τ 8 = iV l.length) (h9 : st.τ 9 = iV 0) (hacc : PlainPost st []) :
 ∃ e st', execC (go n) mode GT false 29 n F297_L0 st = some (e, st') ∧ e ≠ .normal ∧ (e = .exit 0 ∧ PlainPost st' (plainOf l)) := by
 rw [F297_L0, k00]; refine k03 (fun m st1 => ∃ i, i + m = l.length ∧ st1.τ 7 = .w (ksW l) ∧ st1.τ 8 = iV l.length ∧ st1.τ 9 = iV i ∧ PlainPost st1 (plainOf (l.take i))) ?_ n l.length st hn
  ⟨0, by omega, h7, h8, by simpa using h9, by simpa [plainOf] using hacc⟩
 clear h7 h8 h9 hacc; rintro m ⟨τ, H, g, s⟩ ⟨i, hm, h7, h8, h9, hg, hacc⟩; simp only at h7 h8 h9 hg hacc; cases m with
 | zero =>
  have : i = l.length := by omega
  subst this; rw [List.take_length] at hacc; refine ⟨.exit 0, ?_⟩
  simp [F297_B0, h8, h9]; exact ⟨by simp only; omega, hacc.keep rfl rfl (by simp only; omega)⟩
 | succ m =>
  have hlt : i < l.length := by omega
  have hlt' := ltT hlt; have hgt := List.getElem?_eq_getElem hlt; have hmem := List.getElem_mem hlt; have hw := k04 (i := i) (by omega); obtain ⟨xk, xo, xa, xns, xcs, xks, hx⟩ : ∃ xk xo xa xns xcs xks, l[i] = .mk (.mk xk xo xa xns) xcs xks := by
   cases hq : l[i] with | mk nn cs ks => cases nn; exact ⟨_, _, _, _, _, _, rfl⟩
  have w := hc _ hmem; have wb := hb _ hmem; rw [hx] at hgt w wb; have hstep := kq4 hgt; have hle := kx0 l (i + 1); rw [hstep, List.length_append, List.length_append, List.length_append] at hle; have hrow := k18 hgt; rw [show Arm.net (.mk (.mk xk xo xa xns) xcs xks) = .mk xk xo xa xns from rfl] at wb hstep hle; generalize Net.begins (.mk xk xo xa xns) = N at wb hstep hle; generalize Arm.tail (.mk (.mk xk xo xa xns) xcs xks) = T at w hstep hle; generalize hSS : plainOf (l.take i) = S at hacc hstep hle; simp only [List.length_singleton] at hle; have zX := far hg; have rm0 : room N.length 40 = true := k08 (by omega) (by omega)
  have rm1 : room (S.length + N.length) 40 = true := k08 (by omega) (by omega); have rm2 : room (S.length + N.length + T.length) 40 = true := k08 (by omega) (by omega); have rm3 : room (S.length + N.length + T.length + 1) 40 = true := k08 (by omega) (by omega); have rn2 : room (N.length + T.length) 40 = true := k08 (by omega) (by omega); have rn3 : room (N.length + T.length + 1) 40 = true := k08 (by omega) (by omega); have tkS := k05 S; have tkN := k05 N; have tkT := k05 T; have tkSN := k05 (S ++ N); have tkSNT := k05 (S ++ (N ++ T)); have tkNT := k05 (N ++ T)
  have uNT : List.take (N.length + T.length) (insRows N ++ insRows T) = insRows N ++ insRows T := List.take_of_length_le (by simp [k02]); have uSN : List.take (S.length + N.length) (insRows S ++ insRows N) = insRows S ++ insRows N := List.take_of_length_le (by simp [k02]); have uSNT : List.take (S.length + N.length + T.length) (insRows S ++ (insRows N ++ insRows T)) = insRows S ++ (insRows N ++ insRows T) := List.take_of_length_le (by simp [k02]; omega); have alN := eq_true (k42 N); have alT := eq_true (k42 T)
  suffices hsuf : ∃ st', execC (go n) mode GT false 29 n F297_B0 ⟨τ, H, g, s⟩ = some (.normal, st') ∧ PlainPost st' (S ++ (N ++ T ++ [Ins.bare 11])) ∧ st'.τ 7 = .w (ksW l) ∧ st'.τ 8 = iV l.length ∧ st'.τ 9 = iV ((i + 1 : Nat) : Int) by
   obtain ⟨st', a0, a1, a2, a3, a4⟩ := hsuf; rw [a0]; refine ⟨.normal, st', rfl, fun _ => ⟨m, by omega, i + 1, by omega, a2, a3, a4, ?_⟩, fun h => absurd rfl h⟩
   rw [hstep]; exact a1
  have wb' : ∃ f : Sup → Option Nat, ∀ s, go n 328 [netX (.mk xk xo xa xns)] [] s = some (insOwn N (f s)) := ⟨fun s => (wb s).choose, fun s => (wb s).choose_spec⟩; obtain ⟨f, wb'⟩ := wb'; rcases hacc with ⟨rfl, h3⟩ | ⟨b, hb0, hbq, hbg, h3, hB⟩
  · simp [-getElem?_pos, F297_B0, h7, h8, h9, h3, hlt, hlt', hrow, hw, w, wb', rm0, rn2, rn3, tkN, tkT, tkNT, alN, alT, k02, k12]
    exact ⟨by simp only; omega, AccI.mk rfl (by omega) (by omega) (by simp only; omega) (by simp; try omega) (by simp [k12, k34, Ins.row, ar0, uNT, uSN, uSNT])⟩
  · have bX := far hbg
    have e1 : (0 = b) = False := eq_false (fun e => hb0 e.symm); have e3 : (b = 0) = False := eq_false hb0; simp [-getElem?_pos, F297_B0, h7, h8, h9, h3, hB, hlt, hlt', hrow, hw, w, wb', rm1, rm2, rm3, tkS, tkN, tkT, tkSN, tkSNT, alN, alT, k02, k12, e1, e3, bX, zX]; exact ⟨by simp only; omega, AccI.mk rfl (by omega) (by omega) (by simp only; omega) (by simp; try omega) (by simp [k12, k34, Ins.row, ar0, uNT, uSN, uSNT])⟩
theorem insRows_take {l : List Ins} {i : Nat} {x : Ins} (h : l[i]? = some x) : insRows (l.take i) ++ [x.row] = insRows (l.take (i + 1)) := by
 rw [List.take_add_one, h]; simp [insRows]
theorem ka4 {l : List Ins} {i : Nat} {c op : Int} {as : List Arg} (h : l[i]? = some ⟨c, ⟨op, as⟩⟩) : (insRows l)[i]? = some [iD c, iD op, .l 0 (argRows as)] := by simp [insRows, h, Ins.row]
theorem loop330_0 {n : Nat} (b : Nat) (l : List Ins) (ha : ∀ x ∈ l, x.e.as.length < 2 ^ 30) (h4n : 4 ≤ n) (hn : l.length < n) (hl : l.length < 2 ^ 40) (st : St) (h3 : st.τ 3 = .w (.own b 0 l.length (some l.length))) (hB : st.H b = .row none 3 (List.replicate l.length [iD 0, iD 0, .l 0 []]) 0) (h9 : st.τ 9 = .w (isW l)) (h10 : st.τ 10 = iV l.length) (h11 : st.τ 11 = iV 0) (hgg : b < st.g) :
 ∃ e st', execC (go n) mode GT false 27 n F330_L0 st = some (e, st') ∧ e ≠ .normal ∧ (e = .exit 0 ∧ st'.τ 3 = .w (.own b 0 l.length (some l.length)) ∧ st'.H b = .row none 3 (insRows l) 0) := by
 rw [F330_L0, k00]; refine k03 (fun k st => ∃ i, i + k = l.length ∧ st.τ 3 = .w (.own b 0 l.length (some l.length)) ∧ st.H b = .row none 3 (insRows (l.take i) ++ List.replicate k [iD 0, iD 0, .l 0 []]) 0 ∧ st.τ 9 = .w (isW l) ∧ st.τ 10 = iV l.length ∧ st.τ 11 = iV i ∧ b < st.g) ?_ n l.length st hn ⟨0, by omega, h3, by simpa [insRows] using hB, h9, h10, by simpa using h11, hgg⟩
 clear h3 hB h9 h10 h11 hgg; rintro k ⟨τ, H, g, s⟩ ⟨i, hk, h3, hB, h9, h10, h11, hgg⟩; simp only at h3 hB h9 h10 h11 hgg; cases k with
 | zero =>
  have : i = l.length := by omega
  subst this; rw [List.take_length] at hB; refine ⟨.exit 0, ?_⟩
  simp [F330_B0, h3, h9, h10, h11, hB]
 | succ k =>
  have hlt : i < l.length := by omega
  have hlt' := ltT hlt; have hg := List.getElem?_eq_getElem hlt; have hmem := List.getElem_mem hlt; have hw := k04 (i := i) (by omega); have hlT : (insRows (l.take i)).length = i := by simp [k02]; omega
  have hget := kb3 (k := k) hlT [iD 0, iD 0, .l 0 []]; have hset := kb2 (k := k) hlT [iD 0, iD 0, .l 0 []]; have hset := hset (Ins.row l[i]); rw [insRows_take hg] at hset; have w := kf6 (n := n) h4n l[i].e (ha _ hmem); obtain ⟨c, op, as, hx⟩ : ∃ c op as, l[i] = ⟨c, ⟨op, as⟩⟩ := ⟨_, _, _, rfl⟩; rw [hx] at hg w hset; have hb := ka4 hg; simp only [Ins.row] at hset; have fgX := far hgg; have gl : (g < g + 64 + 384) = True := eq_true (by omega); refine ⟨.normal, ?_⟩
  simp [-getElem?_pos, F330_B0, h3, h9, h10, h11, hB, hlt, hlt', hb, w, hw, hget, hset, fgX, gl]; exact ⟨k, by omega, i + 1, by omega, by first | exact rfl | exact ⟨rfl, rfl⟩ | exact ⟨rfl, rfl, by omega⟩ | exact ⟨rfl, by omega⟩⟩
theorem kp6 {n : Nat} (l : List Ins) (ha : ∀ x ∈ l, x.e.as.length < 2 ^ 30) (hl : l.length < 2 ^ 29) (hn : l.length < n) (h4n : 4 ≤ n) (s : Sup) : go (n + 1) 330 [.w (isW l)] [] s = some ⟨.w (isW l), [], []⟩ := by
 have rm : room l.length 40 = true := k08 (by omega) (by omega); have tkL := k05 l; simp [go_of (n := n) FT_330 rfl, F330, k02, rm]; generalize hst : St.mk _ _ _ _ = st; obtain ⟨e, ⟨τ', H', g', s'⟩, hx, -, rfl, h3, hB⟩ := loop330_0 (n := n) 192 l ha h4n hn (by omega) st (by simp [← hst]) (by simp [← hst]) (by simp [← hst]) (by simp [← hst]) (by simp [← hst]) (by simp [← hst]); simp only at h3 hB; clear hst; simp [hx, h3, hB, k02, tkL]
end Go.VM

/- Plain lists: how many arguments an instruction has. Conditions: none. -/
namespace Go.VM
set_option linter.unusedSimpArgs false
set_option linter.unusedVariables false
set_option maxHeartbeats 16000000
mutual
theorem kk6 : ∀ t : Net, ∀ x ∈ t.begins, x.e.as.length ≤ t.wt
 | .mk k op as [], x, hx => by
  simp only [Net.begins, List.mem_singleton] at hx; subst hx; simp only [Net.wt, netsWt]; omega
 | .mk k op as (y :: r), x, hx => by
  simp only [Net.begins, List.mem_append] at hx; simp only [Net.wt, netsWt]; rcases hx with hx | hx
  · have := kk6 y x hx; omega
  · split at hx
    · simp only [List.mem_singleton] at hx; subst hx; simp
    · have := kn7 r k x hx; omega
theorem kn7 : ∀ l : List Net, ∀ k : Int, ∀ x ∈ netsTaken k l, x.e.as.length ≤ netsWt l
 | [], k, x, hx => by simp [netsTaken] at hx
 | .mk yk yo ya yks :: r, k, x, hx => by
  simp only [netsTaken, List.mem_append] at hx; simp only [netsWt]; rcases hx with hx | hx
  · split at hx
    · simp only [List.mem_singleton] at hx; subst hx; simp only [Net.as, Net.wt]; omega
    · rw [List.mem_append] at hx
      rcases hx with hx | hx
      · have := kk6 (.mk yk yo ya yks) x hx; omega
      · simp only [List.mem_singleton] at hx; subst hx; simp
  · have := kn7 r k x hx; omega
end
theorem sep_args {N i : Nat} {x : Ins} (h : x ∈ sepI N i) : x.e.as = [] := by
 unfold sepI at h; split at h
 · simp at h
 · split at h
   · simp only [List.mem_singleton] at h; subst h; rfl
   · split at h <;> (simp only [List.mem_singleton] at h; subst h; rfl)
mutual
theorem kB4 : ∀ a : Arm, ∀ x ∈ a.tail, x.e.as.length ≤ a.wt
 | .mk n cs ks, x, hx => by
  simp only [Arm.tail, List.mem_append] at hx; simp only [Arm.wt]; rcases hx with hx | hx
  · simp only [coilsI, List.mem_map] at hx
    obtain ⟨e, he, rfl⟩ := hx; have := kd0 he; simp only [El.wt] at this; simp only; omega
  · have := kn5 ks _ _ x hx; omega
theorem kn5 : ∀ l : List Arm, ∀ N i : Nat, ∀ x ∈ armsTail N i l, x.e.as.length ≤ armsWt l
 | [], N, i, x, hx => by simp [armsTail] at hx
 | .mk n cs ks :: r, N, i, x, hx => by
  simp only [armsTail, List.mem_append] at hx; simp only [armsWt]; rcases hx with ((hx | hx) | hx) | hx
  · rw [sep_args hx]; simp
  · have h1 := kn7 _ _ x hx
    have h2 := kl7 n; simp only [Arm.net, Arm.wt] at h1 ⊢; omega
  · have := kB4 (.mk n cs ks) x hx; omega
  · have := kn5 r N (i + 1) x hx; omega
end
theorem kw9 (l : List Arm) : ∀ x ∈ plainOf l, x.e.as.length ≤ armsWt l := fun x hx => by
 simp only [plainOf, List.mem_flatMap] at hx; obtain ⟨a, ha, hx⟩ := hx; have hw := k07 ha; simp only [Arm.plain, List.mem_append, List.mem_singleton] at hx; rcases hx with (hx | hx) | hx
 · have := kk6 _ x hx
   obtain ⟨n, cs, ks⟩ := a; simp only [Arm.net, Arm.wt] at this hw; omega
 · have := kB4 a x hx; omega
 · subst hx; simp
set_option maxHeartbeats 4000000
abbrev w64 (x : Int) : Int := IntKind.wrap .i64 x
def atB (b : List Int) (e : Int) : Int := b.getD e.toNat 0
theorem kH2 {b : List Int} {e : Int} (h0 : 0 ≤ e) (h1 : e < b.length) : (byt b)[e.toNat]? = some [.s (.int .u8 (atB b e))] := by
 have : e.toNat < b.length := by omega
 simp [byt, atB, this]
theorem atB_ok {b : List Int} (hb : ∀ x ∈ b, 0 ≤ x ∧ x < 256) (e : Int) : 0 ≤ atB b e ∧ atB b e < 256 := by
 unfold atB
 by_cases h : e.toNat < b.length
 · have : b.getD e.toNat 0 = b[e.toNat] := by simp [h]
   rw [this]; exact hb _ (List.getElem_mem h)
 · have : b.getD e.toNat 0 = 0 := by simp [List.getD_eq_getElem?_getD, List.getElem?_eq_none (by omega : b.length ≤ e.toNat)]
   rw [this]; omega
def pickX (a1 a2 p q : Int) : Int :=
 w64 (w64 (w64 (w64 (w64 a1 * 131) + w64 (w64 a2 * 1117)) + w64 (p * 29)) + w64 (w64 q * 53))
def xorX (x : Int) : Int := w64 ((BitVec.ofInt 64 x ^^^ BitVec.ofInt 64 (w64 (x.tdiv 64))).toNat : Nat)
def pickV (b : List Int) (p : Int) (n : Int) : Int :=
 if n < 1 ∨ b.length = 0 then 0 else if p < b.length then (w64 (atB b p)).tmod n else (xorX (pickX (atB b (p.tmod b.length)) (atB b ((p * 7 + 3).tmod b.length)) p (p.tdiv b.length))).tmod n
abbrev rdB (sc : Nat) (b : List Int) (p : Int) : Box := .cells [.d (.l sc (byt b)), .d (.s (.int .i64 p))]
theorem run_pick {n : Nat} (hn : 1 ≤ n) (sc : Nat) (b : List Int) (p : Nat) (hp : p < 2 ^ 40) (hl : b.length ≤ 2 ^ 40) (m : Int) (s : Sup) :
 go n 67 [.w (.ptr 0 0), .w (.d (.s (.int .i64 m)))] [rdB sc b p] s = some ⟨sV (.int .i64 (pickV b p m)), [rdB sc b (p + 1 : Nat)], []⟩ := by
 obtain ⟨n, rfl⟩ : ∃ k, n = k + 1 := ⟨n - 1, by omega⟩; have w1 : IntKind.wrap .i64 ((p : Int) + 1) = p + 1 := k29 (by omega) (by omega); have w2 : IntKind.wrap .i64 (p : Int) = p := k29 (by omega) (by omega); unfold pickV
 by_cases c1 : m < 1
 · simp [go_of FT_67 rfl, F67, c1, w1]
 · by_cases c2 : b.length = 0
   · have c2' : b = [] := List.eq_nil_of_length_eq_zero c2
     simp [go_of FT_67 rfl, F67, c1, c2, c2', w1]
   · have c2' : b ≠ [] := fun e => c2 (by rw [e]; rfl)
     have c2i : ((b.length : Int) = 0) = False := eq_false (by omega); have c3 : (m = 0) = False := eq_false (by omega); rw [if_neg (by omega)]
     by_cases c4 : (p : Int) < b.length
     · have c4' : p < b.length := by omega
       have hg := kH2 (b := b) (e := p) (by omega) c4; simp only [Int.toNat_natCast] at hg; rw [if_pos c4]; simp [-getElem?_pos, go_of FT_67 rfl, F67, c1, c2, c2', c2i, c3, c4', hg, w1, w2]
     · have c4' : (p < b.length) = False := eq_false (by omega)
       have c4i : ((p : Int) < b.length) = False := eq_false c4; have wa : IntKind.wrap .i64 ((p : Int) * 7) = p * 7 := k29 (by omega) (by omega); have wb : IntKind.wrap .i64 ((p : Int) * 7 + 3) = p * 7 + 3 := k29 (by omega) (by omega); have m1 : (p : Int).tmod b.length = (p : Int) % b.length := Int.tmod_eq_emod_of_nonneg (by omega); have m2 : ((p : Int) * 7 + 3).tmod b.length = ((p : Int) * 7 + 3) % b.length := Int.tmod_eq_emod_of_nonneg (by omega); have k1 : 0 ≤ (p : Int).tmod b.length := by rw [m1]; exact Int.emod_nonneg _ (by omega)
       have k2 : 0 ≤ ((p : Int) * 7 + 3).tmod b.length := by rw [m2]; exact Int.emod_nonneg _ (by omega)
       have l1 : (p : Int).tmod b.length < b.length := by rw [m1]; exact Int.emod_lt_of_pos _ (by omega)
       have l2 : ((p : Int) * 7 + 3).tmod b.length < b.length := by rw [m2]; exact Int.emod_lt_of_pos _ (by omega)
       have hg1 := kH2 k1 l1; have hg2 := kH2 k2 l2; have k1' := eq_true k1; have k2' := eq_true k2; rw [if_neg c4]; unfold pickX xorX w64; simp [-getElem?_pos, go_of FT_67 rfl, F67, c1, c2, c2', c2i, c3, c4', c4i, w1, w2, wa, wb, hg1, hg2, k1', k2']
       rfl
theorem w64_id {x : Int} (h1 : -(2 ^ 63) ≤ x) (h2 : x < 2 ^ 63) : w64 x = x := k29 h1 h2
theorem xorX_ok {x : Int} (h0 : 0 ≤ x) (h1 : x < 2 ^ 60) : 0 ≤ xorX x := by
 obtain ⟨y, rfl⟩ : ∃ y : Nat, x = y := ⟨x.toNat, by omega⟩; have hd : (y : Int).tdiv 64 = (y / 64 : Nat) := by rw [Int.tdiv_eq_ediv_of_nonneg (by omega)]; rfl
 unfold xorX; rw [hd, w64_id (x := ((y / 64 : Nat) : Int)) (by omega) (by omega)]; have hx : (BitVec.ofInt 64 (y : Int) ^^^ BitVec.ofInt 64 ((y / 64 : Nat) : Int)).toNat < 2 ^ 60 := by
  rw [BitVec.toNat_xor]; refine Nat.xor_lt_two_pow ?_ ?_
  · simp only [BitVec.toNat_ofInt]; omega
  · simp only [BitVec.toNat_ofInt]; omega
 rw [w64_id (by omega) (by omega)]; omega
theorem pickV_ok {b : List Int} (hb : ∀ x ∈ b, 0 ≤ x ∧ x < 256) {p : Nat} (hp : p < 2 ^ 40) (n : Int) : 0 ≤ pickV b p n ∧ (1 ≤ n → pickV b p n < n) := by
 unfold pickV; have key : ∀ y : Int, 0 ≤ y → ¬ n < 1 → 0 ≤ y.tmod n ∧ (1 ≤ n → y.tmod n < n) := fun y hy hn => by
  rw [Int.tmod_eq_emod_of_nonneg hy]; exact ⟨Int.emod_nonneg _ (by omega), fun _ => Int.emod_lt_of_pos _ (by omega)⟩
 split
 · exact ⟨by omega, fun h => by omega⟩
 · rename_i hn
   have hn1 : ¬ n < 1 := fun h => hn (.inl h)
   split
   · have := atB_ok hb p
     exact key _ (by rw [w64_id (by omega) (by omega)]; exact this.1) hn1
   · have h1 := atB_ok hb ((p : Int).tmod b.length)
     have h2 := atB_ok hb (((p : Int) * 7 + 3).tmod b.length); have h3 : 0 ≤ (p : Int).tdiv b.length ∧ (p : Int).tdiv b.length ≤ p := by
      rw [Int.tdiv_eq_ediv_of_nonneg (by omega)]; exact ⟨Int.ediv_nonneg (by omega) (by omega), Int.ediv_le_self _ (by omega)⟩
     refine key _ (xorX_ok ?_ ?_) hn1
     all_goals
      generalize atB b ((p : Int).tmod b.length) = a1 at h1 ⊢; generalize atB b (((p : Int) * 7 + 3).tmod b.length) = a2 at h2 ⊢; generalize (p : Int).tdiv b.length = q at h3 ⊢; unfold pickX; rw [w64_id (x := a1) (by omega) (by omega), w64_id (x := a2) (by omega) (by omega), w64_id (x := a1 * 131) (by omega) (by omega), w64_id (x := a2 * 1117) (by omega) (by omega), w64_id (x := a1 * 131 + a2 * 1117) (by omega) (by omega),
       w64_id (x := (p : Int) * 29) (by omega) (by omega), w64_id (x := a1 * 131 + a2 * 1117 + p * 29) (by omega) (by omega), w64_id (x := q) (by omega) (by omega), w64_id (x := q * 53) (by omega) (by omega), w64_id (by omega) (by omega)]
      omega
set_option maxHeartbeats 8000000
def RD (b : List Int) : Prop := (∀ x ∈ b, 0 ≤ x ∧ x < 256) ∧ b.length ≤ 2 ^ 40
abbrev rB (b : List Int) (p : Nat) : Box := rdB 0 b p
abbrev pV : V := .w (.ptr 0 0)
abbrev lV (l : List Int) : V := .w (.d (.l 0 (l.map fun x => [iD x])))
theorem k06 {b : List Int} (hb : RD b) (m : Int) (p : Nat) (hp : p < 2 ^ 39) (n : Nat) (hn : 1 ≤ n) :
 ∃ (v : Int) (q : Nat), 0 ≤ v ∧ (1 ≤ m → v < m) ∧ q ≤ p + 1 ∧ ∀ s, go n 67 [pV, iV m] [rB b p] s = some ⟨iV v, [rB b q], []⟩ := by
 have h := pickV_ok hb.1 (p := p) (by omega) m; exact ⟨pickV b p m, p + 1, h.1, h.2, Nat.le_refl _, fun s => run_pick hn 0 b p (by omega) hb.2 m s⟩
theorem k54 {b : List Int} (hb : RD b) (l : List Int) (hl : 1 ≤ l.length ∧ l.length < 2 ^ 40) (p : Nat) (hp : p < 2 ^ 39) (n : Nat) (hn : 2 ≤ n) :
 ∃ (v : Int) (q : Nat), v ∈ l ∧ q ≤ p + 1 ∧ ∀ s, go n 96 [pV, lV l] [rB b p] s = some ⟨iV v, [rB b q], []⟩ := by
 obtain ⟨n, rfl⟩ : ∃ k, n = k + 1 := ⟨n - 1, by omega⟩; obtain ⟨v, q, h1, h2, h3, w⟩ := k06 hb (l.length : Int) p hp n (by omega); have h2 := h2 (by omega); obtain ⟨j, rfl⟩ : ∃ j : Nat, v = j := ⟨v.toNat, by omega⟩; have hj : j < l.length := by omega
 have hg : (l.map fun x => [iD x])[j]? = some [iD l[j]] := by simp [hj]
 refine ⟨l[j], q, List.getElem_mem hj, h3, fun s => ?_⟩
 simp [-getElem?_pos, go_of FT_96 rfl, F96, w, hg]
theorem k22 {b : List Int} (hb : RD b) (kind : Int) (p : Nat) (hp : p < 2 ^ 38) (n : Nat) (hn : 4 ≤ n) :
 ∃ (a : Arg) (q : Nat), q ≤ p + 4 ∧ ∀ s, go n 153 [pV, iV kind] [rB b p] s = some ⟨argX a, [rB b q], []⟩ := by
 obtain ⟨n, rfl⟩ : ∃ k, n = k + 1 := ⟨n - 1, by omega⟩
 by_cases c1 : kind = 11
 · obtain ⟨v, q, h1, h2, w⟩ := k54 hb [0, 1, 2, 3, 5, -1, -7, 10, 100, 32767, -32768, 1000] (by simp) p (by omega) n (by omega)
   simp only [lV, List.map_cons, List.map_nil] at w; refine ⟨⟨kind, v, 0⟩, q, by omega, fun s => ?_⟩
   simp [go_of FT_153 rfl, F153, c1, w, List.replicate]
 by_cases c2 : kind = 12
 · obtain ⟨v, q, h1, h2, w⟩ := k54 hb [0, 1, 5, -5, 25, -15, 999999999, -999999999, 3, 1001, 7] (by simp) p (by omega) n (by omega)
   simp only [lV, List.map_cons, List.map_nil] at w; obtain ⟨u, q2, h3, h4, h5, w2⟩ := k06 hb 6 q (by omega) n (by omega)
   by_cases c3 : v.tmod 10 = 0
   · refine ⟨⟨kind, v, 1⟩, q2, by omega, fun s => ?_⟩
     simp [go_of FT_153 rfl, F153, c1, c2, c3, w, w2, List.replicate]
   · refine ⟨⟨kind, v, IntKind.wrap .i64 (1 + u)⟩, q2, by omega, fun s => ?_⟩
     simp [go_of FT_153 rfl, F153, c1, c2, c3, w, w2, List.replicate]
 by_cases c3 : kind = 13
 · obtain ⟨u, q2, h3, h4, h5, w2⟩ := k06 hb 4 p (by omega) n (by omega)
   refine ⟨⟨kind, u, 0⟩, q2, by omega, fun s => ?_⟩
   simp [go_of FT_153 rfl, F153, c1, c2, c3, w2]
 · obtain ⟨u, q2, h3, h4, h5, w2⟩ := k06 hb 4 p (by omega) n (by omega)
   obtain ⟨u2, q3, h6, h7, h8, w3⟩ := k06 hb 6 q2 (by omega) n (by omega); have wd := kf9 (n := n) (by omega) kind
   by_cases c4 : u2 = 0
   · obtain ⟨u3, q4, h9, h10, h11, w4⟩ := k06 hb (devSize kind) q3 (by omega) n (by omega)
     by_cases c5 : devSize kind ≤ u3
     · refine ⟨⟨kind, 0, 0⟩, q4, by omega, fun s => ?_⟩
       simp [go_of FT_153 rfl, F153, c1, c2, c3, c4, c5, w2, w3, w4, wd]
     · refine ⟨⟨kind, u3, 0⟩, q4, by omega, fun s => ?_⟩
       simp [go_of FT_153 rfl, F153, c1, c2, c3, c4, c5, w2, w3, w4, wd]
   · by_cases c5 : devSize kind ≤ u
     · refine ⟨⟨kind, 0, 0⟩, q3, by omega, fun s => ?_⟩
       simp [go_of FT_153 rfl, F153, c1, c2, c3, c4, c5, w2, w3, wd]
     · refine ⟨⟨kind, u, 0⟩, q3, by omega, fun s => ?_⟩
       simp [go_of FT_153 rfl, F153, c1, c2, c3, c4, c5, w2, w3, wd]
theorem kJ4 {b : List Int} (hb : RD b) (p : Nat) (hp : p < 2 ^ 37) (n : Nat) (hn : 5 ≤ n) : ∃ (a : Arg) (q : Nat), q ≤ p + 5 ∧ ∀ s, go n 155 [pV] [rB b p] s = some ⟨argX a, [rB b q], []⟩ := by
 obtain ⟨n, rfl⟩ : ∃ k, n = k + 1 := ⟨n - 1, by omega⟩; obtain ⟨v, q, h1, h2, w⟩ := k54 hb [1, 1, 2, 3, 3, 4, 6, 7, 8] (by simp) p (by omega) n (by omega); simp only [lV, List.map_cons, List.map_nil] at w; obtain ⟨a, q2, h3, w2⟩ := k22 hb v q (by omega) n (by omega); refine ⟨a, q2, by omega, fun s => ?_⟩
 simp [go_of FT_155 rfl, F155, w, w2, List.replicate]
theorem k39 {b : List Int} (hb : RD b) (p : Nat) (hp : p < 2 ^ 37) (n : Nat) (hn : 5 ≤ n) : ∃ (a : Arg) (q : Nat), q ≤ p + 5 ∧ ∀ s, go n 156 [pV] [rB b p] s = some ⟨argX a, [rB b q], []⟩ := by
 obtain ⟨n, rfl⟩ : ∃ k, n = k + 1 := ⟨n - 1, by omega⟩; obtain ⟨v, q, h1, h2, w⟩ := k54 hb [9, 9, 9, 11, 11, 7, 8] (by simp) p (by omega) n (by omega); simp only [lV, List.map_cons, List.map_nil] at w; obtain ⟨a, q2, h3, w2⟩ := k22 hb v q (by omega) n (by omega); refine ⟨a, q2, by omega, fun s => ?_⟩
 simp [go_of FT_156 rfl, F156, w, w2, List.replicate]
theorem k53 {b : List Int} (hb : RD b) (p : Nat) (hp : p < 2 ^ 37) (n : Nat) (hn : 5 ≤ n) : ∃ (a : Arg) (q : Nat), q ≤ p + 5 ∧ ∀ s, go n 157 [pV] [rB b p] s = some ⟨argX a, [rB b q], []⟩ := by
 obtain ⟨n, rfl⟩ : ∃ k, n = k + 1 := ⟨n - 1, by omega⟩; obtain ⟨v, q, h1, h2, w⟩ := k54 hb [10, 10, 10, 12, 13] (by simp) p (by omega) n (by omega); simp only [lV, List.map_cons, List.map_nil] at w; obtain ⟨a, q2, h3, w2⟩ := k22 hb v q (by omega) n (by omega); refine ⟨a, q2, by omega, fun s => ?_⟩
 simp [go_of FT_157 rfl, F157, w, w2, List.replicate]
theorem k41 {b : List Int} (hb : RD b) (p : Nat) (hp : p < 2 ^ 36) (n : Nat) (hn : 6 ≤ n) : ∃ (e : El) (q : Nat), e.as.length ≤ 2 ∧ q ≤ p + 24 ∧ ∀ s, go n 134 [pV] [rB b p] s = some ⟨elX e, [rB b q], []⟩ := by
 obtain ⟨n, rfl⟩ : ∃ k, n = k + 1 := ⟨n - 1, by omega⟩; obtain ⟨v, q, h1, h2, h3, w⟩ := k06 hb 8 p (by omega) n (by omega); have h2 := h2 (by omega); obtain ⟨a1, q1, g1, w1⟩ := kJ4 hb q (by omega) n (by omega)
 by_cases c1 : v = 0 ∨ v = 1 ∨ v = 2
 · refine ⟨⟨1, [a1]⟩, q1, by simp, by omega, fun s => ?_⟩
   rcases c1 with rfl | rfl | rfl <;> simp [go_of FT_134 rfl, F134, w, w1, List.replicate, argRows, Arg.row]
 by_cases c2 : v = 3 ∨ v = 4
 · refine ⟨⟨2, [a1]⟩, q1, by simp, by omega, fun s => ?_⟩
   rcases c2 with rfl | rfl <;> simp [go_of FT_134 rfl, F134, w, w1, List.replicate, argRows, Arg.row]
 by_cases c3 : v = 5
 · obtain ⟨u, q2, h4, h5, h6, w2⟩ := k06 hb 2 q (by omega) n (by omega)
   obtain ⟨a1, q1, g1, w1⟩ := kJ4 hb q2 (by omega) n (by omega); obtain ⟨a2, q3, g2, w3⟩ := k22 hb 5 q1 (by omega) n (by omega); refine ⟨⟨IntKind.wrap .i64 (3 + u), [a1, a2]⟩, q3, by simp, by omega, fun s => ?_⟩
   subst c3; simp [go_of FT_134 rfl, F134, w, w1, w2, w3, List.replicate, argRows, Arg.row]
 · have hv : ∀ m : Int, m ≤ 5 → (v = m) = False := fun m hm => eq_false (by omega)
   clear w1 g1; obtain ⟨a, q1, g1, w1⟩ := k39 hb q (by omega) n (by omega); obtain ⟨a2, q2, g2, w2⟩ := k39 hb q1 (by omega) n (by omega); obtain ⟨u, q3, h4, h5, h6, w3⟩ := k06 hb 2 q2 (by omega) n (by omega)
   by_cases c4 : u = 0
   · obtain ⟨a3, q4, g3, w4⟩ := k53 hb q3 (by omega) n (by omega)
     obtain ⟨a4, q5, g4, w5⟩ := k53 hb q4 (by omega) n (by omega); obtain ⟨u2, q6, h7, h8, h9, w6⟩ := k06 hb 4 q5 (by omega) n (by omega); obtain ⟨u3, q7, h10, h11, h12, w7⟩ := k06 hb 6 q6 (by omega) n (by omega)
     by_cases c5 : u2 = 0
     · refine ⟨⟨IntKind.wrap .i64 (5 + u3), [a3, a3]⟩, q7, by simp, by omega, fun s => ?_⟩
       simp [go_of FT_134 rfl, F134, w, w1, w2, w3, w4, w5, w6, w7, hv, c4, c5, List.replicate, argRows, Arg.row]
     · refine ⟨⟨IntKind.wrap .i64 (5 + u3), [a3, a4]⟩, q7, by simp, by omega, fun s => ?_⟩
       simp [go_of FT_134 rfl, F134, w, w1, w2, w3, w4, w5, w6, w7, hv, c4, c5, List.replicate, argRows, Arg.row]
   · obtain ⟨u2, q6, h7, h8, h9, w6⟩ := k06 hb 4 q3 (by omega) n (by omega)
     obtain ⟨u3, q7, h10, h11, h12, w7⟩ := k06 hb 6 q6 (by omega) n (by omega)
     by_cases c5 : u2 = 0
     · refine ⟨⟨IntKind.wrap .i64 (5 + u3), [a, a]⟩, q7, by simp, by omega, fun s => ?_⟩
       simp [go_of FT_134 rfl, F134, w, w1, w2, w3, w6, w7, hv, c4, c5, List.replicate, argRows, Arg.row]
     · refine ⟨⟨IntKind.wrap .i64 (5 + u3), [a, a2]⟩, q7, by simp, by omega, fun s => ?_⟩
       simp [go_of FT_134 rfl, F134, w, w1, w2, w3, w6, w7, hv, c4, c5, List.replicate, argRows, Arg.row]
end Go.VM
