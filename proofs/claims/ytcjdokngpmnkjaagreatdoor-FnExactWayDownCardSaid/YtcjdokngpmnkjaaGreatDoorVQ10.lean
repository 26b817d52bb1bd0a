/- Nets as lists of instructions, reckoned. Conditions: none. -/
import Derived.Test.YtcjdokngpmnkjaaGreatDoorVQ9
import Derived.Test.YtcjdokngpmnkjaaGreatDoorVW1

namespace Go.VM
set_option linter.unusedSimpArgs false
set_option linter.unusedVariables false
set_option maxHeartbeats 16000000
abbrev isW (l : List Ins) : W := .d (.l 0 (insRows l))
abbrev insOwn (l : List Ins) (c : Option Nat) : Res := ⟨.w (.own 0 0 l.length c), [], [.row none 3 (insRows l) 0]⟩
theorem insRows_append (a b : List Ins) : insRows (a ++ b) = insRows a ++ insRows b := by simp [insRows]
theorem insRows_length (l : List Ins) : (insRows l).length = l.length := by simp [insRows]
theorem insRow_all (l : List Ins) : ∀ x ∈ insRows l, x.length = 3 := fun x hx => by
 simp only [insRows, List.mem_map] at hx; obtain ⟨a, -, rfl⟩ := hx
 rfl
theorem ar0 : argRows [] = [] := rfl
theorem insRows_one (i : Ins) : insRows [i] = [i.row] := rfl
mutual
def Net.capB : Net → Option Nat
 | .mk _ _ _ [] => some 1
 | .mk k _ _ (x :: r) => if k = 4 then Option.none else if r.isEmpty then x.capB else Option.none
end
theorem run_code {n : Nat} (N : Net) (a b : Int) (s : Sup) : go (n + 1) 350 [netX N, iV a, iV b] [] s = some ⟨iV (if N.kind = 2 then a else b), [], []⟩ := by
 obtain ⟨k, op, ars, ks⟩ := N
 by_cases h : k = 2
 · simp [go_of FT_350 rfl, F350, Net.kind, h]
 · simp [go_of FT_350 rfl, F350, Net.kind, h]
theorem run_taken {n : Nat} (x N : Net) (hN : N.kind = 2 ∨ N.kind = 3) (hx : x.kind ≠ 1 → ∀ s, go (n + 1) 328 [netX x] [] s = some (insOwn x.begins x.capB)) (hl : x.begins.length < 2 ^ 29) (s : Sup) :
 go (n + 2) 348 [netX x, netX N] [] s = some (insOwn (x.taken N.kind) (if x.kind = 1 then some 1 else none)) := by
 have w1 := run_code (n := n) N; obtain ⟨xk, xo, xa, xks⟩ := x; obtain ⟨k, op, ars, ks⟩ := N; simp only [Net.kind] at hN w1 hx ⊢
 by_cases h1 : xk = 1
 · subst h1
   have w2 : ∀ s, go (n + 1) 350 [netX (.mk k op ars ks), iV 2, iV 3] [] s = some ⟨iV k, [], []⟩ := fun s => by have := w1 2 3 s; rcases hN with rfl | rfl <;> simpa using this
   simp [go_of FT_348 rfl, F348, w2, Net.taken, Net.kind, Net.op, Net.as, insRows, Ins.row]
 · have hx := hx h1
   have w2 : ∀ s, go (n + 1) 350 [netX (.mk k op ars ks), iV 4, iV 5] [] s = some ⟨iV (k + 2), [], []⟩ := fun s => by have := w1 4 5 s; rcases hN with rfl | rfl <;> simpa using this
   have rm : room ((Net.mk xk xo xa xks).begins.length + 1) 40 = true := room_of (by omega) (by omega); simp only [Net.taken, Net.kind, if_neg h1]; generalize hL : (Net.mk xk xo xa xks).begins = L at hx rm ⊢; have tk : List.take L.length (insRows L) = insRows L := List.take_of_length_le (by rw [insRows_length]; omega); simp [go_of FT_348 rfl, F348, hx, w2, h1, rm, insRows_length, insRows_append, insRows_one, Ins.row, ar0, tk]
def OwnI (τ : Nat → V) (H : Nat → Box) (g t : Nat) (L : List Ins) (c : Option Nat) : Prop := ∃ b, 0 < b ∧ b < g ∧ τ t = .w (.own b 0 L.length c) ∧ H b = .row none 3 (insRows L) 0
theorem OwnI.mk {τ : Nat → V} {H : Nat → Box} {g t n b : Nat} {L : List Ins} {c : Option Nat} (h2 : τ t = .w (.own b 0 n c)) (h0 : 0 < b) (h1 : b < g) (hn : n = L.length) (h3 : H b = .row none 3 (insRows L) 0) : OwnI τ H g t L c :=
 ⟨b, h0, h1, by rw [h2, hn], h3⟩
theorem take_insRows (L : List Ins) : List.take L.length (insRows L) = insRows L := List.take_of_length_le (by rw [insRows_length]; omega)
theorem netsTaken_take {k : Int} {l : List Net} {i : Nat} {x : Net} (h : l[i]? = some x) : netsTaken k (l.take (i + 1)) = netsTaken k (l.take i) ++ x.taken k := by
 rw [List.take_add_one, h, netsTaken_append]; simp [netsTaken, Net.taken]
theorem loop328 {n : Nat} (k : Int) (A : List Ins) (c0 : Option Nat) (op : Int) (ars : List Arg) (ks0 : List Net) (l : List Net) (hk : k = 2 ∨ k = 3) (hc : ∀ x ∈ l, ∀ s, go n 348 [netX x, .agg [iW k, iW op, asW ars, nsW ks0]] [] s = some (insOwn (x.taken k) (if x.kind = 1 then some 1 else none)))
 (hb : A.length + (netsTaken k l).length < 2 ^ 29) (hn : l.length < n) (hl : l.length < 2 ^ 40) (st : St) (h1 : st.τ 1 = .w (.ptr 0 0)) (h31 : st.τ 31 = .w (nsW l)) (h32 : st.τ 32 = iV l.length) (h33 : st.τ 33 = iV 0) (hA : st.H 0 = .cells [iW k, iW op, asW ars, nsW ks0]) (h3 : OwnI st.τ st.H st.g 3 A c0) :
 ∃ e st', execC (go n) mode GT false 44 n F328_L0 st = some (e, st') ∧ e ≠ .normal ∧ (e = .exit 1 ∧ OwnI st'.τ st'.H st'.g 3 (A ++ netsTaken k l) (if l.length = 0 then c0 else none)) := by
 rw [F328_L0, execC_loop]; refine iter_rule (fun m st => ∃ i, i + m = l.length ∧ st.τ 1 = .w (.ptr 0 0) ∧ st.τ 31 = .w (nsW l) ∧ st.τ 32 = iV l.length ∧ st.τ 33 = iV i ∧ st.H 0 = .cells [iW k, iW op, asW ars, nsW ks0] ∧ OwnI st.τ st.H st.g 3 (A ++ netsTaken k (l.take i)) (if i = 0 then c0 else none)) ?_ n l.length st hn
  ⟨0, by omega, h1, h31, h32, by simpa using h33, hA, by simpa [netsTaken] using h3⟩
 clear h1 h31 h32 h33 hA h3; rintro m ⟨τ, H, g, s⟩ ⟨i, hm, h1, h31, h32, h33, hA, b, hb0, hbg, h3, hB⟩; simp only at h1 h31 h32 h33 hA hbg h3 hB; cases m with
 | zero =>
  have : i = l.length := by omega
  subst this; rw [List.take_length] at h3 hB; refine ⟨.exit 1, ?_⟩
  simp [F328_B0, h32, h33]; exact ⟨b, hb0, by omega, by simp [h3], hB⟩
 | succ m =>
  have hlt : i < l.length := by omega
  have hlt' := ltT hlt; have hgt := List.getElem?_eq_getElem hlt; have hw := wrap_succ (i := i) (by omega); have w := hc _ (List.getElem_mem hlt); have hstep := netsTaken_take (k := k) hgt; have hle : (netsTaken k (l.take (i + 1))).length ≤ (netsTaken k l).length := by
   conv => rhs; rw [← List.take_append_drop (i + 1) l, netsTaken_append, List.length_append]
   omega
  rw [hstep, List.length_append] at hle; obtain ⟨xk, xo, xa, xks, hx⟩ : ∃ xk xo xa xks, l[i] = .mk xk xo xa xks := by cases hq : l[i] with | mk a b c d => exact ⟨_, _, _, _, rfl⟩
  rw [hx] at hgt w hstep hle; have hrow := netRows_get hgt; generalize (if Net.kind (.mk xk xo xa xks) = 1 then some 1 else none) = cx at w; generalize Net.taken k (.mk xk xo xa xks) = T at w hstep hle; generalize hS : A ++ netsTaken k (l.take i) = S at h3 hB; have hSl : S.length = A.length + (netsTaken k (l.take i)).length := by rw [← hS, List.length_append]
  generalize (if i = 0 then c0 else none) = ci at h3; have rm : room (S.length + T.length) 40 = true := room_of (by omega) (by omega); have al := eq_true (insRow_all T); have tkT := take_insRows T; have tkS := take_insRows S; have fX := far hbg; have zX := far (show 0 < g by omega); have e0 : (0 = b) = False := eq_false (by omega); have e1 : (b = 0) = False := eq_false (by omega); refine ⟨.normal, ?_⟩
  simp [-getElem?_pos, F328_B0, h1, h31, h32, h33, hA, h3, hB, hlt, hlt', hrow, w, hw, rm, al, tkT, tkS, insRows_length, fX, zX, e0, e1]; refine ⟨m, by omega, i + 1, by omega, by simp, ?_⟩
  rw [if_neg (by omega)]; exact OwnI.mk rfl (by omega) (by omega) (by rw [hstep, ← List.append_assoc, hS, List.length_append]) (by simp [fX, zX, e0, e1, hstep, ← List.append_assoc, hS, insRows_append])
mutual
theorem Net.size_wt : ∀ t : Net, t.size ≤ t.wt
 | .mk k op ars ks => by have := netsSize_wt ks; simp only [Net.size, Net.wt]; omega
theorem netsSize_wt : ∀ l : List Net, netsSize l ≤ netsWt l
 | [] => by simp [netsSize]
 | x :: r => by have := x.size_wt; have := netsSize_wt r; simp only [netsSize, netsWt]; omega
end
theorem run_begins : ∀ (m : Nat) (t : Net), t.wt ≤ m → m < 2 ^ 27 → t.wrong = 0 → ∀ (n : Nat), 3 * m + 10 ≤ n → ∀ s, go n 328 [netX t] [] s = some (insOwn t.begins t.capB)
 | 0, t, h, hm, hr, n, hn, s => by have := t.wt_pos; omega
 | m + 1, .mk k op ars [], h, hm, hr, n, hn, s => by
  obtain ⟨n, rfl⟩ : ∃ k, n = k + 1 := ⟨n - 1, by omega⟩; obtain ⟨rfl, -⟩ := leaf_right hr; simp [go_of FT_328 rfl, F328, Net.begins, Net.capB, insRows, Ins.row]
 | m + 1, .mk k op ars (x :: r), h, hm, hr, n, hn, s => by
  obtain ⟨hk, hx, hall, hop, has, h4⟩ := kids_right hr; have hlb := len_begins (.mk k op ars (x :: r)); have hsw := (Net.mk k op ars (x :: r)).size_wt; simp only [Net.wt, netsWt] at h hsw; obtain ⟨n, rfl⟩ : ∃ k, n = k + 3 := ⟨n - 3, by omega⟩; have w1 := run_begins m x (by omega) (by omega) hx (n + 2) (by omega); have hxl := len_begins x; have hxs := x.size_wt; have hk1 : (k = 1) = False := eq_false (by omega); obtain ⟨xk, xo, xa, xks⟩ := x
  by_cases e4 : k = 4
  · have := h4 e4
    subst this; subst e4; simp only [Net.begins, Net.capB, if_true]; generalize Net.begins (.mk xk xo xa xks) = L at w1 hxl ⊢; generalize Net.capB (.mk xk xo xa xks) = c at w1; have rm : room (L.length + 1) 40 = true := room_of (by omega) (by omega); have tk := take_insRows L; simp [go_of (n := n + 2) FT_328 rfl, F328, w1, netRows, Net.row, rm, insRows_length, insRows_append, insRows_one, Ins.row, ar0, tk]
  · have hk4 : (k = 4) = False := eq_false e4
    have e4r : (if k = 4 then [Ins.bare 6] else netsTaken k r) = netsTaken k r := if_neg e4; simp only [Net.begins, Net.capB, e4r, if_neg e4]; have hb : ∀ y ∈ r, ∀ s, go (n + 2) 348 [netX y, .agg [iW k, iW op, asW ars, nsW (.mk xk xo xa xks :: r)]] [] s = some (insOwn (y.taken k) (if y.kind = 1 then some 1 else none)) := fun y hy s => by
     have hyw := netsWt_mem hy; have hyl := len_begins y; have hys := y.size_wt; exact run_taken (n := n) y (.mk k op ars (.mk xk xo xa xks :: r)) (by simp only [Net.kind]; omega) (fun _ s => run_begins m y (by omega) (by omega) (hall y hy) (n + 1) (by omega) s) (by omega) s
    have hlen := netsWt_len r; have hlr : (Net.begins (.mk xk xo xa xks)).length + (netsTaken k r).length < 2 ^ 29 := by
     simp only [Net.begins, e4r, List.length_append] at hlb; omega
    generalize hLB : Net.begins (.mk xk xo xa xks) = L at w1 hlr ⊢; generalize Net.capB (.mk xk xo xa xks) = c at w1 ⊢; have hrl : ((1 : Int) ≤ (r.length : Int) + 1) = True := eq_true (by omega); have hrl2 : ((r.length : Int) + 1 - 1) = (r.length : Int) := by omega
    have hdr : List.drop 1 (netRows (.mk xk xo xa xks :: r)) = netRows r := by simp [netRows]
    have hnr := eq_true (len_of4 r); simp [go_of (n := n + 2) FT_328 rfl, F328, w1, netRows, Net.row, hk1, hk4, hnr, netRows_length, hrl]; generalize hst : St.mk _ _ _ _ = st; obtain ⟨e, ⟨τ', H', g', s'⟩, hx, -, rfl, b, hb0, hbg, h3, hB⟩ := loop328 (n := n + 2) k L c op ars (.mk xk xo xa xks :: r) r (by omega) hb hlr (by omega) (by omega) st (by simp [← hst]) (by simp [← hst]) (by simp [← hst]) (by simp [← hst]) (by simp [← hst, netRows, Net.row]) (by subst hst; exact OwnI.mk rfl (by omega) (by simp only; omega) rfl (by simp)); simp only at hbg h3 hB; clear hst; have ec : (if r.length = 0 then c else Option.none) = (if r = [] then c else Option.none) := by cases r <;> rfl
    rw [ec] at h3; generalize (if r = [] then c else Option.none) = cc at h3 ⊢; generalize L ++ netsTaken k r = M at h3 hB ⊢; have tkM := take_insRows M; simp [hx, h3, hB, tkM]
theorem loop147_0 {n : Nat} (l : List El) (h4 : 4 ≤ n) (hsm : elsWt l < 2 ^ 30) (hn : l.length < n) (hl : l.length < 2 ^ 40) (st : St) (h3 : st.τ 3 = .w (.own 192 0 l.length (some l.length))) (hB : st.H 192 = .row none 2 (List.replicate l.length [iD 0, .l 0 []]) 0) (h9 : st.τ 9 = .w (csW l)) (h10 : st.τ 10 = iV l.length) (h11 : st.τ 11 = iV 0) (hgg : 192 < st.g) :
 ∃ e st', execC (go n) mode GT false 23 n F147_L0 st = some (e, st') ∧ e ≠ .normal ∧ (e = .exit 0 ∧ st'.τ 3 = .w (.own 192 0 l.length (some l.length)) ∧ st'.H 192 = .row none 2 (elRows l) 0) := by
 rw [F147_L0, execC_loop]; refine iter_rule (fun k st => ∃ i, i + k = l.length ∧ st.τ 3 = .w (.own 192 0 l.length (some l.length)) ∧ st.H 192 = .row none 2 (elRows (l.take i) ++ List.replicate k [iD 0, .l 0 []]) 0 ∧ st.τ 9 = .w (csW l) ∧ st.τ 10 = iV l.length ∧ st.τ 11 = iV i ∧ 192 < st.g) ?_ n l.length st hn ⟨0, by omega, h3, by simpa [elRows] using hB, h9, h10, by simpa using h11, hgg⟩
 rintro k ⟨τ, H, g, s⟩ ⟨i, hk, h3, hB, h9, h10, h11, hgg⟩; simp only at h3 hB h9 h10 h11 hgg; cases k with
 | zero =>
  have : i = l.length := by omega
  subst this; refine ⟨.exit 0, ?_⟩
  rw [List.take_length] at hB; simp [F147_B0, h3, h9, h10, h11, hB]
 | succ k =>
  have hlt : i < l.length := by omega
  have hlt' := ltT hlt; have hg := List.getElem?_eq_getElem hlt; have hmem := List.getElem_mem hlt; have hw := wrap_succ (i := i) (by omega); have hlT : (elRows (l.take i)).length = i := by simp; omega
  have hget := fill_get (k := k) hlT [iD 0, .l 0 []]; have hset := fill_set (k := k) hlT [iD 0, .l 0 []]; have hwt := elsWt_mem hmem; have hb := elRows_get hg; have w := run_elemCopy (n := n) h4 l[i] (by simp only [El.wt] at hwt; omega); have hset := hset (El.row l[i]); rw [elRows_take hg] at hset; simp only [El.row] at hset; have fgX := far hgg; refine ⟨.normal, ?_⟩
  simp [-getElem?_pos, F147_B0, h3, h9, h10, h11, hB, hlt, hlt', hb, w, hw, hget, hset, fgX]; exact ⟨k, by omega, i + 1, by omega, by first | exact rfl | exact ⟨rfl, rfl⟩ | exact ⟨rfl, rfl, by omega⟩ | exact ⟨rfl, by omega⟩⟩
theorem run_copyElems {n : Nat} (l : List El) (hn : elsWt l + 6 ≤ n) (hl : elsWt l < 2 ^ 30) (s : Sup) : go n 147 [.w (csW l)] [] s = some ⟨.w (.own 0 0 l.length (some l.length)), [], [.row none 2 (elRows l) 0]⟩ := by
 obtain ⟨n, rfl⟩ : ∃ k, n = k + 1 := ⟨n - 1, by omega⟩; have hlen := elsWt_len l; have hr : room l.length 32 = true := room_of (by omega) (by omega); simp [go_of FT_147 rfl, F147, hr]; generalize hst : St.mk _ _ _ _ = st; obtain ⟨e, ⟨τ', H', g', s'⟩, hx, -, rfl, h3, hB⟩ := loop147_0 (n := n) l (by omega) hl (by omega) (by omega) st (by simp [← hst]) (by simp [← hst]) (by simp [← hst]) (by simp [← hst]) (by simp [← hst]) (by simp [← hst]); simp only at h3 hB; simp [hx, h3, hB]
theorem loop125_0 {n : Nat} (l : List Arm) (hc : ∀ x ∈ l, ∀ s, go n 125 [.w (ksW x.kids)] [] s = some ⟨.w (ksW x.kids), [], []⟩) (hsm : armsWt l < 2 ^ 29) (hnn : armsWt l + 20 ≤ n) (hn : l.length < n) (hl : l.length < 2 ^ 40) (st : St) (h3 : st.τ 3 = .w (.own 192 0 l.length (some l.length))) (hB : st.H 192 = .row none 6 (List.replicate l.length [iD 0, iD 0, .l 0 [], .l 0 [], .l 0 [], .l 0 []]) 0) (h9 : st.τ 9 = .w (ksW l)) (h10 : st.τ 10 = iV l.length) (h11 : st.τ 11 = iV 0) (hgg : 192 < st.g) :
 ∃ e st', execC (go n) mode GT false 31 n F125_L0 st = some (e, st') ∧ e ≠ .normal ∧ (e = .exit 0 ∧ st'.τ 3 = .w (.own 192 0 l.length (some l.length)) ∧ st'.H 192 = .row none 6 (armRows l) 0) := by
 rw [F125_L0, execC_loop]; refine iter_rule (fun k st => ∃ i, i + k = l.length ∧ st.τ 3 = .w (.own 192 0 l.length (some l.length)) ∧ st.H 192 = .row none 6 (armRows (l.take i) ++ List.replicate k [iD 0, iD 0, .l 0 [], .l 0 [], .l 0 [], .l 0 []]) 0 ∧ st.τ 9 = .w (ksW l) ∧ st.τ 10 = iV l.length ∧ st.τ 11 = iV i ∧ 192 < st.g) ?_ n l.length st hn ⟨0, by omega, h3, by simpa [armRows] using hB, h9, h10, by simpa using h11, hgg⟩
 rintro k ⟨τ, H, g, s⟩ ⟨i, hk, h3, hB, h9, h10, h11, hgg⟩; simp only at h3 hB h9 h10 h11 hgg; cases k with
 | zero =>
  have : i = l.length := by omega
  subst this; refine ⟨.exit 0, ?_⟩
  rw [List.take_length] at hB; simp [F125_B0, h3, h9, h10, h11, hB]
 | succ k =>
  have hlt : i < l.length := by omega
  have hlt' := ltT hlt; have hg := List.getElem?_eq_getElem hlt; have hmem := List.getElem_mem hlt; have hw := wrap_succ (i := i) (by omega); have hlT : (armRows (l.take i)).length = i := by simp; omega
  have hget := fill_get (k := k) hlT [iD 0, iD 0, .l 0 [], .l 0 [], .l 0 [], .l 0 []]; have hset := fill_set (k := k) hlT [iD 0, iD 0, .l 0 [], .l 0 [], .l 0 [], .l 0 []]; have hwt := armsWt_mem hmem; have w := hc _ hmem; have hset := hset (Arm.row l[i]); rw [armRows_take hg] at hset; obtain ⟨k', op, as, nks, cs, ks, hx⟩ : ∃ k' op as nks cs ks, l[i] = .mk (.mk k' op as nks) cs ks := by
   cases hq : l[i] with | mk nn cs ks => cases nn; exact ⟨_, _, _, _, _, _, rfl⟩
  rw [hx] at hg w hset hwt; have hb := armRows_get hg; simp only [Arm.row] at hset; simp only [Arm.kids] at w; simp only [Arm.wt] at hwt; have w2 := run_netCopy (Net.wt (.mk k' op as nks)) (.mk k' op as nks) (Nat.le_refl _) (by omega) n (by omega); have w3 := run_copyElems (n := n) cs (by omega) (by omega); have fgX := far hgg; have hcm : (g < g + 64 + 384) = True := eq_true (by omega); refine ⟨.normal, ?_⟩
  simp [-getElem?_pos, F125_B0, hcm, h3, h9, h10, h11, hB, hlt, hlt', hb, w, w2, w3, hw, hget, hset, fgX]; exact ⟨k, by omega, i + 1, by omega, by first | exact rfl | exact ⟨rfl, rfl⟩ | exact ⟨rfl, rfl, by omega⟩ | exact ⟨rfl, by omega⟩⟩
theorem run_copyArms : ∀ (m : Nat) (l : List Arm), armsWt l ≤ m → m < 2 ^ 29 → ∀ (n : Nat), 2 * m + 24 ≤ n → ∀ s, go n 125 [.w (ksW l)] [] s = some ⟨.w (ksW l), [], []⟩ := by
 intro m
 induction m with
 | zero =>
  intro l h hm n hn s; obtain ⟨n, rfl⟩ : ∃ k, n = k + 2 := ⟨n - 2, by omega⟩; have e : l = [] := by
   cases l with
   | nil => rfl
   | cons a r => have := a.wt_pos; simp [armsWt] at h; omega
  subst e; have hr : room 0 112 = true := by decide
  simp [go_of FT_125 rfl, F125, F125_L0, execC_loop, iter, F125_B0, armRows, hr]
 | succ m ih =>
  intro l h hm n hn s; obtain ⟨n, rfl⟩ : ∃ k, n = k + 1 := ⟨n - 1, by omega⟩; have hlen := armsWt_len l; have hr : room l.length 112 = true := room_of (by omega) (by omega); have hc : ∀ x ∈ l, ∀ s, go n 125 [.w (ksW x.kids)] [] s = some ⟨.w (ksW x.kids), [], []⟩ := fun x hx s => ih x.kids (by have := armsWt_mem hx; cases x; simp [Arm.wt] at this; simp [Arm.kids]; omega) (by omega) n (by omega) s
  simp [go_of FT_125 rfl, F125, hr]; generalize hst : St.mk _ _ _ _ = st; obtain ⟨e, ⟨τ', H', g', s'⟩, hx, -, rfl, h3, hB⟩ := loop125_0 (n := n) l hc (by omega) (by omega) (by omega) (by omega) st (by simp [← hst]) (by simp [← hst]) (by simp [← hst]) (by simp [← hst]) (by simp [← hst]) (by simp [← hst]); simp only at h3 hB; simp [hx, h3, hB]
theorem loop146_0 {n : Nat} (l : List Arm) (hc : ∀ x ∈ l, ∀ s, go n 146 [armX x] [] s = some ⟨armX x.norm, [], []⟩) (c0 c1 c2 c3 : W) (cs : List El) (hn : l.length < n) (hl : l.length < 2 ^ 40) (st : St) (h2 : st.τ 2 = .w (.ptr 64 0)) (hC : st.H 64 = .cells [iW 0, iW 0, .nil, .nil, .nil, .nil]) (h3 : st.τ 3 = .w (.ptr 640 0)) (hA : st.H 640 = .cells [c0, c1, c2, c3, .own 256 0 cs.length (some cs.length), .own 512 0 l.length (some l.length)]) (hD : st.H 256 = .row none 2 (elRows cs) 0) (hB : st.H 512 = .row none 6 (List.replicate l.length [iD 0, iD 0, .l 0 [], .l 0 [], .l 0 [], .l 0 []]) 0) (h24 : st.τ 24 = .w (ksW l)) (h25 : st.τ 25 = iV l.length) (h26 : st.τ 26 = iV 0) (hgg : 640 < st.g) :
 ∃ e st', execC (go n) mode GT false 91 n F146_L0 st = some (e, st') ∧ e ≠ .normal ∧ (e = .exit 0 ∧ st'.τ 2 = .w (.ptr 64 0) ∧ st'.H 64 = .cells [iW 0, iW 0, .nil, .nil, .nil, .nil] ∧ st'.τ 3 = .w (.ptr 640 0) ∧ st'.H 640 = .cells [c0, c1, c2, c3, .own 256 0 cs.length (some cs.length), .own 512 0 l.length (some l.length)] ∧ st'.H 256 = .row none 2 (elRows cs) 0 ∧ st'.H 512 = .row none 6 (armRows (armsNorm l)) 0 ∧ 640 < st'.g) := by
 rw [F146_L0, execC_loop]; refine iter_rule (fun k st => ∃ i, i + k = l.length ∧ st.τ 2 = .w (.ptr 64 0) ∧ st.H 64 = .cells [iW 0, iW 0, .nil, .nil, .nil, .nil] ∧ st.τ 3 = .w (.ptr 640 0) ∧ st.H 640 = .cells [c0, c1, c2, c3, .own 256 0 cs.length (some cs.length), .own 512 0 l.length (some l.length)] ∧ st.H 256 = .row none 2 (elRows cs) 0 ∧ st.H 512 = .row none 6 (armRows ((armsNorm l).take i) ++ List.replicate k [iD 0, iD 0, .l 0 [], .l 0 [], .l 0 [], .l 0 []]) 0 ∧ st.τ 24 = .w (ksW l) ∧ st.τ 25 = iV l.length ∧ st.τ 26 = iV i ∧ 640 < st.g) ?_ n l.length st hn ⟨0, by omega, h2, hC, h3, hA, hD, by simpa [armRows] using hB, h24, h25, by simpa using h26, hgg⟩
 rintro k ⟨τ, H, g, s⟩ ⟨i, hk, h2, hC, h3, hA, hD, hB, h24, h25, h26, hgg⟩; simp only at h2 hC h3 hA hD hB h24 h25 h26 hgg; cases k with
 | zero =>
  have : i = l.length := by omega
  subst this; refine ⟨.exit 0, ?_⟩
  have hll : (armsNorm l).take l.length = armsNorm l := List.take_of_length_le (by simp [armsNorm_map]); rw [hll] at hB; simp [F146_B0, h2, hC, h3, hA, hD, h24, h25, h26, hB]; omega
 | succ k =>
  have hlt : i < l.length := by omega
  have hlt' := ltT hlt; have hg := List.getElem?_eq_getElem hlt; have hmem := List.getElem_mem hlt; have hw := wrap_succ (i := i) (by omega); have hlT : (armRows ((armsNorm l).take i)).length = i := by simp [armsNorm_map]; omega
  have hget := fill_get (k := k) hlT [iD 0, iD 0, .l 0 [], .l 0 [], .l 0 [], .l 0 []]; have hset := fill_set (k := k) hlT [iD 0, iD 0, .l 0 [], .l 0 [], .l 0 [], .l 0 []]; have w := hc _ hmem; have hgn : (armsNorm l)[i]? = some l[i].norm := by simp [armsNorm_map, hlt]
  have hset := hset (Arm.row l[i].norm); rw [armRows_take hgn] at hset; generalize l[i].norm = y at w hset; obtain ⟨k', op, as, nks, cs, ks, hx⟩ : ∃ k' op as nks cs ks, l[i] = .mk (.mk k' op as nks) cs ks := by
   cases hq : l[i] with | mk nn cs ks => cases nn; exact ⟨_, _, _, _, _, _, rfl⟩
  rw [hx] at hg w; have hb := armRows_get hg; obtain ⟨⟨yk, yo, ya, yn⟩, yc, ys⟩ := y; simp only [Arm.row] at hset; have fgX := far hgg; have feX := far (show 512 < g by omega); have fcX := far (show 256 < g by omega); have fzX := far (show 64 < g by omega); refine ⟨.normal, ?_⟩
  simp [-getElem?_pos, F146_B0, h2, hC, h3, hA, hD, h24, h25, h26, hB, hlt, hlt', hb, w, hw, hget, hset, fgX, feX, fcX, fzX]; exact ⟨k, by omega, i + 1, by omega, by first | exact rfl | exact ⟨rfl, rfl⟩ | exact ⟨rfl, rfl, by omega⟩ | exact ⟨rfl, by omega⟩⟩
end Go.VM
