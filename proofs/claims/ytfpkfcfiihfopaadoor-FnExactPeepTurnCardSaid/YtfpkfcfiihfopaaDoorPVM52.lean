/- Marks written into memory of one's own, and read back: the laws' functions mark.. and held.., by their shape. Conditions: none. -/
import Derived.Test.YtfpkfcfiihfopaaDoorPVM51
import Derived.Test.YtfpkfcfiihfopaaDoorPVMK

namespace Go.VM
set_option linter.unusedVariables false
set_option linter.unusedSimpArgs false
set_option linter.unusedSectionVars false
mutual
def D.ct : D → Nat
 | .s _ => 1
 | .l _ rows => ctR rows
def ctL : List D → Nat
 | [] => 0
 | x :: r => x.ct + ctL r
def ctR : List (List D) → Nat
 | [] => 0
 | x :: r => ctL x + ctR r
end
mutual
def D.mk : D → Nat → D
 | .s _, k => .s (.int .i64 k)
 | .l st rows, k => .l st (mkR rows k)
def mkL : List D → Nat → List D
 | [], _ => []
 | x :: r, k => x.mk k :: mkL r (k + x.ct)
def mkR : List (List D) → Nat → List (List D)
 | [], _ => []
 | x :: r, k => mkL x k :: mkR r (k + ctL x)
end
@[simp] theorem mkL_length : ∀ (l : List D) (k : Nat), (mkL l k).length = l.length
 | [], k => rfl
 | x :: r, k => by simp [mkL, mkL_length r]
@[simp] theorem mkR_length : ∀ (l : List (List D)) (k : Nat), (mkR l k).length = l.length
 | [], k => rfl
 | x :: r, k => by simp [mkR, mkR_length r]
theorem ctL_append : ∀ l m : List D, ctL (l ++ m) = ctL l + ctL m
 | [], m => by simp [ctL]
 | x :: r, m => by simp [ctL, ctL_append r m]; omega
theorem ctR_append : ∀ l m : List (List D), ctR (l ++ m) = ctR l + ctR m
 | [], m => by simp [ctR]
 | x :: r, m => by simp [ctR, ctR_append r m]; omega
theorem mkL_append : ∀ (l m : List D) (k : Nat), mkL (l ++ m) k = mkL l k ++ mkL m (k + ctL l)
 | [], m, k => by simp [mkL, ctL]
 | x :: r, m, k => by simp [mkL, ctL, mkL_append r m, Nat.add_assoc]
theorem mkR_append : ∀ (l m : List (List D)) (k : Nat), mkR (l ++ m) k = mkR l k ++ mkR m (k + ctR l)
 | [], m, k => by simp [mkR, ctR]
 | x :: r, m, k => by simp [mkR, ctR, mkR_append r m, Nat.add_assoc]
mutual
theorem D.sts_mk : ∀ (d : D) (k : Nat), (d.mk k).sts = d.sts
 | .s _, k => rfl
 | .l st [], k => by simp [D.mk, mkR, D.sts]
 | .l st (x :: r), k => by simp only [D.mk, mkR, D.sts]; rw [stsL_mk x, stsR_mk r]
theorem stsL_mk : ∀ (l : List D) (k : Nat), stsL (mkL l k) = stsL l
 | [], k => rfl
 | x :: r, k => by simp only [mkL, stsL]; rw [D.sts_mk x, stsL_mk r]
theorem stsR_mk : ∀ (l : List (List D)) (k : Nat), stsR (mkR l k) = stsR l
 | [], k => rfl
 | x :: r, k => by simp only [mkR, stsR]; rw [stsL_mk x, stsR_mk r]
end
section
variable {P : Program} {fid : Nat → FuncId} {cid : FuncId → Nat}
theorem mstep_mono (op : O) {τ : Nat → Value} {w : World} {K K' : Value → World → Prop} (hk : ∀ v w', K v w' → K' v w') (h : mstep P fid τ w K op) : mstep P fid τ w K' op := by
 revert h
 unfold mstep; split <;> try exact fun h => h
 · unfold mmv; split
   · exact hk _ _
   · exact id
 · unfold mpick; split
   · unfold mmv; split
     · exact hk _ _
     · exact id
   · exact id
 · unfold mnot; split
   · exact hk _ _
   · exact id
 · unfold mext; split
   · rintro ⟨v, h1, h2⟩; exact ⟨v, h1, hk _ _ h2⟩
   · exact id
 · unfold mbinb; split
   · split
     · exact hk _ _
     · exact hk _ _
     · exact id
   · exact id
 · unfold mbin; split
   · rintro ⟨v, h1, h2⟩; exact ⟨v, h1, hk _ _ h2⟩
   · exact id
 · unfold mcvi; split
   · exact hk _ _
   · exact id
 · unfold mlen; split
   · exact hk _ _
   · exact id
 · unfold mfa; split
   · exact hk _ _
   · exact id
 · unfold mia; split
   · rintro ⟨h1, h2⟩; exact ⟨h1, hk _ _ h2⟩
   · exact id
 · rintro ⟨h0, h⟩; refine ⟨h0, ?_⟩; revert h; unfold mld; split
   · rintro ⟨v, h1, h2⟩; exact ⟨v, h1, hk _ _ h2⟩
   · exact id
 · unfold mldA; split
   · rintro ⟨v, h1, h2, h3⟩; exact ⟨v, h1, h2, hk _ _ h3⟩
   · exact id
 · split
   · unfold mst; split
     · rintro ⟨h1, arr, T, h2, h3, h4⟩; exact ⟨h1, arr, T, h2, h3, hk _ _ h4⟩
     · exact id
   · unfold mstA; split
     · rintro ⟨h1, h5, arr, T, h2, h3, h4⟩; exact ⟨h1, h5, arr, T, h2, h3, hk _ _ h4⟩
     · exact id
 · intro h arr t e; exact hk _ _ (h arr t e)
 · unfold mbox; split
   · rintro ⟨h1, h2⟩; exact ⟨h1, fun t => hk _ _ (h2 t)⟩
   · exact id
 · unfold mcall; split
   · exact fun h => h.mono hk
   · exact id
theorem mregs_mono {N : Nat} : ∀ (a : List RO) {τ : Nat → Value} {w : World} {K K' : (Nat → Value) → World → Prop}, (∀ τ' w', K τ' w' → K' τ' w') → mregs P fid N a τ w K → mregs P fid N a τ w K'
 | [], τ, w, K, K', hk, h => hk τ w h
 | o :: r, τ, w, K, K', hk, h => by
  simp only [mregs] at h ⊢; split
  · rename_i hg
    rw [hg] at h; exact mstep_mono _ (fun v w' ⟨τ', h1, h2⟩ => ⟨τ', h1, mregs_mono r hk h2⟩) h
  · rename_i t want hg
    rw [hg] at h; obtain ⟨bb, h0, h1, h2⟩ := h; exact ⟨bb, h0, fun e => mstep_mono _ (fun v w' ⟨τ', k1, k2⟩ => ⟨τ', k1, mregs_mono r hk k2⟩) (h1 e), fun e => let ⟨τ', k1, k2⟩ := h2 e; ⟨τ', k1, mregs_mono r hk k2⟩⟩
theorem mregs_append {N : Nat} : ∀ (a b : List RO) {τ : Nat → Value} {w : World} {K : (Nat → Value) → World → Prop}, mregs P fid N a τ w (fun τ' w' => mregs P fid N b τ' w' K) → mregs P fid N (a ++ b) τ w K := by
 intro a
 induction a with
 | nil => intro b τ w K h; exact h
 | cons o r ih =>
  intro b τ w K h; simp only [List.cons_append, mregs] at h ⊢; split
  · rename_i hg
    rw [hg] at h; exact mstep_mono _ (fun v w' ⟨τ', h1, h2⟩ => ⟨τ', h1, ih b h2⟩) h
  · rename_i t want hg
    rw [hg] at h; obtain ⟨bb, h0, h1, h2⟩ := h; exact ⟨bb, h0, fun e => mstep_mono _ (fun v w' ⟨τ', k1, k2⟩ => ⟨τ', k1, ih b k2⟩) (h1 e), fun e => let ⟨τ', k1, k2⟩ := h2 e; ⟨τ', k1, ih b k2⟩⟩
def faL (t : Nat) : List Nat → List RO
 | [] => []
 | o :: r => oF (t + 1) o t :: faL (t + 1) r
def scR (t sz : Nat) (p : List Nat) : List RO := [om t 0, om (t + 1) 5, om (t + 2) 1, oX (t + 3) sz t (t + 1)] ++ (faL (t + 3) p ++ [oS 1 (t + 3 + p.length) (t + 2)])
def kpR (t : Nat) : List RO := [om t 1, oI (t + 1) .add t 1, om 1 (t + 1)]
def sbR (t sz f : Nat) (p : List Nat) : List RO := [om t 0, om (t + 1) 5, oX (t + 2) sz t (t + 1)] ++ (faL (t + 2) p ++ [oL (t + 3 + p.length) (t + 2 + p.length), om (t + 4 + p.length) 1, oC (t + 5 + p.length) f [.t (t + 3 + p.length), .t (t + 4 + p.length)], om 1 (t + 5 + p.length)])
inductive Fd where
 | sc (p : List Nat)
 | sb (p : List Nat) (f : Nat)
def Fd.wide : Fd → Nat
 | .sc p => 6 + p.length
 | .sb p _ => 6 + p.length
def fdC (sz : Nat) : Nat → List Fd → C
 | _, [] => .skip
 | t, [.sc p] => sR (scR t sz p) (.reg (kpR (t + 4 + p.length)))
 | t, [.sb p f] => .reg (sbR t sz f p)
 | t, .sc p :: r => sR (scR t sz p) (sR (kpR (t + 4 + p.length)) (fdC sz (t + 6 + p.length) r))
 | t, .sb p f :: r => sR (sbR t sz f p) (fdC sz (t + 6 + p.length) r)
def markB (sz : Nat) (l : List Fd) : C := .seq (sR [om 6 5, om 7 0, oN 8 7, oB 9 .lss 6 8] (.cond (.t 9) .skip (.exit 0))) (.seq (.block 1 (fdC sz 12 l)) (.reg [om 10 5, oI 11 .add 10 1, om 5 11]))
def fdsW (l : List Fd) : Nat := (l.map Fd.wide).sum
def markF (sz : Nat) (l : List Fd) : Fn := ⟨13 + fdsW l, [.tmp 4], sR [oV 4 0] (.seq (sR [oV 5 0] (.block 0 (.loop (markB sz l)))) (sR [om (12 + fdsW l) 1, om 4 (12 + fdsW l)] .ret))⟩
theorem faL_run {N : Nat} : ∀ (p : List Nat) (t : Nat) {τ : Nat → Value} {w : World} {K : (Nat → Value) → World → Prop} {b o : Nat}, t + p.length < N → τ t = .pointer (some ⟨b, o, none⟩) →
 (∀ τ', (∀ x, x ≤ t → τ' x = τ x) → τ' (t + p.length) = .pointer (some ⟨b, o + p.sum, none⟩) → K τ' w) → mregs P fid N (faL t p) τ w K
 | [], t, τ, w, K, b, o, hN, h, hk => hk τ (fun _ _ => rfl) (by simpa using h)
 | q :: p, t, τ, w, K, b, o, hN, h, hk => by
  simp only [List.length_cons] at hN; simp only [faL, oF, oo, mregs, mstep, mval, h, mfa, mput]; refine ⟨_, if_pos (by omega), ?_⟩
  refine faL_run p (t + 1) (b := b) (o := o + q) (by omega) (by simp [upd]) fun τ' h1 h2 => ?_
  refine hk τ' (fun x hx => ?_) ?_
  · rw [h1 x (by omega)]; simp only [upd]; rw [if_neg (by omega)]
  · have e : t + (p.length + 1) = t + 1 + p.length := by omega
    simp only [List.length_cons, List.sum_cons]; rw [e, h2, Nat.add_assoc]
theorem wrapk {k : Nat} (h : k < 2 ^ 62) : IntKind.i64.wrap ((k : Int) + 1) = ((k + 1 : Nat) : Int) := by
 rw [IntKind.wrap_i64]; omega
theorem sc_run {N u sz : Nat} {p : List Nat} {τ : Nat → Value} {w : World} {K : (Nat → Value) → World → Prop} {blk o len cap k i : Nat} {c : Value} (hN : u + 18 + p.length ≤ N)
 (h0 : τ 0 = .slice (some ⟨blk, o, none⟩) len cap) (h1 : τ 1 = .int .i64 k) (h5 : τ 5 = .int .i64 i) (hi : i < len) (hc : Clean w blk) (hcell : w.cell? ⟨blk, o + i * sz + p.sum, none⟩ = some c)
 (hk : ∀ τ' w', (∀ x, x < 12 → τ' x = τ x) → Wr w blk (o + i * sz + p.sum) (.int .i64 k) w' → K τ' w') : mregs P fid N (scR (u + 12) sz p) τ w K := by
 unfold scR; refine mregs_append _ _ ?_
 simp only [om, oX, oo, mregs, mstep, mval, mmv, mput]; refine ⟨_, if_pos (by omega), _, if_pos (by omega), _, if_pos (by omega), ?_⟩
 have e0 : upd (upd (upd τ (u + 12) (τ 0)) (u + 12 + 1) (upd τ (u + 12) (τ 0) 5)) (u + 12 + 2) (upd (upd τ (u + 12) (τ 0)) (u + 12 + 1) (upd τ (u + 12) (τ 0) 5) 1) (u + 12) = .slice (some ⟨blk, o, none⟩) len cap := by simp [upd, h0]
 have e1 : upd (upd (upd τ (u + 12) (τ 0)) (u + 12 + 1) (upd τ (u + 12) (τ 0) 5)) (u + 12 + 2) (upd (upd τ (u + 12) (τ 0)) (u + 12 + 1) (upd τ (u + 12) (τ 0) 5) 1) (u + 12 + 1) = .int .i64 i := by simp [upd, h5]
 have e2 : upd (upd (upd τ (u + 12) (τ 0)) (u + 12 + 1) (upd τ (u + 12) (τ 0) 5)) (u + 12 + 2) (upd (upd τ (u + 12) (τ 0)) (u + 12 + 1) (upd τ (u + 12) (τ 0) 5) 1) (u + 12 + 2) = .int .i64 k := by simp [upd, h1]
 have e3 : ∀ x, x < 12 → upd (upd (upd τ (u + 12) (τ 0)) (u + 12 + 1) (upd τ (u + 12) (τ 0) 5)) (u + 12 + 2) (upd (upd τ (u + 12) (τ 0)) (u + 12 + 1) (upd τ (u + 12) (τ 0) 5) 1) x = τ x := fun x hx => by
  simp only [upd]; rw [if_neg (by omega), if_neg (by omega), if_neg (by omega)]
 generalize upd (upd (upd τ (u + 12) (τ 0)) (u + 12 + 1) (upd τ (u + 12) (τ 0) 5)) (u + 12 + 2) (upd (upd τ (u + 12) (τ 0)) (u + 12 + 1) (upd τ (u + 12) (τ 0) 5) 1) = τ1 at e0 e1 e2 e3; rw [e0, e1]; refine ⟨⟨by omega, by omega⟩, _, if_pos (by omega), ?_⟩
 refine mregs_append _ _ ?_
 refine faL_run p (u + 12 + 3) (b := blk) (o := o + i * sz) (by omega) (by simp [upd]) fun τ' h2 h3 => ?_
 simp only [oS, on, mregs, mstep, mval, mput, h3]; rw [h2 (u + 12 + 2) (by omega)]; have e4 : upd τ1 (u + 12 + 3) (.pointer (some ⟨blk, o + (Int.toNat (i : Int)) * sz, none⟩)) (u + 12 + 2) = .int .i64 k := by simp only [upd]; rw [if_neg (by omega), e2]
 rw [e4]; rw [if_pos True.intro]; refine mst_of hc hcell rfl fun w' hw => ⟨_, rfl, hk _ _ (fun x hx => ?_) hw⟩
 rw [h2 x (by omega)]; simp only [upd]; rw [if_neg (by omega), e3 x hx]
theorem kp_run {N u : Nat} {τ : Nat → Value} {w : World} {K : (Nat → Value) → World → Prop} {k : Nat} (hN : u + 14 ≤ N) (h1 : τ 1 = .int .i64 k) (hb : k < 2 ^ 62)
 (hk : ∀ τ', (∀ x, x < 12 → x ≠ 1 → τ' x = τ x) → τ' 1 = .int .i64 ((k + 1 : Nat) : Int) → K τ' w) : mregs P fid N (kpR (u + 12)) τ w K := by
 unfold kpR; simp only [om, oI, oo, mregs, mstep, mval, mmv, mput]; refine ⟨_, if_pos (by omega), ?_⟩
 have e0 : upd τ (u + 12) (τ 1) (u + 12) = .int .i64 k := by simp [upd, h1]
 rw [e0]; refine ⟨.int .i64 ((k + 1 : Nat) : Int), by simp [binS, wrapk hb], _, if_pos (by omega), _, if_pos (by omega), ?_⟩
 refine hk _ (fun x hx hx1 => ?_) (by simp [upd])
 simp only [upd]; rw [if_neg hx1, if_neg (by omega), if_neg (by omega)]
theorem sb_run {N u sz f : Nat} {p : List Nat} {τ : Nat → Value} {w : World} {K : (Nat → Value) → World → Prop} {blk o len cap k i : Nat} {c : Value} (hN : u + 18 + p.length ≤ N)
 (h0 : τ 0 = .slice (some ⟨blk, o, none⟩) len cap) (h1 : τ 1 = .int .i64 k) (h5 : τ 5 = .int .i64 i) (hi : i < len) (hcell : w.cell? ⟨blk, o + i * sz + p.sum, none⟩ = some c)
 (hk : MC P fid f [c, .int .i64 k] w fun v w' => ∀ τ', (∀ x, x < 12 → x ≠ 1 → τ' x = τ x) → τ' 1 = v → K τ' w') : mregs P fid N (sbR (u + 12) sz f p) τ w K := by
 unfold sbR; refine mregs_append _ _ ?_
 simp only [om, oX, oo, mregs, mstep, mval, mmv, mput]; refine ⟨_, if_pos (by omega), _, if_pos (by omega), ?_⟩
 have e0 : upd (upd τ (u + 12) (τ 0)) (u + 12 + 1) (upd τ (u + 12) (τ 0) 5) (u + 12) = .slice (some ⟨blk, o, none⟩) len cap := by simp [upd, h0]
 have e1 : upd (upd τ (u + 12) (τ 0)) (u + 12 + 1) (upd τ (u + 12) (τ 0) 5) (u + 12 + 1) = .int .i64 i := by simp [upd, h5]
 have e3 : ∀ x, x < 12 → upd (upd τ (u + 12) (τ 0)) (u + 12 + 1) (upd τ (u + 12) (τ 0) 5) x = τ x := fun x hx => by
  simp only [upd]; rw [if_neg (by omega), if_neg (by omega)]
 generalize upd (upd τ (u + 12) (τ 0)) (u + 12 + 1) (upd τ (u + 12) (τ 0) 5) = τ1 at e0 e1 e3; rw [e0, e1]; refine ⟨⟨by omega, by omega⟩, _, if_pos (by omega), ?_⟩
 refine mregs_append _ _ ?_
 refine faL_run p (u + 12 + 2) (b := blk) (o := o + i * sz) (by omega) (by simp [upd]) fun τ' h2 h3 => ?_
 simp only [oL, oC, om, oo, xf, mregs, mstep, mval, mput, h3, mld, mmv]; refine ⟨trivial, c, hcell, _, if_pos (by omega), _, if_pos (by omega), ?_⟩
 have e5 : upd τ' (u + 12 + 3 + p.length) c 1 = .int .i64 k := by
  simp only [upd]; rw [if_neg (by omega), h2 1 (by omega)]; simp only [upd]; rw [if_neg (by omega), e3 1 (by omega), h1]
 rw [e5]; have e6 : upd (upd τ' (u + 12 + 3 + p.length) c) (u + 12 + 4 + p.length) (.int .i64 k) (u + 12 + 3 + p.length) = c := by
  simp only [upd]; rw [if_neg (by omega)]; simp
 have e7 : upd (upd τ' (u + 12 + 3 + p.length) c) (u + 12 + 4 + p.length) (.int .i64 k) (u + 12 + 4 + p.length) = .int .i64 k := by simp [upd]
 simp only [mvals, mval, e6, e7, mcall]; refine hk.mono fun v w' hv => ⟨_, if_pos (by omega), _, if_pos (by omega), hv _ (fun x hx hx1 => ?_) (by simp [upd])⟩
 simp only [upd]; rw [if_neg hx1, if_neg (by omega), if_neg (by omega), if_neg (by omega), h2 x (by omega)]; simp only [upd]; rw [if_neg (by omega), e3 x hx]
def ZInj (ζ : Nat → Option Nat) : Prop := ∀ t t' b, ζ t = some b → ζ t' = some b → t = t'
theorem other_sub {A B : List (List D)} {a b : List D} {x : D} {i' j' : Nat} {row' : List D} {x' : D} (h1 : (A ++ (a ++ x :: b) :: B)[i']? = some row') (h2 : row'[j']? = some x') (hne : ¬ (i' = A.length ∧ j' = a.length)) :
 ∀ t ∈ x'.sts, t ∈ stsR A ∨ t ∈ stsL a ∨ t ∈ stsL b ∨ t ∈ stsR B := by
 intro t ht; rcases Nat.lt_trichotomy i' A.length with h | h | h
 · rw [List.getElem?_append_left h] at h1
   exact .inl (stsR_mem (List.mem_of_getElem? h1) (stsL_mem (List.mem_of_getElem? h2) ht))
 · subst h
   rw [List.getElem?_append_right (Nat.le_refl _), Nat.sub_self] at h1; simp only [List.getElem?_cons_zero, Option.some.injEq] at h1; subst h1; rcases Nat.lt_trichotomy j' a.length with g | g | g
   · rw [List.getElem?_append_left g] at h2
     exact .inr (.inl (stsL_mem (List.mem_of_getElem? h2) ht))
   · exact absurd ⟨rfl, g⟩ hne
   · rw [List.getElem?_append_right (by omega)] at h2
     obtain ⟨m, hm⟩ : ∃ m, j' - a.length = m + 1 := ⟨j' - a.length - 1, by omega⟩; rw [hm, List.getElem?_cons_succ] at h2; exact .inr (.inr (.inl (stsL_mem (List.mem_of_getElem? h2) ht)))
 · rw [List.getElem?_append_right (by omega)] at h1
   obtain ⟨m, hm⟩ : ∃ m, i' - A.length = m + 1 := ⟨i' - A.length - 1, by omega⟩; rw [hm, List.getElem?_cons_succ] at h1; exact .inr (.inr (.inr (stsR_mem (List.mem_of_getElem? h1) (stsL_mem (List.mem_of_getElem? h2) ht))))
theorem sts_split {st : Nat} {A B : List (List D)} {a b : List D} {x : D} : (D.l st (A ++ (a ++ x :: b) :: B)).sts = st :: (stsR A ++ ((stsL a ++ (x.sts ++ stsL b)) ++ stsR B)) := by
 rw [sts_ne (by simp), stsR_append, stsR, stsL_append, stsL]
theorem other_dis {st : Nat} {A B : List (List D)} {a b : List D} {x : D} (h : (D.l st (A ++ (a ++ x :: b) :: B)).sts.Nodup) : ∀ t, (t ∈ stsR A ∨ t ∈ stsL a ∨ t ∈ stsL b ∨ t ∈ stsR B) → t ∉ x.sts ∧ t ≠ st := by
 rw [sts_split] at h; intro t ht; simp only [List.nodup_cons, List.nodup_append, List.mem_append, not_or] at h; obtain ⟨h0, hA, ⟨⟨ha, ⟨hx, hb, d1⟩, d2⟩, hB, d3⟩, d4⟩ := h; refine ⟨fun hx' => ?_, fun e => ?_⟩
 · rcases ht with ht | ht | ht | ht
   · exact d4 t ht t (.inl (.inr (.inl hx'))) rfl
   · exact d2 t ht t (.inl hx') rfl
   · exact d1 t hx' t ht rfl
   · exact d3 t (.inr (.inl hx')) t ht rfl
 · subst e
   rcases ht with ht | ht | ht | ht
   · exact h0.1 ht
   · exact h0.2.1.1 ht
   · exact h0.2.1.2.2 ht
   · exact h0.2.2 ht
theorem here_dis {st : Nat} {A B : List (List D)} {a b : List D} {x : D} (h : (D.l st (A ++ (a ++ x :: b) :: B)).sts.Nodup) : x.sts.Nodup ∧ ∀ t ∈ x.sts, t ≠ st := by
 rw [sts_split] at h; simp only [List.nodup_cons, List.nodup_append, List.mem_append, not_or] at h; obtain ⟨h0, hA, ⟨⟨ha, ⟨hx, hb, d1⟩, d2⟩, hB, d3⟩, d4⟩ := h; exact ⟨hx, fun t ht e => h0.2.1.2.1 (e ▸ ht)⟩
theorem at_here {A B : List (List D)} {a b : List D} {x : D} : (A ++ (a ++ x :: b) :: B)[A.length]? = some (a ++ x :: b) ∧ (a ++ x :: b)[a.length]? = some x := by
 refine ⟨?_, ?_⟩
 · rw [List.getElem?_append_right (Nat.le_refl _), Nat.sub_self]; rfl
 · rw [List.getElem?_append_right (Nat.le_refl _), Nat.sub_self]; rfl
theorem set_here {A B : List (List D)} {a b : List D} {x y : D} : (A ++ (a ++ x :: b) :: B).set A.length ((a ++ x :: b).set a.length y) = A ++ (a ++ y :: b) :: B := by
 rw [List.set_append_right _ _ (Nat.le_refl _), Nat.sub_self, List.set_cons_zero, List.set_append_right _ _ (Nat.le_refl _), Nat.sub_self, List.set_cons_zero]
theorem own_put {w w' : World} {ζ : Nat → Option Nat} {v : Value} {st : Nat} {A B : List (List D)} {a b : List D} {x y : D} {blk o cap sz : Nat} {f : Nat → Nat → Value} {u : Value} (hz : ZInj ζ)
 (h : Own w ζ v (.l st (A ++ (a ++ x :: b) :: B))) (p : Part w ζ st (A ++ (a ++ x :: b) :: B) v blk o cap sz f) (hst : ζ st = some blk) (hy : y.sts = x.sts) {S : Nat → Prop} (hw : Tou S w w') (hS : ∀ q, S q → q = blk ∨ Sb ζ x.sts q)
 (hc : ∀ i' j', i' < (A ++ (a ++ x :: b) :: B).length → j' < sz → ¬ (i' = A.length ∧ j' = a.length) → w'.cell? ⟨blk, o + i' * sz + j', none⟩ = w.cell? ⟨blk, o + i' * sz + j', none⟩)
 (hu : w'.cell? ⟨blk, o + A.length * sz + a.length, none⟩ = some u) (hd : Rel w' Top ζ u y) : Own w' ζ v (.l st (A ++ (a ++ y :: b) :: B)) := by
 obtain ⟨g1, g2⟩ := at_here (A := A) (B := B) (a := a) (b := b) (x := x); have hj : a.length < sz := by rw [← p.len _ _ g1]; simp
 have hdis := other_dis h.nd; have key := part_set (d := y) p g1 hj hw.size hc hu hd (fun i' row' j' x' hne e1 e2 => by
  have hsub := other_sub e1 e2 hne; refine Rel.tou (p.rel i' row' j' x' e1 e2) hw (fun t ht => h.nz t ?_) (fun q ⟨t, ht, hq⟩ hs => ?_)
  · rw [sts_split]
    simp only [List.mem_cons, List.mem_append]; rcases hsub t ht with h | h | h | h
    · exact .inr (.inl h)
    · exact .inr (.inr (.inl (.inl h)))
    · exact .inr (.inr (.inl (.inr (.inr h))))
    · exact .inr (.inr (.inr h))
  · have hd := hdis t (hsub t ht)
    rcases hS q hs with rfl | ⟨t', ht', hq'⟩
    · exact hd.2 (hz _ _ _ hq hst)
    · exact hd.1 (hz _ _ _ hq hq' ▸ ht'))
 rw [set_here] at key; have hsts : (D.l st (A ++ (a ++ y :: b) :: B)).sts = (D.l st (A ++ (a ++ x :: b) :: B)).sts := by rw [sts_split, sts_split, hy]
 exact ⟨key.back, by rw [hsts]; exact h.nz, by rw [hsts]; exact h.nd, by rw [hsts]; exact fun t ht q e => hw.clean q (h.cl t ht q e)⟩
def MarkOK (P : Program) (fid : Nat → FuncId) (f : Nat) (rows : List (List D)) : Prop :=
 ∀ (w : World) (ζ : Nat → Option Nat) (v : Value) (st k : Nat), ZInj ζ → Own w ζ v (.l st rows) → k + ctR rows < 2 ^ 62 →
  MC P fid f [v, .int .i64 k] w fun r w' => r = .int .i64 ((k + ctR rows : Nat) : Int) ∧ Tou (Sb ζ (D.l st rows).sts) w w' ∧ Own w' ζ v (.l st (mkR rows k))
def FdOK (P : Program) (fid : Nat → FuncId) : Nat → List Fd → List D → Prop
 | _, [], [] => True
 | j, .sc p :: r, .s _ :: b => p.sum = j ∧ FdOK P fid (j + 1) r b
 | j, .sb p f :: r, .l _ rows :: b => p.sum = j ∧ MarkOK P fid f rows ∧ FdOK P fid (j + 1) r b
 | _, _, _ => False
theorem fds_run {n N sz : Nat} {ζ : Nat → Option Nat} (hz : ZInj ζ) {v : Value} {st k0 : Nat} {A B : List (List D)} : ∀ (fds : List Fd) (u : Nat) (a b : List D) {τ : Nat → Value} {w : World} {K : Ex → (Nat → Value) → World → Prop},
 u + 12 + fdsW fds ≤ N → FdOK P fid a.length fds b → τ 0 = v → τ 1 = .int .i64 ((k0 + ctL a : Nat) : Int) → τ 5 = .int .i64 (A.length : Nat) → (∀ row ∈ A ++ (a ++ b) :: B, row.length = sz) → k0 + ctL (a ++ b) < 2 ^ 62 →
 Own w ζ v (.l st (A ++ (mkL a k0 ++ b) :: B)) →
 (∀ τ' w', (∀ x, x < 12 → x ≠ 1 → τ' x = τ x) → τ' 1 = .int .i64 ((k0 + ctL (a ++ b) : Nat) : Int) → Tou (Sb ζ (D.l st (A ++ (mkL a k0 ++ b) :: B)).sts) w w' → Own w' ζ v (.l st (A ++ mkL (a ++ b) k0 :: B)) → K .normal τ' w') →
 mwp P fid N n (fdC sz (u + 12) fds) τ w K
 | [], u, a, b, τ, w, K, hN, hF, h0, h1, h5, hsz, hb, hO, hK => by
  cases b with
  | cons x b => simp [FdOK] at hF
  | nil =>
   simp only [List.append_nil] at hO hK h1; simp only [fdC, mwp]; exact hK τ w (fun _ _ _ => rfl) h1 (Tou.refl _ _) hO
 | .sc p :: r, u, a, b, τ, w, K, hN, hF, h0, h1, h5, hsz, hb, hO, hK => by
  cases b with
  | nil => simp [FdOK] at hF
  | cons x b =>
   cases x with
   | l st' rows => simp [FdOK] at hF
   | s c =>
    obtain ⟨hp, hF⟩ := hF; obtain ⟨blk, o, cap, sz', f, q, hst⟩ := hO.part (by simp); have hs' : sz' = sz := by
     have e1 := q.len A.length _ at_here.1; have e2 := hsz (a ++ .s c :: b) (by simp); rw [← e1, ← e2]; simp
    subst hs'; have hjl : a.length < sz' := by rw [← hsz (a ++ .s c :: b) (by simp)]; simp
    have hcell := q.cell A.length a.length (by simp) hjl; rw [q.v] at h0; have hcl : Clean w blk := hO.cl st (by rw [sts_ne (by simp)]; simp) blk hst; simp only [fdsW, List.map_cons, List.sum_cons, Fd.wide] at hN; have hct : ctL (a ++ .s c :: b) = ctL a + 1 + ctL b := by simp [ctL_append, ctL, D.ct]; omega
    have main : ∀ (K1 : (Nat → Value) → World → Prop), (∀ τ' w', (∀ x, x < 12 → x ≠ 1 → τ' x = τ x) → τ' 1 = .int .i64 ((k0 + ctL (a ++ [.s c]) : Nat) : Int) → Tou (Sb ζ (D.l st (A ++ (mkL a k0 ++ .s c :: b) :: B)).sts) w w' →
     Own w' ζ v (.l st (A ++ (mkL (a ++ [.s c]) k0 ++ b) :: B)) → K1 τ' w') → mregs P fid N (scR (u + 12) sz' p) τ w fun τ' w' => (True → mregs P fid N (kpR (u + 12 + 4 + p.length)) τ' w' K1) ∧ (Ex.normal ≠ Ex.normal → K .normal τ' w') := by
     intro K1 hK1; refine sc_run (by omega) h0 h1 h5 (by simp) hcl (by rw [hp]; exact hcell) fun τ1 w1 g1 hw => ⟨fun _ => ?_, fun h => absurd rfl h⟩
     have e : u + 12 + 4 + p.length = (u + 4 + p.length) + 12 := by omega
     rw [e]; refine kp_run (by omega) (by rw [g1 1 (by omega)]; exact h1) (by omega) fun τ2 g2 g3 => ?_
     have htou : Tou (fun q => q = blk) w w1 := hw.tou rfl; refine hK1 τ2 w1 (fun x hx hx1 => by rw [g2 x hx hx1, g1 x hx]) (by rw [g3]; simp [ctL_append, ctL, D.ct]; omega) (htou.mono fun q e => ⟨st, by rw [sts_ne (by simp)]; simp, by rw [e]; exact hst⟩) ?_
     have key := own_put (y := .s (.int .i64 ((k0 + ctL a : Nat) : Int))) (a := mkL a k0) hz hO q hst rfl htou (fun q e => .inl e) (fun i' j' h1 h2 hne => hw.cell _ _ (fun ⟨_, e2⟩ => hne (by
      rw [mkL_length]; exact cell_inj h2 hjl (by rw [hp] at e2; exact e2)))) (by rw [mkL_length, ← hp]; exact hw.here) (.s _ rfl)
     rw [mkL_append, mkL, mkL, List.append_assoc]; exact key
    have hwr : u + (6 + p.length) + 12 = u + 12 + 6 + p.length := by omega
    cases r with
    | nil =>
     simp only [fdC, sR, mwp]; refine main _ fun τ' w' e1 e2 e3 e4 => ?_
     cases b with
     | cons y b => simp [FdOK] at hF
     | nil =>
      simp only [List.append_nil] at e4; exact hK τ' w' e1 e2 e3 e4
    | cons fd r =>
     simp only [fdC, sR, mwp]; refine main _ fun τ' w' e1 e2 e3 e4 => ⟨fun _ => ?_, fun h => absurd rfl h⟩
     rw [← hwr]; refine fds_run hz (fd :: r) (u + (6 + p.length)) (a ++ [.s c]) b (by simp only [fdsW]; omega) (by simpa using hF) (by rw [e1 0 (by omega) (by omega)]; rw [← q.v] at h0; exact h0) e2 (by rw [e1 5 (by omega) (by omega)]; exact h5) (by simpa using hsz) (by simpa using hb) e4 fun τ2 w2 k1 k2 k3 k4 => ?_
     refine hK τ2 w2 (fun x hx hx1 => by rw [k1 x hx hx1, e1 x hx hx1]) (by simpa using k2) (e3.trans (k3.mono fun q ⟨t, ht, e⟩ => ⟨t, ?_, e⟩)) (by simpa using k4)
     rw [sts_ne (by simp)] at ht ⊢; simp only [stsR_append, stsR, stsL_append, stsL_mk, stsL, D.sts, List.append_nil, List.nil_append] at ht ⊢; exact ht
 | .sb p g :: r, u, a, b, τ, w, K, hN, hF, h0, h1, h5, hsz, hb, hO, hK => by
  cases b with
  | nil => simp [FdOK] at hF
  | cons x b =>
   cases x with
   | s c => simp [FdOK] at hF
   | l st' rows =>
    obtain ⟨hp, hM, hF⟩ := hF; obtain ⟨blk, o, cap, sz', f, q, hst⟩ := hO.part (by simp); have hs' : sz' = sz := by
     have e1 := q.len A.length _ at_here.1; have e2 := hsz (a ++ .l st' rows :: b) (by simp); rw [← e1, ← e2]; simp
    subst hs'; have hjl : a.length < sz' := by rw [← hsz (a ++ .l st' rows :: b) (by simp)]; simp
    have hcell := q.cell A.length a.length (by simp) hjl; rw [q.v] at h0; simp only [fdsW, List.map_cons, List.sum_cons, Fd.wide] at hN; have hct : ctL (a ++ .l st' rows :: b) = ctL a + ctR rows + ctL b := by simp [ctL_append, ctL, D.ct]; omega
    have hhere := here_dis hO.nd; have hsub : ∀ t ∈ (D.l st' rows).sts, t ∈ (D.l st (A ++ (mkL a k0 ++ .l st' rows :: b) :: B)).sts := fun t ht => by
     rw [sts_split]; simp only [List.mem_cons, List.mem_append]; exact .inr (.inr (.inl (.inr (.inl ht))))
    have hown : Own w ζ (f A.length a.length) (.l st' rows) :=
     ⟨q.rel A.length _ a.length _ at_here.1 (by rw [← mkL_length a k0]; exact (at_here (A := A) (B := B) (a := mkL a k0) (b := b) (x := .l st' rows)).2), fun t ht => hO.nz t (hsub t ht), hhere.1, fun t ht => hO.cl t (hsub t ht)⟩
    have main : ∀ (K1 : (Nat → Value) → World → Prop), (∀ τ' w', (∀ x, x < 12 → x ≠ 1 → τ' x = τ x) → τ' 1 = .int .i64 ((k0 + ctL (a ++ [.l st' rows]) : Nat) : Int) → Tou (Sb ζ (D.l st (A ++ (mkL a k0 ++ .l st' rows :: b) :: B)).sts) w w' →
     Own w' ζ v (.l st (A ++ (mkL (a ++ [.l st' rows]) k0 ++ b) :: B)) → K1 τ' w') → mregs P fid N (sbR (u + 12) sz' g p) τ w K1 := by
     intro K1 hK1; refine sb_run (by omega) h0 h1 h5 (by simp) (by rw [hp]; exact hcell) ?_
     refine (hM w ζ _ st' (k0 + ctL a) hz hown (by omega)).mono ?_
     rintro r' w1 ⟨rfl, htou, hown'⟩ τ2 g2 g3; refine hK1 τ2 w1 g2 (by rw [g3]; simp [ctL_append, ctL, D.ct]; omega) (htou.mono fun q ⟨t, ht, e⟩ => ⟨t, hsub t ht, e⟩) ?_
     have hkeep : ∀ o', w1.cell? ⟨blk, o', none⟩ = w.cell? ⟨blk, o', none⟩ := fun o' => cell_heap (htou.heap blk q.lt (fun ⟨t, ht, e⟩ => hhere.2 t ht (hz _ _ _ e hst))) o'
     have key := own_put (y := .l st' (mkR rows (k0 + ctL a))) (a := mkL a k0) (u := f A.length a.length) hz hO q hst (D.sts_mk (.l st' rows) (k0 + ctL a)) htou (fun q e => .inr e) (fun i' j' h1 h2 hne => hkeep _) (by rw [mkL_length, hkeep]; exact hcell) hown'.rel; rw [mkL_append, mkL, mkL, List.append_assoc]; exact key
    have hwr : u + (6 + p.length) + 12 = u + 12 + 6 + p.length := by omega
    cases r with
    | nil =>
     simp only [fdC, mwp]; refine main _ fun τ' w' e1 e2 e3 e4 => ?_
     cases b with
     | cons y b => simp [FdOK] at hF
     | nil =>
      simp only [List.append_nil] at e4; exact hK τ' w' e1 e2 e3 e4
    | cons fd r =>
     simp only [fdC, sR, mwp]; refine main _ fun τ' w' e1 e2 e3 e4 => ⟨fun _ => ?_, fun h => absurd rfl h⟩
     rw [← hwr]; refine fds_run hz (fd :: r) (u + (6 + p.length)) (a ++ [.l st' rows]) b (by simp only [fdsW]; omega) (by simpa using hF) (by rw [e1 0 (by omega) (by omega)]; rw [← q.v] at h0; exact h0) e2 (by rw [e1 5 (by omega) (by omega)]; exact h5) (by simpa using hsz) (by simpa using hb) e4 fun τ2 w2 k1 k2 k3 k4 => ?_
     refine hK τ2 w2 (fun x hx hx1 => by rw [k1 x hx hx1, e1 x hx hx1]) (by simpa using k2) (e3.trans (k3.mono fun q ⟨t, ht, e⟩ => ⟨t, ?_, e⟩)) (by simpa using k4)
     rw [sts_ne (by simp)] at ht ⊢; simp only [stsR_append, stsR, stsL_append, stsL_mk, stsL, List.append_nil, List.append_assoc] at ht ⊢; exact ht
end
end Go.VM
