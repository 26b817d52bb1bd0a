/- The laws' functions mark.., whole. Conditions: none. -/
import Derived.Test.YtfpkfcfiihfopaaDoorXVM52

namespace Go.VM
set_option linter.unusedVariables false
set_option linter.unusedSimpArgs false
set_option linter.unusedSectionVars false
theorem Rel.slice {w : World} {Im : Nat → Nat → Prop} {ζ : Nat → Option Nat} {v : Value} {st : Nat} {rows : List (List D)} (h : Rel w Im ζ v (.l st rows)) : ∃ a cap, v = .slice a rows.length cap := by
 cases h with
 | nil => exact ⟨_, _, rfl⟩
 | e a => exact ⟨_, _, rfl⟩
 | l => exact ⟨_, _, rfl⟩
theorem wrapi {k : Nat} (h : k < 2 ^ 62) : IntKind.i64.wrap ((k : Int) + 1) = ((k + 1 : Nat) : Int) := wrapk h
section
variable {P : Program} {fid : Nat → FuncId} {cid : FuncId → Nat}
theorem head_run {n N : Nat} {τ : Nat → Value} {w : World} {K : Ex → (Nat → Value) → World → Prop} {i len cap : Nat} {a : Option Addr} (hN : 12 ≤ N) (h0 : τ 0 = .slice a len cap) (h5 : τ 5 = .int .i64 (i : Nat)) {d : C}
 (hk : ∀ τ', (∀ x, x < 6 → τ' x = τ x) → (i < len → mwp P fid N n d τ' w K) ∧ (¬ i < len → K (.exit 0) τ' w)) :
 mwp P fid N n (.seq (sR [om 6 5, om 7 0, oN 8 7, oB 9 .lss 6 8] (.cond (.t 9) .skip (.exit 0))) d) τ w K := by
 simp only [sR, om, oN, oB, oo, mwp, mregs, mstep, mval, mmv, mput]; refine ⟨_, if_pos (by omega), _, if_pos (by omega), ?_⟩
 have e7 : upd (upd τ 6 (τ 5)) 7 (upd τ 6 (τ 5) 0) 7 = .slice a len cap := by simp [upd, h0]
 simp only [e7, mlen]; refine ⟨_, if_pos (by omega), ?_⟩
 have e6 : upd (upd (upd τ 6 (τ 5)) 7 (upd τ 6 (τ 5) 0)) 8 (.int .i64 (len : Nat)) 6 = .int .i64 (i : Nat) := by simp [upd, h5]
 have e8 : upd (upd (upd τ 6 (τ 5)) 7 (upd τ 6 (τ 5) 0)) 8 (.int .i64 (len : Nat)) 8 = .int .i64 (len : Nat) := by simp [upd]
 simp only [e6, e8, mbin, binS]; refine ⟨.bool (decide ((i : Int) < (len : Int))), rfl, _, if_pos (by omega), ?_⟩
 obtain ⟨k1, k2⟩ := hk (upd (upd (upd (upd τ 6 (τ 5)) 7 (upd τ 6 (τ 5) 0)) 8 (.int .i64 (len : Nat))) 9 (.bool (decide ((i : Int) < (len : Int))))) (fun x hx => by
  simp only [upd]; rw [if_neg (by omega), if_neg (by omega), if_neg (by omega), if_neg (by omega)])
 refine ⟨fun _ => ⟨decide ((i : Int) < (len : Int)), by simp [upd], fun ht => ⟨fun _ => k1 (by simpa using ht), fun h => absurd rfl h⟩, fun hf => ⟨fun h => (by cases h), fun _ => k2 (by simpa using hf)⟩⟩, fun h => absurd rfl h⟩
theorem next_run {N : Nat} {τ : Nat → Value} {w : World} {K : (Nat → Value) → World → Prop} {i : Nat} (hN : 12 ≤ N) (h5 : τ 5 = .int .i64 (i : Nat)) (hi : i < 2 ^ 62)
 (hk : ∀ τ', (∀ x, x < 5 → τ' x = τ x) → τ' 5 = .int .i64 ((i + 1 : Nat) : Int) → K τ' w) : mregs P fid N [om 10 5, oI 11 .add 10 1, om 5 11] τ w K := by
 simp only [om, oI, oo, xi, mregs, mstep, mval, mmv, mput]; refine ⟨_, if_pos (by omega), ?_⟩
 have e : upd τ 10 (τ 5) 10 = .int .i64 (i : Nat) := by simp [upd, h5]
 simp only [e, mbin, binS]; refine ⟨.int .i64 ((i + 1 : Nat) : Int), by simp [wrapi hi], _, if_pos (by omega), _, if_pos (by omega), ?_⟩
 refine hk _ (fun x hx => ?_) (by simp [upd])
 simp only [upd]; rw [if_neg (by omega), if_neg (by omega), if_neg (by omega)]
theorem mkR_get : ∀ (l : List (List D)) (k i : Nat) (r : List D), (mkR l k)[i]? = some r → ∃ r0, l[i]? = some r0 ∧ r.length = r0.length
 | [], k, i, r, h => by simp [mkR] at h
 | x :: l, k, 0, r, h => by simp [mkR] at h; subst h; exact ⟨x, rfl, by simp⟩
 | x :: l, k, i + 1, r, h => by simp only [mkR, List.getElem?_cons_succ] at h ⊢; exact mkR_get l _ _ _ h
theorem mark_end {n sz N : Nat} {fds : List Fd} (hN : 12 ≤ N) {τ : Nat → Value} {w : World} {K : Ex → (Nat → Value) → World → Prop} {i len cap : Nat} {a : Option Addr} (h0 : τ 0 = .slice a len cap) (h5 : τ 5 = .int .i64 (i : Nat)) (hi : ¬ i < len)
 (hK : ∀ τ', (∀ x, x < 5 → τ' x = τ x) → K (.exit 0) τ' w) : mwp P fid N n (markB sz fds) τ w K := by
 unfold markB; exact head_run hN h0 h5 fun τ' e => ⟨fun h => absurd h hi, fun _ => hK τ' fun x hx => e x (by omega)⟩
theorem mark_body {n N sz : Nat} {fds : List Fd} (hN : 13 + fdsW fds ≤ N) {ζ : Nat → Option Nat} (hz : ZInj ζ) {v : Value} {st k : Nat} {A B : List (List D)} {row : List D} (hsz : ∀ r ∈ A ++ row :: B, r.length = sz) (hfd : FdOK P fid 0 fds row) (hb : k + ctR (A ++ row :: B) < 2 ^ 62) (hl : A.length < 2 ^ 62) {τ : Nat → Value} {w : World} {K : Ex → (Nat → Value) → World → Prop}
 (h0 : τ 0 = v) (h1 : τ 1 = .int .i64 ((k + ctR A : Nat) : Int)) (h5 : τ 5 = .int .i64 (A.length : Nat)) (hO : Own w ζ v (.l st (mkR A k ++ row :: B)))
 (hK : ∀ τ' w', τ' 0 = v → τ' 1 = .int .i64 ((k + ctR (A ++ [row]) : Nat) : Int) → τ' 5 = .int .i64 ((A.length + 1 : Nat) : Int) → Tou (Sb ζ (D.l st (A ++ row :: B)).sts) w w' → Own w' ζ v (.l st (mkR (A ++ [row]) k ++ B)) → K .normal τ' w') :
 mwp P fid N n (markB sz fds) τ w K := by
 obtain ⟨a, cap, hv⟩ := hO.rel.slice; unfold markB; refine head_run (by omega) (h0.trans hv) h5 fun τ1 e => ⟨fun _ => ?_, fun h => absurd (by simp) h⟩
 simp only [mwp]; have hct : ctR (A ++ row :: B) = ctR A + ctL row + ctR B := by rw [ctR_append, ctR]; omega
 refine fds_run hz (v := v) (A := mkR A k) (B := B) (k0 := k + ctR A) fds 0 [] row (by omega) hfd (by rw [e 0 (by omega)]; exact h0) (by rw [e 1 (by omega), h1]; simp [ctL]) (by rw [e 5 (by omega), h5]; simp) (fun r hr => ?_) (by simp only [List.nil_append]; omega) (by simpa [mkL] using hO) fun τ2 w2 g1 g2 g3 g4 => ?_
 · rcases List.mem_append.1 hr with hr | hr
   · obtain ⟨i, hi⟩ := List.mem_iff_getElem?.1 hr
     obtain ⟨r0, h0', h1'⟩ := mkR_get _ _ _ _ hi; rw [h1']; exact hsz r0 (List.mem_append_left _ (List.mem_of_getElem? h0'))
   · simp only [List.nil_append] at hr
     exact hsz r (List.mem_append_right _ hr)
 · refine ⟨fun h => (by cases h), fun _ => ⟨fun _ => ?_, fun h => absurd rfl h⟩⟩
   refine next_run (i := A.length) (by omega) (by rw [g1 5 (by omega) (by omega), e 5 (by omega)]; exact h5) hl fun τ3 g5 g6 => ?_
   simp only [List.nil_append] at g2 g4; refine hK τ3 w2 (by rw [g5 0 (by omega), g1 0 (by omega) (by omega), e 0 (by omega)]; exact h0) (by rw [g5 1 (by omega), g2, ctR_append]; simp [ctR]; omega) g6 (g3.mono fun q ⟨t, h1', h2'⟩ => ⟨t, ?_, h2'⟩) ?_
   · rw [sts_ne (by simp)] at h1' ⊢
     simpa [stsR_append, stsR, stsR_mk, mkL] using h1'
   · rw [mkR_append, mkR, mkR, List.append_assoc]
     exact g4
theorem mark_loop {n N sz : Nat} {fds : List Fd} (hN : 13 + fdsW fds ≤ N) {ζ : Nat → Option Nat} (hz : ZInj ζ) {v : Value} {st k : Nat} {rows : List (List D)} (hsz : ∀ row ∈ rows, row.length = sz) (hfd : ∀ row ∈ rows, FdOK P fid 0 fds row) (hb : k + ctR rows < 2 ^ 62) (hl : rows.length < 2 ^ 62) {w0 : World} {K : Ex → (Nat → Value) → World → Prop}
 (hK : ∀ τ w, τ 1 = .int .i64 ((k + ctR rows : Nat) : Int) → Tou (Sb ζ (D.l st rows).sts) w0 w → Own w ζ v (.l st (mkR rows k)) → K (.exit 0) τ w) :
 ∀ (B A : List (List D)) (m : Nat) {τ : Nat → Value} {w : World}, rows = A ++ B → B.length < m → τ 0 = v → τ 1 = .int .i64 ((k + ctR A : Nat) : Int) → τ 5 = .int .i64 (A.length : Nat) → Tou (Sb ζ (D.l st rows).sts) w0 w → Own w ζ v (.l st (mkR A k ++ B)) →
  iterW (mwp P fid N n (markB sz fds)) m τ w K := by
 intro B
 induction B with
 | nil =>
  intro A m τ w hAB hm h0 h1 h5 ht hO; obtain ⟨m, rfl⟩ : ∃ j, m = j + 1 := ⟨m - 1, by omega⟩; simp only [List.append_nil] at hAB hO; subst hAB; obtain ⟨a, cap, hv⟩ := hO.rel.slice; unfold iterW; exact mark_end (by omega) (h0.trans hv) h5 (by simp) fun τ' e => ⟨fun h => (by cases h), fun _ => hK τ' w (by rw [e 1 (by omega)]; exact h1) ht hO⟩
 | cons row B ih =>
  intro A m τ w hAB hm h0 h1 h5 ht hO; obtain ⟨m, rfl⟩ : ∃ j, m = j + 1 := ⟨m - 1, by omega⟩; unfold iterW; subst hAB; refine mark_body hN hz hsz (hfd row (by simp)) hb (by simp at hl; omega) h0 h1 h5 hO fun τ' w' g0 g1 g5 gt gO => ⟨fun _ => ?_, fun h => absurd rfl h⟩
  exact ih (A ++ [row]) m (by simp) (by simp at hm; omega) g0 g1 (by rw [g5]; simp) (ht.trans gt) gO
theorem Own.lenLt {w : World} {ζ : Nat → Option Nat} {v : Value} {st : Nat} {rows : List (List D)} (h : Own w ζ v (.l st rows)) : ctR rows < 2 ^ 62 → (∀ row ∈ rows, 0 < ctL row) → rows.length < 2 ^ 62 := by
 intro hc hp; have : ∀ l : List (List D), (∀ row ∈ l, 0 < ctL row) → l.length ≤ ctR l := by
  intro l
  induction l with
  | nil => intro _; simp
  | cons x r ih => intro h; have h1 := h x (by simp); have h2 := ih fun y hy => h y (by simp [hy]); simp [ctR]; omega
 have := this rows hp; omega
theorem markF_ok (hcid : ∀ f, fid (cid f) = f) {f sz : Nat} {fds : List Fd} {fn : Func} (hfn : P.funcs[fid f]? = some fn) (hF : stripF P cid fn = some (markF sz fds)) {rows : List (List D)} (hsz : ∀ row ∈ rows, row.length = sz) (hfd : ∀ row ∈ rows, FdOK P fid 0 fds row) (hl : rows.length < 2 ^ 62) :
 MarkOK P fid f rows := by
 intro w ζ v st k hz hO hk; unfold markF at hF; refine MC_of hcid hfn hF (by simp; omega) (rows.length + 1) ?_
 have hloop : ∀ (τ : Nat → Value) (K : Ex → (Nat → Value) → World → Prop), τ 0 = v → τ 1 = .int .i64 (k : Nat) → τ 5 = .int .i64 0 → (∀ τ w', τ 1 = .int .i64 ((k + ctR rows : Nat) : Int) → Tou (Sb ζ (D.l st rows).sts) w w' → Own w' ζ v (.l st (mkR rows k)) → K (.exit 0) τ w') →
  mwp P fid (13 + fdsW fds) (rows.length + 1) (.loop (markB sz fds)) τ w K := fun τ K h0 h1 h5 hK => by
  unfold mwp; exact mark_loop (by omega) hz hsz hfd hk hl hK rows [] (rows.length + 1) rfl (by omega) h0 (by simpa [ctR] using h1) (by simpa using h5) (Tou.refl _ _) (by simpa [mkR] using hO)
 generalize C.loop (markB sz fds) = L at hloop; simp only [sR, oV, om, oo, xi, mwp, mregs, mstep, mval, mmv, mput]; refine ⟨_, if_pos (by omega), ⟨fun _ => ⟨_, if_pos (by omega), ⟨fun _ => ?_, fun h => absurd rfl h⟩⟩, fun h => absurd rfl h⟩⟩
 refine hloop _ _ (by simp [upd]) (by simp [upd]) (by simp [upd]) fun τ w' h1 ht hO' => ?_
 refine ⟨fun _ => ⟨fun _ => ⟨_, if_pos (by omega), _, if_pos (by omega), ⟨fun _ => ⟨.inl trivial, ?_, ht, hO'⟩, fun h => absurd rfl h⟩⟩, fun h => absurd rfl h⟩, fun h => absurd rfl h⟩
 simp [upd, h1]
end
end Go.VM
