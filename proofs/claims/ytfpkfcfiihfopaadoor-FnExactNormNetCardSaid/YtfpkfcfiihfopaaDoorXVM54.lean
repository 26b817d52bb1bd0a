/- The laws' functions held.., whole. Conditions: none. -/
import Derived.Test.YtfpkfcfiihfopaaDoorXVM53

namespace Go.VM
set_option linter.unusedVariables false
set_option linter.unusedSimpArgs false
set_option linter.unusedSectionVars false
def hdR (t sz : Nat) (p : List Nat) : List RO := [om t 0, om (t + 1) 5, oX (t + 2) sz t (t + 1)] ++ (faL (t + 2) p ++ [oL (t + 3 + p.length) (t + 2 + p.length), om (t + 4 + p.length) 1, oB (t + 5 + p.length) .neq (t + 3 + p.length) (t + 4 + p.length)])
def bad4 (t : Nat) : C := .cond (.t t) (sR [oo 4 (.mv (xi (-1)))] .ret) .skip
def Fd.wide8 : Fd → Nat
 | .sc p => 8 + p.length
 | .sb p _ => 8 + p.length
def hfC (sz : Nat) : Nat → List Fd → C
 | _, [] => .skip
 | t, [.sc p] => .seq (sR (hdR t sz p) (bad4 (t + 5 + p.length))) (.reg (kpR (t + 6 + p.length)))
 | t, [.sb p f] => sR (sbR t sz f p) (sR [om (t + 6 + p.length) 1, oI (t + 7 + p.length) .lss (t + 6 + p.length) 0] (bad4 (t + 7 + p.length)))
 | t, .sc p :: r => .seq (sR (hdR t sz p) (bad4 (t + 5 + p.length))) (sR (kpR (t + 6 + p.length)) (hfC sz (t + 8 + p.length) r))
 | t, .sb p f :: r => sR (sbR t sz f p) (.seq (sR [om (t + 6 + p.length) 1, oI (t + 7 + p.length) .lss (t + 6 + p.length) 0] (bad4 (t + 7 + p.length))) (hfC sz (t + 8 + p.length) r))
def fdsW8 (l : List Fd) : Nat := (l.map Fd.wide8).sum
def heldB (sz : Nat) (l : List Fd) : C := .seq (sR [om 6 5, om 7 0, oN 8 7, oB 9 .lss 6 8] (.cond (.t 9) .skip (.exit 0))) (.seq (.block 1 (hfC sz 12 l)) (.reg [om 10 5, oI 11 .add 10 1, om 5 11]))
def heldF (sz : Nat) (l : List Fd) : Fn := ⟨13 + fdsW8 l, [.tmp 4], sR [oV 4 0] (.seq (sR [oV 5 0] (.block 0 (.loop (heldB sz l)))) (sR [om (12 + fdsW8 l) 1, om 4 (12 + fdsW8 l)] .ret))⟩
section
variable {P : Program} {fid : Nat → FuncId} {cid : FuncId → Nat}
theorem hd_run {N u sz : Nat} {p : List Nat} {τ : Nat → Value} {w : World} {K : (Nat → Value) → World → Prop} {blk o len cap k i : Nat} (hN : u + 18 + p.length ≤ N)
 (h0 : τ 0 = .slice (some ⟨blk, o, none⟩) len cap) (h1 : τ 1 = .int .i64 k) (h5 : τ 5 = .int .i64 i) (hi : i < len) (hcell : w.cell? ⟨blk, o + i * sz + p.sum, none⟩ = some (.int .i64 (k : Nat)))
 (hk : ∀ τ', (∀ x, x < 12 → τ' x = τ x) → τ' (u + 12 + 5 + p.length) = .bool false → K τ' w) : mregs P fid N (hdR (u + 12) sz p) τ w K := by
 unfold hdR; refine mregs_append _ _ ?_
 simp only [om, oX, oo, mregs, mstep, mval, mmv, mput]; refine ⟨_, if_pos (by omega), _, if_pos (by omega), ?_⟩
 have e0 : upd (upd τ (u + 12) (τ 0)) (u + 12 + 1) (upd τ (u + 12) (τ 0) 5) (u + 12) = .slice (some ⟨blk, o, none⟩) len cap := by simp [upd, h0]
 have e1 : upd (upd τ (u + 12) (τ 0)) (u + 12 + 1) (upd τ (u + 12) (τ 0) 5) (u + 12 + 1) = .int .i64 i := by simp [upd, h5]
 have e3 : ∀ x, x < 12 → upd (upd τ (u + 12) (τ 0)) (u + 12 + 1) (upd τ (u + 12) (τ 0) 5) x = τ x := fun x hx => by
  simp only [upd]; rw [if_neg (by omega), if_neg (by omega)]
 generalize upd (upd τ (u + 12) (τ 0)) (u + 12 + 1) (upd τ (u + 12) (τ 0) 5) = τ1 at e0 e1 e3; rw [e0, e1]; refine ⟨⟨by omega, by omega⟩, _, if_pos (by omega), ?_⟩
 refine mregs_append _ _ ?_
 refine faL_run p (u + 12 + 2) (b := blk) (o := o + i * sz) (by omega) (by simp [upd]) fun τ' h2 h3 => ?_
 simp only [oL, oB, om, oo, mregs, mstep, mval, mput, h3, mld, mmv]; refine ⟨trivial, _, hcell, _, if_pos (by omega), _, if_pos (by omega), ?_⟩
 have e5 : upd τ' (u + 12 + 3 + p.length) (.int .i64 (k : Nat)) 1 = .int .i64 k := by
  simp only [upd]; rw [if_neg (by omega), h2 1 (by omega)]; simp only [upd]; rw [if_neg (by omega), e3 1 (by omega), h1]
 rw [e5]; have e6 : upd (upd τ' (u + 12 + 3 + p.length) (.int .i64 (k : Nat))) (u + 12 + 4 + p.length) (.int .i64 k) (u + 12 + 3 + p.length) = .int .i64 k := by
  simp only [upd]; rw [if_neg (by omega)]; simp
 have e7 : upd (upd τ' (u + 12 + 3 + p.length) (.int .i64 (k : Nat))) (u + 12 + 4 + p.length) (.int .i64 k) (u + 12 + 4 + p.length) = .int .i64 k := by simp [upd]
 simp only [e6, e7, mbin, binS]; refine ⟨.bool false, by simp, _, if_pos (by omega), hk _ (fun x hx => ?_) (by simp [upd])⟩
 simp only [upd]; rw [if_neg (by omega), if_neg (by omega), if_neg (by omega), h2 x (by omega)]; simp only [upd]; rw [if_neg (by omega), e3 x hx]
theorem low_run {N t : Nat} {τ : Nat → Value} {w : World} {K : (Nat → Value) → World → Prop} {k : Nat} (hN : t + 1 < N) (ht : 12 ≤ t) (h1 : τ 1 = .int .i64 (k : Nat)) (hk : ∀ τ', (∀ x, x < 12 → τ' x = τ x) → τ' (t + 1) = .bool false → K τ' w) :
 mregs P fid N [om t 1, oI (t + 1) .lss t 0] τ w K := by
 simp only [om, oI, oo, xi, mregs, mstep, mval, mmv, mput]; refine ⟨_, if_pos (by omega), ?_⟩
 have e : upd τ t (τ 1) t = .int .i64 k := by simp [upd, h1]
 simp only [e, mbin, binS]; refine ⟨.bool false, by simp, _, if_pos (by omega), hk _ (fun x hx => ?_) (by simp [upd])⟩
 simp only [upd]; rw [if_neg (by omega), if_neg (by omega)]
theorem bad4_run {n N t : Nat} {τ : Nat → Value} {w : World} {K : Ex → (Nat → Value) → World → Prop} (h : τ t = .bool false) (hK : K .normal τ w) : mwp P fid N n (bad4 t) τ w K := by
 unfold bad4; simp only [mwp]; exact ⟨false, by simp [mval, h], fun h => (by cases h), fun _ => hK⟩
def HeldOK (P : Program) (fid : Nat → FuncId) (f : Nat) (rows : List (List D)) : Prop :=
 ∀ (w : World) (ζ : Nat → Option Nat) (v : Value) (st k : Nat), Own w ζ v (.l st (mkR rows k)) → k + ctR rows < 2 ^ 62 →
  MC P fid f [v, .int .i64 k] w fun r w' => r = .int .i64 ((k + ctR rows : Nat) : Int) ∧ w' = w
def HdOK (P : Program) (fid : Nat → FuncId) : Nat → List Fd → List D → Prop
 | _, [], [] => True
 | j, .sc p :: r, .s _ :: b => p.sum = j ∧ HdOK P fid (j + 1) r b
 | j, .sb p f :: r, .l _ rows :: b => p.sum = j ∧ HeldOK P fid f rows ∧ HdOK P fid (j + 1) r b
 | _, _, _ => False
theorem hf_run {n N sz : Nat} {ζ : Nat → Option Nat} {v : Value} {st k0 : Nat} {A B : List (List D)} {w : World} : ∀ (fds : List Fd) (u : Nat) (a b : List D) {τ : Nat → Value} {K : Ex → (Nat → Value) → World → Prop},
 u + 12 + fdsW8 fds ≤ N → HdOK P fid a.length fds b → τ 0 = v → τ 1 = .int .i64 ((k0 + ctL a : Nat) : Int) → τ 5 = .int .i64 (A.length : Nat) → (a ++ b).length = sz → k0 + ctL (a ++ b) < 2 ^ 62 →
 Own w ζ v (.l st (A ++ mkL (a ++ b) k0 :: B)) →
 (∀ τ', (∀ x, x < 12 → x ≠ 1 → τ' x = τ x) → τ' 1 = .int .i64 ((k0 + ctL (a ++ b) : Nat) : Int) → K .normal τ' w) →
 mwp P fid N n (hfC sz (u + 12) fds) τ w K
 | [], u, a, b, τ, K, hN, hF, h0, h1, h5, hsz, hb, hO, hK => by
  cases b with
  | cons x b => simp [HdOK] at hF
  | nil =>
   simp only [List.append_nil] at hK; simp only [hfC, mwp]; exact hK τ (fun _ _ _ => rfl) h1
 | .sc p :: r, u, a, b, τ, K, hN, hF, h0, h1, h5, hsz, hb, hO, hK => by
  cases b with
  | nil => simp [HdOK] at hF
  | cons x b =>
   cases x with
   | l st' rows => simp [HdOK] at hF
   | s c =>
    obtain ⟨hp, hF⟩ := hF; have hO2 := hO; rw [mkL_append, mkL] at hO2; obtain ⟨blk, o, cap, sz', f, q, hst⟩ := hO2.part (by simp); have hs' : sz' = sz := by
     have e1 := q.len A.length _ at_here.1; rw [← e1, ← hsz]; simp
    subst hs'; have hjl : a.length < sz' := by rw [← hsz]; simp
    have hcell := q.cell A.length a.length (by simp) hjl; have hrel := q.rel A.length _ a.length _ at_here.1 (by rw [← mkL_length a k0]; exact (at_here (A := A) (B := B) (a := mkL a k0) (b := mkL b (k0 + ctL a + D.ct (.s c))) (x := (D.s c).mk (k0 + ctL a))).2); have hfv : f A.length a.length = .int .i64 ((k0 + ctL a : Nat) : Int) := by
     simp only [D.mk] at hrel; have key : ∀ x, Rel w Top ζ x (.s (.int .i64 ((k0 + ctL a : Nat) : Int))) → x = .int .i64 ((k0 + ctL a : Nat) : Int) := fun x h => by cases h; rfl
     exact key _ hrel
    rw [hfv] at hcell; have h0' := h0; rw [q.v] at h0'; simp only [fdsW8, List.map_cons, List.sum_cons, Fd.wide8] at hN; have hct : ctL (a ++ .s c :: b) = ctL a + 1 + ctL b := by simp [ctL_append, ctL, D.ct]; omega
    have main : ∀ (K1 K2 : (Nat → Value) → World → Prop), (∀ τ', (∀ x, x < 12 → x ≠ 1 → τ' x = τ x) → τ' 1 = .int .i64 ((k0 + ctL (a ++ [.s c]) : Nat) : Int) → K1 τ' w) →
     mregs P fid N (hdR (u + 12) sz' p) τ w fun τ' w' => (True → mwp P fid N n (bad4 (u + 12 + 5 + p.length)) τ' w' fun ex τ2 w2 => (ex = .normal → mregs P fid N (kpR (u + 12 + 6 + p.length)) τ2 w2 K1) ∧ (ex ≠ .normal → K ex τ2 w2)) ∧
      (Ex.normal ≠ Ex.normal → K2 τ' w') := by
     intro K1 K2 hK1; refine hd_run (by omega) h0' h1 h5 (by simp) (by rw [hp]; exact hcell) fun τ1 g1 gb => ⟨fun _ => bad4_run gb ⟨fun _ => ?_, fun h => absurd rfl h⟩, fun h => absurd rfl h⟩
     have e : u + 12 + 6 + p.length = (u + 6 + p.length) + 12 := by omega
     rw [e]; refine kp_run (by omega) (by rw [g1 1 (by omega)]; exact h1) (by omega) fun τ2 g2 g3 => ?_
     exact hK1 τ2 (fun x hx hx1 => by rw [g2 x hx hx1, g1 x hx]) (by rw [g3]; simp [ctL_append, ctL, D.ct]; omega)
    have hwr : u + (8 + p.length) + 12 = u + 12 + 8 + p.length := by omega
    cases r with
    | nil =>
     simp only [hfC, sR, mwp]; refine main _ _ fun τ' e1 e2 => ?_
     cases b with
     | cons y b => simp [HdOK] at hF
     | nil => exact hK τ' e1 e2
    | cons fd r =>
     simp only [hfC, sR, mwp]; refine main _ _ fun τ' e1 e2 => ⟨fun _ => ?_, fun h => absurd rfl h⟩
     rw [← hwr]; exact hf_run (v := v) (fd :: r) (u + (8 + p.length)) (a ++ [.s c]) b (by simp only [fdsW8]; omega) (by simpa using hF) (by rw [e1 0 (by omega) (by omega)]; exact h0) e2 (by rw [e1 5 (by omega) (by omega)]; exact h5) (by simpa using hsz) (by simpa using hb) (by simpa using hO) fun τ2 k1 k2 =>
      hK τ2 (fun x hx hx1 => by rw [k1 x hx hx1, e1 x hx hx1]) (by simpa using k2)
 | .sb p g :: r, u, a, b, τ, K, hN, hF, h0, h1, h5, hsz, hb, hO, hK => by
  cases b with
  | nil => simp [HdOK] at hF
  | cons x b =>
   cases x with
   | s c => simp [HdOK] at hF
   | l st' rows =>
    obtain ⟨hp, hM, hF⟩ := hF; have hO2 := hO; rw [mkL_append, mkL] at hO2; obtain ⟨blk, o, cap, sz', f, q, hst⟩ := hO2.part (by simp); have hs' : sz' = sz := by
     have e1 := q.len A.length _ at_here.1; rw [← e1, ← hsz]; simp
    subst hs'; have hjl : a.length < sz' := by rw [← hsz]; simp
    have hcell := q.cell A.length a.length (by simp) hjl; have hrel := q.rel A.length _ a.length _ at_here.1 (by rw [← mkL_length a k0]; exact (at_here (A := A) (B := B) (a := mkL a k0) (b := mkL b (k0 + ctL a + D.ct (.l st' rows))) (x := (D.l st' rows).mk (k0 + ctL a))).2); simp only [D.mk] at hrel; have h0' := h0; rw [q.v] at h0'; simp only [fdsW8, List.map_cons, List.sum_cons, Fd.wide8] at hN; have hct : ctL (a ++ .l st' rows :: b) = ctL a + ctR rows + ctL b := by simp [ctL_append, ctL, D.ct]; omega
    have hnd := hO2.nd; simp only [D.mk] at hnd; have hhere := here_dis hnd; have hsub : ∀ t ∈ (D.l st' (mkR rows (k0 + ctL a))).sts, t ∈ (D.l st (A ++ (mkL a k0 ++ (D.l st' rows).mk (k0 + ctL a) :: mkL b (k0 + ctL a + D.ct (.l st' rows))) :: B)).sts := fun t ht => by
     rw [sts_split]; simp only [List.mem_cons, List.mem_append, D.mk]; exact .inr (.inr (.inl (.inr (.inl ht))))
    have hown : Own w ζ (f A.length a.length) (.l st' (mkR rows (k0 + ctL a))) := ⟨hrel, fun t ht => hO2.nz t (hsub t ht), hhere.1, fun t ht => hO2.cl t (hsub t ht)⟩; have main : ∀ (K1 K2 : (Nat → Value) → World → Prop), (∀ τ', (∀ x, x < 12 → x ≠ 1 → τ' x = τ x) → τ' 1 = .int .i64 ((k0 + ctL (a ++ [.l st' rows]) : Nat) : Int) → K1 τ' w) →
     mregs P fid N (sbR (u + 12) sz' g p) τ w fun τ' w' => (True → K1 τ' w') ∧ (Ex.normal ≠ Ex.normal → K2 τ' w') := by
     intro K1 K2 hK1; refine sb_run (by omega) h0' h1 h5 (by simp) (by rw [hp]; exact hcell) ?_
     refine (hM w ζ _ st' (k0 + ctL a) hown (by omega)).mono ?_
     rintro r' w1 ⟨rfl, rfl⟩ τ2 g2 g3; exact ⟨fun _ => hK1 τ2 g2 (by rw [g3]; simp [ctL_append, ctL, D.ct]; omega), fun h => absurd rfl h⟩
    have hwr : u + (8 + p.length) + 12 = u + 12 + 8 + p.length := by omega
    cases r with
    | nil =>
     simp only [hfC, sR, mwp]; refine main _ _ fun τ' e1 e2 => ?_
     have e7 : u + 12 + 7 + p.length = u + 12 + 6 + p.length + 1 := by omega
     rw [e7]; refine low_run (by omega) (by omega) e2 fun τ3 g1 g2 => ⟨fun _ => ?_, fun h => absurd rfl h⟩
     refine bad4_run g2 ?_
     cases b with
     | cons y b => simp [HdOK] at hF
     | nil => exact hK τ3 (fun x hx hx1 => by rw [g1 x hx, e1 x hx hx1]) (by rw [g1 1 (by omega)]; exact e2)
    | cons fd r =>
     simp only [hfC, sR, mwp]; refine main _ _ fun τ' e1 e2 => ?_
     have e7 : u + 12 + 7 + p.length = u + 12 + 6 + p.length + 1 := by omega
     rw [e7]; refine low_run (by omega) (by omega) e2 fun τ3 g1 g2 => ⟨fun _ => ?_, fun h => absurd rfl h⟩
     refine bad4_run g2 ⟨fun _ => ?_, fun h => absurd rfl h⟩
     rw [← hwr]; exact hf_run (v := v) (fd :: r) (u + (8 + p.length)) (a ++ [.l st' rows]) b (by simp only [fdsW8]; omega) (by simpa using hF) (by rw [g1 0 (by omega), e1 0 (by omega) (by omega)]; exact h0) (by rw [g1 1 (by omega)]; exact e2) (by rw [g1 5 (by omega), e1 5 (by omega) (by omega)]; exact h5) (by simpa using hsz) (by simpa using hb) (by simpa using hO) fun τ2 k1 k2 =>
      hK τ2 (fun x hx hx1 => by rw [k1 x hx hx1, g1 x hx, e1 x hx hx1]) (by simpa using k2)
theorem held_end {n sz N : Nat} {fds : List Fd} (hN : 12 ≤ N) {τ : Nat → Value} {w : World} {K : Ex → (Nat → Value) → World → Prop} {i len cap : Nat} {a : Option Addr} (h0 : τ 0 = .slice a len cap) (h5 : τ 5 = .int .i64 (i : Nat)) (hi : ¬ i < len)
 (hK : ∀ τ', (∀ x, x < 5 → τ' x = τ x) → K (.exit 0) τ' w) : mwp P fid N n (heldB sz fds) τ w K := by
 unfold heldB; exact head_run hN h0 h5 fun τ' e => ⟨fun h => absurd h hi, fun _ => hK τ' fun x hx => e x (by omega)⟩
theorem held_body {n N sz : Nat} {fds : List Fd} (hN : 13 + fdsW8 fds ≤ N) {ζ : Nat → Option Nat} {v : Value} {st k : Nat} {A B : List (List D)} {row : List D} (hsz : row.length = sz) (hfd : HdOK P fid 0 fds row) (hb : k + ctR (A ++ row :: B) < 2 ^ 62) (hl : A.length < 2 ^ 62) {τ : Nat → Value} {w : World} {K : Ex → (Nat → Value) → World → Prop}
 (h0 : τ 0 = v) (h1 : τ 1 = .int .i64 ((k + ctR A : Nat) : Int)) (h5 : τ 5 = .int .i64 (A.length : Nat)) (hO : Own w ζ v (.l st (mkR (A ++ row :: B) k)))
 (hK : ∀ τ', τ' 0 = v → τ' 1 = .int .i64 ((k + ctR (A ++ [row]) : Nat) : Int) → τ' 5 = .int .i64 ((A.length + 1 : Nat) : Int) → K .normal τ' w) :
 mwp P fid N n (heldB sz fds) τ w K := by
 obtain ⟨a, cap, hv⟩ := hO.rel.slice; unfold heldB; refine head_run (by omega) (h0.trans hv) h5 fun τ1 e => ⟨fun _ => ?_, fun h => absurd (by simp) h⟩
 simp only [mwp]; have hct : ctR (A ++ row :: B) = ctR A + ctL row + ctR B := by rw [ctR_append, ctR]; omega
 rw [mkR_append, mkR] at hO; refine hf_run (v := v) (A := mkR A k) (k0 := k + ctR A) fds 0 [] row (by omega) hfd (by rw [e 0 (by omega)]; exact h0) (by rw [e 1 (by omega), h1]; simp [ctL]) (by rw [e 5 (by omega), h5]; simp) (by simpa using hsz) (by simp only [List.nil_append]; omega) (by simpa using hO) fun τ2 g1 g2 => ?_
 refine ⟨fun h => (by cases h), fun _ => ⟨fun _ => ?_, fun h => absurd rfl h⟩⟩
 refine next_run (i := A.length) (by omega) (by rw [g1 5 (by omega) (by omega), e 5 (by omega)]; exact h5) hl fun τ3 g5 g6 => ?_
 simp only [List.nil_append] at g2; exact hK τ3 (by rw [g5 0 (by omega), g1 0 (by omega) (by omega), e 0 (by omega)]; exact h0) (by rw [g5 1 (by omega), g2, ctR_append]; simp [ctR]; omega) g6
theorem held_loop {n N sz : Nat} {fds : List Fd} (hN : 13 + fdsW8 fds ≤ N) {ζ : Nat → Option Nat} {v : Value} {st k : Nat} {rows : List (List D)} (hsz : ∀ row ∈ rows, row.length = sz) (hfd : ∀ row ∈ rows, HdOK P fid 0 fds row) (hb : k + ctR rows < 2 ^ 62) (hl : rows.length < 2 ^ 62) {w : World} (hO : Own w ζ v (.l st (mkR rows k))) {K : Ex → (Nat → Value) → World → Prop}
 (hK : ∀ τ, τ 1 = .int .i64 ((k + ctR rows : Nat) : Int) → K (.exit 0) τ w) :
 ∀ (B A : List (List D)) (m : Nat) {τ : Nat → Value}, rows = A ++ B → B.length < m → τ 0 = v → τ 1 = .int .i64 ((k + ctR A : Nat) : Int) → τ 5 = .int .i64 (A.length : Nat) → iterW (mwp P fid N n (heldB sz fds)) m τ w K := by
 intro B
 induction B with
 | nil =>
  intro A m τ hAB hm h0 h1 h5; obtain ⟨m, rfl⟩ : ∃ j, m = j + 1 := ⟨m - 1, by omega⟩; simp only [List.append_nil] at hAB; subst hAB; obtain ⟨a, cap, hv⟩ := hO.rel.slice; unfold iterW; exact held_end (by omega) (h0.trans hv) h5 (by simp) fun τ' e => ⟨fun h => (by cases h), fun _ => hK τ' (by rw [e 1 (by omega)]; exact h1)⟩
 | cons row B ih =>
  intro A m τ hAB hm h0 h1 h5; obtain ⟨m, rfl⟩ : ∃ j, m = j + 1 := ⟨m - 1, by omega⟩; unfold iterW; subst hAB; refine held_body hN (hsz row (by simp)) (hfd row (by simp)) hb (by simp at hl; omega) h0 h1 h5 hO fun τ' g0 g1 g5 => ⟨fun _ => ?_, fun h => absurd rfl h⟩
  exact ih (A ++ [row]) m (by simp) (by simp at hm; omega) g0 g1 (by rw [g5]; simp)
theorem heldF_ok (hcid : ∀ f, fid (cid f) = f) {f sz : Nat} {fds : List Fd} {fn : Func} (hfn : P.funcs[fid f]? = some fn) (hF : stripF P cid fn = some (heldF sz fds)) {rows : List (List D)} (hsz : ∀ row ∈ rows, row.length = sz) (hfd : ∀ row ∈ rows, HdOK P fid 0 fds row) (hl : rows.length < 2 ^ 62) :
 HeldOK P fid f rows := by
 intro w ζ v st k hO hk; unfold heldF at hF; refine MC_of hcid hfn hF (by simp; omega) (rows.length + 1) ?_
 have hloop : ∀ (τ : Nat → Value) (K : Ex → (Nat → Value) → World → Prop), τ 0 = v → τ 1 = .int .i64 (k : Nat) → τ 5 = .int .i64 0 → (∀ τ, τ 1 = .int .i64 ((k + ctR rows : Nat) : Int) → K (.exit 0) τ w) →
  mwp P fid (13 + fdsW8 fds) (rows.length + 1) (.loop (heldB sz fds)) τ w K := fun τ K h0 h1 h5 hK => by
  unfold mwp; exact held_loop (by omega) hsz hfd hk hl hO hK rows [] (rows.length + 1) rfl (by omega) h0 (by simpa [ctR] using h1) (by simpa using h5)
 generalize C.loop (heldB sz fds) = L at hloop; simp only [sR, oV, om, oo, xi, mwp, mregs, mstep, mval, mmv, mput]; refine ⟨_, if_pos (by omega), ⟨fun _ => ⟨_, if_pos (by omega), ⟨fun _ => ?_, fun h => absurd rfl h⟩⟩, fun h => absurd rfl h⟩⟩
 refine hloop _ _ (by simp [upd]) (by simp [upd]) (by simp [upd]) fun τ h1 => ?_
 refine ⟨fun _ => ⟨fun _ => ⟨_, if_pos (by omega), _, if_pos (by omega), ⟨fun _ => ⟨.inl trivial, ?_, rfl⟩, fun h => absurd rfl h⟩⟩, fun h => absurd rfl h⟩, fun h => absurd rfl h⟩
 simp [upd, h1]
end
end Go.VM
