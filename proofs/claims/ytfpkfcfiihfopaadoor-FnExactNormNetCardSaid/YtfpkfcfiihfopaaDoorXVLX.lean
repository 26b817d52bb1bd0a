/- The laws' own helpers over ladders: sizes, copies, whether two are the same. Conditions: none. -/
import Derived.Test.YtfpkfcfiihfopaaDoorXVLW

namespace Go.VM
set_option linter.unusedSimpArgs false
set_option linter.unusedVariables false
set_option maxHeartbeats 4000000
mutual
def dW : D → Nat
 | .s _ => 0
 | .l _ rows => rows.length + rowsW rows
def rowW : List D → Nat
 | [] => 0
 | d :: r => dW d + rowW r
def rowsW : List (List D) → Nat
 | [] => 0
 | x :: r => rowW x + rowsW r
end
theorem rowsW_map : ∀ rows : List (List D), rowsW rows = (rows.map rowW).sum
 | [] => by simp [rowsW]
 | x :: r => by simp [rowsW, rowsW_map r]
mutual
def dFits : D → Prop
 | .s _ => True
 | .l _ rows => rows.length < 2 ^ 63 ∧ rowsFits rows
def rowFits : List D → Prop
 | [] => True
 | d :: r => dFits d ∧ rowFits r
def rowsFits : List (List D) → Prop
 | [] => True
 | x :: r => rowFits x ∧ rowsFits r
end
theorem rowsFits_mem : ∀ {rows : List (List D)} {r : List D}, rowsFits rows → r ∈ rows → rowFits r
 | [], r, _, h => by cases h
 | x :: q, r, hf, h => by
  simp only [rowsFits] at hf; rcases List.mem_cons.1 h with rfl | h
  · exact hf.1
  · exact rowsFits_mem hf.2 h
abbrev szV (w K : Nat) : V := iV (if w ≤ K then ((K - w : Nat) : Int) else -1)
theorem args_rowsW : ∀ l : List Arg, rowsW (argRows l) = 0
 | [] => by simp [argRows, rowsW]
 | a :: r => by
  have := args_rowsW r; simp only [argRows] at this; simp [argRows, rowsW, Arg.row, rowW, dW, this]
theorem el_W (e : El) : rowW e.row = e.as.length := by
 have h := args_rowsW e.as; simp only [argRows] at h; simp [El.row, rowW, dW, argRows, h]
theorem net_W : ∀ t : Net, rowW t.row + 1 = t.wt
 | .mk k op as ks => by
  have h : ∀ l : List Net, (∀ x ∈ l, rowW x.row + 1 = x.wt) → l.length + rowsW (netRows l) = netsWt l := fun l => by
   induction l with
   | nil => intro _; simp [netRows, rowsW, netsWt]
   | cons x r ih =>
    intro hx; have h1 := hx x (List.mem_cons_self ..); have h2 := ih fun y hy => hx y (List.mem_cons_of_mem _ hy)
    simp only [netRows, rowsW, netsWt, List.length_cons]; omega
  have := h ks fun x _ => net_W x
  have ha := args_rowsW as; have la : (argRows as).length = as.length := by simp [argRows]
  have lk : (netRows ks).length = ks.length := by simp [netRows_map]
  simp only [Net.row, rowW, dW, Net.wt]; omega
theorem nets_W : ∀ l : List Net, l.length + rowsW (netRows l) = netsWt l
 | [] => by simp [netRows, rowsW, netsWt]
 | x :: r => by
  have := nets_W r; have h := net_W x; simp only [netRows, rowsW, netsWt, List.length_cons]; omega
theorem rowX_net (t : Net) : rowX t.row = netX t := by cases t; simp [Net.row]
theorem argRow_len (a : Arg) : a.row.length = 3 := rfl
theorem argRows_all {p : List D → Prop} {l : List Arg} (h : ∀ a ∈ l, p a.row) : ∀ r ∈ argRows l, p r := by
 intro r hr; simp only [argRows, List.mem_map] at hr; obtain ⟨a, ha, rfl⟩ := hr; exact h a ha
theorem netRows_all {p : List D → Prop} {l : List Net} (h : ∀ a ∈ l, p a.row) : ∀ r ∈ netRows l, p r := by
 intro r hr; rw [netRows_map, List.mem_map] at hr; obtain ⟨a, ha, rfl⟩ := hr; exact h a ha
theorem sz_args {n : Nat} (l : List Arg) (hl : l.length < 2 ^ 63) (K : Nat) (hK : K < 2 ^ 40) (s : Sup) : go (n + 1) 236 [.w (asW l), iV K] [] s = some ⟨szV l.length K, [], []⟩ := by
 have := run_szL (f := 236) (n := n) rfl rfl rfl rfl 0 (argRows l) (by simp [argRows]; omega) K hK s; rw [show (argRows l).length = l.length by simp [argRows]] at this; exact this
theorem sz_el {n : Nat} (e : El) (hl : e.as.length < 2 ^ 63) (K : Nat) (hK : K < 2 ^ 40) (s : Sup) : go (n + 2) 226 [elX e, iV K] [] s = some ⟨szV (rowW e.row) K, [], []⟩ := by
 have w := sz_args (n := n) e.as hl K hK; rw [el_W]
 by_cases h : e.as.length ≤ K
 · simp only [szV, if_pos h] at w ⊢
   generalize K - e.as.length = T at w ⊢; have hT : ((T : Int) < 0) = False := eq_false (by omega); simp [go_of FT_226 rfl, F226, w, hT]
 · simp only [szV, if_neg h] at w ⊢
   simp [go_of FT_226 rfl, F226, w]
theorem sz_net : ∀ (m : Nat) (t : Net), t.wt ≤ m → rowFits t.row → ∀ (n : Nat), 2 * m + 4 ≤ n → ∀ (K : Nat), K < 2 ^ 40 → ∀ s, go n 220 [netX t, iV K] [] s = some ⟨szV (rowW t.row) K, [], []⟩
 | 0, t, h, hm, n, hn, K, hK, s => by have := t.wt_pos; omega
 | m + 1, .mk k op as ks, h, hm, n, hn, K, hK, s => by
  obtain ⟨n, rfl⟩ : ∃ k, n = k + 3 := ⟨n - 3, by omega⟩; simp only [Net.wt] at h; simp only [Net.row, rowFits, dFits] at hm; have hlen := netsWt_len ks; have w2 : ∀ K : Nat, K < 2 ^ 40 → ∀ s, go (n + 2) 227 [.w (nsW ks), iV K] [] s = some ⟨szV (netsWt ks) K, [], []⟩ := fun K hK s => by
   have := run_szS (f := 227) (sz := 4) (c := 220) (n := n + 1) rfl rfl rfl rfl rfl 0 rowW (netRows ks) (netRows_all fun a _ => netRow_len a)
    (fun r hr k hk s => by
     have hf := rowsFits_mem hm.2.2.2.1.2 hr; rw [netRows_map, List.mem_map] at hr; obtain ⟨a, ha, rfl⟩ := hr; rw [rowX_net]; exact sz_net m a (by have := netsWt_mem ha; omega) hf (n + 1) (by omega) k hk s) (by have := hm.2.2.2.1.1; omega) (by rw [netRows_map]; simp; omega) K hK s
   rw [← rowsW_map, show (netRows ks).length = ks.length by simp [netRows_map], nets_W] at this; exact this
  have w1 := sz_el (n := n) ⟨op, as⟩ (by have := hm.2.2.1.1; simpa [argRows] using this) K hK; have hW : rowW (Net.row (.mk k op as ks)) = as.length + netsWt ks := by have := net_W (.mk k op as ks); simp only [Net.wt] at this; omega
  rw [hW]; rw [el_W] at w1; simp only at w1
  by_cases h1 : as.length ≤ K
  · simp only [szV, if_pos h1] at w1
    have w2 := w2 (K - as.length) (by omega)
    by_cases h2 : netsWt ks ≤ K - as.length
    · simp only [szV, if_pos h2] at w2
      simp only [szV, if_pos (show as.length + netsWt ks ≤ K by omega)]; rw [show K - (as.length + netsWt ks) = K - as.length - netsWt ks by omega]; generalize K - as.length = T at w1 w2 h2 ⊢; generalize hU : T - netsWt ks = U at w2 ⊢; have hT : ((T : Int) < 0) = False := eq_false (by omega); have hU : ((U : Int) < 0) = False := eq_false (by omega); simp [go_of FT_220 rfl, F220, w1, w2, hT, hU]
    · simp only [szV, if_neg h2] at w2
      simp only [szV, if_neg (show ¬ as.length + netsWt ks ≤ K by omega)]; generalize K - as.length = T at w1 w2 h2; have hT : ((T : Int) < 0) = False := eq_false (by omega); simp [go_of FT_220 rfl, F220, w1, w2, hT]
  · simp only [szV, if_neg h1] at w1
    simp only [szV, if_neg (show ¬ as.length + netsWt ks ≤ K by omega)]; simp [go_of FT_220 rfl, F220, w1]
end Go.VM
