/- The laws' own helpers over ladders: copies, and that what is the same is told to be. Conditions: none. -/
import Derived.Test.YtcjdokngpmnkjaaDoorVLX

namespace Go.VM
set_option linter.unusedSimpArgs false
set_option linter.unusedVariables false
set_option maxHeartbeats 4000000

theorem to_arg {n : Nat} (a : Arg) (s : Sup) : go (n + 1) 241 [argX a] [] s = some ⟨argX a, [], []⟩ := by
  simp [go_of FT_241 rfl, F241]
theorem to_args {n : Nat} (l : List Arg) (hn : l.length + 3 ≤ n) (hl : l.length < 2 ^ 30) (s : Sup) : go n 237 [.w (asW l)] [] s = some ⟨.w (asW l), [], []⟩ := by
  obtain ⟨n, rfl⟩ : ∃ k, n = k + 2 := ⟨n - 2, by omega⟩
  have := run_toS (f := 237) (sz := 3) (bytes := 24) (zero := [iD 0, iD 0, iD 0]) (c := 241) (n := n + 1) rfl rfl rfl rfl rfl rfl 0 (fun r => r) (argRows l) (argRows_all fun a _ => argRow_len a) (argRows_all fun a _ => argRow_len a)
    (argRows_all fun a _ s => to_arg a s) (by omega) (by simp [argRows]; omega) (by simp [argRows]; omega) s
  rw [List.map_id'] at this
  exact this
theorem to_el {n : Nat} (e : El) (hn : e.as.length + 4 ≤ n) (hl : e.as.length < 2 ^ 30) (s : Sup) : go n 228 [elX e] [] s = some ⟨elX e, [], []⟩ := by
  obtain ⟨n, rfl⟩ : ∃ k, n = k + 1 := ⟨n - 1, by omega⟩
  have w := to_args (n := n) e.as (by omega) hl
  simp [go_of FT_228 rfl, F228, w]
theorem to_els {n : Nat} (l : List El) (hn : elsWt l + 6 ≤ n) (hl : elsWt l < 2 ^ 30) (s : Sup) : go n 252 [.w (csW l)] [] s = some ⟨.w (csW l), [], []⟩ := by
  obtain ⟨n, rfl⟩ : ∃ k, n = k + 2 := ⟨n - 2, by omega⟩
  have hlen := elsWt_len l
  have := run_toS (f := 252) (sz := 2) (bytes := 32) (zero := [iD 0, .l 0 []]) (c := 228) (n := n + 1) rfl rfl rfl rfl rfl rfl 0 (fun r => r) (elRows l) (elRows_all fun a _ => elRow_len a) (elRows_all fun a _ => elRow_len a)
    (elRows_all fun a ha s => to_el a (by have := elsWt_mem ha; simp only [El.wt] at this; omega) (by have := elsWt_mem ha; simp only [El.wt] at this; omega) s) (by omega) (by simp [elRows]; omega) (by simp [elRows]; omega) s
  rw [List.map_id'] at this
  exact this
theorem to_net : ∀ (m : Nat) (t : Net), t.wt ≤ m → m < 2 ^ 30 → ∀ (n : Nat), 2 * m + 6 ≤ n → ∀ s, go n 221 [netX t] [] s = some ⟨netX t, [], []⟩
  | 0, t, h, hm, n, hn, s => by have := t.wt_pos; omega
  | m + 1, .mk k op as ks, h, hm, n, hn, s => by
    obtain ⟨n, rfl⟩ : ∃ k, n = k + 3 := ⟨n - 3, by omega⟩
    simp only [Net.wt] at h
    have hlen := netsWt_len ks
    have w2 : ∀ s, go (n + 2) 229 [.w (nsW ks)] [] s = some ⟨.w (nsW ks), [], []⟩ := fun s => by
      have := run_toS (f := 229) (sz := 4) (bytes := 64) (zero := [iD 0, iD 0, .l 0 [], .l 0 []]) (c := 221) (n := n + 1) rfl rfl rfl rfl rfl rfl 0 (fun r => r) (netRows ks) (netRows_all fun a _ => netRow_len a) (netRows_all fun a _ => netRow_len a)
        (netRows_all fun a ha s => by rw [rowX_net]; exact to_net m a (by have := netsWt_mem ha; omega) (by omega) (n + 1) (by omega) s) (by omega) (by rw [netRows_map]; simp; omega) (by rw [netRows_map]; simp; omega) s
      rw [List.map_id'] at this
      exact this
    have w1 := to_el (n := n + 2) ⟨op, as⟩ (by simp only; omega) (by simp only; omega)
    simp [go_of FT_221 rfl, F221, w1, w2]
theorem to_arms : ∀ (m : Nat) (l : List Arm), armsWt l ≤ m → m < 2 ^ 29 → ∀ (n : Nat), 2 * m + 16 ≤ n → ∀ s, go n 245 [.w (ksW l)] [] s = some ⟨.w (ksW l), [], []⟩
  | m, l, h, hm, n, hn, s => by
    obtain ⟨n, rfl⟩ : ∃ k, n = k + 3 := ⟨n - 3, by omega⟩
    have hlen := armsWt_len l
    have key : ∀ a ∈ l, ∀ s, go (n + 2) 249 [armX a] [] s = some ⟨armX a, [], []⟩ := fun a ha s => by
      have hwa := armsWt_mem ha
      obtain ⟨⟨nk, op, as, nks⟩, cs, ks⟩ := a
      have hnp := (Net.mk nk op as nks).wt_pos
      simp only [Arm.wt] at hwa
      have hdec : m - 1 < m := by omega
      have w1 := to_net m (.mk nk op as nks) (by omega) (by omega) (n + 1) (by omega)
      have w2 := to_els (n := n + 1) cs (by omega) (by omega)
      have w3 := to_arms (m - 1) ks (by omega) (by omega) (n + 1) (by omega)
      simp [go_of FT_249 rfl, F249, w1, w2, w3]
    have := run_toS (f := 245) (sz := 6) (bytes := 112) (zero := [iD 0, iD 0, .l 0 [], .l 0 [], .l 0 [], .l 0 []]) (c := 249) (n := n + 2) rfl rfl rfl rfl rfl rfl 0 (fun r => r) (armRows l) (armRows_all fun a _ => armRow_len a) (armRows_all fun a _ => armRow_len a)
      (armRows_all fun a ha s => by rw [rowX_arm]; exact key a ha s) (by omega) (by rw [armRows_map]; simp; omega) (by rw [armRows_map]; simp; omega) s
    rw [List.map_id'] at this
    exact this
termination_by m => m
decreasing_by exact hdec

/-! what is the same is told to be -/
theorem same_arg {n : Nat} (a : Arg) (s : Sup) : go (n + 1) 242 [argX a, argX a] [] s = some ⟨bV true, [], []⟩ := by
  simp [go_of FT_242 rfl, F242]
theorem same_args {n : Nat} (l : List Arg) (hn : l.length + 3 ≤ n) (hl : l.length < 2 ^ 30) (s : Sup) : go n 238 [.w (asW l), .w (asW l)] [] s = some ⟨bV true, [], []⟩ := by
  obtain ⟨n, rfl⟩ : ∃ k, n = k + 2 := ⟨n - 2, by omega⟩
  exact run_eqT (f := 238) (sz := 3) (c := 242) (n := n + 1) rfl rfl rfl rfl rfl 0 0 (argRows l) (argRows l) rfl (argRows_all fun a _ => argRow_len a) (argRows_all fun a _ => argRow_len a)
    (fun i r r' h1 h2 s => by rw [h1] at h2; cases h2; exact argRows_all (p := fun r => go (n + 1) 242 [rowX r, rowX r] [] s = some ⟨bV true, [], []⟩) (fun a _ => same_arg a s) r (List.mem_of_getElem? h1)) (by simp [argRows]; omega) (by simp [argRows]; omega) s
theorem same_el {n : Nat} (e : El) (hn : e.as.length + 4 ≤ n) (hl : e.as.length < 2 ^ 30) (s : Sup) : go n 230 [elX e, elX e] [] s = some ⟨bV true, [], []⟩ := by
  obtain ⟨n, rfl⟩ : ∃ k, n = k + 1 := ⟨n - 1, by omega⟩
  have w := same_args (n := n) e.as (by omega) hl
  simp [go_of FT_230 rfl, F230, w]
theorem same_els {n : Nat} (l : List El) (hn : elsWt l + 6 ≤ n) (hl : elsWt l < 2 ^ 30) (s : Sup) : go n 253 [.w (csW l), .w (csW l)] [] s = some ⟨bV true, [], []⟩ := by
  obtain ⟨n, rfl⟩ : ∃ k, n = k + 2 := ⟨n - 2, by omega⟩
  have hlen := elsWt_len l
  exact run_eqT (f := 253) (sz := 2) (c := 230) (n := n + 1) rfl rfl rfl rfl rfl 0 0 (elRows l) (elRows l) rfl (elRows_all fun a _ => elRow_len a) (elRows_all fun a _ => elRow_len a)
    (fun i r r' h1 h2 s => by rw [h1] at h2; cases h2; exact elRows_all (p := fun r => go (n + 1) 230 [rowX r, rowX r] [] s = some ⟨bV true, [], []⟩) (fun a ha => same_el a (by have := elsWt_mem ha; simp only [El.wt] at this; omega) (by have := elsWt_mem ha; simp only [El.wt] at this; omega) s) r (List.mem_of_getElem? h1)) (by simp [elRows]; omega) (by simp [elRows]; omega) s
theorem same_net : ∀ (m : Nat) (t : Net), t.wt ≤ m → m < 2 ^ 30 → ∀ (n : Nat), 2 * m + 6 ≤ n → ∀ s, go n 223 [netX t, netX t] [] s = some ⟨bV true, [], []⟩
  | 0, t, h, hm, n, hn, s => by have := t.wt_pos; omega
  | m + 1, .mk k op as ks, h, hm, n, hn, s => by
    obtain ⟨n, rfl⟩ : ∃ k, n = k + 3 := ⟨n - 3, by omega⟩
    simp only [Net.wt] at h
    have hlen := netsWt_len ks
    have w2 : ∀ s, go (n + 2) 231 [.w (nsW ks), .w (nsW ks)] [] s = some ⟨bV true, [], []⟩ := fun s =>
      run_eqT (f := 231) (sz := 4) (c := 223) (n := n + 1) rfl rfl rfl rfl rfl 0 0 (netRows ks) (netRows ks) rfl (netRows_all fun a _ => netRow_len a) (netRows_all fun a _ => netRow_len a)
        (fun i r r' h1 h2 s => by rw [h1] at h2; cases h2; exact netRows_all (p := fun r => go (n + 1) 223 [rowX r, rowX r] [] s = some ⟨bV true, [], []⟩) (fun a ha => by rw [rowX_net]; exact same_net m a (by have := netsWt_mem ha; omega) (by omega) (n + 1) (by omega) s) r (List.mem_of_getElem? h1)) (by rw [netRows_map]; simp; omega) (by rw [netRows_map]; simp; omega) s
    have w1 := same_el (n := n + 2) ⟨op, as⟩ (by simp only; omega) (by simp only; omega)
    simp [go_of FT_223 rfl, F223, w1, w2]
theorem same_arms : ∀ (m : Nat) (l : List Arm), armsWt l ≤ m → m < 2 ^ 29 → ∀ (n : Nat), 2 * m + 16 ≤ n → ∀ s, go n 247 [.w (ksW l), .w (ksW l)] [] s = some ⟨bV true, [], []⟩
  | m, l, h, hm, n, hn, s => by
    obtain ⟨n, rfl⟩ : ∃ k, n = k + 3 := ⟨n - 3, by omega⟩
    have hlen := armsWt_len l
    have key : ∀ a ∈ l, ∀ s, go (n + 2) 250 [armX a, armX a] [] s = some ⟨bV true, [], []⟩ := fun a ha s => by
      have hwa := armsWt_mem ha
      obtain ⟨⟨nk, op, as, nks⟩, cs, ks⟩ := a
      have hnp := (Net.mk nk op as nks).wt_pos
      simp only [Arm.wt] at hwa
      have hdec : m - 1 < m := by omega
      have w1 := same_net m (.mk nk op as nks) (by omega) (by omega) (n + 1) (by omega)
      have w2 := same_els (n := n + 1) cs (by omega) (by omega)
      have w3 := same_arms (m - 1) ks (by omega) (by omega) (n + 1) (by omega)
      simp [go_of FT_250 rfl, F250, w1, w2, w3]
    exact run_eqT (f := 247) (sz := 6) (c := 250) (n := n + 2) rfl rfl rfl rfl rfl 0 0 (armRows l) (armRows l) rfl (armRows_all fun a _ => armRow_len a) (armRows_all fun a _ => armRow_len a)
      (fun i r r' h1 h2 s => by rw [h1] at h2; cases h2; exact armRows_all (p := fun r => go (n + 2) 250 [rowX r, rowX r] [] s = some ⟨bV true, [], []⟩) (fun a ha => by rw [rowX_arm]; exact key a ha s) r (List.mem_of_getElem? h1)) (by rw [armRows_map]; simp; omega) (by rw [armRows_map]; simp; omega) s
termination_by m => m
decreasing_by exact hdec
end Go.VM
