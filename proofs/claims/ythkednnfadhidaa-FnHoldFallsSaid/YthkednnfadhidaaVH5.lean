/- A store that is played, reckoned: the whole. Conditions: none. -/
import Derived.Test.YthkednnfadhidaaVH4
namespace Go.VM
set_option linter.unusedSimpArgs false
set_option linter.unusedVariables false
set_option maxHeartbeats 4000000

theorem RomAt.cells {H : Nat → Box} {g b : Nat} {r : Rom} (h : RomAt H g b r) : ∃ cs, H b = .cells cs ∧ cs.length = 6 ∧ cs.take 6 = cs := by
  cases h <;> exact ⟨_, by assumption, rfl, rfl⟩

theorem run_holdPlay {n : Nat} (r : Rom) (hs : r.small) (sa sb sw : Nat) (l : List Wr) (k : Int) (hn : l.length + 8 ≤ n) (hl : l.length < 2 ^ 62) (s : Sup) :
    go n 12 [.agg (r.v sa sb), .w (wW sw l), .w (.d (.s (.int .i64 k)))] [] s = some ⟨.agg ((r.play l k).v 0 0), [], []⟩ := by
  obtain ⟨n, rfl⟩ : ∃ m, n = m + 4 := ⟨n - 4, by omega⟩
  have C := fun s => run_copyOf (n := n + 3) (by omega) r.am r.at_ r.bm r.bt sa sb r.ra r.rb (room_b hs.1) (room_b hs.2) s
  have main : ∀ (m : Nat) (hm : (max 0 (min k (l.length : Int))).toNat = m), (l.take m).length = m → ∀ st : St, st.τ 7 = .w (.ptr 256 0) → st.τ 18 = .w (wW sw (l.take m)) → st.τ 19 = sV (.int .i64 (l.take m).length) → st.τ 20 = sV (.int .i64 0) →
      st.τ 6 = .w (.ptr 64 0) → 64 < st.g → st.H 64 = .cells (romV 0 0 .nil 0 0 .nil) → RomAt st.H st.g 256 r →
      behindF (andThen (inBlock 0 (execC (go (n + 3)) mode (fun _ => none) false 29 (n + 3) F12_L0 st))
        (execC (go (n + 3)) mode (fun _ => none) false 29 (n + 3) (.seq (.reg [⟨(some 27), .ld true 6 (.t 7), none⟩, ⟨(some 28), .call (.k (.w (.fn 54 []))) [(.t 27)], none⟩, ⟨none, .st 6 (.t 6) (.t 28), none⟩]) .ret)))
        (endF false false 0 [.cell 6 true 6]) = some ⟨.agg ((r.play l k).v 0 0), [], []⟩ := by
    intro m hm hlm st h7 h18 h19 h20 h6 hq hQ hR
    obtain ⟨e, ⟨τ, H, g, q⟩, hx, -, rfl, h7, h6, hq, hQ, hR⟩ := loop12 (n := n + 1) sw (l.take m) (by simp; omega) (by omega) 256 64 r _ st h7 h18 h19 h20 h6 hq (by omega) hQ hR
    simp only at h7 h6 hq hQ hR
    have hp : (l.take m).foldl Rom.doW r = r.play l k := by unfold Rom.play; rw [hm]
    rw [hp] at hR
    obtain ⟨cs, hcs, hc6, hct⟩ := hR.cells
    obtain ⟨⟨v1, H1, t1, w1⟩, he, hv, hA, hB, hK⟩ := copy_call (n := n) (s := subS q 1) (hR.mono (g' := g + 64) (by omega)) (play_small hs l k) cs hcs
    simp only at hv hA hB hK
    subst hv
    have hQ' := hK 64 _ hQ (by omega)
    have e1 : (g + 64 = 64) = False := eq_false (by omega)
    have e2 : (g + 64 + 1 = 64) = False := eq_false (by omega)
    have e3 : (g = 0) = False := eq_false (by omega)
    have e4 : (g + 1 = 0) = False := eq_false (by omega)
    simp [-callV_at, hx, h7, h6, hcs, hc6, hct, he, hQ', hA, hB, e1, e2, e3, e4]
  have hall : ∀ m, ((wrs l).take m).all (fun x => x.length == 3) = true := fun m => by
    simp only [List.all_eq_true]
    intro x hx
    obtain ⟨w, -, rfl⟩ := List.mem_map.1 (List.mem_of_mem_take hx)
    rfl
  have hallp : (∀ x ∈ wrs l, x.length = 3) = True := wrs_all l
  have ht : ∀ m, (wrs l).take m = wrs (l.take m) := fun m => by simp [wrs, List.map_take]
  by_cases c1 : k ≤ 0
  · have hm : (max 0 (min k (l.length : Int))).toNat = 0 := by omega
    have M := main 0 hm (by simp)
    clear main
    by_cases c2 : (l.length : Int) < k
    · omega
    · have c2' := eq_false c2
      have c3 : (0 < k) = False := eq_false (by omega)
      simp [go_of FT_12 rfl, F12, C, c2', c3, hallp]
      generalize hst : St.mk _ _ _ _ = st
      exact M st (by simp [← hst]) (by simp [← hst, wrs]) (by simp [← hst, wrs]) (by simp [← hst]) (by simp [← hst]) (by simp [← hst]) (by simp [← hst])
        (by rw [← hst]; exact .oo 192 (some r.ra.length) 193 (some r.rb.length) (by simp) (by simp) (by simp) (by simp) (by simp) (by simp) (by simp) (by simp) (by simp))
  · have c3 : (0 < k) = True := eq_true (by omega)
    by_cases c2 : (l.length : Int) < k
    · have hm : (max 0 (min k (l.length : Int))).toNat = l.length := by omega
      have M := main l.length hm (by simp)
      clear main
      have c2' := eq_true c2
      rcases (by omega : (0 < l.length) ∨ l.length = 0) with c4 | c4
      · have c4' : (0 < l.length) = True := eq_true (by omega)
        simp [go_of FT_12 rfl, F12, C, c2', c3, c4', hallp]
        generalize hst : St.mk _ _ _ _ = st
        exact M st (by simp [← hst]) (by simp [← hst, List.take_length]) (by simp [← hst, List.take_length]) (by simp [← hst]) (by simp [← hst]) (by simp [← hst]) (by simp [← hst])
          (by rw [← hst]; exact .oo 192 (some r.ra.length) 193 (some r.rb.length) (by simp) (by simp) (by simp) (by simp) (by simp) (by simp) (by simp) (by simp) (by simp))
      · have c4' : l = [] := List.eq_nil_of_length_eq_zero c4
        subst c4'
        simp only [List.length_nil] at c2
        simp [go_of FT_12 rfl, F12, C, c3, wrs]
        generalize hst : St.mk _ _ _ _ = st
        exact M st (by simp [← hst]) (by simp [← hst, wrs]) (by simp [← hst, wrs]) (by simp [← hst]) (by simp [← hst]) (by simp [← hst]) (by simp [← hst])
          (by rw [← hst]; exact .oo 192 (some r.ra.length) 193 (some r.rb.length) (by simp) (by simp) (by simp) (by simp) (by simp) (by simp) (by simp) (by simp) (by simp))
    · obtain ⟨m, rfl⟩ : ∃ m : Nat, k = m := ⟨k.toNat, by omega⟩
      have hm : (max 0 (min (m : Int) (l.length : Int))).toNat = m := by omega
      have hml : m ≤ l.length := by omega
      have M := main m hm (by simp; omega)
      clear main
      have c2' := eq_false c2
      have c2'' : (l.length < m) = False := eq_false (by omega)
      have c4' : (0 < m) = True := eq_true (by omega)
      have hml' := eq_true hml
      have hmm : min m l.length = m := by omega
      simp [go_of FT_12 rfl, F12, C, c2', c2'', c3, c4', hml', hmm, hallp, ht]
      generalize hst : St.mk _ _ _ _ = st
      exact M st (by simp [← hst]) (by simp [← hst, ht, hmm]) (by simp [← hst, ht, hmm]) (by simp [← hst]) (by simp [← hst]) (by simp [← hst]) (by simp [← hst])
        (by rw [← hst]; exact .oo 192 (some r.ra.length) 193 (some r.rb.length) (by simp) (by simp) (by simp) (by simp) (by simp) (by simp) (by simp) (by simp) (by simp))

end Go.VM
