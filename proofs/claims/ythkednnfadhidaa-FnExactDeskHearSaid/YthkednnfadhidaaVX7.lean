/- What a desk hears: words that are ok, reckoned. Conditions: none. -/
import Derived.Test.YthkednnfadhidaaVX5

namespace Go.VM
set_option linter.unusedSimpArgs false
set_option linter.unusedVariables false
set_option maxHeartbeats 8000000

/-- A word is ok. -/
def ChunkOk (of ix n : Int) : Prop := 1 ≤ of ∧ of ≤ 900 ∧ 0 ≤ ix ∧ ix < of ∧ n ≤ 24 ∧ (n = 24 ∨ (ix = of - 1 ∧ 0 < n))
def WordOk (kd nm of ix n : Int) : Prop := (1 ≤ nm ∧ nm ≤ 1000000) ∧ ((kd = 1 ∧ 1 ≤ of ∧ of ≤ 900 ∧ 0 ≤ ix ∧ ix < of ∧ n ≤ 24 ∧ (n = 24 ∨ (ix = of - 1 ∧ 0 < n))) ∨ (kd ≠ 1 ∧ of = 0 ∧ n ≤ 0 ∧ 0 ≤ ix ∧ ix ≤ 900 ∧ (kd = 3 ∨ (2 ≤ kd ∧ kd ≤ 5 ∧ ix = 0))))
instance (kd nm of ix n : Int) : Decidable (WordOk kd nm of ix n) := by unfold WordOk; infer_instance
instance (of ix n : Int) : Decidable (ChunkOk of ix n) := by unfold ChunkOk; infer_instance
theorem len_nil {l : List Int} : ((l.length : Int) = 0) ↔ l = [] := by
  rw [← List.length_eq_zero_iff]; omega

theorem run_chunkS {n : Nat} (hn : 1 ≤ n) (kd nm of ix : Int) (st : Nat) (l : List Int) (b : Bool) (hb : b = true ↔ ChunkOk of ix l.length) (s : Sup) :
    go n 99 [wwD kd nm of ix (bW st l)] [] s = some ⟨sV (.bool b), [], []⟩ := by
  obtain ⟨n, rfl⟩ : ∃ k, n = k + 1 := ⟨n - 1, by omega⟩
  unfold ChunkOk at hb
  have yes := fun h => hb.2 h
  have no : ∀ _ : ¬ _, b = false := fun h => by cases b with | false => rfl | true => exact absurd (hb.1 rfl) h
  have w := fun (h : 1 ≤ of ∧ of ≤ 900) => (wrap_id (by omega) (by omega) : IntKind.wrap .i64 (of - 1) = of - 1)
  by_cases c1 : of < 1
  · have c1' := eq_true c1
    obtain rfl : b = false := no (by omega)
    try replace w := w (by omega)
    simp [go_of FT_99 rfl, F99, w, c1']
  · have c1' := eq_false c1
    by_cases c2 : 900 < of
    · have c2' := eq_true c2
      obtain rfl : b = false := no (by omega)
      try replace w := w (by omega)
      simp [go_of FT_99 rfl, F99, w, c1', c2']
    · have c2' := eq_false c2
      by_cases c3 : ix < 0
      · have c3' := eq_true c3
        obtain rfl : b = false := no (by omega)
        try replace w := w (by omega)
        simp [go_of FT_99 rfl, F99, w, c1', c2', c3']
      · have c3' := eq_false c3
        by_cases c4 : of ≤ ix
        · have c4' := eq_true c4
          obtain rfl : b = false := no (by omega)
          try replace w := w (by omega)
          simp [go_of FT_99 rfl, F99, w, c1', c2', c3', c4']
        · have c4' := eq_false c4
          by_cases c5 : 24 < (l.length : Int)
          · have c5' := eq_true c5
            have c5'' : (24 < l.length) = True := eq_true (by omega)
            obtain rfl : b = false := no (by omega)
            try replace w := w (by omega)
            simp [go_of FT_99 rfl, F99, w, c1', c2', c3', c4', c5', c5'']
          · have c5' := eq_false c5
            have c5'' : (24 < l.length) = False := eq_false (by omega)
            by_cases c6 : (l.length : Int) = 24
            · have c6' := eq_true c6
              have c6'' : (l.length = 24) = True := eq_true (by omega)
              obtain rfl : b = true := yes (by omega)
              try replace w := w (by omega)
              simp [go_of FT_99 rfl, F99, w, c1', c2', c3', c4', c5', c5'', c6', c6'']
            · have c6' := eq_false c6
              have c6'' : (l.length = 24) = False := eq_false (by omega)
              by_cases c7 : ix = of - 1
              · have c7' := eq_true c7
                by_cases c8 : 0 < (l.length : Int)
                · have c8' := eq_true c8
                  have c8'' : (0 < l.length) = True := eq_true (by omega)
                  obtain rfl : b = true := yes (by omega)
                  try replace w := w (by omega)
                  simp [go_of FT_99 rfl, F99, w, c1', c2', c3', c4', c5', c5'', c6', c6'', c7', c8', c8'']
                · have c8' := eq_false c8
                  have c8'' : (0 < l.length) = False := eq_false (by omega)
                  obtain rfl : b = false := no (by omega)
                  try replace w := w (by omega)
                  simp [go_of FT_99 rfl, F99, w, c1', c2', c3', c4', c5', c5'', c6', c6'', c7', c8', c8'']
              · have c7' := eq_false c7
                obtain rfl : b = false := no (by omega)
                try replace w := w (by omega)
                simp [go_of FT_99 rfl, F99, w, c1', c2', c3', c4', c5', c5'', c6', c6'', c7']

theorem run_wordS {n : Nat} (hn : 2 ≤ n) (kd nm of ix : Int) (st : Nat) (l : List Int) (b : Bool) (hb : b = true ↔ WordOk kd nm of ix l.length) (s : Sup) :
    go n 90 [wwD kd nm of ix (bW st l)] [] s = some ⟨sV (.bool b), [], []⟩ := by
  obtain ⟨n, rfl⟩ : ∃ k, n = k + 1 := ⟨n - 1, by omega⟩
  have Q := fun h s => run_chunkS (n := n) (by omega) kd nm of ix st l b h s
  unfold WordOk at hb
  have yes := fun h => hb.2 h
  have no : ∀ _ : ¬ _, b = false := fun h => by cases b with | false => rfl | true => exact absurd (hb.1 rfl) h
  by_cases c9 : nm < 1
  · have c9' := eq_true c9
    obtain rfl : b = false := no (by omega)
    simp [go_of FT_90 rfl, F90, c9']
  · have c9' := eq_false c9
    by_cases c10 : 1000000 < nm
    · have c10' := eq_true c10
      obtain rfl : b = false := no (by omega)
      simp [go_of FT_90 rfl, F90, c9', c10']
    · have c10' := eq_false c10
      by_cases c11 : kd = 1
      · have c11' := eq_true c11
        have Q := Q ⟨fun h => by have := hb.1 h; unfold ChunkOk; omega, fun h => yes (by unfold ChunkOk at h; omega)⟩
        simp [go_of FT_90 rfl, F90, Q, c9', c10', c11']
      · have c11' := eq_false c11
        by_cases c12 : of = 0
        · have c12' := eq_true c12
          by_cases c13 : 0 < (l.length : Int)
          · have c13' := eq_true c13
            have c13'' : (0 < l.length) = True := eq_true (by omega)
            obtain rfl : b = false := no (by omega)
            simp [go_of FT_90 rfl, F90, c9', c10', c11', c12', c13', c13'']
          · have c13' := eq_false c13
            have c13'' : (0 < l.length) = False := eq_false (by omega)
            by_cases c14 : ix < 0
            · have c14' := eq_true c14
              obtain rfl : b = false := no (by omega)
              simp [go_of FT_90 rfl, F90, c9', c10', c11', c12', c13', c13'', c14']
            · have c14' := eq_false c14
              by_cases c15 : 900 < ix
              · have c15' := eq_true c15
                obtain rfl : b = false := no (by omega)
                simp [go_of FT_90 rfl, F90, c9', c10', c11', c12', c13', c13'', c14', c15']
              · have c15' := eq_false c15
                by_cases c16 : kd = 3
                · have c16' := eq_true c16
                  obtain rfl : b = true := yes (by omega)
                  simp [go_of FT_90 rfl, F90, c9', c10', c11', c12', c13', c13'', c14', c15', c16']
                · have c16' := eq_false c16
                  by_cases c17 : 2 ≤ kd
                  · have c17' := eq_true c17
                    by_cases c18 : kd ≤ 5
                    · have c18' := eq_true c18
                      by_cases c19 : ix = 0
                      · have c19' := eq_true c19
                        obtain rfl : b = true := yes (by omega)
                        simp [go_of FT_90 rfl, F90, c9', c10', c11', c12', c13', c13'', c14', c15', c16', c17', c18', c19']
                      · have c19' := eq_false c19
                        obtain rfl : b = false := no (by omega)
                        simp [go_of FT_90 rfl, F90, c9', c10', c11', c12', c13', c13'', c14', c15', c16', c17', c18', c19']
                    · have c18' := eq_false c18
                      obtain rfl : b = false := no (by omega)
                      simp [go_of FT_90 rfl, F90, c9', c10', c11', c12', c13', c13'', c14', c15', c16', c17', c18']
                  · have c17' := eq_false c17
                    obtain rfl : b = false := no (by omega)
                    simp [go_of FT_90 rfl, F90, c9', c10', c11', c12', c13', c13'', c14', c15', c16', c17']
        · have c12' := eq_false c12
          obtain rfl : b = false := no (by omega)
          simp [go_of FT_90 rfl, F90, c9', c10', c11', c12']

theorem run_wordI {n : Nat} (hn : 4 ≤ n) (kd nm of ix : Int) (st : Nat) (l : List Int) (b : Bool) (hb : b = true ↔ WordOk kd nm of ix l.length) (s : Sup) :
    go n 100 [wwD kd nm of ix (bW st l)] [] s = some ⟨sV (.bool b), [], []⟩ := by
  obtain ⟨n, rfl⟩ : ∃ k, n = k + 2 := ⟨n - 2, by omega⟩
  have Q := fun a lo hi s => run_within (n := n + 1) (by omega) a lo hi s
  have Q' := fun a lo hi s => run_within (n := n) (by omega) a lo hi s
  have ln := @len_nil l
  have ln0 := @List.length_eq_zero_iff Int l
  have w := fun (h : 1 ≤ of ∧ of ≤ 900) => (wrap_id (by omega) (by omega) : IntKind.wrap .i64 (of - 1) = of - 1)
  unfold WordOk at hb
  have yes := fun h => hb.2 h
  have no : ∀ _ : ¬ _, b = false := fun h => by cases b with | false => rfl | true => exact absurd (hb.1 rfl) h
  by_cases c20 : 1 ≤ kd
  · have c20' := eq_true c20
    by_cases c21 : kd ≤ 5
    · have c21' := eq_true c21
      by_cases c22 : 1 ≤ nm
      · have c22' := eq_true c22
        by_cases c23 : nm ≤ 1000000
        · have c23' := eq_true c23
          by_cases c24 : kd = 1
          · have c24' := eq_true c24
            by_cases c25 : 1 ≤ of
            · have c25' := eq_true c25
              by_cases c26 : of ≤ 900
              · have c26' := eq_true c26
                by_cases c27 : 0 ≤ ix
                · have c27' := eq_true c27
                  by_cases c28 : ix ≤ of - 1
                  · have c28' := eq_true c28
                    by_cases c29 : (l.length : Int) = 24
                    · have c29' := eq_true c29
                      have c29'' : (l.length = 24) = True := eq_true (by omega)
                      obtain rfl : b = true := yes (by omega)
                      try replace w := w (by omega)
                      simp [go_of FT_100 rfl, F100, go_of FT_101 rfl, F101, Q, Q', w, c20', c21', c22', c23', c24', c25', c26', c27', c28', c29', c29'']
                    · have c29' := eq_false c29
                      have c29'' : (l.length = 24) = False := eq_false (by omega)
                      by_cases c30 : ix = of - 1
                      · have c30' := eq_true c30
                        by_cases c31 : 1 ≤ (l.length : Int)
                        · have c31' := eq_true c31
                          have c31'' : (1 ≤ l.length) = True := eq_true (by omega)
                          by_cases c32 : (l.length : Int) ≤ 24
                          · have c32' := eq_true c32
                            have c32'' : (l.length ≤ 24) = True := eq_true (by omega)
                            obtain rfl : b = true := yes (by omega)
                            try replace w := w (by omega)
                            simp [go_of FT_100 rfl, F100, go_of FT_101 rfl, F101, Q, Q', w, c20', c21', c22', c23', c24', c25', c26', c27', c28', c29', c29'', c30', c31', c31'', c32', c32'']
                          · have c32' := eq_false c32
                            have c32'' : (l.length ≤ 24) = False := eq_false (by omega)
                            obtain rfl : b = false := no (by omega)
                            try replace w := w (by omega)
                            simp [go_of FT_100 rfl, F100, go_of FT_101 rfl, F101, Q, Q', w, c20', c21', c22', c23', c24', c25', c26', c27', c28', c29', c29'', c30', c31', c31'', c32', c32'']
                        · have c31' := eq_false c31
                          have c31'' : (1 ≤ l.length) = False := eq_false (by omega)
                          obtain rfl : b = false := no (by omega)
                          try replace w := w (by omega)
                          simp [go_of FT_100 rfl, F100, go_of FT_101 rfl, F101, Q, Q', w, c20', c21', c22', c23', c24', c25', c26', c27', c28', c29', c29'', c30', c31', c31'']
                      · have c30' := eq_false c30
                        obtain rfl : b = false := no (by omega)
                        try replace w := w (by omega)
                        simp [go_of FT_100 rfl, F100, go_of FT_101 rfl, F101, Q, Q', w, c20', c21', c22', c23', c24', c25', c26', c27', c28', c29', c29'', c30']
                  · have c28' := eq_false c28
                    obtain rfl : b = false := no (by omega)
                    try replace w := w (by omega)
                    simp [go_of FT_100 rfl, F100, go_of FT_101 rfl, F101, Q, Q', w, c20', c21', c22', c23', c24', c25', c26', c27', c28']
                · have c27' := eq_false c27
                  obtain rfl : b = false := no (by omega)
                  try replace w := w (by omega)
                  simp [go_of FT_100 rfl, F100, go_of FT_101 rfl, F101, Q, Q', w, c20', c21', c22', c23', c24', c25', c26', c27']
              · have c26' := eq_false c26
                obtain rfl : b = false := no (by omega)
                try replace w := w (by omega)
                simp [go_of FT_100 rfl, F100, go_of FT_101 rfl, F101, Q, Q', w, c20', c21', c22', c23', c24', c25', c26']
            · have c25' := eq_false c25
              obtain rfl : b = false := no (by omega)
              try replace w := w (by omega)
              simp [go_of FT_100 rfl, F100, go_of FT_101 rfl, F101, Q, Q', w, c20', c21', c22', c23', c24', c25']
          · have c24' := eq_false c24
            by_cases c33 : kd = 3
            · have c33' := eq_true c33
              by_cases c34 : of = 0
              · have c34' := eq_true c34
                by_cases c35 : (l.length : Int) = 0
                · have c35' := eq_true c35
                  have c35'' : (l = []) = True := eq_true (ln.1 c35)
                  by_cases c36 : 0 ≤ ix
                  · have c36' := eq_true c36
                    by_cases c37 : ix ≤ 900
                    · have c37' := eq_true c37
                      obtain rfl : b = true := yes (by omega)
                      try replace w := w (by omega)
                      simp [go_of FT_100 rfl, F100, go_of FT_101 rfl, F101, Q, Q', w, c20', c21', c22', c23', c24', c33', c34', c35', c35'', c36', c37']
                    · have c37' := eq_false c37
                      obtain rfl : b = false := no (by omega)
                      try replace w := w (by omega)
                      simp [go_of FT_100 rfl, F100, go_of FT_101 rfl, F101, Q, Q', w, c20', c21', c22', c23', c24', c33', c34', c35', c35'', c36', c37']
                  · have c36' := eq_false c36
                    obtain rfl : b = false := no (by omega)
                    try replace w := w (by omega)
                    simp [go_of FT_100 rfl, F100, go_of FT_101 rfl, F101, Q, Q', w, c20', c21', c22', c23', c24', c33', c34', c35', c35'', c36']
                · have c35' := eq_false c35
                  have c35'' : (l = []) = False := eq_false (fun h => c35 (ln.2 h))
                  obtain rfl : b = false := no (by omega)
                  try replace w := w (by omega)
                  simp [go_of FT_100 rfl, F100, go_of FT_101 rfl, F101, Q, Q', w, c20', c21', c22', c23', c24', c33', c34', c35', c35'']
              · have c34' := eq_false c34
                obtain rfl : b = false := no (by omega)
                try replace w := w (by omega)
                simp [go_of FT_100 rfl, F100, go_of FT_101 rfl, F101, Q, Q', w, c20', c21', c22', c23', c24', c33', c34']
            · have c33' := eq_false c33
              by_cases c38 : of = 0
              · have c38' := eq_true c38
                by_cases c39 : (l.length : Int) = 0
                · have c39' := eq_true c39
                  have c39'' : (l = []) = True := eq_true (ln.1 c39)
                  by_cases c40 : 0 ≤ ix
                  · have c40' := eq_true c40
                    by_cases c41 : ix ≤ 0
                    · have c41' := eq_true c41
                      obtain rfl : b = true := yes (by omega)
                      try replace w := w (by omega)
                      simp [go_of FT_100 rfl, F100, go_of FT_101 rfl, F101, Q, Q', w, c20', c21', c22', c23', c24', c33', c38', c39', c39'', c40', c41']
                    · have c41' := eq_false c41
                      obtain rfl : b = false := no (by omega)
                      try replace w := w (by omega)
                      simp [go_of FT_100 rfl, F100, go_of FT_101 rfl, F101, Q, Q', w, c20', c21', c22', c23', c24', c33', c38', c39', c39'', c40', c41']
                  · have c40' := eq_false c40
                    obtain rfl : b = false := no (by omega)
                    try replace w := w (by omega)
                    simp [go_of FT_100 rfl, F100, go_of FT_101 rfl, F101, Q, Q', w, c20', c21', c22', c23', c24', c33', c38', c39', c39'', c40']
                · have c39' := eq_false c39
                  have c39'' : (l = []) = False := eq_false (fun h => c39 (ln.2 h))
                  obtain rfl : b = false := no (by omega)
                  try replace w := w (by omega)
                  simp [go_of FT_100 rfl, F100, go_of FT_101 rfl, F101, Q, Q', w, c20', c21', c22', c23', c24', c33', c38', c39', c39'']
              · have c38' := eq_false c38
                obtain rfl : b = false := no (by omega)
                try replace w := w (by omega)
                simp [go_of FT_100 rfl, F100, go_of FT_101 rfl, F101, Q, Q', w, c20', c21', c22', c23', c24', c33', c38']
        · have c23' := eq_false c23
          obtain rfl : b = false := no (by omega)
          try replace w := w (by omega)
          simp [go_of FT_100 rfl, F100, go_of FT_101 rfl, F101, Q, Q', w, c20', c21', c22', c23']
      · have c22' := eq_false c22
        obtain rfl : b = false := no (by omega)
        try replace w := w (by omega)
        simp [go_of FT_100 rfl, F100, go_of FT_101 rfl, F101, Q, Q', w, c20', c21', c22']
    · have c21' := eq_false c21
      obtain rfl : b = false := no (by omega)
      try replace w := w (by omega)
      simp [go_of FT_100 rfl, F100, go_of FT_101 rfl, F101, Q, Q', w, c20', c21']
  · have c20' := eq_false c20
    obtain rfl : b = false := no (by omega)
    try replace w := w (by omega)
    simp [go_of FT_100 rfl, F100, go_of FT_101 rfl, F101, Q, Q', w, c20']

end Go.VM
