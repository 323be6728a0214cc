/- heap.wrong. -/
import Derived.Test.YteghhajfkdbcdaaHpA
import Derived.Test.YteghhajfkdbcdaaWkA
namespace Go.Proofs.Yteghhajfkdbcdaa
open Go.RowKit
set_option linter.unusedVariables false
set_option linter.unusedSimpArgs false

def wrongD (d : Dl) : Int :=
  if ¬ (1 ≤ d.kind ∧ d.kind ≤ 7) then 5
  else if (d.kind ≠ 7 ∧ offR d.tgt = true) ∨ (d.kind ≠ 1 ∧ d.kind ≠ 2 ∧ offR d.src = true) then 2
  else if d.kind = 1 ∧ (d.n < 0 ∨ 4 < d.n) then 3
  else if d.kind = 2 ∧ (d.n < -4611686018427387904 ∨ 4611686018427387903 < d.n) then 3
  else 0

set_option maxRecDepth 20000 in
set_option maxHeartbeats 2000000 in
theorem wrong_any (w : World) (k t s f n : Int) :
    Calls Try.prog 87 #[.agg #[.int .i64 k, .int .i64 t, .int .i64 s, .int .i64 f, .int .i64 n]] w fun e w' => e = .returned (.int .i64 (wrongD ⟨k, t, s, f, n⟩)) ∧ Below w.heap.size w w' := by
  by_cases hk : 1 ≤ k ∧ k ≤ 7
  · have hk7 : k = 1 ∨ k = 2 ∨ k = 3 ∨ k = 4 ∨ k = 5 ∨ k = 6 ∨ k = 7 := by omega
    have hw0 : (w.alloc (.cells #[.int .i64 k, .int .i64 t, .int .i64 s, .int .i64 f, .int .i64 n] 88)).heap[w.heap.size]? = some (.cells #[.int .i64 k, .int .i64 t, .int .i64 s, .int .i64 f, .int .i64 n] 88 (0, 0)) := heap_alloc_new _ _
    have HW0 := Lib.hid hw0
    clear hw0 hk
    generalize ho : offR t = ot
    have Ho := Lib.hid ho
    clear ho
    generalize hs : offR s = os
    have Hs := Lib.hid hs
    clear hs
    rcases hk7 with rfl | rfl | rfl | rfl | rfl | rfl | rfl
    · cases ot
      · by_cases n0 : n < 0
        · have d0 : decide (n < 0) = true := by simpa using n0
          go_enter Try.func87, Try.ntmps87
          go_wp2_with (first | (go_at_call 123; refine (known_any _ _ _ _ _ _).mono ?_; rintro e w2 ⟨rfl, hB2⟩; have x0 := blk_below hB2 HW0.out; have y0 := cell_blk (j := 0) x0 rfl; have y1 := cell_blk (j := 1) x0 rfl; have y2 := cell_blk (j := 2) x0 rfl; have y4 := cell_blk (j := 4) x0 rfl; have hlw := lt_blk x0; have hb2 := ((Below.refl w.heap.size w).alloc (Nat.le_refl _) (.cells #[.int .i64 1, .int .i64 t, .int .i64 s, .int .i64 f, .int .i64 n] 88)).trans (hB2.mono (by simp))) | (go_at_call 124; refine (there_any (w2.alloc (.cells #[.int .i64 t] 3)) w2.heap.size t (by simp [go_sem])).mono ?_; rintro e w3 ⟨rfl, rfl⟩; rw [Ho.out]) | (go_at_call 124; refine (there_any (w2.alloc (.cells #[.int .i64 s] 3)) w2.heap.size s (by simp [go_sem])).mono ?_; rintro e w4 ⟨rfl, rfl⟩; rw [Hs.out]) | (go_at_call 124; refine (there_any ((w2.alloc (.cells #[.int .i64 t] 3)).alloc (.cells #[.int .i64 s] 3)) (w2.heap.size + 1) s (by simp [go_sem])).mono ?_; rintro e w4 ⟨rfl, rfl⟩; rw [Hs.out]))
          go_ret
          exact ⟨ret_int (by simp [wrongD, Ho.out, Hs.out, n0]), by (first | exact hb2 | exact hb2.alloc hb2.size _ | exact (hb2.alloc hb2.size _).alloc (by have := hb2.size; simp; omega) _)⟩
        · have d0 : decide (n < 0) = false := by simpa using n0
          by_cases n1 : 4 < n
          · have d1 : decide (4 < n) = true := by simpa using n1
            go_enter Try.func87, Try.ntmps87
            go_wp2_with (first | (go_at_call 123; refine (known_any _ _ _ _ _ _).mono ?_; rintro e w2 ⟨rfl, hB2⟩; have x0 := blk_below hB2 HW0.out; have y0 := cell_blk (j := 0) x0 rfl; have y1 := cell_blk (j := 1) x0 rfl; have y2 := cell_blk (j := 2) x0 rfl; have y4 := cell_blk (j := 4) x0 rfl; have hlw := lt_blk x0; have hb2 := ((Below.refl w.heap.size w).alloc (Nat.le_refl _) (.cells #[.int .i64 1, .int .i64 t, .int .i64 s, .int .i64 f, .int .i64 n] 88)).trans (hB2.mono (by simp))) | (go_at_call 124; refine (there_any (w2.alloc (.cells #[.int .i64 t] 3)) w2.heap.size t (by simp [go_sem])).mono ?_; rintro e w3 ⟨rfl, rfl⟩; rw [Ho.out]) | (go_at_call 124; refine (there_any (w2.alloc (.cells #[.int .i64 s] 3)) w2.heap.size s (by simp [go_sem])).mono ?_; rintro e w4 ⟨rfl, rfl⟩; rw [Hs.out]) | (go_at_call 124; refine (there_any ((w2.alloc (.cells #[.int .i64 t] 3)).alloc (.cells #[.int .i64 s] 3)) (w2.heap.size + 1) s (by simp [go_sem])).mono ?_; rintro e w4 ⟨rfl, rfl⟩; rw [Hs.out]))
            go_ret
            exact ⟨ret_int (by simp [wrongD, Ho.out, Hs.out, n0, n1]), by (first | exact hb2 | exact hb2.alloc hb2.size _ | exact (hb2.alloc hb2.size _).alloc (by have := hb2.size; simp; omega) _)⟩
          · have d1 : decide (4 < n) = false := by simpa using n1
            go_enter Try.func87, Try.ntmps87
            go_wp2_with (first | (go_at_call 123; refine (known_any _ _ _ _ _ _).mono ?_; rintro e w2 ⟨rfl, hB2⟩; have x0 := blk_below hB2 HW0.out; have y0 := cell_blk (j := 0) x0 rfl; have y1 := cell_blk (j := 1) x0 rfl; have y2 := cell_blk (j := 2) x0 rfl; have y4 := cell_blk (j := 4) x0 rfl; have hlw := lt_blk x0; have hb2 := ((Below.refl w.heap.size w).alloc (Nat.le_refl _) (.cells #[.int .i64 1, .int .i64 t, .int .i64 s, .int .i64 f, .int .i64 n] 88)).trans (hB2.mono (by simp))) | (go_at_call 124; refine (there_any (w2.alloc (.cells #[.int .i64 t] 3)) w2.heap.size t (by simp [go_sem])).mono ?_; rintro e w3 ⟨rfl, rfl⟩; rw [Ho.out]) | (go_at_call 124; refine (there_any (w2.alloc (.cells #[.int .i64 s] 3)) w2.heap.size s (by simp [go_sem])).mono ?_; rintro e w4 ⟨rfl, rfl⟩; rw [Hs.out]) | (go_at_call 124; refine (there_any ((w2.alloc (.cells #[.int .i64 t] 3)).alloc (.cells #[.int .i64 s] 3)) (w2.heap.size + 1) s (by simp [go_sem])).mono ?_; rintro e w4 ⟨rfl, rfl⟩; rw [Hs.out]))
            go_ret
            exact ⟨ret_int (by simp [wrongD, Ho.out, Hs.out, n0, n1]), by (first | exact hb2 | exact hb2.alloc hb2.size _ | exact (hb2.alloc hb2.size _).alloc (by have := hb2.size; simp; omega) _)⟩
      · go_enter Try.func87, Try.ntmps87
        go_wp2_with (first | (go_at_call 123; refine (known_any _ _ _ _ _ _).mono ?_; rintro e w2 ⟨rfl, hB2⟩; have x0 := blk_below hB2 HW0.out; have y0 := cell_blk (j := 0) x0 rfl; have y1 := cell_blk (j := 1) x0 rfl; have y2 := cell_blk (j := 2) x0 rfl; have y4 := cell_blk (j := 4) x0 rfl; have hlw := lt_blk x0; have hb2 := ((Below.refl w.heap.size w).alloc (Nat.le_refl _) (.cells #[.int .i64 1, .int .i64 t, .int .i64 s, .int .i64 f, .int .i64 n] 88)).trans (hB2.mono (by simp))) | (go_at_call 124; refine (there_any (w2.alloc (.cells #[.int .i64 t] 3)) w2.heap.size t (by simp [go_sem])).mono ?_; rintro e w3 ⟨rfl, rfl⟩; rw [Ho.out]) | (go_at_call 124; refine (there_any (w2.alloc (.cells #[.int .i64 s] 3)) w2.heap.size s (by simp [go_sem])).mono ?_; rintro e w4 ⟨rfl, rfl⟩; rw [Hs.out]) | (go_at_call 124; refine (there_any ((w2.alloc (.cells #[.int .i64 t] 3)).alloc (.cells #[.int .i64 s] 3)) (w2.heap.size + 1) s (by simp [go_sem])).mono ?_; rintro e w4 ⟨rfl, rfl⟩; rw [Hs.out]))
        go_ret
        exact ⟨ret_int (by simp [wrongD, Ho.out, Hs.out]), by (first | exact hb2 | exact hb2.alloc hb2.size _ | exact (hb2.alloc hb2.size _).alloc (by have := hb2.size; simp; omega) _)⟩
    · cases ot
      · by_cases n0 : n < -4611686018427387904
        · have d0 : decide (n < -4611686018427387904) = true := by simpa using n0
          go_enter Try.func87, Try.ntmps87
          go_wp2_with (first | (go_at_call 123; refine (known_any _ _ _ _ _ _).mono ?_; rintro e w2 ⟨rfl, hB2⟩; have x0 := blk_below hB2 HW0.out; have y0 := cell_blk (j := 0) x0 rfl; have y1 := cell_blk (j := 1) x0 rfl; have y2 := cell_blk (j := 2) x0 rfl; have y4 := cell_blk (j := 4) x0 rfl; have hlw := lt_blk x0; have hb2 := ((Below.refl w.heap.size w).alloc (Nat.le_refl _) (.cells #[.int .i64 2, .int .i64 t, .int .i64 s, .int .i64 f, .int .i64 n] 88)).trans (hB2.mono (by simp))) | (go_at_call 124; refine (there_any (w2.alloc (.cells #[.int .i64 t] 3)) w2.heap.size t (by simp [go_sem])).mono ?_; rintro e w3 ⟨rfl, rfl⟩; rw [Ho.out]) | (go_at_call 124; refine (there_any (w2.alloc (.cells #[.int .i64 s] 3)) w2.heap.size s (by simp [go_sem])).mono ?_; rintro e w4 ⟨rfl, rfl⟩; rw [Hs.out]) | (go_at_call 124; refine (there_any ((w2.alloc (.cells #[.int .i64 t] 3)).alloc (.cells #[.int .i64 s] 3)) (w2.heap.size + 1) s (by simp [go_sem])).mono ?_; rintro e w4 ⟨rfl, rfl⟩; rw [Hs.out]))
          go_ret
          exact ⟨ret_int (by simp [wrongD, Ho.out, Hs.out, n0]), by (first | exact hb2 | exact hb2.alloc hb2.size _ | exact (hb2.alloc hb2.size _).alloc (by have := hb2.size; simp; omega) _)⟩
        · have d0 : decide (n < -4611686018427387904) = false := by simpa using n0
          by_cases n1 : 4611686018427387903 < n
          · have d1 : decide (4611686018427387903 < n) = true := by simpa using n1
            go_enter Try.func87, Try.ntmps87
            go_wp2_with (first | (go_at_call 123; refine (known_any _ _ _ _ _ _).mono ?_; rintro e w2 ⟨rfl, hB2⟩; have x0 := blk_below hB2 HW0.out; have y0 := cell_blk (j := 0) x0 rfl; have y1 := cell_blk (j := 1) x0 rfl; have y2 := cell_blk (j := 2) x0 rfl; have y4 := cell_blk (j := 4) x0 rfl; have hlw := lt_blk x0; have hb2 := ((Below.refl w.heap.size w).alloc (Nat.le_refl _) (.cells #[.int .i64 2, .int .i64 t, .int .i64 s, .int .i64 f, .int .i64 n] 88)).trans (hB2.mono (by simp))) | (go_at_call 124; refine (there_any (w2.alloc (.cells #[.int .i64 t] 3)) w2.heap.size t (by simp [go_sem])).mono ?_; rintro e w3 ⟨rfl, rfl⟩; rw [Ho.out]) | (go_at_call 124; refine (there_any (w2.alloc (.cells #[.int .i64 s] 3)) w2.heap.size s (by simp [go_sem])).mono ?_; rintro e w4 ⟨rfl, rfl⟩; rw [Hs.out]) | (go_at_call 124; refine (there_any ((w2.alloc (.cells #[.int .i64 t] 3)).alloc (.cells #[.int .i64 s] 3)) (w2.heap.size + 1) s (by simp [go_sem])).mono ?_; rintro e w4 ⟨rfl, rfl⟩; rw [Hs.out]))
            go_ret
            exact ⟨ret_int (by simp [wrongD, Ho.out, Hs.out, n0, n1]), by (first | exact hb2 | exact hb2.alloc hb2.size _ | exact (hb2.alloc hb2.size _).alloc (by have := hb2.size; simp; omega) _)⟩
          · have d1 : decide (4611686018427387903 < n) = false := by simpa using n1
            go_enter Try.func87, Try.ntmps87
            go_wp2_with (first | (go_at_call 123; refine (known_any _ _ _ _ _ _).mono ?_; rintro e w2 ⟨rfl, hB2⟩; have x0 := blk_below hB2 HW0.out; have y0 := cell_blk (j := 0) x0 rfl; have y1 := cell_blk (j := 1) x0 rfl; have y2 := cell_blk (j := 2) x0 rfl; have y4 := cell_blk (j := 4) x0 rfl; have hlw := lt_blk x0; have hb2 := ((Below.refl w.heap.size w).alloc (Nat.le_refl _) (.cells #[.int .i64 2, .int .i64 t, .int .i64 s, .int .i64 f, .int .i64 n] 88)).trans (hB2.mono (by simp))) | (go_at_call 124; refine (there_any (w2.alloc (.cells #[.int .i64 t] 3)) w2.heap.size t (by simp [go_sem])).mono ?_; rintro e w3 ⟨rfl, rfl⟩; rw [Ho.out]) | (go_at_call 124; refine (there_any (w2.alloc (.cells #[.int .i64 s] 3)) w2.heap.size s (by simp [go_sem])).mono ?_; rintro e w4 ⟨rfl, rfl⟩; rw [Hs.out]) | (go_at_call 124; refine (there_any ((w2.alloc (.cells #[.int .i64 t] 3)).alloc (.cells #[.int .i64 s] 3)) (w2.heap.size + 1) s (by simp [go_sem])).mono ?_; rintro e w4 ⟨rfl, rfl⟩; rw [Hs.out]))
            go_ret
            exact ⟨ret_int (by simp [wrongD, Ho.out, Hs.out, n0, n1]), by (first | exact hb2 | exact hb2.alloc hb2.size _ | exact (hb2.alloc hb2.size _).alloc (by have := hb2.size; simp; omega) _)⟩
      · go_enter Try.func87, Try.ntmps87
        go_wp2_with (first | (go_at_call 123; refine (known_any _ _ _ _ _ _).mono ?_; rintro e w2 ⟨rfl, hB2⟩; have x0 := blk_below hB2 HW0.out; have y0 := cell_blk (j := 0) x0 rfl; have y1 := cell_blk (j := 1) x0 rfl; have y2 := cell_blk (j := 2) x0 rfl; have y4 := cell_blk (j := 4) x0 rfl; have hlw := lt_blk x0; have hb2 := ((Below.refl w.heap.size w).alloc (Nat.le_refl _) (.cells #[.int .i64 2, .int .i64 t, .int .i64 s, .int .i64 f, .int .i64 n] 88)).trans (hB2.mono (by simp))) | (go_at_call 124; refine (there_any (w2.alloc (.cells #[.int .i64 t] 3)) w2.heap.size t (by simp [go_sem])).mono ?_; rintro e w3 ⟨rfl, rfl⟩; rw [Ho.out]) | (go_at_call 124; refine (there_any (w2.alloc (.cells #[.int .i64 s] 3)) w2.heap.size s (by simp [go_sem])).mono ?_; rintro e w4 ⟨rfl, rfl⟩; rw [Hs.out]) | (go_at_call 124; refine (there_any ((w2.alloc (.cells #[.int .i64 t] 3)).alloc (.cells #[.int .i64 s] 3)) (w2.heap.size + 1) s (by simp [go_sem])).mono ?_; rintro e w4 ⟨rfl, rfl⟩; rw [Hs.out]))
        go_ret
        exact ⟨ret_int (by simp [wrongD, Ho.out, Hs.out]), by (first | exact hb2 | exact hb2.alloc hb2.size _ | exact (hb2.alloc hb2.size _).alloc (by have := hb2.size; simp; omega) _)⟩
    · cases ot
      · cases os
        · go_enter Try.func87, Try.ntmps87
          go_wp2_with (first | (go_at_call 123; refine (known_any _ _ _ _ _ _).mono ?_; rintro e w2 ⟨rfl, hB2⟩; have x0 := blk_below hB2 HW0.out; have y0 := cell_blk (j := 0) x0 rfl; have y1 := cell_blk (j := 1) x0 rfl; have y2 := cell_blk (j := 2) x0 rfl; have y4 := cell_blk (j := 4) x0 rfl; have hlw := lt_blk x0; have hb2 := ((Below.refl w.heap.size w).alloc (Nat.le_refl _) (.cells #[.int .i64 3, .int .i64 t, .int .i64 s, .int .i64 f, .int .i64 n] 88)).trans (hB2.mono (by simp))) | (go_at_call 124; refine (there_any (w2.alloc (.cells #[.int .i64 t] 3)) w2.heap.size t (by simp [go_sem])).mono ?_; rintro e w3 ⟨rfl, rfl⟩; rw [Ho.out]) | (go_at_call 124; refine (there_any (w2.alloc (.cells #[.int .i64 s] 3)) w2.heap.size s (by simp [go_sem])).mono ?_; rintro e w4 ⟨rfl, rfl⟩; rw [Hs.out]) | (go_at_call 124; refine (there_any ((w2.alloc (.cells #[.int .i64 t] 3)).alloc (.cells #[.int .i64 s] 3)) (w2.heap.size + 1) s (by simp [go_sem])).mono ?_; rintro e w4 ⟨rfl, rfl⟩; rw [Hs.out]))
          go_ret
          exact ⟨ret_int (by simp [wrongD, Ho.out, Hs.out]), by (first | exact hb2 | exact hb2.alloc hb2.size _ | exact (hb2.alloc hb2.size _).alloc (by have := hb2.size; simp; omega) _)⟩
        · go_enter Try.func87, Try.ntmps87
          go_wp2_with (first | (go_at_call 123; refine (known_any _ _ _ _ _ _).mono ?_; rintro e w2 ⟨rfl, hB2⟩; have x0 := blk_below hB2 HW0.out; have y0 := cell_blk (j := 0) x0 rfl; have y1 := cell_blk (j := 1) x0 rfl; have y2 := cell_blk (j := 2) x0 rfl; have y4 := cell_blk (j := 4) x0 rfl; have hlw := lt_blk x0; have hb2 := ((Below.refl w.heap.size w).alloc (Nat.le_refl _) (.cells #[.int .i64 3, .int .i64 t, .int .i64 s, .int .i64 f, .int .i64 n] 88)).trans (hB2.mono (by simp))) | (go_at_call 124; refine (there_any (w2.alloc (.cells #[.int .i64 t] 3)) w2.heap.size t (by simp [go_sem])).mono ?_; rintro e w3 ⟨rfl, rfl⟩; rw [Ho.out]) | (go_at_call 124; refine (there_any (w2.alloc (.cells #[.int .i64 s] 3)) w2.heap.size s (by simp [go_sem])).mono ?_; rintro e w4 ⟨rfl, rfl⟩; rw [Hs.out]) | (go_at_call 124; refine (there_any ((w2.alloc (.cells #[.int .i64 t] 3)).alloc (.cells #[.int .i64 s] 3)) (w2.heap.size + 1) s (by simp [go_sem])).mono ?_; rintro e w4 ⟨rfl, rfl⟩; rw [Hs.out]))
          go_ret
          exact ⟨ret_int (by simp [wrongD, Ho.out, Hs.out]), by (first | exact hb2 | exact hb2.alloc hb2.size _ | exact (hb2.alloc hb2.size _).alloc (by have := hb2.size; simp; omega) _)⟩
      · go_enter Try.func87, Try.ntmps87
        go_wp2_with (first | (go_at_call 123; refine (known_any _ _ _ _ _ _).mono ?_; rintro e w2 ⟨rfl, hB2⟩; have x0 := blk_below hB2 HW0.out; have y0 := cell_blk (j := 0) x0 rfl; have y1 := cell_blk (j := 1) x0 rfl; have y2 := cell_blk (j := 2) x0 rfl; have y4 := cell_blk (j := 4) x0 rfl; have hlw := lt_blk x0; have hb2 := ((Below.refl w.heap.size w).alloc (Nat.le_refl _) (.cells #[.int .i64 3, .int .i64 t, .int .i64 s, .int .i64 f, .int .i64 n] 88)).trans (hB2.mono (by simp))) | (go_at_call 124; refine (there_any (w2.alloc (.cells #[.int .i64 t] 3)) w2.heap.size t (by simp [go_sem])).mono ?_; rintro e w3 ⟨rfl, rfl⟩; rw [Ho.out]) | (go_at_call 124; refine (there_any (w2.alloc (.cells #[.int .i64 s] 3)) w2.heap.size s (by simp [go_sem])).mono ?_; rintro e w4 ⟨rfl, rfl⟩; rw [Hs.out]) | (go_at_call 124; refine (there_any ((w2.alloc (.cells #[.int .i64 t] 3)).alloc (.cells #[.int .i64 s] 3)) (w2.heap.size + 1) s (by simp [go_sem])).mono ?_; rintro e w4 ⟨rfl, rfl⟩; rw [Hs.out]))
        go_ret
        exact ⟨ret_int (by simp [wrongD, Ho.out, Hs.out]), by (first | exact hb2 | exact hb2.alloc hb2.size _ | exact (hb2.alloc hb2.size _).alloc (by have := hb2.size; simp; omega) _)⟩
    · cases ot
      · cases os
        · go_enter Try.func87, Try.ntmps87
          go_wp2_with (first | (go_at_call 123; refine (known_any _ _ _ _ _ _).mono ?_; rintro e w2 ⟨rfl, hB2⟩; have x0 := blk_below hB2 HW0.out; have y0 := cell_blk (j := 0) x0 rfl; have y1 := cell_blk (j := 1) x0 rfl; have y2 := cell_blk (j := 2) x0 rfl; have y4 := cell_blk (j := 4) x0 rfl; have hlw := lt_blk x0; have hb2 := ((Below.refl w.heap.size w).alloc (Nat.le_refl _) (.cells #[.int .i64 4, .int .i64 t, .int .i64 s, .int .i64 f, .int .i64 n] 88)).trans (hB2.mono (by simp))) | (go_at_call 124; refine (there_any (w2.alloc (.cells #[.int .i64 t] 3)) w2.heap.size t (by simp [go_sem])).mono ?_; rintro e w3 ⟨rfl, rfl⟩; rw [Ho.out]) | (go_at_call 124; refine (there_any (w2.alloc (.cells #[.int .i64 s] 3)) w2.heap.size s (by simp [go_sem])).mono ?_; rintro e w4 ⟨rfl, rfl⟩; rw [Hs.out]) | (go_at_call 124; refine (there_any ((w2.alloc (.cells #[.int .i64 t] 3)).alloc (.cells #[.int .i64 s] 3)) (w2.heap.size + 1) s (by simp [go_sem])).mono ?_; rintro e w4 ⟨rfl, rfl⟩; rw [Hs.out]))
          go_ret
          exact ⟨ret_int (by simp [wrongD, Ho.out, Hs.out]), by (first | exact hb2 | exact hb2.alloc hb2.size _ | exact (hb2.alloc hb2.size _).alloc (by have := hb2.size; simp; omega) _)⟩
        · go_enter Try.func87, Try.ntmps87
          go_wp2_with (first | (go_at_call 123; refine (known_any _ _ _ _ _ _).mono ?_; rintro e w2 ⟨rfl, hB2⟩; have x0 := blk_below hB2 HW0.out; have y0 := cell_blk (j := 0) x0 rfl; have y1 := cell_blk (j := 1) x0 rfl; have y2 := cell_blk (j := 2) x0 rfl; have y4 := cell_blk (j := 4) x0 rfl; have hlw := lt_blk x0; have hb2 := ((Below.refl w.heap.size w).alloc (Nat.le_refl _) (.cells #[.int .i64 4, .int .i64 t, .int .i64 s, .int .i64 f, .int .i64 n] 88)).trans (hB2.mono (by simp))) | (go_at_call 124; refine (there_any (w2.alloc (.cells #[.int .i64 t] 3)) w2.heap.size t (by simp [go_sem])).mono ?_; rintro e w3 ⟨rfl, rfl⟩; rw [Ho.out]) | (go_at_call 124; refine (there_any (w2.alloc (.cells #[.int .i64 s] 3)) w2.heap.size s (by simp [go_sem])).mono ?_; rintro e w4 ⟨rfl, rfl⟩; rw [Hs.out]) | (go_at_call 124; refine (there_any ((w2.alloc (.cells #[.int .i64 t] 3)).alloc (.cells #[.int .i64 s] 3)) (w2.heap.size + 1) s (by simp [go_sem])).mono ?_; rintro e w4 ⟨rfl, rfl⟩; rw [Hs.out]))
          go_ret
          exact ⟨ret_int (by simp [wrongD, Ho.out, Hs.out]), by (first | exact hb2 | exact hb2.alloc hb2.size _ | exact (hb2.alloc hb2.size _).alloc (by have := hb2.size; simp; omega) _)⟩
      · go_enter Try.func87, Try.ntmps87
        go_wp2_with (first | (go_at_call 123; refine (known_any _ _ _ _ _ _).mono ?_; rintro e w2 ⟨rfl, hB2⟩; have x0 := blk_below hB2 HW0.out; have y0 := cell_blk (j := 0) x0 rfl; have y1 := cell_blk (j := 1) x0 rfl; have y2 := cell_blk (j := 2) x0 rfl; have y4 := cell_blk (j := 4) x0 rfl; have hlw := lt_blk x0; have hb2 := ((Below.refl w.heap.size w).alloc (Nat.le_refl _) (.cells #[.int .i64 4, .int .i64 t, .int .i64 s, .int .i64 f, .int .i64 n] 88)).trans (hB2.mono (by simp))) | (go_at_call 124; refine (there_any (w2.alloc (.cells #[.int .i64 t] 3)) w2.heap.size t (by simp [go_sem])).mono ?_; rintro e w3 ⟨rfl, rfl⟩; rw [Ho.out]) | (go_at_call 124; refine (there_any (w2.alloc (.cells #[.int .i64 s] 3)) w2.heap.size s (by simp [go_sem])).mono ?_; rintro e w4 ⟨rfl, rfl⟩; rw [Hs.out]) | (go_at_call 124; refine (there_any ((w2.alloc (.cells #[.int .i64 t] 3)).alloc (.cells #[.int .i64 s] 3)) (w2.heap.size + 1) s (by simp [go_sem])).mono ?_; rintro e w4 ⟨rfl, rfl⟩; rw [Hs.out]))
        go_ret
        exact ⟨ret_int (by simp [wrongD, Ho.out, Hs.out]), by (first | exact hb2 | exact hb2.alloc hb2.size _ | exact (hb2.alloc hb2.size _).alloc (by have := hb2.size; simp; omega) _)⟩
    · cases ot
      · cases os
        · go_enter Try.func87, Try.ntmps87
          go_wp2_with (first | (go_at_call 123; refine (known_any _ _ _ _ _ _).mono ?_; rintro e w2 ⟨rfl, hB2⟩; have x0 := blk_below hB2 HW0.out; have y0 := cell_blk (j := 0) x0 rfl; have y1 := cell_blk (j := 1) x0 rfl; have y2 := cell_blk (j := 2) x0 rfl; have y4 := cell_blk (j := 4) x0 rfl; have hlw := lt_blk x0; have hb2 := ((Below.refl w.heap.size w).alloc (Nat.le_refl _) (.cells #[.int .i64 5, .int .i64 t, .int .i64 s, .int .i64 f, .int .i64 n] 88)).trans (hB2.mono (by simp))) | (go_at_call 124; refine (there_any (w2.alloc (.cells #[.int .i64 t] 3)) w2.heap.size t (by simp [go_sem])).mono ?_; rintro e w3 ⟨rfl, rfl⟩; rw [Ho.out]) | (go_at_call 124; refine (there_any (w2.alloc (.cells #[.int .i64 s] 3)) w2.heap.size s (by simp [go_sem])).mono ?_; rintro e w4 ⟨rfl, rfl⟩; rw [Hs.out]) | (go_at_call 124; refine (there_any ((w2.alloc (.cells #[.int .i64 t] 3)).alloc (.cells #[.int .i64 s] 3)) (w2.heap.size + 1) s (by simp [go_sem])).mono ?_; rintro e w4 ⟨rfl, rfl⟩; rw [Hs.out]))
          go_ret
          exact ⟨ret_int (by simp [wrongD, Ho.out, Hs.out]), by (first | exact hb2 | exact hb2.alloc hb2.size _ | exact (hb2.alloc hb2.size _).alloc (by have := hb2.size; simp; omega) _)⟩
        · go_enter Try.func87, Try.ntmps87
          go_wp2_with (first | (go_at_call 123; refine (known_any _ _ _ _ _ _).mono ?_; rintro e w2 ⟨rfl, hB2⟩; have x0 := blk_below hB2 HW0.out; have y0 := cell_blk (j := 0) x0 rfl; have y1 := cell_blk (j := 1) x0 rfl; have y2 := cell_blk (j := 2) x0 rfl; have y4 := cell_blk (j := 4) x0 rfl; have hlw := lt_blk x0; have hb2 := ((Below.refl w.heap.size w).alloc (Nat.le_refl _) (.cells #[.int .i64 5, .int .i64 t, .int .i64 s, .int .i64 f, .int .i64 n] 88)).trans (hB2.mono (by simp))) | (go_at_call 124; refine (there_any (w2.alloc (.cells #[.int .i64 t] 3)) w2.heap.size t (by simp [go_sem])).mono ?_; rintro e w3 ⟨rfl, rfl⟩; rw [Ho.out]) | (go_at_call 124; refine (there_any (w2.alloc (.cells #[.int .i64 s] 3)) w2.heap.size s (by simp [go_sem])).mono ?_; rintro e w4 ⟨rfl, rfl⟩; rw [Hs.out]) | (go_at_call 124; refine (there_any ((w2.alloc (.cells #[.int .i64 t] 3)).alloc (.cells #[.int .i64 s] 3)) (w2.heap.size + 1) s (by simp [go_sem])).mono ?_; rintro e w4 ⟨rfl, rfl⟩; rw [Hs.out]))
          go_ret
          exact ⟨ret_int (by simp [wrongD, Ho.out, Hs.out]), by (first | exact hb2 | exact hb2.alloc hb2.size _ | exact (hb2.alloc hb2.size _).alloc (by have := hb2.size; simp; omega) _)⟩
      · go_enter Try.func87, Try.ntmps87
        go_wp2_with (first | (go_at_call 123; refine (known_any _ _ _ _ _ _).mono ?_; rintro e w2 ⟨rfl, hB2⟩; have x0 := blk_below hB2 HW0.out; have y0 := cell_blk (j := 0) x0 rfl; have y1 := cell_blk (j := 1) x0 rfl; have y2 := cell_blk (j := 2) x0 rfl; have y4 := cell_blk (j := 4) x0 rfl; have hlw := lt_blk x0; have hb2 := ((Below.refl w.heap.size w).alloc (Nat.le_refl _) (.cells #[.int .i64 5, .int .i64 t, .int .i64 s, .int .i64 f, .int .i64 n] 88)).trans (hB2.mono (by simp))) | (go_at_call 124; refine (there_any (w2.alloc (.cells #[.int .i64 t] 3)) w2.heap.size t (by simp [go_sem])).mono ?_; rintro e w3 ⟨rfl, rfl⟩; rw [Ho.out]) | (go_at_call 124; refine (there_any (w2.alloc (.cells #[.int .i64 s] 3)) w2.heap.size s (by simp [go_sem])).mono ?_; rintro e w4 ⟨rfl, rfl⟩; rw [Hs.out]) | (go_at_call 124; refine (there_any ((w2.alloc (.cells #[.int .i64 t] 3)).alloc (.cells #[.int .i64 s] 3)) (w2.heap.size + 1) s (by simp [go_sem])).mono ?_; rintro e w4 ⟨rfl, rfl⟩; rw [Hs.out]))
        go_ret
        exact ⟨ret_int (by simp [wrongD, Ho.out, Hs.out]), by (first | exact hb2 | exact hb2.alloc hb2.size _ | exact (hb2.alloc hb2.size _).alloc (by have := hb2.size; simp; omega) _)⟩
    · cases ot
      · cases os
        · go_enter Try.func87, Try.ntmps87
          go_wp2_with (first | (go_at_call 123; refine (known_any _ _ _ _ _ _).mono ?_; rintro e w2 ⟨rfl, hB2⟩; have x0 := blk_below hB2 HW0.out; have y0 := cell_blk (j := 0) x0 rfl; have y1 := cell_blk (j := 1) x0 rfl; have y2 := cell_blk (j := 2) x0 rfl; have y4 := cell_blk (j := 4) x0 rfl; have hlw := lt_blk x0; have hb2 := ((Below.refl w.heap.size w).alloc (Nat.le_refl _) (.cells #[.int .i64 6, .int .i64 t, .int .i64 s, .int .i64 f, .int .i64 n] 88)).trans (hB2.mono (by simp))) | (go_at_call 124; refine (there_any (w2.alloc (.cells #[.int .i64 t] 3)) w2.heap.size t (by simp [go_sem])).mono ?_; rintro e w3 ⟨rfl, rfl⟩; rw [Ho.out]) | (go_at_call 124; refine (there_any (w2.alloc (.cells #[.int .i64 s] 3)) w2.heap.size s (by simp [go_sem])).mono ?_; rintro e w4 ⟨rfl, rfl⟩; rw [Hs.out]) | (go_at_call 124; refine (there_any ((w2.alloc (.cells #[.int .i64 t] 3)).alloc (.cells #[.int .i64 s] 3)) (w2.heap.size + 1) s (by simp [go_sem])).mono ?_; rintro e w4 ⟨rfl, rfl⟩; rw [Hs.out]))
          go_ret
          exact ⟨ret_int (by simp [wrongD, Ho.out, Hs.out]), by (first | exact hb2 | exact hb2.alloc hb2.size _ | exact (hb2.alloc hb2.size _).alloc (by have := hb2.size; simp; omega) _)⟩
        · go_enter Try.func87, Try.ntmps87
          go_wp2_with (first | (go_at_call 123; refine (known_any _ _ _ _ _ _).mono ?_; rintro e w2 ⟨rfl, hB2⟩; have x0 := blk_below hB2 HW0.out; have y0 := cell_blk (j := 0) x0 rfl; have y1 := cell_blk (j := 1) x0 rfl; have y2 := cell_blk (j := 2) x0 rfl; have y4 := cell_blk (j := 4) x0 rfl; have hlw := lt_blk x0; have hb2 := ((Below.refl w.heap.size w).alloc (Nat.le_refl _) (.cells #[.int .i64 6, .int .i64 t, .int .i64 s, .int .i64 f, .int .i64 n] 88)).trans (hB2.mono (by simp))) | (go_at_call 124; refine (there_any (w2.alloc (.cells #[.int .i64 t] 3)) w2.heap.size t (by simp [go_sem])).mono ?_; rintro e w3 ⟨rfl, rfl⟩; rw [Ho.out]) | (go_at_call 124; refine (there_any (w2.alloc (.cells #[.int .i64 s] 3)) w2.heap.size s (by simp [go_sem])).mono ?_; rintro e w4 ⟨rfl, rfl⟩; rw [Hs.out]) | (go_at_call 124; refine (there_any ((w2.alloc (.cells #[.int .i64 t] 3)).alloc (.cells #[.int .i64 s] 3)) (w2.heap.size + 1) s (by simp [go_sem])).mono ?_; rintro e w4 ⟨rfl, rfl⟩; rw [Hs.out]))
          go_ret
          exact ⟨ret_int (by simp [wrongD, Ho.out, Hs.out]), by (first | exact hb2 | exact hb2.alloc hb2.size _ | exact (hb2.alloc hb2.size _).alloc (by have := hb2.size; simp; omega) _)⟩
      · go_enter Try.func87, Try.ntmps87
        go_wp2_with (first | (go_at_call 123; refine (known_any _ _ _ _ _ _).mono ?_; rintro e w2 ⟨rfl, hB2⟩; have x0 := blk_below hB2 HW0.out; have y0 := cell_blk (j := 0) x0 rfl; have y1 := cell_blk (j := 1) x0 rfl; have y2 := cell_blk (j := 2) x0 rfl; have y4 := cell_blk (j := 4) x0 rfl; have hlw := lt_blk x0; have hb2 := ((Below.refl w.heap.size w).alloc (Nat.le_refl _) (.cells #[.int .i64 6, .int .i64 t, .int .i64 s, .int .i64 f, .int .i64 n] 88)).trans (hB2.mono (by simp))) | (go_at_call 124; refine (there_any (w2.alloc (.cells #[.int .i64 t] 3)) w2.heap.size t (by simp [go_sem])).mono ?_; rintro e w3 ⟨rfl, rfl⟩; rw [Ho.out]) | (go_at_call 124; refine (there_any (w2.alloc (.cells #[.int .i64 s] 3)) w2.heap.size s (by simp [go_sem])).mono ?_; rintro e w4 ⟨rfl, rfl⟩; rw [Hs.out]) | (go_at_call 124; refine (there_any ((w2.alloc (.cells #[.int .i64 t] 3)).alloc (.cells #[.int .i64 s] 3)) (w2.heap.size + 1) s (by simp [go_sem])).mono ?_; rintro e w4 ⟨rfl, rfl⟩; rw [Hs.out]))
        go_ret
        exact ⟨ret_int (by simp [wrongD, Ho.out, Hs.out]), by (first | exact hb2 | exact hb2.alloc hb2.size _ | exact (hb2.alloc hb2.size _).alloc (by have := hb2.size; simp; omega) _)⟩
    · cases os
      · go_enter Try.func87, Try.ntmps87
        go_wp2_with (first | (go_at_call 123; refine (known_any _ _ _ _ _ _).mono ?_; rintro e w2 ⟨rfl, hB2⟩; have x0 := blk_below hB2 HW0.out; have y0 := cell_blk (j := 0) x0 rfl; have y1 := cell_blk (j := 1) x0 rfl; have y2 := cell_blk (j := 2) x0 rfl; have y4 := cell_blk (j := 4) x0 rfl; have hlw := lt_blk x0; have hb2 := ((Below.refl w.heap.size w).alloc (Nat.le_refl _) (.cells #[.int .i64 7, .int .i64 t, .int .i64 s, .int .i64 f, .int .i64 n] 88)).trans (hB2.mono (by simp))) | (go_at_call 124; refine (there_any (w2.alloc (.cells #[.int .i64 t] 3)) w2.heap.size t (by simp [go_sem])).mono ?_; rintro e w3 ⟨rfl, rfl⟩; rw [Ho.out]) | (go_at_call 124; refine (there_any (w2.alloc (.cells #[.int .i64 s] 3)) w2.heap.size s (by simp [go_sem])).mono ?_; rintro e w4 ⟨rfl, rfl⟩; rw [Hs.out]) | (go_at_call 124; refine (there_any ((w2.alloc (.cells #[.int .i64 t] 3)).alloc (.cells #[.int .i64 s] 3)) (w2.heap.size + 1) s (by simp [go_sem])).mono ?_; rintro e w4 ⟨rfl, rfl⟩; rw [Hs.out]))
        go_ret
        exact ⟨ret_int (by simp [wrongD, Ho.out, Hs.out]), by (first | exact hb2 | exact hb2.alloc hb2.size _ | exact (hb2.alloc hb2.size _).alloc (by have := hb2.size; simp; omega) _)⟩
      · go_enter Try.func87, Try.ntmps87
        go_wp2_with (first | (go_at_call 123; refine (known_any _ _ _ _ _ _).mono ?_; rintro e w2 ⟨rfl, hB2⟩; have x0 := blk_below hB2 HW0.out; have y0 := cell_blk (j := 0) x0 rfl; have y1 := cell_blk (j := 1) x0 rfl; have y2 := cell_blk (j := 2) x0 rfl; have y4 := cell_blk (j := 4) x0 rfl; have hlw := lt_blk x0; have hb2 := ((Below.refl w.heap.size w).alloc (Nat.le_refl _) (.cells #[.int .i64 7, .int .i64 t, .int .i64 s, .int .i64 f, .int .i64 n] 88)).trans (hB2.mono (by simp))) | (go_at_call 124; refine (there_any (w2.alloc (.cells #[.int .i64 t] 3)) w2.heap.size t (by simp [go_sem])).mono ?_; rintro e w3 ⟨rfl, rfl⟩; rw [Ho.out]) | (go_at_call 124; refine (there_any (w2.alloc (.cells #[.int .i64 s] 3)) w2.heap.size s (by simp [go_sem])).mono ?_; rintro e w4 ⟨rfl, rfl⟩; rw [Hs.out]) | (go_at_call 124; refine (there_any ((w2.alloc (.cells #[.int .i64 t] 3)).alloc (.cells #[.int .i64 s] 3)) (w2.heap.size + 1) s (by simp [go_sem])).mono ?_; rintro e w4 ⟨rfl, rfl⟩; rw [Hs.out]))
        go_ret
        exact ⟨ret_int (by simp [wrongD, Ho.out, Hs.out]), by (first | exact hb2 | exact hb2.alloc hb2.size _ | exact (hb2.alloc hb2.size _).alloc (by have := hb2.size; simp; omega) _)⟩
  · have he : wrongD ⟨k, t, s, f, n⟩ = 5 := by simp only [wrongD]; rw [if_pos hk]
    have hkk : (decide (1 ≤ k) && decide (k ≤ 7)) = false := by
      by_cases h1 : 1 ≤ k
      · have h2 : ¬ k ≤ 7 := fun h2 => hk ⟨h1, h2⟩
        simp [h2]
      · simp [h1]
    have Hkk := Lib.hid hkk
    have b1 : (k == 1) = false := by
      rw [beq_eq_false_iff_ne]; intro e; exact hk (by omega)
    have b2 : (k == 2) = false := by
      rw [beq_eq_false_iff_ne]; intro e; exact hk (by omega)
    have c1 : decide (k = 1) = false := by simpa using b1
    have c2 : decide (k = 2) = false := by simpa using b2
    rw [he]
    clear he hk hkk
    go_enter Try.func87, Try.ntmps87
    go_wp2_with (go_at_call 123; refine (known_any _ _ _ _ _ _).mono ?_; rintro e w2 ⟨rfl, hB2⟩; rw [Hkk.out]; have hb2 := ((Below.refl w.heap.size w).alloc (Nat.le_refl _) (.cells #[.int .i64 k, .int .i64 t, .int .i64 s, .int .i64 f, .int .i64 n] 88)).trans (hB2.mono (by simp)))
    go_ret
    exact ⟨rfl, hb2⟩

end Go.Proofs.Yteghhajfkdbcdaa
