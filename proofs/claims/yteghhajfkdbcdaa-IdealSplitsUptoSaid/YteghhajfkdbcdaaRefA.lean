/- Contracts of small functions of ragpickerref and ragpickerkeep: Has, within, Values, Outs, Ints, rising, bad, KindsCheck. -/
import Derived.Test.YteghhajfkdbcdaaBase
namespace Go.Proofs.Yteghhajfkdbcdaa
open Go.RowKit
set_option linter.unusedVariables false
set_option linter.unusedSimpArgs false

theorem take_succ_eq {α : Type} {xs ys : List α} {k : Nat} (h : xs.take k = ys.take k) (h1 : k < xs.length) (h2 : k < ys.length) (he : xs[k] = ys[k]) : xs.take (k+1) = ys.take (k+1) := by
  rw [List.take_succ_eq_append_getElem h1, List.take_succ_eq_append_getElem h2, h, he]
theorem take_all_eq {α : Type} {xs ys : List α} {k : Nat} (h : xs.take k = ys.take k) (h1 : xs.length ≤ k) (h2 : xs.length = ys.length) : xs = ys := by
  have e1 := List.take_of_length_le (l := xs) (i := k) (by omega)
  have e2 := List.take_of_length_le (l := ys) (i := k) (by omega)
  rw [e1, e2] at h; exact h

/-- ragpickerref.Has -/
theorem has_any (w : World) (v : Value) (xs : List Int) (x : Int) (h : RdI w v xs) :
    Calls Try.prog 42 #[v, .int .i64 x] w fun e w' => e = .returned (.bool (decide (x ∈ xs))) ∧ w = w' := by
  obtain ⟨A, c, rfl, hm, hc⟩ := h
  go_enter Try.func42, Try.ntmps42
  go_wp2
  go_loop [9] (fun i => ∃ k : Nat, k ≤ xs.length ∧ i = .int .i64 k ∧ x ∉ xs.take k) (fun i => xs.length - (intOf i).toNat)
  case atStart => exact ⟨0, Nat.zero_le _, rfl, by simp⟩
  case round =>
    obtain ⟨k, hk, rfl, hn⟩ := hrel
    have Hn := Lib.hid hn
    clear hn
    by_cases hlt : k < xs.length
    · obtain ⟨b, off, rfl, hcell⟩ := hc k hlt
      by_cases he : x = xs[k]
      · have hb : (x == xs[k]) = true := by simpa using he
        have He := Lib.hid he
        clear he
        go_wp2
        go_ret
        have : x ∈ xs := by rw [He.out]; exact List.getElem_mem hlt
        simp [this]
      · have hb : (x == xs[k]) = false := by simpa using he
        have He := Lib.hid he
        clear he
        go_wp2
        go_round
        case rel => exact ⟨k + 1, by omega, by go_num, by rw [List.take_succ_eq_append_getElem hlt, List.mem_append, List.mem_singleton, not_or]; exact ⟨Hn.out, He.out⟩⟩
        case measure => simp [intOf]; omega
    · go_wp2
      go_ret
      have hn := Hn.out
      rw [List.take_of_length_le (by omega)] at hn
      simp [hn]

/-- ragpickerkeep.within -/
theorem within_any (w : World) (v : Value) (xs : List Int) (n : Int) (h : RdI w v xs) :
    Calls Try.prog 29 #[.int .i64 n, v] w fun e w' => e = .returned (.bool (xs.all fun x => decide (0 ≤ x) && decide (x < n))) ∧ w = w' := by
  obtain ⟨A, c, rfl, hm, hc⟩ := h
  go_enter Try.func29, Try.ntmps29
  go_wp2
  go_loop [9] (fun i => ∃ k : Nat, k ≤ xs.length ∧ i = .int .i64 k ∧ ((xs.take k).all fun x => decide (0 ≤ x) && decide (x < n)) = true) (fun i => xs.length - (intOf i).toNat)
  case atStart => exact ⟨0, Nat.zero_le _, rfl, by simp⟩
  case round =>
    obtain ⟨k, hk, rfl, hn⟩ := hrel
    have Hn := Lib.hid hn
    clear hn
    by_cases hlt : k < xs.length
    · obtain ⟨b, off, rfl, hcell⟩ := hc k hlt
      obtain ⟨y, hy⟩ : ∃ y, y = xs[k] := ⟨_, rfl⟩
      rw [← hy] at hcell
      have Hy := Lib.hid hy
      clear hy
      by_cases h0 : y < 0
      · have hb : decide (y < 0) = true := by simpa using h0
        go_wp2
        go_ret
        refine ⟨?_, rfl⟩
        have : (xs.all fun x => decide (0 ≤ x) && decide (x < n)) = false := by
          rw [List.all_eq_false]
          exact ⟨y, by rw [Hy.out]; exact List.getElem_mem hlt, by simp; omega⟩
        exact ret_bool this.symm
      · have hb : decide (y < 0) = false := by simpa using h0
        by_cases h1 : n ≤ y
        · have hb1 : decide (n ≤ y) = true := by simpa using h1
          go_wp2
          go_ret
          refine ⟨?_, rfl⟩
          have : (xs.all fun x => decide (0 ≤ x) && decide (x < n)) = false := by
            rw [List.all_eq_false]
            exact ⟨y, by rw [Hy.out]; exact List.getElem_mem hlt, by simp; omega⟩
          exact ret_bool this.symm
        · have hb1 : decide (n ≤ y) = false := by simpa using h1
          go_wp2
          go_round
          case rel =>
            refine ⟨k + 1, by omega, by go_num, ?_⟩
            rw [List.take_succ_eq_append_getElem hlt, List.all_append, Hn.out, ← Hy.out]
            simp; omega
          case measure => simp [intOf]; omega
    · go_wp2
      go_ret
      have hn := Hn.out
      rw [List.take_of_length_le (by omega)] at hn
      exact ⟨ret_bool hn.symm, rfl⟩

set_option maxHeartbeats 400000 in
/-- ragpickerref.Values -/
theorem values_any (w : World) (v1 v2 : Value) (xs ys : List Vl) (h : RdV w v1 xs) (h2 : RdV w v2 ys) :
    Calls Try.prog 52 #[v1, v2] w fun e w' => e = .returned (.bool (decide (xs = ys))) ∧ ∃ n, w' = w.drewN n := by
  obtain ⟨A, c, rfl, hm, hc⟩ := h
  obtain ⟨A2, c2, rfl, hm2, hc2⟩ := h2
  by_cases hl : xs.length = ys.length
  · have hlb : (((xs.length : Int) != (ys.length : Int))) = false := by simp; omega
    go_enter Try.func52, Try.ntmps52
    have Hl := Lib.hid hl
    clear hl
    go_wp2
    go_loopw [5] (fun i wr => ∃ k : Nat, k ≤ xs.length ∧ i = .int .i64 k ∧ (xs.take k = ys.take k) ∧ ∃ n, wr = w.drewN n) (fun i _ => xs.length - (intOf i).toNat)
    case atStart => exact ⟨0, Nat.zero_le _, rfl, by simp, 0, rfl⟩
    case round =>
      obtain ⟨k, hk, rfl, hn, nn, rfl⟩ := hrel
      by_cases hlt : k < xs.length
      · obtain ⟨b, off, rfl, hcell, hcell'⟩ := hc k hlt
        have hlt2 : k < ys.length := by rw [← Hl.out]; exact hlt
        obtain ⟨b2, off2, rfl, hcell2, hcell2'⟩ := hc2 k hlt2
        clear hc hc2
        have Hn := Lib.hid hn
        clear hn
        by_cases he : xs[k] = ys[k]
        · have heq : eqVl xs[k].ref xs[k].n ys[k].ref ys[k].n = true := (eqVl_iff _ _).2 he
          have He := Lib.hid he
          clear he
          go_wp2
          go_quiet (fail)
          go_wp2
          go_roundw
          case rel => exact ⟨k + 1, by omega, by go_num, take_succ_eq Hn.out hlt hlt2 He.out, _, rfl⟩
          case measure => simp [intOf]; omega
        · have heq : eqVl xs[k].ref xs[k].n ys[k].ref ys[k].n = false := by
            rw [Bool.eq_false_iff, Ne, eqVl_iff]; exact he
          go_wp2
          go_quiet (fail)
          go_wp2
          go_ret
          refine ⟨?_, _, World.drewN_drewN ..⟩
          have : xs ≠ ys := fun h => he (by subst h; rfl)
          simp [this]
      · go_wp2
        go_ret
        refine ⟨?_, _, rfl⟩
        have : xs = ys := take_all_eq hn (by omega) Hl.out
        simp [this]
  · have hlb : (((xs.length : Int) != (ys.length : Int))) = true := by simp; omega
    go_enter Try.func52, Try.ntmps52
    go_wp2
    go_ret
    refine ⟨?_, 0, rfl⟩
    have : xs ≠ ys := fun h => hl (by rw [h])
    simp [this]

set_option maxHeartbeats 400000 in
/-- ragpickerref.Outs -/
theorem outs_any (w : World) (v1 v2 : Value) (xs ys : List Ol) (h : RdU w v1 xs) (h2 : RdU w v2 ys) :
    Calls Try.prog 23 #[v1, v2] w fun e w' => e = .returned (.bool (decide (xs = ys))) ∧ ∃ n, w' = w.drewN n := by
  obtain ⟨A, c, rfl, hm, hc⟩ := h
  obtain ⟨A2, c2, rfl, hm2, hc2⟩ := h2
  by_cases hl : xs.length = ys.length
  · have hlb : (((xs.length : Int) != (ys.length : Int))) = false := by simp; omega
    go_enter Try.func23, Try.ntmps23
    have Hl := Lib.hid hl
    clear hl
    go_wp2
    go_loopw [5] (fun i wr => ∃ k : Nat, k ≤ xs.length ∧ i = .int .i64 k ∧ (xs.take k = ys.take k) ∧ ∃ n, wr = w.drewN n) (fun i _ => xs.length - (intOf i).toNat)
    case atStart => exact ⟨0, Nat.zero_le _, rfl, by simp, 0, rfl⟩
    case round =>
      obtain ⟨k, hk, rfl, hn, nn, rfl⟩ := hrel
      by_cases hlt : k < xs.length
      · obtain ⟨b, off, rfl, hcell, hcell', hcell''⟩ := hc k hlt
        have hlt2 : k < ys.length := by rw [← Hl.out]; exact hlt
        obtain ⟨b2, off2, rfl, hcell2, hcell2', hcell2''⟩ := hc2 k hlt2
        clear hc hc2
        have Hn := Lib.hid hn
        clear hn
        by_cases he : xs[k] = ys[k]
        · have heq : eqOl xs[k].code xs[k].ref xs[k].n ys[k].code ys[k].ref ys[k].n = true := (eqOl_iff _ _).2 he
          have He := Lib.hid he
          clear he
          go_wp2
          go_quiet (fail)
          go_wp2
          go_roundw
          case rel => exact ⟨k + 1, by omega, by go_num, take_succ_eq Hn.out hlt hlt2 He.out, _, rfl⟩
          case measure => simp [intOf]; omega
        · have heq : eqOl xs[k].code xs[k].ref xs[k].n ys[k].code ys[k].ref ys[k].n = false := by
            rw [Bool.eq_false_iff, Ne, eqOl_iff]; exact he
          go_wp2
          go_quiet (fail)
          go_wp2
          go_ret
          refine ⟨?_, _, World.drewN_drewN ..⟩
          have : xs ≠ ys := fun h => he (by subst h; rfl)
          simp [this]
      · go_wp2
        go_ret
        refine ⟨?_, _, rfl⟩
        have : xs = ys := take_all_eq hn (by omega) Hl.out
        simp [this]
  · have hlb : (((xs.length : Int) != (ys.length : Int))) = true := by simp; omega
    go_enter Try.func23, Try.ntmps23
    go_wp2
    go_ret
    refine ⟨?_, 0, rfl⟩
    have : xs ≠ ys := fun h => hl (by rw [h])
    simp [this]

set_option maxHeartbeats 400000 in
/-- ragpickerref.Ints -/
theorem ints_any (w : World) (v1 v2 : Value) (xs ys : List Int) (h : RdI w v1 xs) (h2 : RdI w v2 ys) :
    Calls Try.prog 32 #[v1, v2] w fun e w' => e = .returned (.bool (decide (xs = ys))) ∧ ∃ n, w' = w.drewN n := by
  obtain ⟨A, c, rfl, hm, hc⟩ := h
  obtain ⟨A2, c2, rfl, hm2, hc2⟩ := h2
  by_cases hl : xs.length = ys.length
  · have hlb : (((xs.length : Int) != (ys.length : Int))) = false := by simp; omega
    go_enter Try.func32, Try.ntmps32
    have Hl := Lib.hid hl
    clear hl
    go_wp2
    go_loopw [5] (fun i wr => ∃ k : Nat, k ≤ xs.length ∧ i = .int .i64 k ∧ (xs.take k = ys.take k) ∧ ∃ n, wr = w.drewN n) (fun i _ => xs.length - (intOf i).toNat)
    case atStart => exact ⟨0, Nat.zero_le _, rfl, by simp, 0, rfl⟩
    case round =>
      obtain ⟨k, hk, rfl, hn, nn, rfl⟩ := hrel
      by_cases hlt : k < xs.length
      · obtain ⟨b, off, rfl, hcell⟩ := hc k hlt
        have hlt2 : k < ys.length := by rw [← Hl.out]; exact hlt
        obtain ⟨b2, off2, rfl, hcell2⟩ := hc2 k hlt2
        clear hc hc2
        have Hn := Lib.hid hn
        clear hn
        by_cases he : xs[k] = ys[k]
        · have heq : (xs[k] != ys[k]) = false := by simpa using he
          have He := Lib.hid he
          clear he
          go_wp2
          go_quiet (fail)
          go_wp2
          go_roundw
          case rel => exact ⟨k + 1, by omega, by go_num, take_succ_eq Hn.out hlt hlt2 He.out, _, rfl⟩
          case measure => simp [intOf]; omega
        · have heq : (xs[k] != ys[k]) = true := by simpa using he
          go_wp2
          go_quiet (fail)
          go_wp2
          go_ret
          refine ⟨?_, _, World.drewN_drewN ..⟩
          have : xs ≠ ys := fun h => he (by subst h; rfl)
          simp [this]
      · go_wp2
        go_ret
        refine ⟨?_, _, rfl⟩
        have : xs = ys := take_all_eq hn (by omega) Hl.out
        simp [this]
  · have hlb : (((xs.length : Int) != (ys.length : Int))) = true := by simp; omega
    go_enter Try.func32, Try.ntmps32
    go_wp2
    go_ret
    refine ⟨?_, 0, rfl⟩
    have : xs ≠ ys := fun h => hl (by rw [h])
    simp [this]

/-- A1's word on one value, among n objects. -/
def badV (r : Bool) (x n : Int) : Int := if r then (if x < 0 ∨ n ≤ x then 2 else 0) else (if x < -4611686018427387904 ∨ 4611686018427387903 < x then 3 else 0)

/-- ragpickerref.bad -/
theorem bad_any (w : World) (r : Bool) (x n : Int) :
    Calls Try.prog 97 #[.agg #[.bool r, .int .i64 x], .int .i64 n] w fun e w' => e = .returned (.int .i64 (badV r x n)) ∧ Below w.heap.size w w' := by
  have hB : ∀ o, Below w.heap.size w (w.alloc o) := fun o => (Below.refl _ _).alloc (Nat.le_refl _) o
  cases r
  · by_cases h0 : x < -4611686018427387904
    · have hb : decide (x < -4611686018427387904) = true := by simpa using h0
      go_enter Try.func97, Try.ntmps97
      go_wp2
      go_ret
      exact ⟨by simp [badV, h0], hB _⟩
    · have hb : decide (x < -4611686018427387904) = false := by simpa using h0
      by_cases h1 : 4611686018427387903 < x
      · have hb1 : decide (4611686018427387903 < x) = true := by simpa using h1
        go_enter Try.func97, Try.ntmps97
        go_wp2
        go_ret
        exact ⟨by simp [badV, h1], hB _⟩
      · have hb1 : decide (4611686018427387903 < x) = false := by simpa using h1
        go_enter Try.func97, Try.ntmps97
        go_wp2
        go_ret
        exact ⟨by simp [badV]; omega, hB _⟩
  · by_cases h0 : x < 0
    · have hb : decide (x < 0) = true := by simpa using h0
      go_enter Try.func97, Try.ntmps97
      go_wp2
      go_ret
      exact ⟨by simp [badV, h0], hB _⟩
    · have hb : decide (x < 0) = false := by simpa using h0
      by_cases h1 : n ≤ x
      · have hb1 : decide (n ≤ x) = true := by simpa using h1
        go_enter Try.func97, Try.ntmps97
        go_wp2
        go_ret
        exact ⟨by simp [badV, h1], hB _⟩
      · have hb1 : decide (n ≤ x) = false := by simpa using h1
        go_enter Try.func97, Try.ntmps97
        go_wp2
        go_ret
        exact ⟨by simp [badV]; omega, hB _⟩

end Go.Proofs.Yteghhajfkdbcdaa
