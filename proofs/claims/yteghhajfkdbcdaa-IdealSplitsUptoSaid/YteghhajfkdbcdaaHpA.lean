/- heap: wrong. -/
import Derived.Test.YteghhajfkdbcdaaNum
namespace Go.Proofs.Yteghhajfkdbcdaa
open Go.RowKit
set_option linter.unusedVariables false
set_option linter.unusedSimpArgs false

def offR (n : Int) : Bool := decide (n < 0) || decide (8 ≤ n)
theorem offr_any (w : World) (n : Int) : Calls Try.prog 149 #[.int .i64 n] w fun e w' => e = .returned (.bool (offR n)) ∧ w' = w := by
  by_cases h0 : n < 0
  · have d0 : decide (n < 0) = true := by simpa using h0
    go_enter Try.func149, Try.ntmps149
    go_wp2
    go_ret
    exact ⟨ret_bool (by simp [offR, h0]), rfl⟩
  · have d0 : decide (n < 0) = false := by simpa using h0
    go_enter Try.func149, Try.ntmps149
    go_wp2
    go_ret
    exact ⟨ret_bool (by simp [offR]; omega), rfl⟩

theorem idxr_any (w : World) (v : Value) (ks : List Int) (h : RdI w v ks) :
    Calls Try.prog 126 #[v, .func (.func 149) #[] #[]] w fun e w' => ∃ i : Int, e = .returned (.int .i64 i) ∧ (decide (0 ≤ i) = ks.any offR) ∧ w' = w := by
  obtain ⟨A, c, rfl, hm, hc⟩ := h
  go_enter Try.func126, Try.ntmps126
  go_wp2
  go_loopw [8] (fun i wr => ∃ k : Nat, k ≤ ks.length ∧ i = .int .i64 k ∧ ((ks.take k).any offR) = false ∧ wr = w) (fun i _ => ks.length - (intOf i).toNat)
  case atStart => exact ⟨0, Nat.zero_le _, rfl, by simp, rfl⟩
  case round =>
    obtain ⟨k, hk, rfl, hn, rfl⟩ := hrel
    have Hn := Lib.hid hn
    clear hn
    by_cases hlt : k < ks.length
    · obtain ⟨b, off, rfl, hcell⟩ := hc k hlt
      clear hc
      generalize hb : offR ks[k] = bk
      have HC := offr_any wr ks[k]
      rw [hb] at HC
      have Hb := Lib.hid hb
      have HC := Lib.hid HC
      clear hb
      cases bk
      · go_wp2_with (go_at_call 149; refine HC.out.mono ?_; rintro e w2 ⟨rfl, rfl⟩)
        go_roundw
        case rel => exact ⟨k + 1, by omega, by go_num, by rw [List.take_succ_eq_append_getElem hlt, List.any_append, Hn.out]; simp [Hb.out], by first | rfl | trivial⟩
        case measure => simp [intOf]; omega
      · go_wp2_with (go_at_call 149; refine HC.out.mono ?_; rintro e w2 ⟨rfl, rfl⟩)
        go_ret
        refine ⟨_, rfl, ?_, rfl⟩
        have : ks.any offR = true := List.any_eq_true.2 ⟨_, List.getElem_mem hlt, Hb.out⟩
        rw [this]; simp
    · go_wp2
      go_ret
      refine ⟨_, rfl, ?_, rfl⟩
      have hn := Hn.out
      rw [List.take_of_length_le (by omega)] at hn
      rw [hn]; rfl

theorem contr_any (w : World) (v : Value) (ks : List Int) (h : RdI w v ks) :
    Calls Try.prog 91 #[v, .func (.func 149) #[] #[]] w fun e w' => e = .returned (.bool (ks.any offR)) ∧ w' = w := by
  have HI := Lib.hid (idxr_any w v ks h)
  clear h
  go_enter Try.func91, Try.ntmps91
  go_wp2_with (go_at_call 126; refine HI.out.mono ?_; rintro e w2 ⟨i, rfl, hi, rfl⟩; have Hi := Lib.hid hi; clear hi)
  go_ret
  exact ⟨ret_bool (by rw [← Hi.out]), rfl⟩

/-- heap.there, at one register. -/
theorem there_any (w : World) (b : Nat) (n : Int) (h : w.cell? ⟨b, 0, none⟩ = some (.int .i64 n)) :
    Calls Try.prog 124 #[.slice (some ⟨b, 0, none⟩) 1 1] w fun e w' => e = .returned (.bool (!offR n)) ∧ w' = w := by
  have HC := Lib.hid (contr_any w (.slice (some ⟨b, 0, none⟩) 1 1) [n] ⟨_, _, rfl, by simp, fun i hi => by
    have : i = 0 := by simpa using hi
    subst this
    exact ⟨b, 0, rfl, by simpa using h⟩⟩)
  go_enter Try.func124, Try.ntmps124
  go_wp2_with (go_at_call 91; refine HC.out.mono ?_; rintro e w2 ⟨rfl, rfl⟩)
  go_ret
  exact ⟨ret_bool (by simp), rfl⟩

theorem known_any (w : World) (k t s f n : Int) :
    Calls Try.prog 123 #[.agg #[.int .i64 k, .int .i64 t, .int .i64 s, .int .i64 f, .int .i64 n]] w fun e w' => e = .returned (.bool (decide (1 ≤ k) && decide (k ≤ 7))) ∧ Below w.heap.size w w' := by
  by_cases h1 : (1 : Int) ≤ k
  · have d1 : decide ((1 : Int) ≤ k) = true := by simpa using h1
    go_enter Try.func123, Try.ntmps123
    go_wp2
    go_ret
    exact ⟨ret_bool (by simp [h1]), (Below.refl _ _).alloc (Nat.le_refl _) _⟩
  · have d1 : decide ((1 : Int) ≤ k) = false := by simpa using h1
    go_enter Try.func123, Try.ntmps123
    go_wp2
    go_ret
    exact ⟨ret_bool (by simp [h1]), (Below.refl _ _).alloc (Nat.le_refl _) _⟩

end Go.Proofs.Yteghhajfkdbcdaa
