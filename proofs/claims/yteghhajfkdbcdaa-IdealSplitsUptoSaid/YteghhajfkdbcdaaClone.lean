/- slices.Clone at values. -/
import Derived.Test.YteghhajfkdbcdaaGck
namespace Go.Proofs.Yteghhajfkdbcdaa
open Go.RowKit
set_option linter.unusedVariables false
set_option linter.unusedSimpArgs false

theorem flatV_get' (xs : List Vl) (j : Nat) (u : Value) (h : (flatV xs)[j]? = some u) : ∃ i, ∃ hi : i < xs.length, (j = i * 2 ∧ u = .bool xs[i].ref) ∨ (j = i * 2 + 1 ∧ u = .int .i64 xs[i].n) := by
  have hlt : j < (flatV xs).length := (List.getElem?_eq_some_iff.1 h).1
  rw [flatV_length] at hlt
  have hi : j / 2 < xs.length := by omega
  obtain ⟨h1, h2⟩ := flatV_get xs (j / 2) hi
  refine ⟨j / 2, hi, ?_⟩
  rcases Nat.mod_two_eq_zero_or_one j with h0 | h0
  · left
    have e : j = j / 2 * 2 := by omega
    rw [← e, h] at h1
    exact ⟨e, Option.some.inj h1⟩
  · right
    have e : j = j / 2 * 2 + 1 := by omega
    rw [← e, h] at h2
    exact ⟨e, Option.some.inj h2⟩

set_option maxRecDepth 20000 in
set_option maxHeartbeats 1000000 in
/-- slices.Clone at values -/
theorem clone_any (w : World) (v : Value) (vs : List Vl) (h : RdV w v vs) (hz : vs.length ≤ 1099511627776) :
    Calls Try.prog 55 #[v] w fun e w' => ∃ v', e = .returned v' ∧ OwnV w' w.heap.size v' vs ∧ Below w.heap.size w w' := by
  obtain ⟨A, c, rfl, hm, hc⟩ := h
  have he := fun (w : World) => Lib.run_eql_slice_nil (P := Try.prog) w 25 99 A vs.length c 0 0 Try.underlying25
  cases A with
  | none =>
    have hvs : vs = [] := by
      rcases vs with _ | ⟨x, xs⟩
      · rfl
      · obtain ⟨b, off, ha, _⟩ := hc 0 (by simp); cases ha
    subst hvs
    simp only [List.length_nil] at he ⊢
    go_enter Try.func55, Try.ntmps55
    go_wp2_with fail
    go_ret
    exact ⟨_, rfl, OwnV.nil _ _, Below.refl _ _⟩
  | some ad =>
    obtain ⟨i0, hi, hz0, hz1, hz2⟩ := info_parts Try.info99
    have hnews : ∀ j u, (flatV vs)[j]? = some u → w.cell? (ad.add j) = some u := by
      intro j u hu
      obtain ⟨i, hi, hju⟩ := flatV_get' vs j u hu
      obtain ⟨b, off, ha, h1, h2⟩ := hc i hi
      cases ha
      rcases hju with ⟨rfl, rfl⟩ | ⟨rfl, rfl⟩
      · rw [Addr.add_lit]; exact h1
      · rw [Addr.add_lit]; exact h2
    have hone : ∀ u ∈ flatV vs, u.oneCell' = true := by
      intro u hu
      simp only [flatV, List.mem_flatMap, Vl.cells, List.mem_cons, List.mem_nil_iff, or_false] at hu
      obtain ⟨x, _, rfl | rfl⟩ := hu <;> rfl
    have Hnews := Lib.hid hnews
    have Hone := Lib.hid hone
    have Hi := Lib.hid hi
    have Hz0 := Lib.hid hz0
    have Hz1 := Lib.hid hz1
    have Hz2 := Lib.hid hz2
    clear hnews hone hi hz0 hz1 hz2 hc
    go_enter Try.func55, Try.ntmps55
    go_wp2_with (at_builtin; go_loud (refine wpList_append_own (w.alloc (.cells #[] 99)) rfl _ _ 25 rfl w.heap.size 99 i0 _ 2 16 Try.underlying25 Hi.out Hz0.out Hz1.out Hz2.out rfl (by omega) _ 0 [] rfl ?h1 ad vs.length c (flatV vs) rfl (flatV_length vs) ?h2 Hone.out ?h3 ?h4 ?h5 ?_))
    case h1 => exact ⟨rfl, .inr ⟨w.heap.size, 0, #[], rfl, Nat.le_refl _, heap_alloc_new w _, Nat.le_refl _, by simp, rfl, rfl⟩⟩
    case h2 => intro j u hu; exact later_below ((Below.refl w.heap.size w).alloc (Nat.le_refl _) _) _ _ (Hnews.out j u hu)
    case h3 => unfold maxLen; omega
    case h4 => omega
    case h5 => simp
    intro v' w' hown hg _
    go_wp2
    go_ret
    refine ⟨_, rfl, by simpa [OwnV] using hown, ((Below.refl w.heap.size w).alloc (Nat.le_refl _) _).grown hg (by simp) ?_⟩
    intro k hk
    simp [Value.ownBlock] at hk
    omega
end Go.Proofs.Yteghhajfkdbcdaa
