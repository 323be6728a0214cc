/- From the row's reading to the readings of the walks. -/
import Derived.Test.YteghhajfkdbcdaaNum
import Derived.Deep.Slices
import Derived.Deep.SlicePairs
import Derived.ChangeSlices
import Derived.Lib.SmallJoins
namespace Go.Proofs.Yteghhajfkdbcdaa
open Go.ChangeShapes Go.WideShapes Go.RowKit Go.Deep Go.Joins
set_option linter.unusedVariables false
set_option linter.unusedSimpArgs false

theorem list_of {α : Type} {P : Nat → α → Prop} : ∀ n, (∀ i, i < n → ∃ x, P i x) → ∃ xs : List α, xs.length = n ∧ ∀ i, (h : i < xs.length) → P i xs[i] := by
  intro n
  induction n with
  | zero => intro _; exact ⟨[], rfl, fun i h => by simp at h⟩
  | succ n ih =>
    intro h
    obtain ⟨xs, hl, hx⟩ := ih fun i hi => h i (by omega)
    obtain ⟨y, hy⟩ := h n (by omega)
    refine ⟨xs ++ [y], by simp [hl], fun i hi => ?_⟩
    by_cases hin : i < xs.length
    · rw [List.getElem_append_left hin]; exact hx i hin
    · have : i = n := by simp at hi; omega
      subst this
      rw [List.getElem_append_right (by omega)]
      simpa [hl] using hy

section
variable {H : Type} {enc : TypeId × Value → H} {w : World} {fuel : Nat} {held : Bool} {spare : Nat → Bool}

theorem opn_ints {v : Value} {x : DataW H × List MemPlace} (h : DataW.trod enc Try.prog w 0 spare held fuel 39 [v] = some x) : ∃ xs, RdI w v xs ∧ ∀ n ∈ xs, (Lit.int .i64 n).wf = true := by
  rcases open_ints Try.underlying39 Try.underlying3 (by kernel_rfl) h with ⟨hcs, _⟩ | ⟨a, l, c, zs, hcs, _, hl, hm, hz, _, hcell, hwz⟩
  · simp at hcs
    subst hcs
    exact ⟨[], ⟨none, 0, rfl, by simp, fun i hi => by simp at hi⟩, by simp⟩
  · simp at hcs
    subst hcs
    have hlz : l ≤ zs.length := by rw [hz]; split <;> omega
    refine ⟨zs.take l, ⟨some a, c, by simp [Nat.min_eq_left hlz], by unfold maxLen at hm; simp; omega, fun i hi => ?_⟩, fun n hn => hwz n (List.mem_of_mem_take hn)⟩
    have hil : i < l := by simp at hi; omega
    have hc := hcell i (by omega)
    obtain ⟨b, off, spot⟩ := a
    have hs := World.cell?_spot (hcell 0 (by omega))
    have hspot : spot = none := by simpa [Addr.add] using hs
    subst hspot
    refine ⟨b, off, rfl, ?_⟩
    rw [Addr.add_lit] at hc
    rw [hc]
    simp [show i < zs.length by omega]

theorem opn_vals {v : Value} {x : DataW H × List MemPlace} (h : DataW.trod enc Try.prog w 0 spare held fuel 25 [v] = some x) : ∃ xs, RdV w v xs := by
  rcases open_slice_pairs Try.underlying25 Try.underlying99 (by kernel_rfl) rfl rfl (by kernel_rfl) (by kernel_rfl) h with ⟨hcs, _⟩ | ⟨a, l, c, m, n, V0, V1, D0, D1, P0, P1, hcs, _, hl, hm, hmm, _, hx⟩
  · simp at hcs
    subst hcs
    exact ⟨[], none, 0, rfl, by simp, fun i hi => by simp at hi⟩
  · simp at hcs
    subst hcs
    have hlm : l ≤ m := by rw [hmm]; split <;> omega
    obtain ⟨xs, hxl, hxs⟩ := list_of (P := fun i (y : Vl) => w.cell? (a.add (i * 2)) = some (.bool y.ref) ∧ w.cell? (a.add (i * 2 + 1)) = some (.int .i64 y.n)) l (fun i hi => by
      obtain ⟨h1, h2, h3, h4⟩ := hx i (by omega)
      obtain ⟨b, hb, _⟩ := DataW.trod_bool Try.underlying4 h3
      obtain ⟨z, hz, _, _⟩ := DataW.trod_int Try.underlying2 h4
      simp at hb hz
      exact ⟨⟨b, z⟩, by rw [h1, hb], by rw [h2, hz]⟩)
    refine ⟨xs, some a, c, by rw [hxl], by rw [hxl]; unfold maxLen at hm; omega, fun i hi => ?_⟩
    obtain ⟨h1, h2⟩ := hxs i hi
    obtain ⟨b, off, spot⟩ := a
    have hs := World.cell?_spot (hxs 0 (by omega)).1
    have hspot : spot = none := by simpa [Addr.add] using hs
    subst hspot
    rw [Addr.add_lit] at h1 h2
    exact ⟨b, off, rfl, h1, h2⟩

theorem opn_objs {v : Value} {x : DataW H × List MemPlace} (h : DataW.trod enc Try.prog w 0 spare held fuel 24 [v] = some x) : ∃ os, RdO w v os := by
  rcases open_slice1 Try.underlying24 (by kernel_rfl) h with ⟨hcs, _⟩ | ⟨a, l, c, m, n, V, D, P, hcs, _, hl, hm, hmm, _, hx⟩
  · simp at hcs
    subst hcs
    exact ⟨[], none, 0, rfl, by simp, fun i hi => by simp at hi⟩
  · simp at hcs
    subst hcs
    have hlm : l ≤ m := by rw [hmm]; split <;> omega
    have hc25 : Try.prog.cellsOf 25 = 1 := by kernel_rfl
    obtain ⟨os, hol, hos⟩ := list_of (P := fun i (y : List Vl) => ∃ fv, w.cell? (a.add i) = some fv ∧ RdV w fv y) l (fun i hi => by
      obtain ⟨h1, h2⟩ := hx i (by omega)
      obtain ⟨y0, n', _, _, h3⟩ := trod_struct1 Try.underlying48 h2
      have h4 : DataW.trod enc Try.prog w 0 spare held n' 25 [V i] = some y0 := by simpa [hc25] using h3
      obtain ⟨xs, hxs⟩ := opn_vals h4
      exact ⟨xs, V i, h1, hxs⟩)
    refine ⟨os, some a, c, by rw [hol], by rw [hol]; unfold maxLen at hm; omega, fun i hi => ?_⟩
    obtain ⟨fv, h1, h2⟩ := hos i hi
    obtain ⟨b, off, spot⟩ := a
    obtain ⟨fv0, h10, _⟩ := hos 0 (by omega)
    have hs := World.cell?_spot h10
    have hspot : spot = none := by simpa [Addr.add] using hs
    subst hspot
    rw [Addr.add_lit] at h1
    exact ⟨b, off, fv, rfl, h1, h2⟩

set_option maxRecDepth 100000 in
theorem opn_graph {r : Reach} {b0 : Nat} {v : Value} {d : DataW H} {p : List MemPlace} (hv : Value.okWide Try.prog w r b0 27 v) (h : DataW.Trod enc Try.prog w 0 spare held 27 v d p) : ∃ g, RdG w v g := by
  obtain ⟨v0, v1, y0, y1, n, rfl, _, _, h0, h1⟩ := open_agg2 Try.underlying27 (by kernel_rfl) (by kernel_rfl) hv h
  obtain ⟨os, ho⟩ := opn_objs h0
  obtain ⟨xs, hx⟩ := opn_vals h1
  exact ⟨⟨os, xs⟩, v0, v1, rfl, ho, hx⟩
end
end Go.Proofs.Yteghhajfkdbcdaa
