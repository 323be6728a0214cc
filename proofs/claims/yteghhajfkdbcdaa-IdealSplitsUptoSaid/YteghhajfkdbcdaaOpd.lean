/- From the row's reading to the readings of the walks: things to do; how many. -/
import Derived.Test.YteghhajfkdbcdaaOpn
import Derived.Test.YteghhajfkdbcdaaRows
namespace Go.Proofs.Yteghhajfkdbcdaa
open Go.ChangeShapes Go.WideShapes Go.RowKit Go.Deep Go.Joins
set_option linter.unusedVariables false
set_option linter.unusedSimpArgs false

theorem list5 {α : Type} {l : List α} (h : l.length = 5) : ∃ a b c d e, l = [a, b, c, d, e] := by
  match l, h with
  | [a, b, c, d, e], _ => exact ⟨a, b, c, d, e, rfl⟩
theorem bulk_pos {H : Type} (d : DataW H) : 1 ≤ Rows.uptoBulk d := by
  cases d with
  | lit l => cases l <;> simp [Rows.uptoBulk]
  | _ => simp [Rows.uptoBulk]
theorem bulk_all {H : Type} (l : List (DataW H)) : l.length ≤ Rows.uptoBulkAll l := by
  induction l with
  | nil => simp
  | cons d l ih =>
    have := bulk_pos d
    simp only [Rows.uptoBulkAll, List.length_cons]
    omega
section
variable {H : Type} {enc : TypeId × Value → H} {w : World} {fuel : Nat} {held : Bool} {spare : Nat → Bool}
set_option maxRecDepth 100000 in
theorem do_read {n : Nat} {cs : List Value} {y : DataW H × List MemPlace} {b o : Nat} {s : Option Nat} {bs : Nat} {a : Addr} (hcs : w.cells? bs a (Try.prog.cellsOf 88) = some cs) (h : DataW.trod enc Try.prog w bs spare held n 88 cs = some y) :
    ∃ d : Dl, w.cell? (a.add 0) = some (.int .i64 d.kind) ∧ w.cell? (a.add 1) = some (.int .i64 d.tgt) ∧ w.cell? (a.add 2) = some (.int .i64 d.src) ∧ w.cell? (a.add 3) = some (.int .i64 d.fld) ∧ w.cell? (a.add 4) = some (.int .i64 d.n) := by
  have c5 : Try.prog.cellsOf 88 = 5 := by kernel_rfl
  rw [c5] at hcs
  obtain ⟨_, hlen, hcell⟩ := World.cells?_some hcs
  obtain ⟨xs, k, _, _, _, hxl, hf⟩ := DataW.trod_struct Try.underlying88 h
  obtain ⟨v0, v1, v2, v3, v4, rfl⟩ := list5 hlen
  · have i1 : Try.prog.cellsOf 3 = 1 := by kernel_rfl
    have i2 : Try.prog.cellsOf 2 = 1 := by kernel_rfl
    have hxl5 : xs.length = 5 := hxl
    have g0 := hf 0 _ rfl
    change DataW.trod enc Try.prog w bs spare held k 3 (([v0, v1, v2, v3, v4].drop 0).take (Try.prog.cellsOf 3)) = xs[0]? at g0
    rw [i1] at g0
    have g1 := hf 1 _ rfl
    change DataW.trod enc Try.prog w bs spare held k 3 (([v0, v1, v2, v3, v4].drop 1).take (Try.prog.cellsOf 3)) = xs[1]? at g1
    rw [i1] at g1
    have g2 := hf 2 _ rfl
    change DataW.trod enc Try.prog w bs spare held k 3 (([v0, v1, v2, v3, v4].drop 2).take (Try.prog.cellsOf 3)) = xs[2]? at g2
    rw [i1] at g2
    have g3 := hf 3 _ rfl
    change DataW.trod enc Try.prog w bs spare held k 3 (([v0, v1, v2, v3, v4].drop 3).take (Try.prog.cellsOf 3)) = xs[3]? at g3
    rw [i1] at g3
    have g4 := hf 4 _ rfl
    change DataW.trod enc Try.prog w bs spare held k 2 (([v0, v1, v2, v3, v4].drop 4).take (Try.prog.cellsOf 2)) = xs[4]? at g4
    rw [i2] at g4
    simp only [List.drop, List.take] at g0 g1 g2 g3 g4
    rw [List.getElem?_eq_getElem (by omega)] at g0 g1 g2 g3 g4
    obtain ⟨z0, h0, _, _⟩ := DataW.trod_int Try.underlying3 g0
    obtain ⟨z1, h1, _, _⟩ := DataW.trod_int Try.underlying3 g1
    obtain ⟨z2, h2, _, _⟩ := DataW.trod_int Try.underlying3 g2
    obtain ⟨z3, h3, _, _⟩ := DataW.trod_int Try.underlying3 g3
    obtain ⟨z4, h4, _, _⟩ := DataW.trod_int Try.underlying2 g4
    simp at h0 h1 h2 h3 h4
    subst h0 h1 h2 h3 h4
    exact ⟨⟨z0, z1, z2, z3, z4⟩, by simpa using hcell 0 (by omega), by simpa using hcell 1 (by omega), by simpa using hcell 2 (by omega), by simpa using hcell 3 (by omega), by simpa using hcell 4 (by omega)⟩

set_option maxRecDepth 100000 in
theorem opn_dos {v : Value} {x : DataW H × List MemPlace} (h : DataW.trod enc Try.prog w 0 spare held fuel 22 [v] = some x) : ∃ ds, RdD w v ds ∧ ds.length ≤ Rows.uptoBulk x.1 := by
  rcases open_slice Try.underlying22 h with ⟨hcs, _⟩ | ⟨a, l, c, m, n, D, Pl, hcs, _, hl, hm, hmm, hxe, hx⟩
  · simp at hcs
    subst hcs
    exact ⟨[], ⟨none, 0, rfl, by simp, fun i hi => by simp at hi⟩, by simp⟩
  · simp at hcs
    subst hcs
    have hlm : l ≤ m := by rw [hmm]; split <;> omega
    have c5 : Try.prog.cellsOf 88 = 5 := by kernel_rfl
    obtain ⟨ds, hdl, hds⟩ := list_of (P := fun i (d : Dl) => w.cell? ((a.add (i * 5)).add 0) = some (.int .i64 d.kind) ∧ w.cell? ((a.add (i * 5)).add 1) = some (.int .i64 d.tgt) ∧ w.cell? ((a.add (i * 5)).add 2) = some (.int .i64 d.src) ∧ w.cell? ((a.add (i * 5)).add 3) = some (.int .i64 d.fld) ∧ w.cell? ((a.add (i * 5)).add 4) = some (.int .i64 d.n)) l (fun i hi => by
      obtain ⟨cs', h1, h2⟩ := hx i (by omega)
      have := do_read (b := 0) (o := 0) (s := none) h1 h2
      rw [c5] at this
      exact this)
    refine ⟨ds, ⟨some a, c, by rw [hdl], by rw [hdl]; unfold maxLen at hm; omega, fun i hi => ?_⟩, ?_⟩
    · obtain ⟨h1, h2, h3, h4, h5⟩ := hds i hi
      obtain ⟨b, off, spot⟩ := a
      have hs := World.cell?_spot (hds 0 (by omega)).1
      have hspot : spot = none := by simpa [Addr.add] using hs
      subst hspot
      rw [Addr.add_lit] at h1 h2 h3 h4 h5
      exact ⟨b, off, rfl, by simpa [Addr.add] using h1, h2, h3, h4, h5⟩
    · subst hxe
      have := bulk_all ((List.range l).map D)
      simp only [List.length_map, List.length_range] at this
      simp only [Rows.uptoBulk]
      omega
end
end Go.Proofs.Yteghhajfkdbcdaa
