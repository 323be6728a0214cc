/- A script done: the plain words; rows of what was told. -/
import Derived.Test.YteghhajfkdbcdaaPur
namespace Go.Proofs.Yteghhajfkdbcdaa
open Go.RowKit
set_option linter.unusedVariables false
set_option linter.unusedSimpArgs false

section
variable {σ : Type} (M : PMem σ)
/-- What is told of a script, and what is there behind it. -/
def PMem.run (p : List Vl × σ) : List Dl → List Ol × (List Vl × σ)
  | [] => ([], p)
  | d :: ds => ((M.step p d).1 :: (PMem.run (M.step p d).2 ds).1, (PMem.run (M.step p d).2 ds).2)
theorem PMem.run_append (p : List Vl × σ) (a b : List Dl) : M.run p (a ++ b) = ((M.run p a).1 ++ (M.run (M.run p a).2 b).1, (M.run (M.run p a).2 b).2) := by
  induction a generalizing p with
  | nil => rfl
  | cons d a ih => simp only [List.cons_append, PMem.run, ih]
theorem PMem.run_snoc (p : List Vl × σ) (a : List Dl) (d : Dl) : M.run p (a ++ [d]) = ((M.run p a).1 ++ [(M.step (M.run p a).2 d).1], (M.step (M.run p a).2 d).2) := by
  rw [PMem.run_append]; rfl
theorem PMem.run_len (p : List Vl × σ) (a : List Dl) : (M.run p a).1.length = a.length := by
  induction a generalizing p with
  | nil => rfl
  | cons d a ih => simp only [PMem.run, List.length_cons, ih]
end

/-- Rows of api.Out of the call's own. -/
def flatU (xs : List Ol) : List Value := xs.flatMap Ol.cells
theorem flatU_length (xs : List Ol) : (flatU xs).length = xs.length * 3 := by
  induction xs with
  | nil => rfl
  | cons x xs ih => simp [flatU, Ol.cells] at ih ⊢; omega
theorem flatU_snoc (xs : List Ol) (y : Ol) : flatU (xs ++ [y]) = flatU xs ++ y.cells := by simp [flatU]
theorem flatU_get (xs : List Ol) (i : Nat) (h : i < xs.length) : (flatU xs)[i * 3]? = some (.int .i64 xs[i].code) ∧ (flatU xs)[i * 3 + 1]? = some (.bool xs[i].ref) ∧ (flatU xs)[i * 3 + 2]? = some (.int .i64 xs[i].n) := by
  induction xs generalizing i with
  | nil => simp at h
  | cons x xs ih =>
    cases i with
    | zero => simp [flatU, Ol.cells]
    | succ i =>
      have := ih i (by simpa using h)
      rw [show (i + 1) * 3 = i * 3 + 3 from by omega]
      simpa [flatU, Ol.cells, Nat.add_right_comm] using this
def OwnU (W : World) (base : Nat) (v : Value) (xs : List Ol) : Prop := W.ownsRow base 37 3 v xs.length (flatU xs)
theorem Try.info37 : (Try.prog.info? 37).map (fun i => (i.zero, i.size, i.bytes)) = some (some (.agg #[.int .i64 0, .bool false, .int .i64 0]), 3, 24) := by kernel_rfl
theorem OwnU.nil (W : World) (base : Nat) : OwnU W base (.slice none 0 0) [] := ⟨by simp [flatU], .inl ⟨rfl, rfl⟩⟩
theorem OwnU.rd {W : World} {base : Nat} {v : Value} {xs : List Ol} (h : OwnU W base v xs) : RdU W v xs := by
  rcases h.2 with ⟨rfl, h0⟩ | ⟨g, cap, cur, rfl, hb, hh, h1, h2, h3, h4⟩
  · have : xs = [] := List.eq_nil_of_length_eq_zero h0
    subst this
    exact ⟨none, 0, rfl, by simp, fun i hi => by simp at hi⟩
  · refine ⟨_, cap, rfl, by unfold maxLen at h2; omega, fun i hi => ⟨g, 0, rfl, ?_⟩⟩
    have h5 := flatU_get xs i hi
    rw [← h4] at h5
    simp only [List.getElem?_take, Array.getElem?_toList] at h5
    rw [if_pos (by omega), if_pos (by omega), if_pos (by omega)] at h5
    simp only [Nat.zero_add]
    exact ⟨by simp [World.cell?, hh, h5.1], by simp [World.cell?, hh, h5.2.1], by simp [World.cell?, hh, h5.2.2]⟩
theorem OwnU.same {w W : World} {base : Nat} {v : Value} {xs : List Ol} (h : OwnU w base v xs) (hs : ∀ b, base ≤ b → W.heap[b]? = w.heap[b]?) : OwnU W base v xs := own_same h hs

/-- Registers laid out. -/
theorem regs8 {rs : List Vl} (h : rs.length = 8) : ∃ b0 n0 b1 n1 b2 n2 b3 n3 b4 n4 b5 n5 b6 n6 b7 n7, rs = [⟨b0, n0⟩, ⟨b1, n1⟩, ⟨b2, n2⟩, ⟨b3, n3⟩, ⟨b4, n4⟩, ⟨b5, n5⟩, ⟨b6, n6⟩, ⟨b7, n7⟩] := by
  match rs, h with
  | [⟨b0, n0⟩, ⟨b1, n1⟩, ⟨b2, n2⟩, ⟨b3, n3⟩, ⟨b4, n4⟩, ⟨b5, n5⟩, ⟨b6, n6⟩, ⟨b7, n7⟩], _ => exact ⟨_, _, _, _, _, _, _, _, _, _, _, _, _, _, _, _, rfl⟩
theorem regs0_len {rs : List Vl} (h : rs.length ≤ 8) : (regs0 rs).length = 8 := by simp [regs0, zeroVs]; omega

end Go.Proofs.Yteghhajfkdbcdaa
