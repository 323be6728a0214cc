/- The machine's block; heap.Machine's set, for the memory without end. -/
import Derived.Test.YteghhajfkdbcdaaPur
import Derived.Deep.RegionHeld3
namespace Go.Proofs.Yteghhajfkdbcdaa
open Go.RowKit
set_option linter.unusedVariables false
set_option linter.unusedSimpArgs false

/-- The machine: its registers, and its memory's value. -/
structure Mach (W : World) (bm bM : Nat) (T : TypeId) (rs : List Vl) : Prop where
  blk : W.heap[bm]? = some (.cells ((flatV rs).toArray.push (.iface T (.pointer (some ⟨bM, 0, none⟩)))) 105 (0, 0))
  len : rs.length = 8
section
variable {W W' : World} {bm bM : Nat} {T : TypeId} {rs : List Vl}
theorem Mach.mem (h : Mach W bm bM T rs) : W.cell? ⟨bm, 16, none⟩ = some (.iface T (.pointer (some ⟨bM, 0, none⟩))) := by
  refine cell_blk h.blk ?_
  have : (flatV rs).toArray.size = 16 := by simp [flatV_length, h.len]
  rw [← this, Array.getElem?_push_size]
theorem Mach.reg (h : Mach W bm bM T rs) (k : Nat) (hk : k < rs.length) : W.cell? ⟨bm, k * 2, none⟩ = some (.bool rs[k].ref) ∧ W.cell? ⟨bm, k * 2 + 1, none⟩ = some (.int .i64 rs[k].n) := by
  have h16 : (flatV rs).toArray.size = 16 := by simp [flatV_length, h.len]
  have hl := h.len
  obtain ⟨h1, h2⟩ := flatV_get rs k hk
  constructor
  · refine cell_blk h.blk ?_
    rw [Array.getElem?_push, if_neg (by omega)]
    simpa using h1
  · refine cell_blk h.blk ?_
    rw [Array.getElem?_push, if_neg (by omega)]
    simpa using h2
theorem Mach.get (h : Mach W bm bM T rs) {k : Nat} {b : Bool} {n : Int} (hk : rs[k]? = some ⟨b, n⟩) : W.cell? ⟨bm, k * 2, none⟩ = some (.bool b) ∧ W.cell? ⟨bm, k * 2 + 1, none⟩ = some (.int .i64 n) := by
  obtain ⟨hl, e⟩ := List.getElem?_eq_some_iff.1 hk
  have := h.reg k hl
  rwa [e] at this
theorem Mach.to (h : Mach W bm bM T rs) (hb : W'.heap[bm]? = W.heap[bm]?) : Mach W' bm bM T rs := ⟨hb.trans h.blk, h.len⟩
theorem Mach.fr {F F' : Nat → Prop} (h : Mach W bm bM T rs) (hf : Fr F W F' W') (hn : ¬ F bm) : Mach W' bm bM T rs := h.to (hf.keep bm (lt_blk h.blk) hn).2
theorem Mach.put (h : Mach W bm bM T rs) (k : Nat) (hk : k < 8) (v : Vl) : Mach ((W.setCell ⟨bm, k * 2, none⟩ (.bool v.ref)).setCell ⟨bm, k * 2 + 1, none⟩ (.int .i64 v.n)) bm bM T (rs.set k v) := by
  refine ⟨?_, by rw [List.length_set]; exact h.len⟩
  rw [set_blk2 h.blk]
  congr 2
  have h16 : (flatV rs).length = 16 := by rw [flatV_length, h.len]
  rw [flatV_set]
  apply Array.ext'
  simp only [Array.toList_setIfInBounds, Array.toList_push]
  rw [List.set_append_left _ _ (by rw [h16]; omega), List.set_append_left _ _ (by rw [List.length_set, h16]; omega)]
theorem Mach.alloc (h : Mach W bm bM T rs) (o : Obj) : Mach (W.alloc o) bm bM T rs := ⟨blk_alloc h.blk, h.len⟩
theorem Mach.drew (h : Mach W bm bM T rs) : Mach W.drew bm bM T rs := ⟨h.blk, h.len⟩
theorem Mach.below (h : Mach W bm bM T rs) (hb : Below W.heap.size W W') : Mach W' bm bM T rs := ⟨blk_below hb h.blk, h.len⟩
end

/-- No object has more than four fields. -/
def Small (os : Ovs) : Prop := ∀ o ∈ os, (o.getD []).length ≤ 4
theorem obs_some {L : List (Option Ob)} {os : Ovs} {i : Nat} {f : List Vl} (hob : obs L = os) (hf : os[i]? = some (some f)) : ∃ o : Ob, L[i]? = some (some o) ∧ o.fs = f := by
  subst hob
  simp only [obs, List.getElem?_map] at hf
  cases hLi : L[i]? with
  | none => rw [hLi] at hf; cases hf
  | some e =>
    cases e with
    | none => rw [hLi] at hf; cases hf
    | some o => rw [hLi] at hf; exact ⟨o, rfl, by injection hf with hf; injection hf⟩

end Go.Proofs.Yteghhajfkdbcdaa
