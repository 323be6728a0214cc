/- The memory without end keeps its invariant. -/
import Derived.Test.YteghhajfkdbcdaaIdo
import Derived.Test.YteghhajfkdbcdaaGd
namespace Go.Proofs.Yteghhajfkdbcdaa
open Go.RowKit
set_option linter.unusedVariables false
set_option linter.unusedSimpArgs false

theorem isAt_set {os : Ovs} {i j : Nat} {f : List Vl} (h : isAt os i = true) (hj : isAt os j = true) : isAt (os.set j (some f)) i = true := by
  obtain ⟨g, hg⟩ := isAt_iff.1 h
  have hl := (List.getElem?_eq_some_iff.1 hg).1
  refine isAt_iff.2 ?_
  rw [List.getElem?_set]
  by_cases e : j = i
  · subst e; rw [if_pos rfl, if_pos hl]; exact ⟨f, rfl⟩
  · rw [if_neg e]; exact ⟨g, hg⟩
theorem okR_set {os : Ovs} {v : Vl} {j : Nat} {f : List Vl} (h : okR os v) (hj : isAt os j = true) : okR (os.set j (some f)) v := fun hr => ⟨(h hr).1, isAt_set (h hr).2 hj⟩
theorem set_mem {l : List Vl} {k : Nat} {v x : Vl} (h : x ∈ l.set k v) : x = v ∨ x ∈ l := by
  rw [List.mem_iff_getElem?] at h
  obtain ⟨i, hi⟩ := h
  rw [List.getElem?_set] at hi
  split at hi
  · split at hi
    · injection hi with hi; exact .inl hi.symm
    · cases hi
  · exact .inr (List.mem_of_getElem? hi)
/-- Closedness, when a field is put. -/
theorem clo_put {os : Ovs} {rs : List Vl} (h : Clo os rs) {o k : Nat} {fs : List Vl} {v : Vl} (ho : os[o]? = some (some fs)) (hv : okR os v) : Clo (os.set o (some (fs.set k v))) rs := by
  have hat : isAt os o = true := isAt_iff.2 ⟨fs, ho⟩
  refine ⟨fun x hx => okR_set (h.regs x hx) hat, ?_, h.len⟩
  intro i f hf x hx
  refine okR_set ?_ hat
  rw [List.getElem?_set] at hf
  by_cases e : o = i
  · subst e
    rw [if_pos rfl, if_pos (List.getElem?_eq_some_iff.1 ho).1] at hf
    injection hf with hf; injection hf with hf
    subst hf
    rcases set_mem hx with rfl | hx
    · exact hv
    · exact h.objs o fs ho x hx
  · rw [if_neg e] at hf
    exact h.objs i f hf x hx
theorem clo_set {os : Ovs} {rs : List Vl} (h : Clo os rs) {r : Nat} {v : Vl} (hv : okR os v) : Clo os (rs.set r v) := by
  refine ⟨fun x hx => ?_, h.objs, by rw [List.length_set]; exact h.len⟩
  rcases set_mem hx with rfl | hx
  · exact hv
  · exact h.regs x hx
theorem small_put {os : Ovs} (h : Small os) {o k : Nat} {fs : List Vl} {v : Vl} (ho : os[o]? = some (some fs)) : Small (os.set o (some (fs.set k v))) := by
  intro e he
  rw [List.mem_iff_getElem?] at he
  obtain ⟨i, hi⟩ := he
  rw [List.getElem?_set] at hi
  split at hi
  · split at hi
    · injection hi with hi
      subst hi
      have := h (some fs) (List.mem_of_getElem? ho)
      simpa using this
    · cases hi
  · exact h e (List.mem_of_getElem? hi)

namespace Ie
theorem good : Good M Inv where
  clo _ _ h := h.1
  new rs s n h hn := (new_ok h n hn rfl).1
  newok rs s n h hn _ := (new_ok h n hn rfl).2
  hold rs s r v h hr hv := ⟨clo_set h.1 hv, h.2⟩
  put rs s o k v fs h ho hk hv := by
    have e : M.put rs s o k v = s.set o (some (fs.set k v)) := by
      show s.set o (some ((fldsAt s o).set k v)) = _
      rw [fldsAt_of (show s[o]? = _ from ho)]
    rw [e]
    exact ⟨clo_put h.1 ho hv, small_put h.2 ho⟩
  lnew rs s n := by show (s ++ [some (zeroVs n)]).length ≤ _; simp [M]
  lhold _ _ _ _ := rfl
  lput rs s o k v := by show (s.set o _).length = _; simp [M]
end Ie
end Go.Proofs.Yteghhajfkdbcdaa
