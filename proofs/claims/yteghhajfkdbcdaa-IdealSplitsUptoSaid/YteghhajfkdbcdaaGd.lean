/- What is kept by each thing done, whatever the memory. -/
import Derived.Test.YteghhajfkdbcdaaRun
namespace Go.Proofs.Yteghhajfkdbcdaa
open Go.RowKit
set_option linter.unusedVariables false
set_option linter.unusedSimpArgs false

/-- An invariant that a memory keeps. -/
structure Good {σ : Type} (M : PMem σ) (Inv : List Vl → σ → Prop) : Prop where
  clo : ∀ rs s, Inv rs s → Clo (M.objs s) rs
  new : ∀ rs s n, Inv rs s → n ≤ 4 → Inv rs (M.new rs s n).2
  newok : ∀ rs s n, Inv rs s → n ≤ 4 → (M.new rs s n).1 = 0 → isAt (M.objs (M.new rs s n).2) (M.objs s).length = true
  hold : ∀ rs s r v, Inv rs s → r < 8 → okR (M.objs s) v → Inv (rs.set r v) (M.hold rs s r v)
  put : ∀ rs s o k v fs, Inv rs s → (M.objs s)[o]? = some (some fs) → k < fs.length → okR (M.objs s) v → Inv rs (M.put rs s o k v)
  lnew : ∀ rs s n, (M.objs (M.new rs s n).2).length ≤ (M.objs s).length + 1
  lhold : ∀ rs s r v, (M.objs (M.hold rs s r v)).length = (M.objs s).length
  lput : ∀ rs s o k v, (M.objs (M.put rs s o k v)).length = (M.objs s).length

theorem fieldE_zero {os : Ovs} {v : Vl} {f : Int} (h : fieldE os v f = 0) : v.ref = true ∧ 0 ≤ f ∧ f < ((fldsAt os v.n).length : Int) := by
  unfold fieldE at h
  cases hr : v.ref
  · rw [hr] at h; simp at h
  · rw [hr, if_neg (by simp)] at h
    by_cases hf : f < 0 ∨ ((fldsAt os v.n).length : Int) ≤ f
    · rw [if_pos hf] at h; cases h
    · exact ⟨rfl, by omega, by omega⟩
theorem regAt_in {rs : List Vl} (hl : rs.length = 8) {r : Int} (h0 : 0 ≤ r) (h8 : r < 8) : regAt rs r ∈ rs := by
  obtain ⟨k, _, h, e⟩ := regAt_mem hl h0 h8
  rw [e]; exact List.getElem_mem h
theorem okR_at {os : Ovs} {v : Vl} (h : okR os v) (hr : v.ref = true) : ∃ fs, os[v.n.toNat]? = some (some fs) ∧ fldsAt os v.n = fs := by
  obtain ⟨_, h2⟩ := h hr
  obtain ⟨fs, hfs⟩ := isAt_iff.1 h2
  exact ⟨fs, hfs, by unfold fldsAt; simp [hfs]⟩

section
variable {σ : Type} {M : PMem σ} {Inv : List Vl → σ → Prop}
theorem Good.step (g : Good M Inv) {p : List Vl × σ} (h : Inv p.1 p.2) (d : Dl) : Inv (M.step p d).2.1 (M.step p d).2.2 := by
  unfold PMem.step
  by_cases hw : wrongD d ≠ 0
  · rw [if_pos hw]; exact h
  · rw [if_neg hw]
    obtain ⟨k1, k7, z1, z2, z3⟩ := wrongD_zero (Decidable.not_not.1 hw)
    have hc := g.clo _ _ h
    unfold PMem.go
    by_cases e1 : d.kind = 1
    · rw [if_pos e1]
      obtain ⟨n0, n4⟩ := z3 e1
      obtain ⟨t0, t8⟩ := z1 (by omega)
      by_cases he : (M.new p.1 p.2 d.n.toNat).1 ≠ 0
      · rw [if_pos he]; exact g.new _ _ _ h (by omega)
      · rw [if_neg he]
        exact g.hold _ _ _ _ (g.new _ _ _ h (by omega)) (by omega) (fun _ => ⟨by simp, by simpa using g.newok _ _ _ h (by omega) (Decidable.not_not.1 he)⟩)
    · rw [if_neg e1]
      by_cases e2 : d.kind = 2
      · rw [if_pos e2]
        obtain ⟨t0, t8⟩ := z1 (by omega)
        exact g.hold _ _ _ _ h (by omega) (fun e => by cases e)
      · rw [if_neg e2]
        obtain ⟨s0, s8⟩ := z2 e1 e2
        have hsrc := hc.regs _ (regAt_in hc.len s0 s8)
        by_cases e3 : d.kind = 3
        · rw [if_pos e3]
          obtain ⟨t0, t8⟩ := z1 (by omega)
          exact g.hold _ _ _ _ h (by omega) hsrc
        · rw [if_neg e3]
          by_cases e4 : d.kind = 4
          · rw [if_pos e4]
            by_cases hf : fieldE (M.objs p.2) (regAt p.1 d.tgt) d.fld ≠ 0
            · rw [if_pos hf]; exact h
            · rw [if_neg hf]
              obtain ⟨t0, t8⟩ := z1 (by omega)
              obtain ⟨r1, r2, r3⟩ := fieldE_zero (Decidable.not_not.1 hf)
              obtain ⟨fs, hfs, hfl⟩ := okR_at (hc.regs _ (regAt_in hc.len t0 t8)) r1
              rw [hfl] at r3
              exact g.put _ _ _ _ _ fs h hfs (by omega) hsrc
          · rw [if_neg e4]
            by_cases e5 : d.kind = 5
            · rw [if_pos e5]
              by_cases hf : fieldE (M.objs p.2) (regAt p.1 d.src) d.fld ≠ 0
              · rw [if_pos hf]; exact h
              · rw [if_neg hf]
                obtain ⟨t0, t8⟩ := z1 (by omega)
                obtain ⟨r1, r2, r3⟩ := fieldE_zero (Decidable.not_not.1 hf)
                obtain ⟨fs, hfs, hfl⟩ := okR_at hsrc r1
                refine g.hold _ _ _ _ h (by omega) ?_
                unfold fldAt
                rw [hfl] at r3 ⊢
                have hlt : d.fld.toNat < fs.length := by omega
                have e : fs.getD d.fld.toNat ⟨false, 0⟩ = fs[d.fld.toNat] := by simp [hlt]
                rw [e]
                exact hc.objs _ fs hfs _ (List.getElem_mem hlt)
            · rw [if_neg e5]
              by_cases e6 : d.kind = 6
              · rw [if_pos e6]; exact h
              · rw [if_neg e6]; exact h
theorem Good.steplen (g : Good M Inv) (p : List Vl × σ) (d : Dl) : (M.objs (M.step p d).2.2).length ≤ (M.objs p.2).length + 1 := by
  unfold PMem.step
  split
  · exact Nat.le_succ _
  · unfold PMem.go
    split
    · split
      · exact g.lnew _ _ _
      · show (M.objs (M.hold _ _ _ _)).length ≤ _
        rw [g.lhold]; exact g.lnew _ _ _
    · split
      · show (M.objs (M.hold _ _ _ _)).length ≤ _
        rw [g.lhold]; exact Nat.le_succ _
      · split
        · show (M.objs (M.hold _ _ _ _)).length ≤ _
          rw [g.lhold]; exact Nat.le_succ _
        · split
          · split
            · exact Nat.le_succ _
            · show (M.objs (M.put _ _ _ _ _)).length ≤ _
              rw [g.lput]; exact Nat.le_succ _
          · split
            · split
              · exact Nat.le_succ _
              · show (M.objs (M.hold _ _ _ _)).length ≤ _
                rw [g.lhold]; exact Nat.le_succ _
            · split <;> exact Nat.le_succ _
theorem Good.run (g : Good M Inv) {p : List Vl × σ} (h : Inv p.1 p.2) (ds : List Dl) : Inv (M.run p ds).2.1 (M.run p ds).2.2 ∧ (M.objs (M.run p ds).2.2).length ≤ (M.objs p.2).length + ds.length := by
  induction ds generalizing p with
  | nil => exact ⟨h, Nat.le_refl _⟩
  | cons d ds ih =>
    obtain ⟨h1, h2⟩ := ih (g.step h d)
    refine ⟨h1, ?_⟩
    have := g.steplen p d
    simp only [PMem.run, List.length_cons] at h2 ⊢
    omega
end

end Go.Proofs.Yteghhajfkdbcdaa
