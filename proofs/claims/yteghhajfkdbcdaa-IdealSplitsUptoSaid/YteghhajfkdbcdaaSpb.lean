/- IdealSplits: two memories that are the same but for numbers do the same. -/
import Derived.Test.YteghhajfkdbcdaaSpa
namespace Go.Proofs.Yteghhajfkdbcdaa
open Go.RowKit
set_option linter.unusedVariables false
set_option linter.unusedSimpArgs false
namespace Ie

def mu (m : List Int) (x : Int) : Int := m.getD x.toNat 0
def mv (μ : Int → Int) (v : Vl) : Vl := if v.ref then ⟨true, μ v.n⟩ else v
theorem mapV_eq (μ : Int → Int) (vs : List Vl) : mapV μ vs = vs.map (mv μ) := rfl
theorem mv_ref (μ : Int → Int) (v : Vl) : (mv μ v).ref = v.ref := by
  unfold mv; split
  · rename_i h; exact h.symm
  · rfl
theorem mapV_congr {μ μ' : Int → Int} {vs : List Vl} (h : ∀ v ∈ vs, v.ref = true → μ v.n = μ' v.n) : mapV μ vs = mapV μ' vs := by
  unfold mapV
  refine List.map_congr_left fun v hm => ?_
  by_cases hr : v.ref
  · simp only [hr, if_true]; rw [h v hm hr]
  · simp [hr]
theorem mapV_len (μ : Int → Int) (vs : List Vl) : (mapV μ vs).length = vs.length := by simp [mapV]
theorem mapV_getD (μ : Int → Int) (vs : List Vl) (i : Nat) : (mapV μ vs).getD i ⟨false, 0⟩ = mv μ (vs.getD i ⟨false, 0⟩) := by
  rw [mapV_eq, List.getD_eq_getElem?_getD, List.getD_eq_getElem?_getD, List.getElem?_map]
  cases vs[i]? with
  | none => rfl
  | some v => rfl
theorem mapV_set (μ : Int → Int) (vs : List Vl) (i : Nat) (v : Vl) : mapV μ (vs.set i v) = (mapV μ vs).set i (mv μ v) := by
  rw [mapV_eq, mapV_eq, List.map_set]
theorem mapV_zero (μ : Int → Int) (n : Nat) : mapV μ (zeroVs n) = zeroVs n := by simp [mapV, zeroVs]

/-- The first state is the second one, renumbered, and more. -/
structure SR (m : List Int) (p1 p2 : List Vl × Ovs) : Prop where
  regs : p1.1 = mapV (mu m) p2.1
  len : m.length = p2.2.length
  inr : InR p1.2.length m
  nodup : m.Nodup
  objs : ∀ j, j < p2.2.length → ∃ (k : Nat) (f : List Vl), p2.2[j]? = some (some f) ∧ m[j]? = some (k : Int) ∧ p1.2[k]? = some (some (mapV (mu m) f))
theorem mu_of {m : List Int} {j k : Nat} (h : m[j]? = some (k : Int)) : mu m (j : Int) = k := by
  unfold mu
  rw [Int.toNat_natCast, List.getD_eq_getElem?_getD, h]; rfl
section
variable {m : List Int} {p1 p2 : List Vl × Ovs}
theorem SR.mu (h : SR m p1 p2) : Mu (mu m) p2.2.length p1.2.length where
  rng x h0 h1 := by
    obtain ⟨k, f, e1, e2, e3⟩ := h.objs x.toNat (by omega)
    have := mu_of e2
    rw [Int.toNat_of_nonneg h0] at this
    have hk := (List.getElem?_eq_some_iff.1 e3).1
    omega
  inj x y h0 h1 k0 k1 e := by
    obtain ⟨k, f, e1, e2, e3⟩ := h.objs x.toNat (by omega)
    obtain ⟨k', f', e1', e2', e3'⟩ := h.objs y.toNat (by omega)
    have q1 := mu_of e2
    have q2 := mu_of e2'
    rw [Int.toNat_of_nonneg h0] at q1
    rw [Int.toNat_of_nonneg k0] at q2
    have hlx : x.toNat < m.length := by rw [h.len]; omega
    have hly : y.toNat < m.length := by rw [h.len]; omega
    have : x.toNat = y.toNat := by
      refine (List.getElem_inj (h₀ := hlx) (h₁ := hly) h.nodup).1 ?_
      have r1 : m[x.toNat] = (k : Int) := by rw [List.getElem?_eq_getElem hlx] at e2; exact Option.some.inj e2
      have r2 : m[y.toNat] = (k' : Int) := by rw [List.getElem?_eq_getElem hly] at e2'; exact Option.some.inj e2'
      rw [r1, r2]; omega
    omega
/-- What an object refers to, seen from both. -/
theorem SR.at (h : SR m p1 p2) {v : Vl} (hv : okR p2.2 v) (hr : v.ref = true) : ∃ (j k : Nat) (f : List Vl), v.n = j ∧ j < p2.2.length ∧ mv (Ie.mu m) v = ⟨true, k⟩ ∧ m[j]? = some (k : Int) ∧ p2.2[j]? = some (some f) ∧ p1.2[k]? = some (some (mapV (Ie.mu m) f)) := by
  obtain ⟨h0, h1⟩ := hv hr
  obtain ⟨f, hf⟩ := isAt_iff.1 h1
  have hl := (List.getElem?_eq_some_iff.1 hf).1
  obtain ⟨k, f', e1, e2, e3⟩ := h.objs _ hl
  have q := mu_of e2
  rw [Int.toNat_of_nonneg h0] at q
  refine ⟨v.n.toNat, k, f', by omega, hl, ?_, e2, e1, e3⟩
  unfold mv
  rw [if_pos hr, q]
theorem SR.flds (h : SR m p1 p2) {v : Vl} (hv : okR p2.2 v) (hr : v.ref = true) : fldsAt p1.2 (mv (Ie.mu m) v).n = mapV (Ie.mu m) (fldsAt p2.2 v.n) := by
  obtain ⟨j, k, f, e1, e2, e3, e4, e5, e6⟩ := h.at hv hr
  rw [e3, e1, fldsAt_of e5]
  exact fldsAt_of e6
theorem SR.fieldE (h : SR m p1 p2) {v : Vl} (hv : okR p2.2 v) (f : Int) : fieldE p1.2 (mv (Ie.mu m) v) f = fieldE p2.2 v f := by
  unfold Yteghhajfkdbcdaa.fieldE
  rw [mv_ref]
  cases hr : v.ref
  · rfl
  · rw [h.flds hv hr, mapV_len]
theorem SR.fldAt (h : SR m p1 p2) {v : Vl} (hv : okR p2.2 v) (hr : v.ref = true) (f : Int) : fldAt p1.2 (mv (Ie.mu m) v).n f = mv (Ie.mu m) (fldAt p2.2 v.n f) := by
  unfold Yteghhajfkdbcdaa.fldAt
  rw [h.flds hv hr, mapV_getD]
theorem SR.reg (h : SR m p1 p2) (r : Int) : regAt p1.1 r = mv (Ie.mu m) (regAt p2.1 r) := by
  unfold regAt
  rw [h.regs, mapV_getD]
theorem SR.eqv (h : SR m p1 p2) {v u : Vl} (hv : okR p2.2 v) (hu : okR p2.2 u) : (mv (Ie.mu m) v = mv (Ie.mu m) u) = (v = u) := by
  refine propext ⟨fun e => ?_, fun e => by rw [e]⟩
  have hr : v.ref = u.ref := by rw [← mv_ref (Ie.mu m) v, e, mv_ref]
  obtain ⟨r, x⟩ := v
  obtain ⟨r', y⟩ := u
  simp only at hr
  subst hr
  cases r
  · simpa [mv] using e
  · obtain ⟨a0, a1⟩ := hv rfl
    obtain ⟨b0, b1⟩ := hu rfl
    obtain ⟨_, f1⟩ := isAt_iff.1 a1
    obtain ⟨_, f2⟩ := isAt_iff.1 b1
    have g1 := (List.getElem?_eq_some_iff.1 f1).1
    have g2 := (List.getElem?_eq_some_iff.1 f2).1
    simp only [mv, if_true, Vl.mk.injEq, true_and] at e
    have := h.mu.inj x y a0 (by simp only at g1; omega) b0 (by simp only at g2; omega) e
    rw [this]
theorem SR.set (h : SR m p1 p2) (r : Nat) (v : Vl) : SR m (p1.1.set r (mv (Ie.mu m) v), p1.2) (p2.1.set r v, p2.2) :=
  ⟨by show _ = mapV _ (p2.1.set r v); rw [mapV_set, h.regs], h.len, h.inr, h.nodup, h.objs⟩
theorem SR.put (h : SR m p1 p2) {u v : Vl} (hu : okR p2.2 u) (hr : u.ref = true) (k : Nat) :
    SR m (p1.1, M.put p1.1 p1.2 (mv (Ie.mu m) u).n.toNat k (mv (Ie.mu m) v)) (p2.1, M.put p2.1 p2.2 u.n.toNat k v) := by
  obtain ⟨j, i, f, e1, e2, e3, e4, e5, e6⟩ := h.at hu hr
  rw [e3, e1]
  simp only [Int.toNat_natCast]
  have q1 : M.put p1.1 p1.2 i k (mv (Ie.mu m) v) = p1.2.set i (some (mapV (Ie.mu m) (f.set k v))) := by
    show p1.2.set i (some ((fldsAt p1.2 i).set k _)) = _
    rw [fldsAt_of e6, mapV_set]
  have q2 : M.put p2.1 p2.2 j k v = p2.2.set j (some (f.set k v)) := by
    show p2.2.set j (some ((fldsAt p2.2 j).set k _)) = _
    rw [fldsAt_of e5]
  rw [q1, q2]
  have hi := (List.getElem?_eq_some_iff.1 e6).1
  refine ⟨h.regs, by simpa using h.len, by simpa using h.inr, h.nodup, fun x hx => ?_⟩
  simp only [List.length_set] at hx
  by_cases hxj : x = j
  · subst hxj
    exact ⟨i, f.set k v, by rw [List.getElem?_set_self hx], e4, by rw [List.getElem?_set_self hi]⟩
  · obtain ⟨i', f', a1, a2, a3⟩ := h.objs x hx
    refine ⟨i', f', by rw [List.getElem?_set_ne (fun e => hxj e.symm)]; exact a1, a2, ?_⟩
    rw [List.getElem?_set_ne]
    · exact a3
    · intro e
      subst e
      have hlx : x < m.length := by rw [h.len]; exact hx
      have hlj : j < m.length := by rw [h.len]; exact e2
      refine hxj ((List.getElem_inj (h₀ := hlx) (h₁ := hlj) h.nodup).1 ?_)
      rw [List.getElem?_eq_getElem hlx] at a2
      rw [List.getElem?_eq_getElem hlj] at e4
      rw [Option.some.inj a2, Option.some.inj e4]
theorem mu_snoc {m : List Int} {x y : Int} (h : x.toNat < m.length) : Ie.mu (m ++ [y]) x = Ie.mu m x := by
  unfold Ie.mu
  rw [List.getD_eq_getElem?_getD, List.getD_eq_getElem?_getD, List.getElem?_append_left h]
theorem ok_lt {os : Ovs} {v : Vl} (h : okR os v) (hr : v.ref = true) : v.n.toNat < os.length := by
  obtain ⟨f, hf⟩ := isAt_iff.1 (h hr).2
  exact (List.getElem?_eq_some_iff.1 hf).1
theorem SR.new (h : SR m p1 p2) (c2 : Clo p2.2 p2.1) (n : Nat) : SR (m ++ [(p1.2.length : Int)]) (p1.1, p1.2 ++ [some (zeroVs n)]) (p2.1, p2.2 ++ [some (zeroVs n)]) := by
  refine ⟨?_, by simp [h.len], ?_, ?_, fun j hj => ?_⟩
  · show p1.1 = mapV _ p2.1
    rw [h.regs]
    exact mapV_congr fun v hm hr => (mu_snoc (by rw [h.len]; exact ok_lt (c2.regs v hm) hr)).symm
  · intro x hx
    simp only [List.length_append, List.length_cons, List.length_nil]
    rcases List.mem_append.1 hx with hx | hx
    · have := h.inr x hx; omega
    · have : x = (p1.2.length : Int) := by simpa using hx
      omega
  · rw [List.nodup_append]
    refine ⟨h.nodup, by simp, ?_⟩
    intro a ha b hb e
    have := h.inr a ha
    have : b = (p1.2.length : Int) := by simpa using hb
    omega
  · simp only [List.length_append, List.length_cons, List.length_nil] at hj
    by_cases hl : j < p2.2.length
    · obtain ⟨k, f, e1, e2, e3⟩ := h.objs j hl
      refine ⟨k, f, by rw [List.getElem?_append_left hl]; exact e1, by rw [List.getElem?_append_left (by rw [h.len]; exact hl)]; exact e2, ?_⟩
      rw [List.getElem?_append_left (List.getElem?_eq_some_iff.1 e3).1, e3]
      congr 2
      exact mapV_congr fun v hm hr => (mu_snoc (by rw [h.len]; exact ok_lt (c2.objs j f e1 v hm) hr)).symm
    · have : j = p2.2.length := by omega
      subst this
      refine ⟨p1.2.length, zeroVs n, by simp, by rw [← h.len]; simp, ?_⟩
      rw [mapV_zero]; simp

theorem SR.step (h : SR m p1 p2) (c2 : Clo p2.2 p2.1) (d : Dl) : (M.step p1 d).1 = (M.step p2 d).1 ∧ ∃ m', SR m' (M.step p1 d).2 (M.step p2 d).2 := by
  unfold PMem.step
  by_cases hw : wrongD d ≠ 0
  · rw [if_pos hw, if_pos hw]; exact ⟨rfl, m, h⟩
  · rw [if_neg hw, if_neg hw]
    obtain ⟨k1, k7, z1, z2, z3⟩ := wrongD_zero (Decidable.not_not.1 hw)
    unfold PMem.go
    by_cases e1 : d.kind = 1
    · rw [if_pos e1, if_pos e1, if_neg (by simp [M]), if_neg (by simp [M])]
      refine ⟨rfl, m ++ [(p1.2.length : Int)], ?_⟩
      have hn := (h.new c2 d.n.toNat).set d.tgt.toNat ⟨true, p2.2.length⟩
      have e : mv (Ie.mu (m ++ [(p1.2.length : Int)])) ⟨true, p2.2.length⟩ = ⟨true, p1.2.length⟩ := by
        simp only [mv, if_true]
        rw [mu_of (k := p1.2.length) (by rw [← h.len]; simp)]
      rw [e] at hn
      exact hn
    · rw [if_neg e1, if_neg e1]
      by_cases e2 : d.kind = 2
      · rw [if_pos e2, if_pos e2]
        exact ⟨rfl, m, h.set d.tgt.toNat ⟨false, d.n⟩⟩
      · rw [if_neg e2, if_neg e2]
        obtain ⟨s0, s8⟩ := z2 e1 e2
        have hsrc := c2.regs _ (regAt_in c2.len s0 s8)
        by_cases e3 : d.kind = 3
        · rw [if_pos e3, if_pos e3]
          refine ⟨rfl, m, ?_⟩
          have := h.set d.tgt.toNat (regAt p2.1 d.src)
          rw [← h.reg] at this
          exact this
        · rw [if_neg e3, if_neg e3]
          by_cases e4 : d.kind = 4
          · rw [if_pos e4, if_pos e4]
            obtain ⟨t0, t8⟩ := z1 (by omega)
            have htgt := c2.regs _ (regAt_in c2.len t0 t8)
            rw [h.reg d.tgt, show M.objs p1.2 = p1.2 from rfl, show M.objs p2.2 = p2.2 from rfl, h.fieldE htgt]
            by_cases hf : Yteghhajfkdbcdaa.fieldE p2.2 (regAt p2.1 d.tgt) d.fld ≠ 0
            · rw [if_pos hf, if_pos hf]; exact ⟨rfl, m, h⟩
            · rw [if_neg hf, if_neg hf]
              obtain ⟨r1, r2, r3⟩ := fieldE_zero (Decidable.not_not.1 hf)
              refine ⟨rfl, m, ?_⟩
              rw [h.reg d.src]
              exact h.put htgt r1 d.fld.toNat
          · rw [if_neg e4, if_neg e4]
            by_cases e5 : d.kind = 5
            · rw [if_pos e5, if_pos e5]
              rw [h.reg d.src, show M.objs p1.2 = p1.2 from rfl, show M.objs p2.2 = p2.2 from rfl, h.fieldE hsrc]
              by_cases hf : Yteghhajfkdbcdaa.fieldE p2.2 (regAt p2.1 d.src) d.fld ≠ 0
              · rw [if_pos hf, if_pos hf]; exact ⟨rfl, m, h⟩
              · rw [if_neg hf, if_neg hf]
                obtain ⟨r1, r2, r3⟩ := fieldE_zero (Decidable.not_not.1 hf)
                refine ⟨rfl, m, ?_⟩
                rw [h.fldAt hsrc r1]
                exact h.set d.tgt.toNat _
            · rw [if_neg e5, if_neg e5]
              by_cases e6 : d.kind = 6
              · rw [if_pos e6, if_pos e6]
                obtain ⟨t0, t8⟩ := z1 (by omega)
                have htgt := c2.regs _ (regAt_in c2.len t0 t8)
                refine ⟨?_, m, h⟩
                rw [h.reg d.tgt, h.reg d.src]
                simp only [h.eqv htgt hsrc]
              · rw [if_neg e6, if_neg e6]
                refine ⟨?_, m, h⟩
                rw [h.reg d.src, mv_ref]
                cases hr : (regAt p2.1 d.src).ref
                · simp only [Bool.false_eq_true, if_false, mv, hr]
                · simp only [if_true]
                  rw [show M.objs p1.2 = p1.2 from rfl, show M.objs p2.2 = p2.2 from rfl, h.flds hsrc hr, mapV_len]
theorem SR.run (h : SR m p1 p2) (c2 : Inv p2.1 p2.2) (ds : List Dl) : (M.run p1 ds).1 = (M.run p2 ds).1 ∧ ∃ m', SR m' (M.run p1 ds).2 (M.run p2 ds).2 := by
  induction ds generalizing m p1 p2 with
  | nil => exact ⟨rfl, m, h⟩
  | cons d ds ih =>
    obtain ⟨h1, m', h2⟩ := h.step c2.1 d
    obtain ⟨h3, m'', h4⟩ := ih h2 (good.step c2 d)
    refine ⟨?_, m'', h4⟩
    simp only [PMem.run]
    rw [h1, h3]
theorem SR.gmu (h : SR m p1 p2) : GMu (Ie.mu m) (graphOf p1.2 p1.1) (graphOf p2.2 p2.1) where
  mu := by simpa [graphOf] using h.mu
  roots := h.regs
  objs j hj := by
    simp only [graphOf, List.length_map] at hj
    obtain ⟨k, f, e1, e2, e3⟩ := h.objs j hj
    rw [mu_of e2]
    simp [graphOf, e1, e3]
theorem SR.canon (h : SR m p1 p2) (c1 : Clo p1.2 p1.1) (c2 : Clo p2.2 p2.1) : canonOf p1.2 p1.1 = canonOf p2.2 p2.1 := renumG_mu h.gmu (graphOf_ok c1) (graphOf_ok c2)
end

end Ie
end Go.Proofs.Yteghhajfkdbcdaa
