/- What a machine does, in plain words: registers, a memory, one thing done, a script. -/
import Derived.Test.YteghhajfkdbcdaaHpB
import Derived.Test.YteghhajfkdbcdaaHot
namespace Go.Proofs.Yteghhajfkdbcdaa
open Go.RowKit
set_option linter.unusedVariables false
set_option linter.unusedSimpArgs false

/-- What there is, by number. -/
abbrev Ovs := List (Option (List Vl))
/-- A memory, in plain words. -/
structure PMem (σ : Type) where
  objs : σ → Ovs
  new : List Vl → σ → Nat → Int × σ
  put : List Vl → σ → Nat → Nat → Vl → σ
  hold : List Vl → σ → Nat → Vl → σ

def fldsAt (os : Ovs) (n : Int) : List Vl := (os.getD n.toNat none).getD []
def regAt (rs : List Vl) (r : Int) : Vl := rs.getD r.toNat ⟨false, 0⟩
def fieldE (os : Ovs) (v : Vl) (f : Int) : Int := if v.ref = false then 5 else if f < 0 ∨ ((fldsAt os v.n).length : Int) ≤ f then 3 else 0
def fldAt (os : Ovs) (n : Int) (f : Int) : Vl := (fldsAt os n).getD f.toNat ⟨false, 0⟩
def okO : Ol := ⟨0, false, 0⟩

namespace PMem
variable {σ : Type} (M : PMem σ)
/-- A register becomes a value. -/
def set (p : List Vl × σ) (r : Int) (v : Vl) : List Vl × σ := (p.1.set r.toNat v, M.hold p.1 p.2 r.toNat v)
/-- What is done if nothing is wrong ahead. -/
def go (p : List Vl × σ) (d : Dl) : Ol × (List Vl × σ) :=
  if d.kind = 1 then
    if (M.new p.1 p.2 d.n.toNat).1 ≠ 0 then (⟨(M.new p.1 p.2 d.n.toNat).1, false, 0⟩, (p.1, (M.new p.1 p.2 d.n.toNat).2))
    else (okO, M.set (p.1, (M.new p.1 p.2 d.n.toNat).2) d.tgt ⟨true, (M.objs p.2).length⟩)
  else if d.kind = 2 then (okO, M.set p d.tgt ⟨false, d.n⟩)
  else if d.kind = 3 then (okO, M.set p d.tgt (regAt p.1 d.src))
  else if d.kind = 4 then
    if fieldE (M.objs p.2) (regAt p.1 d.tgt) d.fld ≠ 0 then (⟨fieldE (M.objs p.2) (regAt p.1 d.tgt) d.fld, false, 0⟩, p)
    else (okO, (p.1, M.put p.1 p.2 (regAt p.1 d.tgt).n.toNat d.fld.toNat (regAt p.1 d.src)))
  else if d.kind = 5 then
    if fieldE (M.objs p.2) (regAt p.1 d.src) d.fld ≠ 0 then (⟨fieldE (M.objs p.2) (regAt p.1 d.src) d.fld, false, 0⟩, p)
    else (okO, M.set p d.tgt (fldAt (M.objs p.2) (regAt p.1 d.src).n d.fld))
  else if d.kind = 6 then (if regAt p.1 d.tgt = regAt p.1 d.src then ⟨0, false, 1⟩ else okO, p)
  else (if (regAt p.1 d.src).ref then ⟨0, true, (fldsAt (M.objs p.2) (regAt p.1 d.src).n).length⟩ else ⟨0, false, (regAt p.1 d.src).n⟩, p)
/-- One thing done. -/
def step (p : List Vl × σ) (d : Dl) : Ol × (List Vl × σ) := if wrongD d ≠ 0 then (⟨wrongD d, false, 0⟩, p) else M.go p d
end PMem

/-- Each reference is to something that is there. -/
def okR (os : Ovs) (v : Vl) : Prop := v.ref = true → 0 ≤ v.n ∧ isAt os v.n.toNat = true
/-- All that stands anywhere refers to what is there. -/
structure Clo (os : Ovs) (rs : List Vl) : Prop where
  regs : ∀ v ∈ rs, okR os v
  objs : ∀ (i : Nat) (f : List Vl), os[i]? = some (some f) → ∀ v ∈ f, okR os v
  len : rs.length = 8

theorem wrongD_zero {d : Dl} (h : wrongD d = 0) : 1 ≤ d.kind ∧ d.kind ≤ 7 ∧ (d.kind ≠ 7 → 0 ≤ d.tgt ∧ d.tgt < 8) ∧ (d.kind ≠ 1 → d.kind ≠ 2 → 0 ≤ d.src ∧ d.src < 8) ∧ (d.kind = 1 → 0 ≤ d.n ∧ d.n ≤ 4) := by
  unfold wrongD offR at h
  split at h
  · cases h
  · split at h
    · cases h
    · split at h
      · cases h
      · split at h
        · cases h
        · rename_i h1 h2 h3 h4
          simp only [Bool.or_eq_true, decide_eq_true_eq, not_or, not_and] at h2 h3
          refine ⟨by omega, by omega, fun hk => ?_, fun k1 k2 => ?_, fun hk => ?_⟩
          · have := h2.1 hk; omega
          · have := h2.2 k1 k2; omega
          · have := h3 hk; omega
theorem isAt_iff {os : Ovs} {i : Nat} : isAt os i = true ↔ ∃ f, os[i]? = some (some f) := by
  unfold isAt
  rw [List.getD_eq_getElem?_getD]
  cases h : os[i]? with
  | none => simp
  | some e => cases e <;> simp
theorem fldsAt_of {os : Ovs} {i : Nat} {f : List Vl} (h : os[i]? = some (some f)) : fldsAt os (i : Int) = f := by simp [fldsAt, h]
theorem regAt_mem {rs : List Vl} (hl : rs.length = 8) {r : Int} (h0 : 0 ≤ r) (h8 : r < 8) : ∃ k : Nat, (k : Int) = r ∧ ∃ h : k < rs.length, regAt rs r = rs[k] := by
  refine ⟨r.toNat, by omega, by omega, ?_⟩
  have : r.toNat < rs.length := by omega
  simp [regAt, this]
end Go.Proofs.Yteghhajfkdbcdaa
