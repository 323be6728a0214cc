/- weak: the plain law of what is kept. -/
import Derived.Test.YteghhajfkdbcdaaNum
namespace Go.Proofs.Yteghhajfkdbcdaa
open Go.RowKit
set_option linter.unusedVariables false
set_option linter.unusedSimpArgs false

def atB (kept : List Bool) (k : Nat) : Bool := kept.getD k false
def aliveV (K : Nat → Bool) (v : Vl) : Bool := !v.ref || K v.n.toNat
def strF (K : Nat → Bool) (kind : Int) (f : List Vl) : List Vl :=
  if kind = 0 then f else if kind = 2 then (match f with | [] => [] | v :: r => if aliveV K v then r else []) else []
def str (g : G) (ks : List Int) (K : Nat → Bool) (i : Nat) : List Vl := strF K (ks.getD i 0) (g.objs.getD i [])
def Closed (g : G) (ks : List Int) (L : Nat → Bool) : Prop := ∀ i, i < g.objs.length → L i = true → ∀ x ∈ tgts (str g ks L i), L x.toNat = true
def unkept (kept : List Bool) : Nat := kept.countP (fun b => !b)

structure Step (g : G) (ks : List Int) (kept : List Bool) (ts : List Int) (kept' : List Bool) (b : Bool) : Prop where
  len : kept'.length = kept.length
  mono : ∀ x, atB kept x = true → atB kept' x = true
  all : ∀ x ∈ ts, atB kept' x.toNat = true
  least : ∀ L : Nat → Bool, Closed g ks L → (∀ x, atB kept x = true → L x = true) → (∀ x ∈ ts, L x.toNat = true) → ∀ x, atB kept' x = true → L x = true
  no : b = false → kept' = kept
  yes : b = true → unkept kept' < unkept kept
  le : unkept kept' ≤ unkept kept

theorem mem_tgts {vs : List Vl} {x : Int} : x ∈ tgts vs ↔ ∃ v ∈ vs, v.ref = true ∧ v.n = x := by
  simp only [tgts, List.mem_filterMap]
  constructor
  · rintro ⟨v, hv, h⟩
    cases hr : v.ref <;> simp [hr] at h
    exact ⟨v, hv, hr, h⟩
  · rintro ⟨v, hv, hr, h⟩
    exact ⟨v, hv, by simp [hr, h]⟩
theorem aliveV_mono {K L : Nat → Bool} (h : ∀ x, K x = true → L x = true) {v : Vl} (hv : aliveV K v = true) : aliveV L v = true := by
  unfold aliveV at *
  simp only [Bool.or_eq_true] at *
  exact hv.imp id (h _)
theorem strF_mono {K L : Nat → Bool} (h : ∀ x, K x = true → L x = true) (kind : Int) (f : List Vl) {v : Vl} (hv : v ∈ strF K kind f) : v ∈ strF L kind f := by
  unfold strF at *
  split
  · rename_i hk; rw [if_pos hk] at hv; exact hv
  · rename_i hk
    rw [if_neg hk] at hv
    split
    · rename_i hk2
      rw [if_pos hk2] at hv
      cases f with
      | nil => exact hv
      | cons u r =>
        dsimp only at hv ⊢
        by_cases ha : aliveV K u = true
        · rw [if_pos ha] at hv; rw [if_pos (aliveV_mono h ha)]; exact hv
        · rw [if_neg ha] at hv; cases hv
    · rename_i hk2; rw [if_neg hk2] at hv; exact hv
theorem tgts_str_mono {g : G} {ks : List Int} {K L : Nat → Bool} (h : ∀ x, K x = true → L x = true) (i : Nat) {x : Int} (hx : x ∈ tgts (str g ks K i)) : x ∈ tgts (str g ks L i) := by
  obtain ⟨v, hv, h1, h2⟩ := mem_tgts.1 hx
  exact mem_tgts.2 ⟨v, strF_mono h _ _ hv, h1, h2⟩

theorem Step.start (g : G) (ks : List Int) (kept : List Bool) : Step g ks kept [] kept false :=
  ⟨rfl, fun _ h => h, fun x hx => by simp at hx, fun L _ h _ x hx => h x hx, fun _ => rfl, fun h => by simp at h, Nat.le_refl _⟩
theorem Step.here {g : G} {ks : List Int} {kept kept' : List Bool} {pre : List Int} {b : Bool} (h : Step g ks kept pre kept' b) (x : Int) (hx : atB kept' x.toNat = true) : Step g ks kept (pre ++ [x]) kept' b :=
  ⟨h.len, h.mono, fun y hy => by
    rcases List.mem_append.1 hy with hy | hy
    · exact h.all y hy
    · have : y = x := by simpa using hy
      subst this; exact hx, fun L hL h1 h2 y hy => h.least L hL h1 (fun z hz => h2 z (List.mem_append_left _ hz)) y hy, h.no, h.yes, h.le⟩
theorem atB_set (kept : List Bool) (k x : Nat) (hk : k < kept.length) : atB (kept.set k true) x = (atB kept x || decide (x = k)) := by
  unfold atB
  simp only [List.getD_eq_getElem?_getD, List.getElem?_set]
  by_cases h : k = x
  · subst h; simp [hk]
  · simp [h, Ne.symm h]
theorem unkept_set (kept : List Bool) (k : Nat) (hk : k < kept.length) (h : atB kept k = false) : unkept (kept.set k true) + 1 = unkept kept := by
  induction kept generalizing k with
  | nil => simp at hk
  | cons b kept ih =>
    cases k with
    | zero =>
      have : b = false := by simpa [atB] using h
      subst this
      simp [unkept]
    | succ k =>
      have := ih k (by simpa using hk) (by simpa [atB] using h)
      simp only [unkept, List.set_cons_succ, List.countP_cons] at this ⊢
      omega
theorem Step.mark {g : G} {ks : List Int} {kept kept' kept2 : List Bool} {pre : List Int} {b b2 : Bool} (h : Step g ks kept pre kept' b) (x : Int) (hg : kept.length = g.objs.length) (hlt : x.toNat < g.objs.length) (hx : atB kept' x.toNat = false)
    (h2 : Step g ks (kept'.set x.toNat true) (tgts (str g ks (atB (kept'.set x.toNat true)) x.toNat)) kept2 b2) : Step g ks kept (pre ++ [x]) kept2 true := by
  have hl : x.toNat < kept'.length := by rw [h.len]; omega
  have hm : ∀ y, atB kept' y = true → atB kept2 y = true := fun y hy => h2.mono y (by rw [atB_set _ _ _ hl, hy]; rfl)
  have hxk : atB kept2 x.toNat = true := h2.mono _ (by rw [atB_set _ _ _ hl]; simp)
  refine ⟨by rw [h2.len, List.length_set, h.len], fun y hy => hm y (h.mono y hy), fun y hy => ?_, fun L hL h3 h4 => ?_, fun h => by simp at h, fun _ => ?_, ?_⟩
  · rcases List.mem_append.1 hy with hy | hy
    · exact hm _ (h.all y hy)
    · have : y = x := by simpa using hy
      subst this; exact hxk
  · have hk' : ∀ y, atB kept' y = true → L y = true := h.least L hL h3 (fun z hz => h4 z (List.mem_append_left _ hz))
    have hLx : L x.toNat = true := h4 x (by simp)
    have hs : ∀ y, atB (kept'.set x.toNat true) y = true → L y = true := fun y hy => by
      rw [atB_set _ _ _ hl] at hy
      simp only [Bool.or_eq_true, decide_eq_true_eq] at hy
      rcases hy with hy | rfl
      · exact hk' y hy
      · exact hLx
    exact h2.least L hL hs (fun z hz => hL x.toNat hlt hLx z (tgts_str_mono hs _ hz))
  · have := unkept_set kept' x.toNat hl hx
    have := h2.le
    have := h.le
    omega
  · have := unkept_set kept' x.toNat hl hx
    have := h2.le
    have := h.le
    omega
theorem unkept_pos {kept : List Bool} {k : Nat} (hk : k < kept.length) (h : atB kept k = false) : 0 < unkept kept := by
  have := unkept_set kept k hk h
  omega

end Go.Proofs.Yteghhajfkdbcdaa
