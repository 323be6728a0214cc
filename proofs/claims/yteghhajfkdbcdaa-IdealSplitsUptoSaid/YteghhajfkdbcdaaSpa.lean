/- IdealSplits: the plain words. -/
import Derived.Test.YteghhajfkdbcdaaIep
namespace Go.Proofs.Yteghhajfkdbcdaa
open Go.RowKit
set_option linter.unusedVariables false
set_option linter.unusedSimpArgs false
namespace Ie

/-! ### What is found, when numbers change -/
theorem take1_snd {n B : Nat} {s : Fst} (h : FI n B s) {i d : Int} (hi : 0 ≤ i ∧ i < (n : Int)) : (take1 s i d).2 = if i ∈ s.2 then s.2 else s.2 ++ [i] := by
  have hp := h.pos i.toNat (by omega)
  rw [Int.toNat_of_nonneg hi.1] at hp
  unfold take1
  by_cases hm : i ∈ s.2
  · have := hp.2 hm
    rw [if_neg (by omega), if_pos hm]
  · rw [if_neg hm, if_pos]
    by_cases hx : s.1.getD i.toNat 0 < 0
    · exact hx
    · exact absurd (hp.1 (by omega)) hm
/-- Renumbering: injective on what is there. -/
structure Mu (μ : Int → Int) (n2 n1 : Nat) : Prop where
  rng : ∀ x, 0 ≤ x → x < (n2 : Int) → 0 ≤ μ x ∧ μ x < (n1 : Int)
  inj : ∀ x y, 0 ≤ x → x < (n2 : Int) → 0 ≤ y → y < (n2 : Int) → μ x = μ y → x = y
theorem Mu.mem {μ : Int → Int} {n2 n1 : Nat} (h : Mu μ n2 n1) {l : List Int} (hl : InR n2 l) {x : Int} (hx : 0 ≤ x ∧ x < (n2 : Int)) : μ x ∈ l.map μ ↔ x ∈ l := by
  constructor
  · intro hm
    obtain ⟨y, hy, e⟩ := List.mem_map.1 hm
    have h2 := hl y hy
    have := h.inj y x h2.1 h2.2 hx.1 hx.2 e
    subst this; exact hy
  · intro hm; exact List.mem_map_of_mem hm
theorem takeAll_mu {μ : Int → Int} {n2 n1 : Nat} (h : Mu μ n2 n1) {B1 B2 : Nat} : ∀ (ts : List Int) (d1 d2 : Int) (s1 s2 : Fst), (0 ≤ d1 ∧ d1 ≤ (B1 : Int)) → (0 ≤ d2 ∧ d2 ≤ (B2 : Int)) → FI n1 B1 s1 → FI n2 B2 s2 → InR n2 ts → s1.2 = s2.2.map μ → (takeAll (ts.map μ) d1 s1).2 = (takeAll ts d2 s2).2.map μ := by
  intro ts
  induction ts with
  | nil => intro d1 d2 s1 s2 _ _ _ _ _ h; exact h
  | cons t ts ih =>
    intro d1 d2 s1 s2 hd1 hd2 f1 f2 hr hs
    have ht := hr t (by simp)
    have ht1 := h.rng t ht.1 ht.2
    refine ih d1 d2 _ _ hd1 hd2 (take1_fi f1 ht1 hd1).1 (take1_fi f2 ht hd2).1 (fun x hx => hr x (by simp [hx])) ?_
    rw [take1_snd f1 ht1, take1_snd f2 ht, hs]
    by_cases hm : t ∈ s2.2
    · rw [if_pos hm, if_pos ((h.mem f2.inr ht).2 hm)]
    · rw [if_neg hm, if_neg (fun e => hm ((h.mem f2.inr ht).1 e))]; simp
/-- Values, renumbered. -/
def mapV (μ : Int → Int) (vs : List Vl) : List Vl := vs.map fun v => if v.ref then ⟨true, μ v.n⟩ else v
theorem tgts_mapV (μ : Int → Int) (vs : List Vl) : tgts (mapV μ vs) = (tgts vs).map μ := by
  induction vs with
  | nil => rfl
  | cons v vs ih =>
    obtain ⟨r, n⟩ := v
    cases r <;> simp [tgts, mapV] at ih ⊢ <;> exact ih
/-- Two graphs, the second renumbered within the first. -/
structure GMu (μ : Int → Int) (g1 g2 : G) : Prop where
  mu : Mu μ g2.objs.length g1.objs.length
  roots : g1.roots = mapV μ g2.roots
  objs : ∀ j, j < g2.objs.length → g1.objs.getD (μ (j : Int)).toNat [] = mapV μ (g2.objs.getD j [])
theorem iterF_mu {μ : Int → Int} {g1 g2 : G} (h : GMu μ g1 g2) (o1 : GOk g1) (o2 : GOk g2) : ∀ k, (iterF g1 k).2 = (iterF g2 k).2.map μ
  | 0 => by
    show (takeAll (tgts g1.roots) 0 _).2 = _
    rw [h.roots, tgts_mapV]
    exact takeAll_mu h.mu (B1 := 0) (B2 := 0) _ 0 0 _ _ (by simp) (by simp) (FI.start _) (FI.start _) o2.roots rfl
  | k + 1 => by
    have ih := iterF_mu h o1 o2 k
    have f1 := iterF_fi o1 k
    have f2 := iterF_fi o2 k
    show (stepF g1.objs k (iterF g1 k)).2 = (stepF g2.objs k (iterF g2 k)).2.map μ
    have hl : (iterF g1 k).2.length = (iterF g2 k).2.length := by rw [ih, List.length_map]
    unfold stepF
    by_cases hk : k < (iterF g2 k).2.length
    · rw [if_pos hk, if_pos (by omega)]
      obtain ⟨x1, hx1, e1, p1⟩ := f1.at (k := k) (by omega)
      obtain ⟨x2, hx2, e2, p2⟩ := f2.at hk
      have e : (x1 : Int) = μ x2 := by
        rw [← e1, ← e2, ih, List.getD_eq_getElem?_getD, List.getD_eq_getElem?_getD, List.getElem?_map, List.getElem?_eq_getElem hk]
        rfl
      rw [e1, e2, Int.toNat_natCast, Int.toNat_natCast]
      have := f1.le x1 hx1
      have := f2.le x2 hx2
      have ho := h.objs x2 hx2
      rw [← e, Int.toNat_natCast] at ho
      rw [ho, tgts_mapV]
      exact takeAll_mu h.mu (B1 := k + 1) (B2 := k + 1) _ _ _ _ _ (by omega) (by omega) (f1.mono (by omega)) (f2.mono (by omega)) (o2.at x2) ih
    · rw [if_neg hk, if_neg (by omega)]; exact ih
theorem Mu.le {μ : Int → Int} {n2 n1 : Nat} (h : Mu μ n2 n1) : n2 ≤ n1 := by
  have h1 : ((List.range n2).map fun i : Nat => μ (i : Int)).Nodup := by
    refine List.Pairwise.map _ ?_ (List.Pairwise.and_mem.1 (List.nodup_range (n := n2)))
    rintro a b ⟨ha, hb, hab⟩ e
    simp at ha hb
    have := h.inj a b (by omega) (by omega) (by omega) (by omega) e
    omega
  have := nodup_le h1 (n := n1) (by
    intro x hx
    obtain ⟨i, hi, rfl⟩ := List.mem_map.1 hx
    simp at hi
    exact h.rng i (by omega) (by omega))
  simpa using this
theorem foundL_mu {μ : Int → Int} {g1 g2 : G} (h : GMu μ g1 g2) (o1 : GOk g1) (o2 : GOk g2) : foundL g1 = (foundL g2).map μ := by
  have f2 := (iterF_fi o2 g2.objs.length).le_len
  have hle := h.mu.le
  have e := iterF_mu h o1 o2 g2.objs.length
  rw [foundL_of o1 (k := g2.objs.length) (by rw [e, List.length_map]; exact f2) hle, e]
  rfl
theorem numIn_mu {μ : Int → Int} {n2 n1 : Nat} (h : Mu μ n2 n1) {x : Int} (hx : 0 ≤ x ∧ x < (n2 : Int)) (l : List Int) (hl : InR n2 l) : numIn (l.map μ) (μ x) = numIn l x := by
  unfold numIn
  rw [List.foldl_map]
  have : ∀ (l : List Int) (p : Int × Int), InR n2 l → l.foldl (fun (p : Int × Int) y => (p.1 + 1, if μ x = μ y then p.1 else p.2)) p = l.foldl (fun (p : Int × Int) y => (p.1 + 1, if x = y then p.1 else p.2)) p := by
    intro l
    induction l with
    | nil => intro p _; rfl
    | cons y l ih =>
      intro p hl
      have hy := hl y (by simp)
      have e : (μ x = μ y) = (x = y) := propext ⟨fun e => h.inj x y hx.1 hx.2 hy.1 hy.2 e, fun e => by rw [e]⟩
      simp only [List.foldl_cons, e]
      exact ih _ (fun z hz => hl z (by simp [hz]))
  rw [this l _ hl]
theorem turnV_mu {μ : Int → Int} {n2 n1 : Nat} (h : Mu μ n2 n1) (l : List Int) (hl : InR n2 l) (vs : List Vl) (hv : InR n2 (tgts vs)) : turnV (l.map μ) (mapV μ vs) = turnV l vs := by
  unfold turnV mapV
  rw [List.map_map]
  refine List.map_congr_left fun v hm => ?_
  by_cases hr : v.ref
  · have := hv v.n (mem_tgts.2 ⟨v, hm, hr, rfl⟩)
    simp only [Function.comp, hr, if_true]
    rw [numIn_mu h this l hl]
  · simp [Function.comp, hr]
theorem renumG_mu {μ : Int → Int} {g1 g2 : G} (h : GMu μ g1 g2) (o1 : GOk g1) (o2 : GOk g2) : renumG g1 (foundL g1) = renumG g2 (foundL g2) := by
  have hr : InR g2.objs.length (foundL g2) := (iterF_fi o2 g2.objs.length).inr
  unfold renumG
  rw [foundL_mu h o1 o2, List.map_map, h.roots, turnV_mu h.mu _ hr _ o2.roots]
  congr 1
  refine List.map_congr_left fun x hx => ?_
  have hx2 := hr x hx
  have ho := h.objs x.toNat (by omega)
  rw [Int.toNat_of_nonneg hx2.1] at ho
  simp only [Function.comp]
  rw [ho, turnV_mu h.mu _ hr _ (o2.at _)]

end Ie
end Go.Proofs.Yteghhajfkdbcdaa
