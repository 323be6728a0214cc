/- graph.Found: plain facts of what it does. -/
import Derived.Test.YteghhajfkdbcdaaFnd
namespace Go.Proofs.Yteghhajfkdbcdaa
open Go.RowKit
set_option linter.unusedVariables false
set_option linter.unusedSimpArgs false

/-- Some objects' numbers. -/
def InR (n : Nat) (ts : List Int) : Prop := ∀ x ∈ ts, 0 ≤ x ∧ x < (n : Int)
/-- How far is 0 or more just where something was found; and no more than B. -/
structure FI (n B : Nat) (s : Fst) : Prop where
  len : s.1.length = n
  inr : InR n s.2
  nodup : s.2.Nodup
  pos : ∀ i, i < n → (0 ≤ s.1.getD i 0 ↔ (i : Int) ∈ s.2)
  le : ∀ i, i < n → s.1.getD i 0 ≤ (B : Int)
/-- What has been found stays. -/
structure FExt (s s' : Fst) : Prop where
  pre : ∃ e, s'.2 = s.2 ++ e
  keep : ∀ i, 0 ≤ s.1.getD i 0 → s.1.length ≤ i ∨ s'.1.getD i 0 = s.1.getD i 0
  len : s'.1.length = s.1.length
theorem FExt.refl (s : Fst) : FExt s s := ⟨⟨[], by simp⟩, fun _ _ => .inr rfl, rfl⟩
theorem FExt.trans {a b c : Fst} (h : FExt a b) (k : FExt b c) : FExt a c := by
  obtain ⟨e, h1⟩ := h.pre
  obtain ⟨f, h2⟩ := k.pre
  refine ⟨⟨e ++ f, by rw [h2, h1, List.append_assoc]⟩, fun i hi => ?_, k.len.trans h.len⟩
  rcases h.keep i hi with h3 | h3
  · exact .inl h3
  · rcases k.keep i (by rw [h3]; exact hi) with h4 | h4
    · left; rw [← h.len]; exact h4
    · right; rw [h4, h3]
theorem getD_set {l : List Int} {i j : Nat} {x : Int} (hi : i < l.length) : (l.set i x).getD j 0 = if i = j then x else l.getD j 0 := by
  simp only [List.getD_eq_getElem?_getD, List.getElem?_set]
  split
  · rename_i e; subst e; simp [hi]
  · rfl
theorem take1_fi {n B : Nat} {s : Fst} (h : FI n B s) {i d : Int} (hi : 0 ≤ i ∧ i < (n : Int)) (hd : 0 ≤ d ∧ d ≤ (B : Int)) : FI n B (take1 s i d) ∧ FExt s (take1 s i d) := by
  unfold take1
  by_cases hx : s.1.getD i.toNat 0 < 0
  · rw [if_pos hx]
    have hit : i.toNat < s.1.length := by rw [h.len]; omega
    have hni : i ∉ s.2 := by
      intro hm
      have := (h.pos i.toNat (by omega)).2 (by rw [Int.toNat_of_nonneg hi.1]; exact hm)
      omega
    refine ⟨⟨by simpa using h.len, ?_, ?_, ?_, ?_⟩, ⟨[i], rfl⟩, ?_, by simp⟩
    · intro x hx
      rcases List.mem_append.1 hx with hx | hx
      · exact h.inr x hx
      · have : x = i := by simpa using hx
        subst this; exact hi
    · rw [List.nodup_append]
      refine ⟨h.nodup, by simp, ?_⟩
      intro a ha b hb e
      have : b = i := by simpa using hb
      subst this; subst e; exact hni ha
    · intro j hj
      rw [getD_set hit]
      by_cases e : i.toNat = j
      · rw [if_pos e]
        subst e
        rw [Int.toNat_of_nonneg hi.1]
        simp [hd.1]
      · rw [if_neg e, h.pos j hj]
        simp only [List.mem_append, List.mem_singleton]
        constructor
        · exact .inl
        · rintro (h1 | h1)
          · exact h1
          · omega
    · intro j hj
      rw [getD_set hit]
      split
      · exact hd.2
      · exact h.le j hj
    · intro j hj
      right
      rw [getD_set hit, if_neg]
      intro e; subst e; omega
  · rw [if_neg hx]; exact ⟨h, .refl s⟩
theorem takeAll_fi {n B : Nat} {d : Int} (hd : 0 ≤ d ∧ d ≤ (B : Int)) : ∀ (ts : List Int) (s : Fst), FI n B s → InR n ts → FI n B (takeAll ts d s) ∧ FExt s (takeAll ts d s) := by
  intro ts
  induction ts with
  | nil => intro s h _; exact ⟨h, .refl s⟩
  | cons t ts ih =>
    intro s h ht
    obtain ⟨h1, h2⟩ := take1_fi h (ht t (by simp)) hd
    obtain ⟨h3, h4⟩ := ih _ h1 (fun x hx => ht x (by simp [hx]))
    exact ⟨h3, h2.trans h4⟩
theorem takeAll_snoc (ts : List Int) (t d : Int) (s : Fst) : takeAll (ts ++ [t]) d s = take1 (takeAll ts d s) t d := by simp [takeAll]
theorem FI.mono {n B B' : Nat} {s : Fst} (h : FI n B s) (hB : B ≤ B') : FI n B' s := ⟨h.len, h.inr, h.nodup, h.pos, fun i hi => by have := h.le i hi; omega⟩
theorem FI.start (n : Nat) : FI n 0 (List.replicate n (-1), []) := by
  refine ⟨by simp, by intro x hx; simp at hx, by simp, fun i hi => ?_, fun i hi => ?_⟩
  · simp [List.getD_eq_getElem?_getD, hi]
  · simp [List.getD_eq_getElem?_getD, hi]
/-- The numbers that stand in a list of no doubles within n are n at most. -/
theorem nodup_le {n : Nat} {l : List Int} (hn : l.Nodup) (hr : InR n l) : l.length ≤ n := by
  have h1 : (l.map Int.toNat).Nodup := by
    refine List.Pairwise.map _ ?_ (List.Pairwise.and_mem.1 hn)
    rintro a b ⟨ha, hb, hab⟩ e
    have := (hr a ha).1
    have := (hr b hb).1
    exact hab (by omega)
  have h2 : (l.map Int.toNat) ⊆ List.range n := by
    intro x hx
    obtain ⟨y, hy, rfl⟩ := List.mem_map.1 hx
    have := hr y hy
    exact List.mem_range.2 (by omega)
  have := h1.length_le_of_subset h2
  simpa using this
theorem FI.le_len {n B : Nat} {s : Fst} (h : FI n B s) : s.2.length ≤ n := nodup_le h.nodup h.inr

/-- All that stands in a graph refers to its objects. -/
structure GOk (g : G) : Prop where
  roots : InR g.objs.length (tgts g.roots)
  objs : ∀ o ∈ g.objs, InR g.objs.length (tgts o)
theorem GOk.at {g : G} (h : GOk g) (i : Nat) : InR g.objs.length (tgts (g.objs.getD i [])) := by
  by_cases hi : i < g.objs.length
  · rw [getD_lt_ _ _ hi]; exact h.objs _ (List.getElem_mem hi)
  · rw [List.getD_eq_getElem?_getD, List.getElem?_eq_none (Nat.le_of_not_lt hi)]; intro x hx; simp [tgts] at hx
where
  getD_lt_ (l : List (List Vl)) (i : Nat) (h : i < l.length) : l.getD i [] = l[i] := by simp [h]
theorem startF_fi {g : G} (h : GOk g) : FI g.objs.length 0 (startF g) := (takeAll_fi (by simp) _ _ (FI.start _) h.roots).1
theorem getD_mem {l : List Int} {k : Nat} (hk : k < l.length) : l.getD k 0 ∈ l := by
  rw [List.getD_eq_getElem?_getD, List.getElem?_eq_getElem hk]; exact List.getElem_mem hk
theorem FI.at {n B : Nat} {s : Fst} (h : FI n B s) {k : Nat} (hk : k < s.2.length) : ∃ x : Nat, x < n ∧ s.2.getD k 0 = (x : Int) ∧ 0 ≤ s.1.getD x 0 := by
  have hm := getD_mem hk
  obtain ⟨h0, h1⟩ := h.inr _ hm
  refine ⟨(s.2.getD k 0).toNat, by omega, by rw [Int.toNat_of_nonneg h0], ?_⟩
  rw [h.pos _ (by omega), Int.toNat_of_nonneg h0]
  exact hm
theorem stepF_fi {g : G} (h : GOk g) {k : Nat} {s : Fst} (hs : FI g.objs.length k s) : FI g.objs.length (k + 1) (stepF g.objs k s) ∧ FExt s (stepF g.objs k s) := by
  unfold stepF
  split
  · rename_i hk
    obtain ⟨x, hx, e, hp⟩ := hs.at hk
    rw [e, Int.toNat_natCast]
    have := hs.le x hx
    exact takeAll_fi (by omega) _ _ (hs.mono (by omega)) (h.at x)
  · exact ⟨hs.mono (by omega), .refl s⟩
theorem iterF_fi {g : G} (h : GOk g) : ∀ k, FI g.objs.length k (iterF g k)
  | 0 => startF_fi h
  | k + 1 => (stepF_fi h (iterF_fi h k)).1
/-- Behind the last one nothing more is done. -/
theorem iterF_stop {g : G} {k : Nat} (hk : (iterF g k).2.length ≤ k) : ∀ j, iterF g (k + j) = iterF g k
  | 0 => rfl
  | j + 1 => by
    have ih := iterF_stop hk j
    show stepF g.objs (k + j) (iterF g (k + j)) = _
    rw [ih]
    unfold stepF
    rw [if_neg (by omega)]
theorem foundL_of {g : G} (h : GOk g) {k : Nat} (hk : (iterF g k).2.length ≤ k) (hkn : k ≤ g.objs.length) : foundL g = (iterF g k).2 := by
  unfold foundL
  obtain ⟨j, hj⟩ := Nat.exists_eq_add_of_le hkn
  rw [hj, iterF_stop hk j]

end Go.Proofs.Yteghhajfkdbcdaa
