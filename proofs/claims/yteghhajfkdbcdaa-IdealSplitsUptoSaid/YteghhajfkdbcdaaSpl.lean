/- IdealSplits: the walk. -/
import Derived.Test.YteghhajfkdbcdaaSpc
import Derived.Test.YteghhajfkdbcdaaSpw
import Derived.Test.YteghhajfkdbcdaaWkO
import Derived.Laws.Slices
namespace Go.Proofs.Yteghhajfkdbcdaa
open Go.RowKit
set_option linter.unusedVariables false
set_option linter.unusedSimpArgs false
namespace Ie

theorem bel_t {w W w5 : World} (h : Below w.heap.size w W) (hB : Below W.heap.size W w5) : Below w.heap.size w w5 := h.trans (hB.mono h.size)
theorem bel_d {w W w5 : World} (h : Below w.heap.size w W) (hB : Below W.drew.heap.size W.drew w5) : Below w.heap.size w w5 := h.drew.trans (hB.mono h.drew.size)
theorem bel_a {w : World} (o : Obj) : Below w.heap.size w (w.alloc o) := (Below.refl _ _).alloc (Nat.le_refl _) o
theorem bel_cells {w W : World} {b : Nat} {x y : Value} (h : w.heap[b]? = some (.cells #[x, y] 27 (0, 0))) (hB : Below w.heap.size w W) : Below w.heap.size w W ∧ W.cell? ⟨b, 0, none⟩ = some x ∧ W.cell? ⟨b, 1, none⟩ = some y :=
  ⟨hB, later_below hB _ _ (cell_blk (j := 0) h rfl), later_below hB _ _ (cell_blk (j := 1) h rfl)⟩

theorem rdu_take {W : World} {A : Option Addr} {c : Nat} {xs : List Ol} {k : Nat} (c' : Nat) (h : RdU W (.slice A xs.length c) xs) (hk : k ≤ xs.length) : RdU W (.slice A k c') (xs.take k) := by
  obtain ⟨A', d, e, hm, hc⟩ := h
  injection e with e1 _ _
  subst e1
  have hl : (xs.take k).length = k := by rw [List.length_take]; omega
  refine ⟨A, c', by rw [hl], by omega, fun i hi => ?_⟩
  have hi2 : i < xs.length := by omega
  obtain ⟨b, off, h1, h2, h3, h4⟩ := hc i hi2
  exact ⟨b, off, h1, by rw [List.getElem_take]; exact h2, by rw [List.getElem_take]; exact h3, by rw [List.getElem_take]; exact h4⟩
theorem rdu_drop {W : World} {b off : Nat} {c : Nat} {xs : List Ol} {k : Nat} (c' : Nat) (h : RdU W (.slice (some ⟨b, off, none⟩) xs.length c) xs) (hk : k ≤ xs.length) (n : Nat) (hn : n = xs.length - k) (o : Nat) (ho : o = off + k * 3) : RdU W (.slice (some ⟨b, o, none⟩) n c') (xs.drop k) := by
  obtain ⟨A', d, e, hm, hc⟩ := h
  injection e with e1 _ _
  subst e1
  subst hn ho
  refine ⟨_, c', by rw [List.length_drop], by rw [List.length_drop]; omega, fun i hi => ⟨b, off + k * 3, rfl, ?_⟩⟩
  rw [List.length_drop] at hi
  obtain ⟨b', off', h1, h2, h3, h4⟩ := hc (k + i) (by omega)
  injection h1 with h1
  injection h1 with h1 h1'
  subst h1 h1'
  simp only [List.getElem_drop]
  rw [show off + k * 3 + i * 3 = off + (k + i) * 3 from by omega]
  exact ⟨h2, h3, h4⟩

theorem rdu_dA {W : World} {A : Option Addr} {c : Nat} {xs : List Ol} {k : Nat} (c' : Nat) (h : RdU W (.slice A xs.length c) xs) (hk : k ≤ xs.length) : RdU W (.slice (A.map (fun x => x.add (k * 3))) (xs.length - k) c') (xs.drop k) := by
  by_cases e : k = xs.length
  · subst e
    exact ⟨_, c', by rw [List.length_drop], by simp, fun i hi => by simp at hi⟩
  · have h' := id h
    obtain ⟨A', d, e', hm, hx⟩ := h
    injection e' with e1 _ _
    obtain ⟨b, off, h1, _⟩ := hx 0 (by omega)
    rw [h1] at e1
    subst e1
    show RdU W (.slice (some (Addr.add ⟨b, off, none⟩ (k * 3))) _ _) _
    rw [Addr.add_lit]
    exact rdu_drop _ h' hk _ rfl _ (by rfl)
theorem rdu_dB {W : World} (A : Option Addr) (c' k : Nat) (xs : List Ol) (hk : xs.length ≤ k) : RdU W (.slice A (xs.length - k) c') (xs.drop k) :=
  ⟨A, c', by rw [List.length_drop], by rw [List.length_drop]; omega, fun i hi => by rw [List.length_drop] at hi; omega⟩

/-- What IdealSplits asks, the two scripts' row a letter. -/
structure SplitR (g : G) (a b ab : List Dl) : Prop where
  len : ab.length = a.length + b.length
  z1 : playE g a ≠ 0 → playO g a = []
  z2 : playE g a = 0 → playE g ab ≠ 0 → 100 < a.length + b.length
  z3 : playE g a = 0 → playE g ab = 0 → (playO g a).length = a.length ∧ (playO g ab).length = a.length + b.length ∧ (playO g ab).take a.length = playO g a ∧ (playG g a).roots.length = 8
  z4 : playE g a = 0 → playE g ab = 0 → playE (playG g a) b ≠ 0 → 24 < (playG g a).objs.length
  z5 : playE g a = 0 → playE g ab = 0 → playE (playG g a) b = 0 → playO (playG g a) b = (playO g ab).drop a.length ∧ playG (playG g a) b = playG g ab
theorem splits_holds' (g : G) (a b : List Dl) : SplitR g a b (a ++ b) := by
  obtain ⟨h1, h2, h3, h4, h5⟩ := splits_holds g a b
  exact ⟨List.length_append, h1, h2, h3, h4, h5⟩

set_option maxRecDepth 100000 in
set_option maxHeartbeats 4000000 in
/-- ragpickerkeep.IdealSplits -/
theorem splits_any (w : World) (gv av bv : Value) (g : G) (a b : List Dl) (hg : RdG w gv g) (ha : RdD w av a) (hb : RdD w bv b) (hz : a.length ≤ 1048576) (hz2 : b.length ≤ 1048576) :
    Calls Try.prog 8 #[gv, av, bv] w fun e w' => e = .returned (.bool true) ∧ Below w.heap.size w w' := by
  have HF : Hid (SplitR g a b (a ++ b)) := splits_holds' g a b
  have Hg := Lib.hid hg
  have Ha := Lib.hid ha
  have Hb := Lib.hid hb
  have Hz := Lib.hid hz
  have Hz2 := Lib.hid hz2
  obtain ⟨vo, vr, rfl, ho, hroots⟩ := hg
  obtain ⟨Ao, co, rfl, hmo, -⟩ := ho
  obtain ⟨Ar, cr, rfl, hmr, -⟩ := hroots
  obtain ⟨As, cs, rfl, hms, -⟩ := ha
  obtain ⟨Bs, ds, rfl, hmt, -⟩ := hb
  obtain ⟨ab, hab⟩ : ∃ x, x = a ++ b := ⟨_, rfl⟩
  have Hab : Hid (a ++ b = ab) := hab.symm
  rw [← hab] at HF
  clear hab
  obtain ⟨ea, hea⟩ : ∃ x, x = playE g a := ⟨_, rfl⟩
  obtain ⟨ex, hex⟩ : ∃ x, x = playE g ab := ⟨_, rfl⟩
  obtain ⟨la, hla⟩ : ∃ x, x = playO g a := ⟨_, rfl⟩
  obtain ⟨lx, hlx⟩ : ∃ x, x = playO g ab := ⟨_, rfl⟩
  obtain ⟨ga, hga⟩ : ∃ x, x = playG g a := ⟨_, rfl⟩
  obtain ⟨gx, hgx⟩ : ∃ x, x = playG g ab := ⟨_, rfl⟩
  have Hea : Hid (playE g a = ea) := hea.symm
  have Hex : Hid (playE g ab = ex) := hex.symm
  have Hla : Hid (playO g a = la) := hla.symm
  have Hlx : Hid (playO g ab = lx) := hlx.symm
  have Hga : Hid (playG g a = ga) := hga.symm
  have Hgx : Hid (playG g ab = gx) := hgx.symm
  clear hea hex hla hlx hga hgx
  by_cases h1 : ea = 0
  · by_cases h2 : ex = 0
    · subst h1 h2
      obtain ⟨m1, m2, m3, m4⟩ := HF.out.z3 Hea.out Hex.out
      rw [Hla.out] at m1
      rw [Hlx.out] at m2
      rw [Hlx.out, Hla.out] at m3
      rw [Hga.out] at m4
      have c1 : ((la.length : Int) != (a.length : Int)) = false := by simp; omega
      have c2 : ((lx.length : Int) != (a.length : Int) + (b.length : Int)) = false := by simp; omega
      have c3 : ((ga.roots.length : Int) != 8) = false := by simp; omega
      have HM := Lib.hid (And.intro m1 (And.intro m2 m3))
      clear m1 m2 m3 m4
      obtain ⟨e3, he3⟩ : ∃ x, x = playE ga b := ⟨_, rfl⟩
      obtain ⟨l3, hl3⟩ : ∃ x, x = playO ga b := ⟨_, rfl⟩
      obtain ⟨g3, hg3⟩ : ∃ x, x = playG ga b := ⟨_, rfl⟩
      have He3 : Hid (playE ga b = e3) := he3.symm
      have Hl3 : Hid (playO ga b = l3) := hl3.symm
      have Hgg3 : Hid (playG ga b = g3) := hg3.symm
      clear he3 hl3 hg3
      by_cases h3 : e3 = 0
      · subst h3
        have HE : Hid (l3 = lx.drop a.length ∧ g3 = gx) := by
          have := HF.out.z5 Hea.out Hex.out
          rw [Hga.out, He3.out, Hl3.out, Hlx.out, Hgg3.out, Hgx.out] at this
          exact this rfl
        go_enter Try.func8, Try.ntmps8
        go_wp2_with (first
          | (go_at_call 33; refine (play_any _ _ _ g a (Hg.out.later (later_below (bel_a _))) (Ha.out.later (later_below (bel_a _)))).mono ?_; rintro e w2 ⟨v, gv', rfl, hW, hB⟩
             obtain ⟨⟨hu, hcap⟩, hg2⟩ := hW _ (fun b hb => rfl)
             rw [Hla.out] at hu
             rw [Hga.out] at hg2
             obtain ⟨Au, cu, rfl, hmu, -⟩ := id hu
             obtain ⟨vo2, vr2, rfl, ho2, hr2⟩ := id hg2
             obtain ⟨Ao2, co2, rfl, hmo2, -⟩ := id ho2
             obtain ⟨Ar2, cr2, rfl, hmr2, -⟩ := id hr2
             have Hu := Lib.hid (And.intro hu (And.intro hcap hg2))
             have HB2 := Lib.hid (And.intro ((bel_a (w := w) (.cells #[.slice Ao g.objs.length co, .slice Ar g.roots.length cr] 27)).trans (hB.mono (by simp))) (blk_below hB (heap_alloc_new w (.cells #[.slice Ao g.objs.length co, .slice Ar g.roots.length cr] 27))))
             clear hu hcap hg2 ho2 hr2 hW hB
             rw [Hea.out]))
        obtain ⟨w3, hw3⟩ : ∃ w3, w3 = w2.alloc (.cells #[.slice Ao2 ga.objs.length co2, .slice Ar2 ga.roots.length cr2] 27) := ⟨_, rfl⟩
        rw [← hw3]
        have HB23 : Hid (Below w2.heap.size w2 w3) := by show Below _ _ _; rw [hw3]; exact bel_a _
        have Hq8 : Hid (w3.heap[w2.heap.size]? = some (.cells #[.slice Ao2 ga.objs.length co2, .slice Ar2 ga.roots.length cr2] 27 (0, 0))) := by show _ = _; rw [hw3]; exact heap_alloc_new w2 _
        have Hq3 : Hid (w3.heap[w.heap.size]? = some (.cells #[.slice Ao g.objs.length co, .slice Ar g.roots.length cr] 27 (0, 0))) := blk_below HB23.out HB2.out.2
        have HB3 : Hid (Below w.heap.size w w3) := bel_t HB2.out.1 HB23.out
        have Hu3 : Hid (RdU w3 (.slice Au la.length cu) la) := Hu.out.1.later (later_below HB23.out)
        have Hg3 : Hid (RdG w3 (.agg #[.slice Ao2 ga.objs.length co2, .slice Ar2 ga.roots.length cr2]) ga) := Hu.out.2.2.later (later_below HB23.out)
        have KS : Hid (∀ W, Below w3.heap.size w3 W → Below w3.heap.size w3 W ∧ W.cell? ⟨w.heap.size, 0, none⟩ = some (.slice Ao g.objs.length co) ∧ W.cell? ⟨w.heap.size, 1, none⟩ = some (.slice Ar g.roots.length cr)) := fun W h => bel_cells Hq3.out h
        clear hw3
        obtain ⟨s1, s2, s3⟩ := KS.out w3.drew (Below.refl _ _).drew
        go_region_held3 (fun W => Below w3.heap.size w3 W ∧ W.cell? ⟨w.heap.size, 0, none⟩ = some (.slice Ao g.objs.length co) ∧ W.cell? ⟨w.heap.size, 1, none⟩ = some (.slice Ar g.roots.length cr))
          (first | (refine KS.out _ ?_; go_split_ands; first | with_reducible assumption | with_reducible exact (bel_a _).drew | with_reducible exact e1 | with_reducible exact Below.alloc (by assumption) (Below.size (by assumption)) _ | with_reducible exact Below.setCell (Below.setCell (by assumption) (by simp only [World.size_alloc]; omega) _) (by simp only [World.size_alloc]; omega) _))
          (first
          | (go_at_call 34; refine (behind_any _ _ _ a b (Ha.out.later ((later_below HB3.out).trans (later_below (by go_split_ands; with_reducible assumption)))) (Hb.out.later ((later_below HB3.out).trans (later_below (by go_split_ands; with_reducible assumption)))) Hz.out Hz2.out).mono ?_; rintro e w5 ⟨v5, rfl, hv5, hB5⟩
             have e1 : Below w3.heap.size w3 w5 := by go_split_ands; with_reducible exact bel_t (by assumption) hB5
             rw [Hab.out] at hv5
             obtain ⟨A5, c5, rfl, -⟩ := id hv5
             have Hv5 := Lib.hid hv5
             have z5 := e1.size
             try with_reducible (have t1 := blk_below hB5 (blk_drew (heap_alloc_new w3 (.cells #[.slice none 0 0, .slice none 0 0] 27))))
             clear hv5 hB5)
          | (go_at_call 33; refine (play_any _ _ _ g ab (Hg.out.later ((later_below HB3.out).trans (later_below (by go_split_ands; with_reducible assumption)))) (Hv5.out.later (later_below (by first | with_reducible exact Below.refl _ _ | with_reducible exact bel_a _)))).mono ?_; rintro e w6 ⟨v6, gv6, rfl, hW6, hB6⟩
             obtain ⟨⟨hu6, hcap6⟩, hg6⟩ := hW6 _ (fun b hb => rfl)
             rw [Hlx.out] at hu6
             rw [Hgx.out] at hg6
             obtain ⟨A6, c6, rfl, hmu6, -⟩ := id hu6
             obtain ⟨vo6, vr6, rfl, ho6, hr6⟩ := id hg6
             obtain ⟨Ao6, co6, rfl, hmo6, -⟩ := id ho6
             obtain ⟨Ar6, cr6, rfl, hmr6, -⟩ := id hr6
             have e1 : Below w3.heap.size w3 w6 := by go_split_ands; with_reducible exact bel_t (by assumption) hB6
             have HW6 := Lib.hid hW6
             have Hu6 := Lib.hid (And.intro hu6 (And.intro hcap6 hg6))
             have z6 := e1.size
             try with_reducible (have t2 := blk_below hB6 t1)
             try with_reducible (have t2 := blk_below hB6 (heap_alloc_new w5 (.cells #[.slice none 0 0, .slice none 0 0] 27)))
             try (have d1 := cell_blk (j := 0) t2 rfl)
             try (have d2 := cell_blk (j := 1) t2 rfl)
             try (have d3 := frozen_blk (j := 0) t2)
             try (have d4 := frozen_blk (j := 1) t2)
             try (have d5 := lt_blk t2)
             clear hu6 hcap6 hg6 ho6 hr6 hW6 hB6
             rw [Hex.out]))
        
        · obtain ⟨W7, hW7⟩ : ∃ W, W = w6.alloc (.cells #[.slice Ao6 gx.objs.length co6, .slice Ar6 gx.roots.length cr6] 27) := ⟨_, rfl⟩
          have HB7 : Hid (Below w3.heap.size w3 W7) := by show Below _ _ _; rw [hW7]; go_split_ands; with_reducible assumption
          have Hq7 : Hid (W7.heap[w6.heap.size]? = some (.cells #[.slice Ao6 gx.objs.length co6, .slice Ar6 gx.roots.length cr6] 27 (0, 0))) := by show _ = _; rw [hW7]; exact heap_alloc_new w6 _
          have HR7 : Hid (RdU W7 (.slice A6 lx.length c6) lx ∧ RdG W7 (.agg #[.slice Ao6 gx.objs.length co6, .slice Ar6 gx.roots.length cr6]) gx) := by show _ ∧ _; rw [hW7]; exact ⟨Hu6.out.1.later (later_below (bel_a _)), Hu6.out.2.2.later (later_below (bel_a _))⟩
          rw [← hW7]
          obtain ⟨bx, hbx⟩ : ∃ x, x = w6.heap.size := ⟨_, rfl⟩
          rw [← hbx] at Hq7 ⊢
          have HC6 : Hid (lx.length ≤ c6) := by show _ ≤ _; obtain ⟨_, _, _, e, hc⟩ := Hu6.out.2.1; injection e with e1 e2 e3; omega
          have q8 := blk_below HB7.out Hq8.out
          have k8a := cell_blk (j := 0) q8 rfl
          have k8b := cell_blk (j := 1) q8 rfl
          have zk : a.length ≤ c6 := by have := HM.out.2.1; have := HC6.out; omega
          have zl : a.length ≤ lx.length := by have := HM.out.2.1; omega
          have z8 := lt_blk q8
          have Z8 := Lib.hid q8
          clear q8 hW7 hbx
          have tok5 : Hid True := trivial
          clear hmu hmo2 hmr2 hmu6 hmo6 hmr6 z6 z5 e1
          go_wp2_with (first
            | (clear tok5; go_at_call 23; refine (outs_any _ _ _ (lx.take a.length) la (rdu_take c6 HR7.out.1 zl) (Hu3.out.later ((later_below HB7.out)))).mono ?_; rintro e w8 ⟨rfl, n8, rfl⟩; rw [show decide (lx.take a.length = la) = true from by simp [HM.out.2.2]])
            | (go_at_call 33; refine (play_any _ _ _ ga b (Hg3.out.later ((later_below HB7.out).trans (later_drewN _ _))) (Hb.out.later ((later_below (bel_t HB3.out HB7.out)).trans (later_drewN _ _)))).mono ?_; rintro e w9 ⟨v9, gv9, rfl, hW9, hB9⟩
               obtain ⟨⟨hu9, -⟩, hg9⟩ := hW9 _ (fun b hb => rfl)
               rw [Hl3.out] at hu9
               rw [Hgg3.out] at hg9
               obtain ⟨A9, c9, rfl, hmu9, -⟩ := id hu9
               obtain ⟨vo9, vr9, rfl, ho9, hr9⟩ := id hg9
               obtain ⟨Ao9, co9, rfl, hmo9, -⟩ := id ho9
               obtain ⟨Ar9, cr9, rfl, hmr9, -⟩ := id hr9
               have HB9 : Hid (Below w3.heap.size w3 w9) := bel_t (below_drewN HB7.out _) hB9
               have HB79 : Hid (Below W7.heap.size W7 w9) := bel_t (below_drewN (Below.refl _ W7) _) hB9
               have HU9 := Lib.hid (And.intro hu9 hg9)
               have q8b := blk_below HB9.out Hq8.out
               have k9a := cell_blk (j := 0) q8b rfl
               have k9b := cell_blk (j := 1) q8b rfl
               have z9 := lt_blk q8b
               have q11 := blk_below HB79.out Hq7.out
               have k11a := cell_blk (j := 0) q11 rfl
               have k11b := cell_blk (j := 1) q11 rfl
               have z11 := lt_blk q11
               clear hu9 hg9 ho9 hr9 hW9 hB9 q8b q11 k8a k8b
               rw [He3.out])
            | (go_at_call 23; have hne : ¬ c6 = a.length := (by with_reducible assumption); refine (outs_any _ _ _ l3 (lx.drop a.length) (HU9.out.1.later (later_below (bel_a _))) (rdu_dA _ (HR7.out.1.later ((later_below HB79.out).trans (later_below (bel_a _)))) zl)).mono ?_; rintro e w10 ⟨rfl, n10, rfl⟩; rw [show decide (l3 = lx.drop a.length) = true from by simp [HE.out.1]])
            | (go_at_call 23; have heq : c6 = a.length := (by with_reducible assumption); refine (outs_any _ _ _ l3 (lx.drop a.length) (HU9.out.1.later (later_below (bel_a _))) (rdu_dB A6 0 a.length lx (by have := HC6.out; omega))).mono ?_; rintro e w10 ⟨rfl, n10, rfl⟩; rw [show decide (l3 = lx.drop a.length) = true from by simp [HE.out.1]])
            | (go_at_call 24; refine (graphs_any _ _ _ g3 gx (HU9.out.2.later ((later_below (bel_a _)).trans (later_drewN _ _))) (HR7.out.2.later ((later_below (HB79.out)).trans ((later_below (bel_a _)).trans (later_drewN _ _))))).mono ?_; rintro e w11 ⟨rfl, hB11⟩; have HB11 : Hid (Below w3.heap.size w3 w11) := bel_t (below_drewN (bel_t HB9.out (bel_a _)) _) hB11; clear hB11; rw [show decide (g3.objs = gx.objs ∧ g3.roots = gx.roots) = true from by simp [HE.out.2]]))
          all_goals
            go_ret
            exact ⟨rfl, bel_t HB3.out HB11.out⟩
        · obtain ⟨W7, hW7⟩ : ∃ W, W = (w6.setCell ⟨w5.heap.size, 0, none⟩ (.slice Ao6 gx.objs.length co6)).setCell ⟨w5.heap.size, 1, none⟩ (.slice Ar6 gx.roots.length cr6) := ⟨_, rfl⟩
          have HB7 : Hid (Below w3.heap.size w3 W7) := by show Below _ _ _; rw [hW7]; go_split_ands; with_reducible assumption
          have Hq7 : Hid (W7.heap[w5.heap.size]? = some (.cells #[.slice Ao6 gx.objs.length co6, .slice Ar6 gx.roots.length cr6] 27 (0, 0))) := by show _ = _; rw [hW7]; exact set_blk (j := 1) (set_blk (j := 0) t2)
          have HR7 : Hid (RdU W7 (.slice A6 lx.length c6) lx ∧ RdG W7 (.agg #[.slice Ao6 gx.objs.length co6, .slice Ar6 gx.roots.length cr6]) gx) := by show _ ∧ _; have := HW6.out W7 (fun b hb => by rw [hW7]; have hb2 : b ≠ w5.heap.size := by { intro e; subst e; first | (have := lt_blk t1; omega) | (simp at hb; omega) }; exact (Below.heap_setCell _ _ _ _ hb2).trans (Below.heap_setCell _ _ _ _ hb2)); rw [Hlx.out, Hgx.out] at this; exact ⟨this.1.1, this.2⟩
          rw [← hW7]
          obtain ⟨bx, hbx⟩ : ∃ x, x = w5.heap.size := ⟨_, rfl⟩
          rw [← hbx] at Hq7 ⊢
          have HC6 : Hid (lx.length ≤ c6) := by show _ ≤ _; obtain ⟨_, _, _, e, hc⟩ := Hu6.out.2.1; injection e with e1 e2 e3; omega
          have q8 := blk_below HB7.out Hq8.out
          have k8a := cell_blk (j := 0) q8 rfl
          have k8b := cell_blk (j := 1) q8 rfl
          have zk : a.length ≤ c6 := by have := HM.out.2.1; have := HC6.out; omega
          have zl : a.length ≤ lx.length := by have := HM.out.2.1; omega
          have z8 := lt_blk q8
          have Z8 := Lib.hid q8
          clear q8 hW7 hbx
          have tok5 : Hid True := trivial
          clear hmu hmo2 hmr2 hmu6 hmo6 hmr6 z6 z5 e1
          go_wp2_with (first
            | (clear tok5; go_at_call 23; refine (outs_any _ _ _ (lx.take a.length) la (rdu_take c6 HR7.out.1 zl) (Hu3.out.later ((later_below HB7.out)))).mono ?_; rintro e w8 ⟨rfl, n8, rfl⟩; rw [show decide (lx.take a.length = la) = true from by simp [HM.out.2.2]])
            | (go_at_call 33; refine (play_any _ _ _ ga b (Hg3.out.later ((later_below HB7.out).trans (later_drewN _ _))) (Hb.out.later ((later_below (bel_t HB3.out HB7.out)).trans (later_drewN _ _)))).mono ?_; rintro e w9 ⟨v9, gv9, rfl, hW9, hB9⟩
               obtain ⟨⟨hu9, -⟩, hg9⟩ := hW9 _ (fun b hb => rfl)
               rw [Hl3.out] at hu9
               rw [Hgg3.out] at hg9
               obtain ⟨A9, c9, rfl, hmu9, -⟩ := id hu9
               obtain ⟨vo9, vr9, rfl, ho9, hr9⟩ := id hg9
               obtain ⟨Ao9, co9, rfl, hmo9, -⟩ := id ho9
               obtain ⟨Ar9, cr9, rfl, hmr9, -⟩ := id hr9
               have HB9 : Hid (Below w3.heap.size w3 w9) := bel_t (below_drewN HB7.out _) hB9
               have HB79 : Hid (Below W7.heap.size W7 w9) := bel_t (below_drewN (Below.refl _ W7) _) hB9
               have HU9 := Lib.hid (And.intro hu9 hg9)
               have q8b := blk_below HB9.out Hq8.out
               have k9a := cell_blk (j := 0) q8b rfl
               have k9b := cell_blk (j := 1) q8b rfl
               have z9 := lt_blk q8b
               have q11 := blk_below HB79.out Hq7.out
               have k11a := cell_blk (j := 0) q11 rfl
               have k11b := cell_blk (j := 1) q11 rfl
               have z11 := lt_blk q11
               clear hu9 hg9 ho9 hr9 hW9 hB9 q8b q11 k8a k8b
               rw [He3.out])
            | (go_at_call 23; have hne : ¬ c6 = a.length := (by with_reducible assumption); refine (outs_any _ _ _ l3 (lx.drop a.length) (HU9.out.1.later (later_below (bel_a _))) (rdu_dA _ (HR7.out.1.later ((later_below HB79.out).trans (later_below (bel_a _)))) zl)).mono ?_; rintro e w10 ⟨rfl, n10, rfl⟩; rw [show decide (l3 = lx.drop a.length) = true from by simp [HE.out.1]])
            | (go_at_call 23; have heq : c6 = a.length := (by with_reducible assumption); refine (outs_any _ _ _ l3 (lx.drop a.length) (HU9.out.1.later (later_below (bel_a _))) (rdu_dB A6 0 a.length lx (by have := HC6.out; omega))).mono ?_; rintro e w10 ⟨rfl, n10, rfl⟩; rw [show decide (l3 = lx.drop a.length) = true from by simp [HE.out.1]])
            | (go_at_call 24; refine (graphs_any _ _ _ g3 gx (HU9.out.2.later ((later_below (bel_a _)).trans (later_drewN _ _))) (HR7.out.2.later ((later_below (HB79.out)).trans ((later_below (bel_a _)).trans (later_drewN _ _))))).mono ?_; rintro e w11 ⟨rfl, hB11⟩; have HB11 : Hid (Below w3.heap.size w3 w11) := bel_t (below_drewN (bel_t HB9.out (bel_a _)) _) hB11; clear hB11; rw [show decide (g3.objs = gx.objs ∧ g3.roots = gx.roots) = true from by simp [HE.out.2]]))
          all_goals
            go_ret
            exact ⟨rfl, bel_t HB3.out HB11.out⟩
        · obtain ⟨W7, hW7⟩ : ∃ W, W = (w6.setCell ⟨w3.heap.size, 0, none⟩ (.slice Ao6 gx.objs.length co6)).setCell ⟨w3.heap.size, 1, none⟩ (.slice Ar6 gx.roots.length cr6) := ⟨_, rfl⟩
          have HB7 : Hid (Below w3.heap.size w3 W7) := by show Below _ _ _; rw [hW7]; go_split_ands; with_reducible assumption
          have Hq7 : Hid (W7.heap[w3.heap.size]? = some (.cells #[.slice Ao6 gx.objs.length co6, .slice Ar6 gx.roots.length cr6] 27 (0, 0))) := by show _ = _; rw [hW7]; exact set_blk (j := 1) (set_blk (j := 0) t2)
          have HR7 : Hid (RdU W7 (.slice A6 lx.length c6) lx ∧ RdG W7 (.agg #[.slice Ao6 gx.objs.length co6, .slice Ar6 gx.roots.length cr6]) gx) := by show _ ∧ _; have := HW6.out W7 (fun b hb => by rw [hW7]; have hb2 : b ≠ w3.heap.size := by { intro e; subst e; first | (have := lt_blk t1; omega) | (simp at hb; omega) }; exact (Below.heap_setCell _ _ _ _ hb2).trans (Below.heap_setCell _ _ _ _ hb2)); rw [Hlx.out, Hgx.out] at this; exact ⟨this.1.1, this.2⟩
          rw [← hW7]
          obtain ⟨bx, hbx⟩ : ∃ x, x = w3.heap.size := ⟨_, rfl⟩
          rw [← hbx] at Hq7 ⊢
          have HC6 : Hid (lx.length ≤ c6) := by show _ ≤ _; obtain ⟨_, _, _, e, hc⟩ := Hu6.out.2.1; injection e with e1 e2 e3; omega
          have q8 := blk_below HB7.out Hq8.out
          have k8a := cell_blk (j := 0) q8 rfl
          have k8b := cell_blk (j := 1) q8 rfl
          have zk : a.length ≤ c6 := by have := HM.out.2.1; have := HC6.out; omega
          have zl : a.length ≤ lx.length := by have := HM.out.2.1; omega
          have z8 := lt_blk q8
          have Z8 := Lib.hid q8
          clear q8 hW7 hbx
          have tok5 : Hid True := trivial
          clear hmu hmo2 hmr2 hmu6 hmo6 hmr6 z6 z5 e1
          go_wp2_with (first
            | (clear tok5; go_at_call 23; refine (outs_any _ _ _ (lx.take a.length) la (rdu_take c6 HR7.out.1 zl) (Hu3.out.later ((later_below HB7.out)))).mono ?_; rintro e w8 ⟨rfl, n8, rfl⟩; rw [show decide (lx.take a.length = la) = true from by simp [HM.out.2.2]])
            | (go_at_call 33; refine (play_any _ _ _ ga b (Hg3.out.later ((later_below HB7.out).trans (later_drewN _ _))) (Hb.out.later ((later_below (bel_t HB3.out HB7.out)).trans (later_drewN _ _)))).mono ?_; rintro e w9 ⟨v9, gv9, rfl, hW9, hB9⟩
               obtain ⟨⟨hu9, -⟩, hg9⟩ := hW9 _ (fun b hb => rfl)
               rw [Hl3.out] at hu9
               rw [Hgg3.out] at hg9
               obtain ⟨A9, c9, rfl, hmu9, -⟩ := id hu9
               obtain ⟨vo9, vr9, rfl, ho9, hr9⟩ := id hg9
               obtain ⟨Ao9, co9, rfl, hmo9, -⟩ := id ho9
               obtain ⟨Ar9, cr9, rfl, hmr9, -⟩ := id hr9
               have HB9 : Hid (Below w3.heap.size w3 w9) := bel_t (below_drewN HB7.out _) hB9
               have HB79 : Hid (Below W7.heap.size W7 w9) := bel_t (below_drewN (Below.refl _ W7) _) hB9
               have HU9 := Lib.hid (And.intro hu9 hg9)
               have q8b := blk_below HB9.out Hq8.out
               have k9a := cell_blk (j := 0) q8b rfl
               have k9b := cell_blk (j := 1) q8b rfl
               have z9 := lt_blk q8b
               have q11 := blk_below HB79.out Hq7.out
               have k11a := cell_blk (j := 0) q11 rfl
               have k11b := cell_blk (j := 1) q11 rfl
               have z11 := lt_blk q11
               clear hu9 hg9 ho9 hr9 hW9 hB9 q8b q11 k8a k8b
               rw [He3.out])
            | (go_at_call 23; have hne : ¬ c6 = a.length := (by with_reducible assumption); refine (outs_any _ _ _ l3 (lx.drop a.length) (HU9.out.1.later (later_below (bel_a _))) (rdu_dA _ (HR7.out.1.later ((later_below HB79.out).trans (later_below (bel_a _)))) zl)).mono ?_; rintro e w10 ⟨rfl, n10, rfl⟩; rw [show decide (l3 = lx.drop a.length) = true from by simp [HE.out.1]])
            | (go_at_call 23; have heq : c6 = a.length := (by with_reducible assumption); refine (outs_any _ _ _ l3 (lx.drop a.length) (HU9.out.1.later (later_below (bel_a _))) (rdu_dB A6 0 a.length lx (by have := HC6.out; omega))).mono ?_; rintro e w10 ⟨rfl, n10, rfl⟩; rw [show decide (l3 = lx.drop a.length) = true from by simp [HE.out.1]])
            | (go_at_call 24; refine (graphs_any _ _ _ g3 gx (HU9.out.2.later ((later_below (bel_a _)).trans (later_drewN _ _))) (HR7.out.2.later ((later_below (HB79.out)).trans ((later_below (bel_a _)).trans (later_drewN _ _))))).mono ?_; rintro e w11 ⟨rfl, hB11⟩; have HB11 : Hid (Below w3.heap.size w3 w11) := bel_t (below_drewN (bel_t HB9.out (bel_a _)) _) hB11; clear hB11; rw [show decide (g3.objs = gx.objs ∧ g3.roots = gx.roots) = true from by simp [HE.out.2]]))
          all_goals
            go_ret
            exact ⟨rfl, bel_t HB3.out HB11.out⟩
      · have b3 : (e3 != 0) = true := by simpa using h3
        have H4 : Hid (24 < ga.objs.length) := by
          have := HF.out.z4 Hea.out Hex.out
          rw [Hga.out, He3.out] at this
          exact this h3
        have d3x : decide ((24 : Int) < (ga.objs.length : Int)) = true := by have := H4.out; simp; omega
        clear h3
        go_enter Try.func8, Try.ntmps8
        go_wp2_with (first
          | (go_at_call 33; refine (play_any _ _ _ g a (Hg.out.later (later_below (bel_a _))) (Ha.out.later (later_below (bel_a _)))).mono ?_; rintro e w2 ⟨v, gv', rfl, hW, hB⟩
             obtain ⟨⟨hu, hcap⟩, hg2⟩ := hW _ (fun b hb => rfl)
             rw [Hla.out] at hu
             rw [Hga.out] at hg2
             obtain ⟨Au, cu, rfl, hmu, -⟩ := id hu
             obtain ⟨vo2, vr2, rfl, ho2, hr2⟩ := id hg2
             obtain ⟨Ao2, co2, rfl, hmo2, -⟩ := id ho2
             obtain ⟨Ar2, cr2, rfl, hmr2, -⟩ := id hr2
             have Hu := Lib.hid (And.intro hu (And.intro hcap hg2))
             have HB2 := Lib.hid (And.intro ((bel_a (w := w) (.cells #[.slice Ao g.objs.length co, .slice Ar g.roots.length cr] 27)).trans (hB.mono (by simp))) (blk_below hB (heap_alloc_new w (.cells #[.slice Ao g.objs.length co, .slice Ar g.roots.length cr] 27))))
             clear hu hcap hg2 ho2 hr2 hW hB
             rw [Hea.out]))
        obtain ⟨w3, hw3⟩ : ∃ w3, w3 = w2.alloc (.cells #[.slice Ao2 ga.objs.length co2, .slice Ar2 ga.roots.length cr2] 27) := ⟨_, rfl⟩
        rw [← hw3]
        have HB23 : Hid (Below w2.heap.size w2 w3) := by show Below _ _ _; rw [hw3]; exact bel_a _
        have Hq8 : Hid (w3.heap[w2.heap.size]? = some (.cells #[.slice Ao2 ga.objs.length co2, .slice Ar2 ga.roots.length cr2] 27 (0, 0))) := by show _ = _; rw [hw3]; exact heap_alloc_new w2 _
        have Hq3 : Hid (w3.heap[w.heap.size]? = some (.cells #[.slice Ao g.objs.length co, .slice Ar g.roots.length cr] 27 (0, 0))) := blk_below HB23.out HB2.out.2
        have HB3 : Hid (Below w.heap.size w w3) := bel_t HB2.out.1 HB23.out
        have Hu3 : Hid (RdU w3 (.slice Au la.length cu) la) := Hu.out.1.later (later_below HB23.out)
        have Hg3 : Hid (RdG w3 (.agg #[.slice Ao2 ga.objs.length co2, .slice Ar2 ga.roots.length cr2]) ga) := Hu.out.2.2.later (later_below HB23.out)
        have KS : Hid (∀ W, Below w3.heap.size w3 W → Below w3.heap.size w3 W ∧ W.cell? ⟨w.heap.size, 0, none⟩ = some (.slice Ao g.objs.length co) ∧ W.cell? ⟨w.heap.size, 1, none⟩ = some (.slice Ar g.roots.length cr)) := fun W h => bel_cells Hq3.out h
        clear hw3
        obtain ⟨s1, s2, s3⟩ := KS.out w3.drew (Below.refl _ _).drew
        go_region_held3 (fun W => Below w3.heap.size w3 W ∧ W.cell? ⟨w.heap.size, 0, none⟩ = some (.slice Ao g.objs.length co) ∧ W.cell? ⟨w.heap.size, 1, none⟩ = some (.slice Ar g.roots.length cr))
          (first | (refine KS.out _ ?_; go_split_ands; first | with_reducible assumption | with_reducible exact (bel_a _).drew | with_reducible exact e1 | with_reducible exact Below.alloc (by assumption) (Below.size (by assumption)) _ | with_reducible exact Below.setCell (Below.setCell (by assumption) (by simp only [World.size_alloc]; omega) _) (by simp only [World.size_alloc]; omega) _))
          (first
          | (go_at_call 34; refine (behind_any _ _ _ a b (Ha.out.later ((later_below HB3.out).trans (later_below (by go_split_ands; with_reducible assumption)))) (Hb.out.later ((later_below HB3.out).trans (later_below (by go_split_ands; with_reducible assumption)))) Hz.out Hz2.out).mono ?_; rintro e w5 ⟨v5, rfl, hv5, hB5⟩
             have e1 : Below w3.heap.size w3 w5 := by go_split_ands; with_reducible exact bel_t (by assumption) hB5
             rw [Hab.out] at hv5
             obtain ⟨A5, c5, rfl, -⟩ := id hv5
             have Hv5 := Lib.hid hv5
             have z5 := e1.size
             try with_reducible (have t1 := blk_below hB5 (blk_drew (heap_alloc_new w3 (.cells #[.slice none 0 0, .slice none 0 0] 27))))
             clear hv5 hB5)
          | (go_at_call 33; refine (play_any _ _ _ g ab (Hg.out.later ((later_below HB3.out).trans (later_below (by go_split_ands; with_reducible assumption)))) (Hv5.out.later (later_below (by first | with_reducible exact Below.refl _ _ | with_reducible exact bel_a _)))).mono ?_; rintro e w6 ⟨v6, gv6, rfl, hW6, hB6⟩
             obtain ⟨⟨hu6, hcap6⟩, hg6⟩ := hW6 _ (fun b hb => rfl)
             rw [Hlx.out] at hu6
             rw [Hgx.out] at hg6
             obtain ⟨A6, c6, rfl, hmu6, -⟩ := id hu6
             obtain ⟨vo6, vr6, rfl, ho6, hr6⟩ := id hg6
             obtain ⟨Ao6, co6, rfl, hmo6, -⟩ := id ho6
             obtain ⟨Ar6, cr6, rfl, hmr6, -⟩ := id hr6
             have e1 : Below w3.heap.size w3 w6 := by go_split_ands; with_reducible exact bel_t (by assumption) hB6
             have HW6 := Lib.hid hW6
             have Hu6 := Lib.hid (And.intro hu6 (And.intro hcap6 hg6))
             have z6 := e1.size
             try with_reducible (have t2 := blk_below hB6 t1)
             try with_reducible (have t2 := blk_below hB6 (heap_alloc_new w5 (.cells #[.slice none 0 0, .slice none 0 0] 27)))
             try (have d1 := cell_blk (j := 0) t2 rfl)
             try (have d2 := cell_blk (j := 1) t2 rfl)
             try (have d3 := frozen_blk (j := 0) t2)
             try (have d4 := frozen_blk (j := 1) t2)
             try (have d5 := lt_blk t2)
             clear hu6 hcap6 hg6 ho6 hr6 hW6 hB6
             rw [Hex.out]))
        
        · obtain ⟨W7, hW7⟩ : ∃ W, W = w6.alloc (.cells #[.slice Ao6 gx.objs.length co6, .slice Ar6 gx.roots.length cr6] 27) := ⟨_, rfl⟩
          have HB7 : Hid (Below w3.heap.size w3 W7) := by show Below _ _ _; rw [hW7]; go_split_ands; with_reducible assumption
          have Hq7 : Hid (W7.heap[w6.heap.size]? = some (.cells #[.slice Ao6 gx.objs.length co6, .slice Ar6 gx.roots.length cr6] 27 (0, 0))) := by show _ = _; rw [hW7]; exact heap_alloc_new w6 _
          have HR7 : Hid (RdU W7 (.slice A6 lx.length c6) lx ∧ RdG W7 (.agg #[.slice Ao6 gx.objs.length co6, .slice Ar6 gx.roots.length cr6]) gx) := by show _ ∧ _; rw [hW7]; exact ⟨Hu6.out.1.later (later_below (bel_a _)), Hu6.out.2.2.later (later_below (bel_a _))⟩
          rw [← hW7]
          obtain ⟨bx, hbx⟩ : ∃ x, x = w6.heap.size := ⟨_, rfl⟩
          rw [← hbx] at Hq7 ⊢
          have HC6 : Hid (lx.length ≤ c6) := by show _ ≤ _; obtain ⟨_, _, _, e, hc⟩ := Hu6.out.2.1; injection e with e1 e2 e3; omega
          have q8 := blk_below HB7.out Hq8.out
          have k8a := cell_blk (j := 0) q8 rfl
          have k8b := cell_blk (j := 1) q8 rfl
          have zk : a.length ≤ c6 := by have := HM.out.2.1; have := HC6.out; omega
          have zl : a.length ≤ lx.length := by have := HM.out.2.1; omega
          have z8 := lt_blk q8
          have Z8 := Lib.hid q8
          clear q8 hW7 hbx
          have tok5 : Hid True := trivial
          clear hmu hmo2 hmr2 hmu6 hmo6 hmr6 z6 z5 e1
          go_wp2_with (first
            | (clear tok5; go_at_call 23; refine (outs_any _ _ _ (lx.take a.length) la (rdu_take c6 HR7.out.1 zl) (Hu3.out.later ((later_below HB7.out)))).mono ?_; rintro e w8 ⟨rfl, n8, rfl⟩; rw [show decide (lx.take a.length = la) = true from by simp [HM.out.2.2]])
            | (go_at_call 33; refine (play_any _ _ _ ga b (Hg3.out.later ((later_below HB7.out).trans (later_drewN _ _))) (Hb.out.later ((later_below (bel_t HB3.out HB7.out)).trans (later_drewN _ _)))).mono ?_; rintro e w9 ⟨v9, gv9, rfl, hW9, hB9⟩
               obtain ⟨⟨hu9, -⟩, hg9⟩ := hW9 _ (fun b hb => rfl)
               rw [Hl3.out] at hu9
               rw [Hgg3.out] at hg9
               obtain ⟨A9, c9, rfl, hmu9, -⟩ := id hu9
               obtain ⟨vo9, vr9, rfl, ho9, hr9⟩ := id hg9
               obtain ⟨Ao9, co9, rfl, hmo9, -⟩ := id ho9
               obtain ⟨Ar9, cr9, rfl, hmr9, -⟩ := id hr9
               have HB9 : Hid (Below w3.heap.size w3 w9) := bel_t (below_drewN HB7.out _) hB9
               have HB79 : Hid (Below W7.heap.size W7 w9) := bel_t (below_drewN (Below.refl _ W7) _) hB9
               have HU9 := Lib.hid (And.intro hu9 hg9)
               have q8b := blk_below HB9.out Hq8.out
               have k9a := cell_blk (j := 0) q8b rfl
               have k9b := cell_blk (j := 1) q8b rfl
               have z9 := lt_blk q8b
               have q11 := blk_below HB79.out Hq7.out
               have k11a := cell_blk (j := 0) q11 rfl
               have k11b := cell_blk (j := 1) q11 rfl
               have z11 := lt_blk q11
               clear hu9 hg9 ho9 hr9 hW9 hB9 q8b q11 k8a k8b
               rw [He3.out]))
          go_ret
          exact ⟨rfl, bel_t (bel_t HB3.out HB9.out) (bel_a _)⟩
        · obtain ⟨W7, hW7⟩ : ∃ W, W = (w6.setCell ⟨w5.heap.size, 0, none⟩ (.slice Ao6 gx.objs.length co6)).setCell ⟨w5.heap.size, 1, none⟩ (.slice Ar6 gx.roots.length cr6) := ⟨_, rfl⟩
          have HB7 : Hid (Below w3.heap.size w3 W7) := by show Below _ _ _; rw [hW7]; go_split_ands; with_reducible assumption
          have Hq7 : Hid (W7.heap[w5.heap.size]? = some (.cells #[.slice Ao6 gx.objs.length co6, .slice Ar6 gx.roots.length cr6] 27 (0, 0))) := by show _ = _; rw [hW7]; exact set_blk (j := 1) (set_blk (j := 0) t2)
          have HR7 : Hid (RdU W7 (.slice A6 lx.length c6) lx ∧ RdG W7 (.agg #[.slice Ao6 gx.objs.length co6, .slice Ar6 gx.roots.length cr6]) gx) := by show _ ∧ _; have := HW6.out W7 (fun b hb => by rw [hW7]; have hb2 : b ≠ w5.heap.size := by { intro e; subst e; first | (have := lt_blk t1; omega) | (simp at hb; omega) }; exact (Below.heap_setCell _ _ _ _ hb2).trans (Below.heap_setCell _ _ _ _ hb2)); rw [Hlx.out, Hgx.out] at this; exact ⟨this.1.1, this.2⟩
          rw [← hW7]
          obtain ⟨bx, hbx⟩ : ∃ x, x = w5.heap.size := ⟨_, rfl⟩
          rw [← hbx] at Hq7 ⊢
          have HC6 : Hid (lx.length ≤ c6) := by show _ ≤ _; obtain ⟨_, _, _, e, hc⟩ := Hu6.out.2.1; injection e with e1 e2 e3; omega
          have q8 := blk_below HB7.out Hq8.out
          have k8a := cell_blk (j := 0) q8 rfl
          have k8b := cell_blk (j := 1) q8 rfl
          have zk : a.length ≤ c6 := by have := HM.out.2.1; have := HC6.out; omega
          have zl : a.length ≤ lx.length := by have := HM.out.2.1; omega
          have z8 := lt_blk q8
          have Z8 := Lib.hid q8
          clear q8 hW7 hbx
          have tok5 : Hid True := trivial
          clear hmu hmo2 hmr2 hmu6 hmo6 hmr6 z6 z5 e1
          go_wp2_with (first
            | (clear tok5; go_at_call 23; refine (outs_any _ _ _ (lx.take a.length) la (rdu_take c6 HR7.out.1 zl) (Hu3.out.later ((later_below HB7.out)))).mono ?_; rintro e w8 ⟨rfl, n8, rfl⟩; rw [show decide (lx.take a.length = la) = true from by simp [HM.out.2.2]])
            | (go_at_call 33; refine (play_any _ _ _ ga b (Hg3.out.later ((later_below HB7.out).trans (later_drewN _ _))) (Hb.out.later ((later_below (bel_t HB3.out HB7.out)).trans (later_drewN _ _)))).mono ?_; rintro e w9 ⟨v9, gv9, rfl, hW9, hB9⟩
               obtain ⟨⟨hu9, -⟩, hg9⟩ := hW9 _ (fun b hb => rfl)
               rw [Hl3.out] at hu9
               rw [Hgg3.out] at hg9
               obtain ⟨A9, c9, rfl, hmu9, -⟩ := id hu9
               obtain ⟨vo9, vr9, rfl, ho9, hr9⟩ := id hg9
               obtain ⟨Ao9, co9, rfl, hmo9, -⟩ := id ho9
               obtain ⟨Ar9, cr9, rfl, hmr9, -⟩ := id hr9
               have HB9 : Hid (Below w3.heap.size w3 w9) := bel_t (below_drewN HB7.out _) hB9
               have HB79 : Hid (Below W7.heap.size W7 w9) := bel_t (below_drewN (Below.refl _ W7) _) hB9
               have HU9 := Lib.hid (And.intro hu9 hg9)
               have q8b := blk_below HB9.out Hq8.out
               have k9a := cell_blk (j := 0) q8b rfl
               have k9b := cell_blk (j := 1) q8b rfl
               have z9 := lt_blk q8b
               have q11 := blk_below HB79.out Hq7.out
               have k11a := cell_blk (j := 0) q11 rfl
               have k11b := cell_blk (j := 1) q11 rfl
               have z11 := lt_blk q11
               clear hu9 hg9 ho9 hr9 hW9 hB9 q8b q11 k8a k8b
               rw [He3.out]))
          go_ret
          exact ⟨rfl, bel_t (bel_t HB3.out HB9.out) (bel_a _)⟩
        · obtain ⟨W7, hW7⟩ : ∃ W, W = (w6.setCell ⟨w3.heap.size, 0, none⟩ (.slice Ao6 gx.objs.length co6)).setCell ⟨w3.heap.size, 1, none⟩ (.slice Ar6 gx.roots.length cr6) := ⟨_, rfl⟩
          have HB7 : Hid (Below w3.heap.size w3 W7) := by show Below _ _ _; rw [hW7]; go_split_ands; with_reducible assumption
          have Hq7 : Hid (W7.heap[w3.heap.size]? = some (.cells #[.slice Ao6 gx.objs.length co6, .slice Ar6 gx.roots.length cr6] 27 (0, 0))) := by show _ = _; rw [hW7]; exact set_blk (j := 1) (set_blk (j := 0) t2)
          have HR7 : Hid (RdU W7 (.slice A6 lx.length c6) lx ∧ RdG W7 (.agg #[.slice Ao6 gx.objs.length co6, .slice Ar6 gx.roots.length cr6]) gx) := by show _ ∧ _; have := HW6.out W7 (fun b hb => by rw [hW7]; have hb2 : b ≠ w3.heap.size := by { intro e; subst e; first | (have := lt_blk t1; omega) | (simp at hb; omega) }; exact (Below.heap_setCell _ _ _ _ hb2).trans (Below.heap_setCell _ _ _ _ hb2)); rw [Hlx.out, Hgx.out] at this; exact ⟨this.1.1, this.2⟩
          rw [← hW7]
          obtain ⟨bx, hbx⟩ : ∃ x, x = w3.heap.size := ⟨_, rfl⟩
          rw [← hbx] at Hq7 ⊢
          have HC6 : Hid (lx.length ≤ c6) := by show _ ≤ _; obtain ⟨_, _, _, e, hc⟩ := Hu6.out.2.1; injection e with e1 e2 e3; omega
          have q8 := blk_below HB7.out Hq8.out
          have k8a := cell_blk (j := 0) q8 rfl
          have k8b := cell_blk (j := 1) q8 rfl
          have zk : a.length ≤ c6 := by have := HM.out.2.1; have := HC6.out; omega
          have zl : a.length ≤ lx.length := by have := HM.out.2.1; omega
          have z8 := lt_blk q8
          have Z8 := Lib.hid q8
          clear q8 hW7 hbx
          have tok5 : Hid True := trivial
          clear hmu hmo2 hmr2 hmu6 hmo6 hmr6 z6 z5 e1
          go_wp2_with (first
            | (clear tok5; go_at_call 23; refine (outs_any _ _ _ (lx.take a.length) la (rdu_take c6 HR7.out.1 zl) (Hu3.out.later ((later_below HB7.out)))).mono ?_; rintro e w8 ⟨rfl, n8, rfl⟩; rw [show decide (lx.take a.length = la) = true from by simp [HM.out.2.2]])
            | (go_at_call 33; refine (play_any _ _ _ ga b (Hg3.out.later ((later_below HB7.out).trans (later_drewN _ _))) (Hb.out.later ((later_below (bel_t HB3.out HB7.out)).trans (later_drewN _ _)))).mono ?_; rintro e w9 ⟨v9, gv9, rfl, hW9, hB9⟩
               obtain ⟨⟨hu9, -⟩, hg9⟩ := hW9 _ (fun b hb => rfl)
               rw [Hl3.out] at hu9
               rw [Hgg3.out] at hg9
               obtain ⟨A9, c9, rfl, hmu9, -⟩ := id hu9
               obtain ⟨vo9, vr9, rfl, ho9, hr9⟩ := id hg9
               obtain ⟨Ao9, co9, rfl, hmo9, -⟩ := id ho9
               obtain ⟨Ar9, cr9, rfl, hmr9, -⟩ := id hr9
               have HB9 : Hid (Below w3.heap.size w3 w9) := bel_t (below_drewN HB7.out _) hB9
               have HB79 : Hid (Below W7.heap.size W7 w9) := bel_t (below_drewN (Below.refl _ W7) _) hB9
               have HU9 := Lib.hid (And.intro hu9 hg9)
               have q8b := blk_below HB9.out Hq8.out
               have k9a := cell_blk (j := 0) q8b rfl
               have k9b := cell_blk (j := 1) q8b rfl
               have z9 := lt_blk q8b
               have q11 := blk_below HB79.out Hq7.out
               have k11a := cell_blk (j := 0) q11 rfl
               have k11b := cell_blk (j := 1) q11 rfl
               have z11 := lt_blk q11
               clear hu9 hg9 ho9 hr9 hW9 hB9 q8b q11 k8a k8b
               rw [He3.out]))
          go_ret
          exact ⟨rfl, bel_t (bel_t HB3.out HB9.out) (bel_a _)⟩
    · have b2 : (ex != 0) = true := by simpa using h2
      subst h1
      have HL : Hid (100 < a.length + b.length) := HF.out.z2 Hea.out (by rw [Hex.out]; exact h2)
      have d1 : decide ((100 : Int) < (a.length : Int) + (b.length : Int)) = true := by have := HL.out; simp; omega
      obtain ⟨q, hq⟩ : ∃ q, q = ((la.length : Int) == 0) := ⟨_, rfl⟩
      have c0 := hq.symm
      clear hq h2
      cases q
      · go_enter Try.func8, Try.ntmps8
        go_wp2_with (first
          | (go_at_call 33; refine (play_any _ _ _ g a (Hg.out.later (later_below (bel_a _))) (Ha.out.later (later_below (bel_a _)))).mono ?_; rintro e w2 ⟨v, gv', rfl, hW, hB⟩
             obtain ⟨⟨hu, hcap⟩, hg2⟩ := hW _ (fun b hb => rfl)
             rw [Hla.out] at hu
             rw [Hga.out] at hg2
             obtain ⟨Au, cu, rfl, hmu, -⟩ := id hu
             obtain ⟨vo2, vr2, rfl, ho2, hr2⟩ := id hg2
             obtain ⟨Ao2, co2, rfl, hmo2, -⟩ := id ho2
             obtain ⟨Ar2, cr2, rfl, hmr2, -⟩ := id hr2
             have Hu := Lib.hid (And.intro hu (And.intro hcap hg2))
             have HB2 := Lib.hid (And.intro ((bel_a (w := w) (.cells #[.slice Ao g.objs.length co, .slice Ar g.roots.length cr] 27)).trans (hB.mono (by simp))) (blk_below hB (heap_alloc_new w (.cells #[.slice Ao g.objs.length co, .slice Ar g.roots.length cr] 27))))
             clear hu hcap hg2 ho2 hr2 hW hB
             rw [Hea.out]))
        obtain ⟨w3, hw3⟩ : ∃ w3, w3 = w2.alloc (.cells #[.slice Ao2 ga.objs.length co2, .slice Ar2 ga.roots.length cr2] 27) := ⟨_, rfl⟩
        rw [← hw3]
        have HB23 : Hid (Below w2.heap.size w2 w3) := by show Below _ _ _; rw [hw3]; exact bel_a _
        have Hq8 : Hid (w3.heap[w2.heap.size]? = some (.cells #[.slice Ao2 ga.objs.length co2, .slice Ar2 ga.roots.length cr2] 27 (0, 0))) := by show _ = _; rw [hw3]; exact heap_alloc_new w2 _
        have Hq3 : Hid (w3.heap[w.heap.size]? = some (.cells #[.slice Ao g.objs.length co, .slice Ar g.roots.length cr] 27 (0, 0))) := blk_below HB23.out HB2.out.2
        have HB3 : Hid (Below w.heap.size w w3) := bel_t HB2.out.1 HB23.out
        have Hu3 : Hid (RdU w3 (.slice Au la.length cu) la) := Hu.out.1.later (later_below HB23.out)
        have Hg3 : Hid (RdG w3 (.agg #[.slice Ao2 ga.objs.length co2, .slice Ar2 ga.roots.length cr2]) ga) := Hu.out.2.2.later (later_below HB23.out)
        have KS : Hid (∀ W, Below w3.heap.size w3 W → Below w3.heap.size w3 W ∧ W.cell? ⟨w.heap.size, 0, none⟩ = some (.slice Ao g.objs.length co) ∧ W.cell? ⟨w.heap.size, 1, none⟩ = some (.slice Ar g.roots.length cr)) := fun W h => bel_cells Hq3.out h
        clear hw3
        obtain ⟨s1, s2, s3⟩ := KS.out w3.drew (Below.refl _ _).drew
        go_region_held3 (fun W => Below w3.heap.size w3 W ∧ W.cell? ⟨w.heap.size, 0, none⟩ = some (.slice Ao g.objs.length co) ∧ W.cell? ⟨w.heap.size, 1, none⟩ = some (.slice Ar g.roots.length cr))
          (first | (refine KS.out _ ?_; go_split_ands; first | with_reducible assumption | with_reducible exact (bel_a _).drew | with_reducible exact e1 | with_reducible exact Below.alloc (by assumption) (Below.size (by assumption)) _ | with_reducible exact Below.setCell (Below.setCell (by assumption) (by simp only [World.size_alloc]; omega) _) (by simp only [World.size_alloc]; omega) _))
          (first
          | (go_at_call 34; refine (behind_any _ _ _ a b (Ha.out.later ((later_below HB3.out).trans (later_below (by go_split_ands; with_reducible assumption)))) (Hb.out.later ((later_below HB3.out).trans (later_below (by go_split_ands; with_reducible assumption)))) Hz.out Hz2.out).mono ?_; rintro e w5 ⟨v5, rfl, hv5, hB5⟩
             have e1 : Below w3.heap.size w3 w5 := by go_split_ands; with_reducible exact bel_t (by assumption) hB5
             rw [Hab.out] at hv5
             obtain ⟨A5, c5, rfl, -⟩ := id hv5
             have Hv5 := Lib.hid hv5
             have z5 := e1.size
             try with_reducible (have t1 := blk_below hB5 (blk_drew (heap_alloc_new w3 (.cells #[.slice none 0 0, .slice none 0 0] 27))))
             clear hv5 hB5)
          | (go_at_call 33; refine (play_any _ _ _ g ab (Hg.out.later ((later_below HB3.out).trans (later_below (by go_split_ands; with_reducible assumption)))) (Hv5.out.later (later_below (by first | with_reducible exact Below.refl _ _ | with_reducible exact bel_a _)))).mono ?_; rintro e w6 ⟨v6, gv6, rfl, hW6, hB6⟩
             obtain ⟨⟨hu6, hcap6⟩, hg6⟩ := hW6 _ (fun b hb => rfl)
             rw [Hlx.out] at hu6
             rw [Hgx.out] at hg6
             obtain ⟨A6, c6, rfl, hmu6, -⟩ := id hu6
             obtain ⟨vo6, vr6, rfl, ho6, hr6⟩ := id hg6
             obtain ⟨Ao6, co6, rfl, hmo6, -⟩ := id ho6
             obtain ⟨Ar6, cr6, rfl, hmr6, -⟩ := id hr6
             have e1 : Below w3.heap.size w3 w6 := by go_split_ands; with_reducible exact bel_t (by assumption) hB6
             have Hu6 := Lib.hid (And.intro hu6 (And.intro hcap6 hg6))
             have z6 := e1.size
             try with_reducible (have t2 := blk_below hB6 t1)
             try with_reducible (have t2 := blk_below hB6 (heap_alloc_new w5 (.cells #[.slice none 0 0, .slice none 0 0] 27)))
             try (have d1 := cell_blk (j := 0) t2 rfl)
             try (have d2 := cell_blk (j := 1) t2 rfl)
             try (have d3 := frozen_blk (j := 0) t2)
             try (have d4 := frozen_blk (j := 1) t2)
             try (have d5 := lt_blk t2)
             clear hu6 hcap6 hg6 ho6 hr6 hW6 hB6
             rw [Hex.out]))
        
        all_goals
          go_wp2
          go_ret
          exact ⟨rfl, bel_t HB3.out (by go_split_ands; with_reducible assumption)⟩
      · go_enter Try.func8, Try.ntmps8
        go_wp2_with (first
          | (go_at_call 33; refine (play_any _ _ _ g a (Hg.out.later (later_below (bel_a _))) (Ha.out.later (later_below (bel_a _)))).mono ?_; rintro e w2 ⟨v, gv', rfl, hW, hB⟩
             obtain ⟨⟨hu, hcap⟩, hg2⟩ := hW _ (fun b hb => rfl)
             rw [Hla.out] at hu
             rw [Hga.out] at hg2
             obtain ⟨Au, cu, rfl, hmu, -⟩ := id hu
             obtain ⟨vo2, vr2, rfl, ho2, hr2⟩ := id hg2
             obtain ⟨Ao2, co2, rfl, hmo2, -⟩ := id ho2
             obtain ⟨Ar2, cr2, rfl, hmr2, -⟩ := id hr2
             have Hu := Lib.hid (And.intro hu (And.intro hcap hg2))
             have HB2 := Lib.hid (And.intro ((bel_a (w := w) (.cells #[.slice Ao g.objs.length co, .slice Ar g.roots.length cr] 27)).trans (hB.mono (by simp))) (blk_below hB (heap_alloc_new w (.cells #[.slice Ao g.objs.length co, .slice Ar g.roots.length cr] 27))))
             clear hu hcap hg2 ho2 hr2 hW hB
             rw [Hea.out]))
        obtain ⟨w3, hw3⟩ : ∃ w3, w3 = w2.alloc (.cells #[.slice Ao2 ga.objs.length co2, .slice Ar2 ga.roots.length cr2] 27) := ⟨_, rfl⟩
        rw [← hw3]
        have HB23 : Hid (Below w2.heap.size w2 w3) := by show Below _ _ _; rw [hw3]; exact bel_a _
        have Hq8 : Hid (w3.heap[w2.heap.size]? = some (.cells #[.slice Ao2 ga.objs.length co2, .slice Ar2 ga.roots.length cr2] 27 (0, 0))) := by show _ = _; rw [hw3]; exact heap_alloc_new w2 _
        have Hq3 : Hid (w3.heap[w.heap.size]? = some (.cells #[.slice Ao g.objs.length co, .slice Ar g.roots.length cr] 27 (0, 0))) := blk_below HB23.out HB2.out.2
        have HB3 : Hid (Below w.heap.size w w3) := bel_t HB2.out.1 HB23.out
        have Hu3 : Hid (RdU w3 (.slice Au la.length cu) la) := Hu.out.1.later (later_below HB23.out)
        have Hg3 : Hid (RdG w3 (.agg #[.slice Ao2 ga.objs.length co2, .slice Ar2 ga.roots.length cr2]) ga) := Hu.out.2.2.later (later_below HB23.out)
        have KS : Hid (∀ W, Below w3.heap.size w3 W → Below w3.heap.size w3 W ∧ W.cell? ⟨w.heap.size, 0, none⟩ = some (.slice Ao g.objs.length co) ∧ W.cell? ⟨w.heap.size, 1, none⟩ = some (.slice Ar g.roots.length cr)) := fun W h => bel_cells Hq3.out h
        clear hw3
        obtain ⟨s1, s2, s3⟩ := KS.out w3.drew (Below.refl _ _).drew
        go_region_held3 (fun W => Below w3.heap.size w3 W ∧ W.cell? ⟨w.heap.size, 0, none⟩ = some (.slice Ao g.objs.length co) ∧ W.cell? ⟨w.heap.size, 1, none⟩ = some (.slice Ar g.roots.length cr))
          (first | (refine KS.out _ ?_; go_split_ands; first | with_reducible assumption | with_reducible exact (bel_a _).drew | with_reducible exact e1 | with_reducible exact Below.alloc (by assumption) (Below.size (by assumption)) _ | with_reducible exact Below.setCell (Below.setCell (by assumption) (by simp only [World.size_alloc]; omega) _) (by simp only [World.size_alloc]; omega) _))
          (first
          | (go_at_call 34; refine (behind_any _ _ _ a b (Ha.out.later ((later_below HB3.out).trans (later_below (by go_split_ands; with_reducible assumption)))) (Hb.out.later ((later_below HB3.out).trans (later_below (by go_split_ands; with_reducible assumption)))) Hz.out Hz2.out).mono ?_; rintro e w5 ⟨v5, rfl, hv5, hB5⟩
             have e1 : Below w3.heap.size w3 w5 := by go_split_ands; with_reducible exact bel_t (by assumption) hB5
             rw [Hab.out] at hv5
             obtain ⟨A5, c5, rfl, -⟩ := id hv5
             have Hv5 := Lib.hid hv5
             have z5 := e1.size
             try with_reducible (have t1 := blk_below hB5 (blk_drew (heap_alloc_new w3 (.cells #[.slice none 0 0, .slice none 0 0] 27))))
             clear hv5 hB5)
          | (go_at_call 33; refine (play_any _ _ _ g ab (Hg.out.later ((later_below HB3.out).trans (later_below (by go_split_ands; with_reducible assumption)))) (Hv5.out.later (later_below (by first | with_reducible exact Below.refl _ _ | with_reducible exact bel_a _)))).mono ?_; rintro e w6 ⟨v6, gv6, rfl, hW6, hB6⟩
             obtain ⟨⟨hu6, hcap6⟩, hg6⟩ := hW6 _ (fun b hb => rfl)
             rw [Hlx.out] at hu6
             rw [Hgx.out] at hg6
             obtain ⟨A6, c6, rfl, hmu6, -⟩ := id hu6
             obtain ⟨vo6, vr6, rfl, ho6, hr6⟩ := id hg6
             obtain ⟨Ao6, co6, rfl, hmo6, -⟩ := id ho6
             obtain ⟨Ar6, cr6, rfl, hmr6, -⟩ := id hr6
             have e1 : Below w3.heap.size w3 w6 := by go_split_ands; with_reducible exact bel_t (by assumption) hB6
             have Hu6 := Lib.hid (And.intro hu6 (And.intro hcap6 hg6))
             have z6 := e1.size
             try with_reducible (have t2 := blk_below hB6 t1)
             try with_reducible (have t2 := blk_below hB6 (heap_alloc_new w5 (.cells #[.slice none 0 0, .slice none 0 0] 27)))
             try (have d1 := cell_blk (j := 0) t2 rfl)
             try (have d2 := cell_blk (j := 1) t2 rfl)
             try (have d3 := frozen_blk (j := 0) t2)
             try (have d4 := frozen_blk (j := 1) t2)
             try (have d5 := lt_blk t2)
             clear hu6 hcap6 hg6 ho6 hr6 hW6 hB6
             rw [Hex.out]))
        
        all_goals
          go_wp2
          go_ret
          exact ⟨rfl, bel_t HB3.out (by go_split_ands; with_reducible assumption)⟩
  · have b1 : (ea != 0) = true := by simpa using h1
    have HL : Hid (la = []) := by show _ = _; rw [← Hla.out]; exact HF.out.z1 (by rw [Hea.out]; exact h1)
    have c0 : ((la.length : Int) == 0) = true := by rw [HL.out]; rfl
    clear h1
    go_enter Try.func8, Try.ntmps8
    go_wp2_with (first
      | (go_at_call 33; refine (play_any _ _ _ g a (Hg.out.later (later_below (bel_a _))) (Ha.out.later (later_below (bel_a _)))).mono ?_; rintro e w2 ⟨v, gv', rfl, hW, hB⟩
         obtain ⟨⟨hu, hcap⟩, hg2⟩ := hW _ (fun b hb => rfl)
         rw [Hla.out] at hu
         rw [Hga.out] at hg2
         obtain ⟨Au, cu, rfl, hmu, -⟩ := id hu
         obtain ⟨vo2, vr2, rfl, ho2, hr2⟩ := id hg2
         obtain ⟨Ao2, co2, rfl, hmo2, -⟩ := id ho2
         obtain ⟨Ar2, cr2, rfl, hmr2, -⟩ := id hr2
         have Hu := Lib.hid (And.intro hu (And.intro hcap hg2))
         have HB2 := Lib.hid (And.intro ((bel_a (w := w) (.cells #[.slice Ao g.objs.length co, .slice Ar g.roots.length cr] 27)).trans (hB.mono (by simp))) (blk_below hB (heap_alloc_new w (.cells #[.slice Ao g.objs.length co, .slice Ar g.roots.length cr] 27))))
         clear hu hcap hg2 ho2 hr2 hW hB
         rw [Hea.out]))
    obtain ⟨w3, hw3⟩ : ∃ w3, w3 = w2.alloc (.cells #[.slice Ao2 ga.objs.length co2, .slice Ar2 ga.roots.length cr2] 27) := ⟨_, rfl⟩
    rw [← hw3]
    have HB23 : Hid (Below w2.heap.size w2 w3) := by show Below _ _ _; rw [hw3]; exact bel_a _
    have Hq8 : Hid (w3.heap[w2.heap.size]? = some (.cells #[.slice Ao2 ga.objs.length co2, .slice Ar2 ga.roots.length cr2] 27 (0, 0))) := by show _ = _; rw [hw3]; exact heap_alloc_new w2 _
    have Hq3 : Hid (w3.heap[w.heap.size]? = some (.cells #[.slice Ao g.objs.length co, .slice Ar g.roots.length cr] 27 (0, 0))) := blk_below HB23.out HB2.out.2
    have HB3 : Hid (Below w.heap.size w w3) := bel_t HB2.out.1 HB23.out
    have Hu3 : Hid (RdU w3 (.slice Au la.length cu) la) := Hu.out.1.later (later_below HB23.out)
    have Hg3 : Hid (RdG w3 (.agg #[.slice Ao2 ga.objs.length co2, .slice Ar2 ga.roots.length cr2]) ga) := Hu.out.2.2.later (later_below HB23.out)
    have KS : Hid (∀ W, Below w3.heap.size w3 W → Below w3.heap.size w3 W ∧ W.cell? ⟨w.heap.size, 0, none⟩ = some (.slice Ao g.objs.length co) ∧ W.cell? ⟨w.heap.size, 1, none⟩ = some (.slice Ar g.roots.length cr)) := fun W h => bel_cells Hq3.out h
    clear hw3
    obtain ⟨s1, s2, s3⟩ := KS.out w3.drew (Below.refl _ _).drew
    go_region_held3 (fun W => Below w3.heap.size w3 W ∧ W.cell? ⟨w.heap.size, 0, none⟩ = some (.slice Ao g.objs.length co) ∧ W.cell? ⟨w.heap.size, 1, none⟩ = some (.slice Ar g.roots.length cr))
      (first | (refine KS.out _ ?_; go_split_ands; first | with_reducible assumption | with_reducible exact (bel_a _).drew | with_reducible exact e1 | with_reducible exact Below.alloc (by assumption) (Below.size (by assumption)) _ | with_reducible exact Below.setCell (Below.setCell (by assumption) (by simp only [World.size_alloc]; omega) _) (by simp only [World.size_alloc]; omega) _))
      (first
      | (go_at_call 34; refine (behind_any _ _ _ a b (Ha.out.later ((later_below HB3.out).trans (later_below (by go_split_ands; with_reducible assumption)))) (Hb.out.later ((later_below HB3.out).trans (later_below (by go_split_ands; with_reducible assumption)))) Hz.out Hz2.out).mono ?_; rintro e w5 ⟨v5, rfl, hv5, hB5⟩
         have e1 : Below w3.heap.size w3 w5 := by go_split_ands; with_reducible exact bel_t (by assumption) hB5
         rw [Hab.out] at hv5
         obtain ⟨A5, c5, rfl, -⟩ := id hv5
         have Hv5 := Lib.hid hv5
         have z5 := e1.size
         try with_reducible (have t1 := blk_below hB5 (blk_drew (heap_alloc_new w3 (.cells #[.slice none 0 0, .slice none 0 0] 27))))
         clear hv5 hB5)
      | (go_at_call 33; refine (play_any _ _ _ g ab (Hg.out.later ((later_below HB3.out).trans (later_below (by go_split_ands; with_reducible assumption)))) (Hv5.out.later (later_below (by first | with_reducible exact Below.refl _ _ | with_reducible exact bel_a _)))).mono ?_; rintro e w6 ⟨v6, gv6, rfl, hW6, hB6⟩
         obtain ⟨⟨hu6, hcap6⟩, hg6⟩ := hW6 _ (fun b hb => rfl)
         rw [Hlx.out] at hu6
         rw [Hgx.out] at hg6
         obtain ⟨A6, c6, rfl, hmu6, -⟩ := id hu6
         obtain ⟨vo6, vr6, rfl, ho6, hr6⟩ := id hg6
         obtain ⟨Ao6, co6, rfl, hmo6, -⟩ := id ho6
         obtain ⟨Ar6, cr6, rfl, hmr6, -⟩ := id hr6
         have e1 : Below w3.heap.size w3 w6 := by go_split_ands; with_reducible exact bel_t (by assumption) hB6
         have Hu6 := Lib.hid (And.intro hu6 (And.intro hcap6 hg6))
         have z6 := e1.size
         try with_reducible (have t2 := blk_below hB6 t1)
         try with_reducible (have t2 := blk_below hB6 (heap_alloc_new w5 (.cells #[.slice none 0 0, .slice none 0 0] 27)))
         try (have d1 := cell_blk (j := 0) t2 rfl)
         try (have d2 := cell_blk (j := 1) t2 rfl)
         try (have d3 := frozen_blk (j := 0) t2)
         try (have d4 := frozen_blk (j := 1) t2)
         try (have d5 := lt_blk t2)
         clear hu6 hcap6 hg6 ho6 hr6 hW6 hB6
         rw [Hex.out]))
    
    all_goals
      go_wp2
      go_ret
      exact ⟨rfl, bel_t HB3.out (by go_split_ands; with_reducible assumption)⟩
end Ie
end Go.Proofs.Yteghhajfkdbcdaa
