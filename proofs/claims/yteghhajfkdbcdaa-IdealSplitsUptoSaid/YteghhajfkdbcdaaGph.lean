/- heap.Objects' Graph. -/
import Derived.Test.YteghhajfkdbcdaaFnw
import Derived.Test.YteghhajfkdbcdaaPur
import Derived.Outline
namespace Go.Proofs.Yteghhajfkdbcdaa
open Go.RowKit
set_option linter.unusedVariables false
set_option linter.unusedSimpArgs false

/-- All that there is, as a graph; what is gone is empty. -/
def graphOf (os : Ovs) (rs : List Vl) : G := ⟨os.map fun o => o.getD [], rs⟩
/-- heap.Objects' Graph, in plain words. -/
def canonOf (os : Ovs) (rs : List Vl) : G := renumG (graphOf os rs) (foundL (graphOf os rs))
theorem mem_tgts' {vs : List Vl} {x : Int} : x ∈ tgts vs ↔ ∃ v ∈ vs, v.ref = true ∧ v.n = x := mem_tgts
theorem graphOf_ok {os : Ovs} {rs : List Vl} (h : Clo os rs) : GOk (graphOf os rs) := by
  have key : ∀ v, okR os v → v.ref = true → 0 ≤ v.n ∧ v.n < ((graphOf os rs).objs.length : Int) := by
    intro v hv hr
    obtain ⟨h0, h1⟩ := hv hr
    obtain ⟨f, hf⟩ := isAt_iff.1 h1
    have := (List.getElem?_eq_some_iff.1 hf).1
    simp only [graphOf, List.length_map]
    omega
  constructor
  · intro x hx
    obtain ⟨v, hv, hr, rfl⟩ := mem_tgts.1 hx
    exact key v (h.regs v hv) hr
  · intro o ho x hx
    obtain ⟨v, hv, hr, rfl⟩ := mem_tgts.1 hx
    simp only [graphOf, List.mem_map] at ho
    obtain ⟨e, he, rfl⟩ := ho
    obtain ⟨i, hi, rfl⟩ := List.getElem_of_mem he
    cases hq : os[i] with
    | none => rw [hq] at hv; cases hv
    | some f =>
      rw [hq] at hv
      exact key v (h.objs i f (by rw [List.getElem?_eq_getElem hi, hq]) v hv) hr

/-- A row of objects' headers of the call's own; what they head read in an earlier world. -/
def OwnH (w W : World) (base : Nat) (v : Value) (os : List (List Vl)) : Prop :=
  ∃ fvs : List Value, W.ownsRow base 48 1 v os.length fvs ∧ ∀ i, (h : i < os.length) → ∃ fv, fvs[i]? = some fv ∧ RdV w fv os[i]
theorem OwnH.rd {w W : World} {base : Nat} {v : Value} {os : List (List Vl)} (h : OwnH w W base v os) (hl : Later w W) : RdO W v os := by
  obtain ⟨fvs, h, h2⟩ := h
  rcases h.2 with ⟨rfl, h0⟩ | ⟨g, cap, cur, rfl, hb, hh, h1, h3, h4, h5⟩
  · have : os = [] := List.eq_nil_of_length_eq_zero h0
    subst this
    exact ⟨none, 0, rfl, by simp, fun i hi => by simp at hi⟩
  · refine ⟨_, cap, rfl, by unfold maxLen at h3; omega, fun i hi => ?_⟩
    obtain ⟨fv, e, h6⟩ := h2 i hi
    refine ⟨g, 0, fv, rfl, ?_, h6.later hl⟩
    rw [← h5] at e
    simp only [List.getElem?_take, Array.getElem?_toList] at e
    rw [if_pos (by omega)] at e
    simp only [Nat.zero_add]
    simp [World.cell?, hh, e]
theorem OwnH.snoc {w W W' : World} {base : Nat} {v v' : Value} {os : List (List Vl)} {y : List Vl} {fv : Value} (h : OwnH w W base v os) (hy : RdV w fv y) (hr : ∀ fvs, W.ownsRow base 48 1 v os.length fvs → W'.ownsRow base 48 1 v' (os.length + 1) (fvs ++ [fv])) : OwnH w W' base v' (os ++ [y]) := by
  obtain ⟨fvs, h1, h2⟩ := h
  refine ⟨fvs ++ [fv], by rw [List.length_append]; exact hr _ h1, fun i hi => ?_⟩
  have hl := h1.1
  rw [List.length_append] at hi
  by_cases hlt : i < os.length
  · obtain ⟨fv', e, h'⟩ := h2 i hlt
    exact ⟨fv', by rw [List.getElem?_append_left (List.getElem?_eq_some_iff.1 e).1]; exact e, by rw [List.getElem_append_left hlt]; exact h'⟩
  · have : i = os.length := by simp at hi; omega
    subst this
    exact ⟨fv, by rw [List.getElem?_append_right (by omega)]; simp [hl], by simpa using hy⟩
theorem OwnH.same {w W W' : World} {base : Nat} {v : Value} {os : List (List Vl)} (h : OwnH w W base v os) (hs : ∀ b, v.ownBlock = some b → W'.heap[b]? = W.heap[b]?) : OwnH w W' base v os := by
  obtain ⟨fvs, h1, h2⟩ := h
  exact ⟨fvs, own_same_blk h1 hs, h2⟩

theorem own_inj {w : World} {base : Nat} {e : TypeId} {size n : Nat} {v : Value} {xs ys : List Value} (h : w.ownsRow base e size v n xs) (k : w.ownsRow base e size v n ys) : xs = ys := by
  rcases h.2 with ⟨rfl, h0⟩ | ⟨g, cap, cur, rfl, hb, hh, h1, h3, h4, h5⟩
  · have h1 := h.1
    have h2 := k.1
    rw [h0, Nat.zero_mul] at h1 h2
    rw [List.eq_nil_of_length_eq_zero h1, List.eq_nil_of_length_eq_zero h2]
  · rcases k.2 with ⟨k0, _⟩ | ⟨g', cap', cur', k0, _, kh, _, _, _, k5⟩
    · cases k0
    · injection k0 with k1 k2 k3
      injection k1 with k1
      injection k1 with k1
      subst k1
      rw [hh] at kh
      injection kh with kh
      injection kh with kh
      subst kh
      rw [← h5, k5]
theorem rd_regs {W : World} {b : Nat} {rs : List Vl} {t : TypeId} (h : W.heap[b]? = some (.cells (flatV rs).toArray t (0, 0))) (hl : rs.length ≤ 1000) : RdV W (.slice (some ⟨b, 0, none⟩) rs.length rs.length) rs := by
  refine ⟨_, _, rfl, ⟨Nat.le_refl _, by omega⟩, fun i hi => ⟨b, 0, rfl, ?_, ?_⟩⟩
  · refine cell_blk h ?_
    have := (flatV_get rs i hi).1
    simpa using this
  · refine cell_blk h ?_
    have := (flatV_get rs i hi).2
    simpa using this

set_option maxRecDepth 100000 in
set_option maxHeartbeats 4000000 in
/-- Graph -/
theorem graph_any (w : World) (base : Nat) (ov : Value) (L : List (Option Ob)) (rs : List Vl) (h : HObj w base ov L) (hrs : rs.length = 8) (hL : L.length ≤ 1000000) (hfl : ∀ o ∈ obs L, (o.getD []).length ≤ 1000000) (hc : Clo (obs L) rs) :
    Calls Try.prog 51 #[ov, .agg (flatV rs).toArray] w fun e w' => ∃ v', e = .returned v' ∧ (∀ W : World, (∀ b, w.heap.size ≤ b → W.heap[b]? = w'.heap[b]?) → RdG W v' (canonOf (obs L) rs)) ∧ Below w.heap.size w w' := by
  obtain ⟨A, cap, rfl, hlen⟩ := h.len
  have Hh := Lib.hid h
  have Hfl := Lib.hid hfl
  have Hc := Lib.hid hc
  have Hrs := Lib.hid hrs
  have Hog : Hid ((graphOf (obs L) rs).objs.length = L.length) := by show _ = _; simp [graphOf, obs]
  clear h hfl hc hrs
  go_enter Try.func51, Try.ntmps51
  go_wp2
  generalize hw1 : ((w.alloc (.cells (flatV rs).toArray 101)).alloc (.cells #[.slice none 0 0, .slice none 0 0] 27)).alloc (.cells #[.slice none 0 0, .slice (some ⟨w.heap.size, 0, none⟩) 8 8] 27) = w1
  have k0 : w1.heap[w.heap.size]? = some (.cells (flatV rs).toArray 101 (0, 0)) := by rw [← hw1]; exact blk_alloc (blk_alloc (at_new _ _ _ rfl))
  have k1 : w1.heap[w.heap.size + 1]? = some (.cells #[.slice none 0 0, .slice none 0 0] 27 (0, 0)) := by rw [← hw1]; exact blk_alloc (at_new _ _ _ (by simp))
  have k2 : w1.heap[w.heap.size + 1 + 1]? = some (.cells #[.slice none 0 0, .slice (some ⟨w.heap.size, 0, none⟩) 8 8] 27 (0, 0)) := by rw [← hw1]; exact at_new _ _ _ (by simp)
  have kb : Below w.heap.size w w1 := by rw [← hw1]; exact (((Below.refl _ _).alloc (Nat.le_refl _) _).alloc (by simp) _).alloc (by simp; omega) _
  have ks : w1.heap.size = w.heap.size + 3 := by rw [← hw1]; simp
  clear hw1
  go_loopw [14] (fun i wr => ∃ (k : Nat) (gv : Value), k ≤ L.length ∧ i = .int .i64 k ∧ wr.heap[w.heap.size + 1 + 1]? = some (.cells #[gv, .slice (some ⟨w.heap.size, 0, none⟩) 8 8] 27 (0, 0)) ∧ OwnH w wr (w.heap.size + 3) gv ((graphOf (obs L) rs).objs.take k) ∧
    wr.heap[w.heap.size]? = some (.cells (flatV rs).toArray 101 (0, 0)) ∧ wr.heap[w.heap.size + 1]? = some (.cells #[.slice none 0 0, .slice none 0 0] 27 (0, 0)) ∧ Below w.heap.size w wr ∧ w.heap.size + 3 ≤ wr.heap.size) (fun i _ => L.length - (intOf i).toNat)
  case atStart => exact ⟨0, _, Nat.zero_le _, rfl, k2, ⟨[], ⟨by simp, .inl ⟨rfl, rfl⟩⟩, fun i hi => by simp at hi⟩, k0, k1, kb, by omega⟩
  case round =>
    obtain ⟨k, gv, hk, rfl, i1, i2, i3, i4, i5, i6⟩ := hrel
    clear k0 k1 k2 kb ks
    have hz := lt_blk i1
    by_cases hlt : k < L.length
    · obtain ⟨e, he⟩ : ∃ e, L[k]? = some e := ⟨L[k], by simp [hlt]⟩
      obtain ⟨g, cap', cur, ea, hl, hm, hb, hc0⟩ := Hh.out.cell he
      injection ea with ea1 ea2 ea3
      subst ea1 ea3
      have hc1 := later_below i5 _ _ hc0
      have htk : ((graphOf (obs L) rs).objs.take k).length = k := by rw [List.length_take, Hog.out]; omega
      have hsn : (graphOf (obs L) rs).objs.take (k + 1) = (graphOf (obs L) rs).objs.take k ++ [(e.map Ob.fs).getD []] := by
        rw [List.take_succ_eq_append_getElem (by rw [Hog.out]; exact hlt)]
        congr 2
        have e2 := (List.getElem?_eq_some_iff.1 he).2
        simp [graphOf, obs, e2]
      have c2 := cell_blk (j := 0) i1 rfl
      have f2 := frozen_blk (j := 0) i1
      have Htk := Lib.hid htk
      obtain ⟨Ag, cg, eAg, -⟩ := id (i2.rd (later_below i5))
      rw [htk] at eAg
      subst eAg
      have H := Lib.hid (And.intro i1 (And.intro i2 (And.intro i3 (And.intro i4 (And.intro i5 i6)))))
      have Hsn := Lib.hid hsn
      have hs5 := i5.size
      clear i2 i3 i4 i5 i6 hsn htk hb hc0 ea2
      cases e with
      | none =>
        simp only [Ob.ptr] at hc1
        have a1 := H.out.1
        have n1 := World.new_ne _ _ c2
        go_wp2
        generalize hX : wr.alloc (.cells #[.slice none 0 0] 48) = X
        have p2 : X.cell? ⟨wr.heap.size, 0, none⟩ = some (.slice none 0 0) := by rw [← hX]; exact cell_blk (heap_alloc_new _ _) rfl
        have p1 : X.heap[w.heap.size + 1 + 1]? = some (.cells #[.slice Ag k cg, .slice (some ⟨w.heap.size, 0, none⟩) 8 8] 27 (0, 0)) := by rw [← hX]; exact blk_alloc a1
        have p1c := cell_blk (j := 0) p1 rfl
        have hXB : Below w.heap.size w X := by rw [← hX]; exact H.out.2.2.2.2.1.alloc (by omega) _
        have hX3 : w.heap.size + 3 ≤ X.heap.size := by rw [← hX]; simp; have := H.out.2.2.2.2.2; omega
        have HO : Hid (OwnH w X (w.heap.size + 3) (.slice Ag k cg) ((graphOf (obs L) rs).objs.take k)) := by
          have h := H.out.2.1
          rw [← hX]
          exact h.same fun b hb => by
            obtain ⟨fvs, h1, _⟩ := h
            obtain ⟨_, cs, h2⟩ := own_blk h1 hb
            rw [blk_alloc h2, h2]
        have HX0 : Hid (X.heap[w.heap.size]? = some (.cells (flatV rs).toArray 101 (0, 0)) ∧ X.heap[w.heap.size + 1]? = some (.cells #[.slice none 0 0, .slice none 0 0] 27 (0, 0))) := by rw [← hX]; exact ⟨blk_alloc H.out.2.2.1, blk_alloc H.out.2.2.2.1⟩
        clear hX a1 n1
        obtain ⟨fvs, ho1, ho2⟩ := HO.out
        have hfl := ho1.1
        have r1 := cell_alloc (o := .cells #[.slice none 0 0] 48) p2
        have r2 := cell_alloc (o := .cells #[.slice none 0 0] 48) p1c
        have HP := Lib.hid (And.intro p1 (And.intro ho1 (And.intro hXB hX3)))
        have hzX := lt_blk p1
        have h6 : w.heap.size + 3 ≤ X.heap.size := hX3
        clear ho1 p1 hXB hX3
        go_region_law (refine step_app rfl _ _ 24 48 1 24 _ rfl Try.underlying24 Try.info48 rfl (by omega) (by omega) (w.heap.size + 3) _ k fvs [.slice none 0 0] rfl (by simp [Value.oneCell']) X.heap.size (by rfl) (by rfl) (blk_drew (at_new _ _ _ rfl)) (own_below (by have := HP.out.2.1; rwa [Htk.out] at this) (((Below.refl _ _).alloc (Nat.le_refl _) _).drew)) (by simp; omega) (by omega) ?_; intro g2 cap2 w5 hown hg hgb hlt5; have q1 := blk_grown hg (blk_drew (blk_alloc HP.out.1)) (own_off HP.out.2.1 HP.out.1 (by decide)); have q2 := cell_blk (j := 0) q1 rfl; have q3 := frozen_blk (j := 0) q1; have q4 := lt_blk q1)
        all_goals
          have Hgr := Lib.hid (And.intro hown (And.intro hg q1))
          clear hown hg hgb q1
          have hfin : ∀ Y : World, Y = w5.setCell ⟨w.heap.size + 1 + 1, 0, none⟩ (.slice (some ⟨g2, 0, none⟩) (k + 1) cap2) → Y.heap[w.heap.size + 1 + 1]? = some (.cells #[.slice (some ⟨g2, 0, none⟩) (k + 1) cap2, .slice (some ⟨w.heap.size, 0, none⟩) 8 8] 27 (0, 0)) ∧ OwnH w Y (w.heap.size + 3) (.slice (some ⟨g2, 0, none⟩) (k + 1) cap2) ((graphOf (obs L) rs).objs.take (k + 1)) ∧
              Y.heap[w.heap.size]? = some (.cells (flatV rs).toArray 101 (0, 0)) ∧ Y.heap[w.heap.size + 1]? = some (.cells #[.slice none 0 0, .slice none 0 0] 27 (0, 0)) ∧ Below w.heap.size w Y ∧ w.heap.size + 3 ≤ Y.heap.size := by
            rintro Y rfl
            obtain ⟨hown, hg, q1⟩ := Hgr.out
            have hY : ∀ b, b ≠ w.heap.size + 1 + 1 → (w5.setCell ⟨w.heap.size + 1 + 1, 0, none⟩ (.slice (some ⟨g2, 0, none⟩) (k + 1) cap2)).heap[b]? = w5.heap[b]? := fun b hb => Below.heap_setCell _ _ _ _ hb
            have hs5 := hg.size
            simp at hs5
            refine ⟨by rw [set_blk q1]; rfl, ?_, ?_, ?_, ?_, by simp [World.setCell]; omega⟩
            · rw [Hsn.out]
              refine OwnH.same (OwnH.snoc (W := X) (W' := w5) (v' := .slice (some ⟨g2, 0, none⟩) (k + 1) cap2) ⟨fvs, HP.out.2.1, ho2⟩ (⟨none, 0, rfl, by simp, fun i hi => by simp at hi⟩) fun fvs' hf' => ?_) fun b hb => hY b ?_
              · obtain rfl : fvs' = fvs := own_inj hf' HP.out.2.1
                rw [Htk.out]
                exact hown
              · have : g2 = b := by simpa [Value.ownBlock] using hb
                subst this
                intro e
                rw [e] at hown
                have := (own_blk hown (k := w.heap.size + 1 + 1) rfl).1
                omega
            · rw [hY _ (by omega)]; exact blk_grown hg (blk_drew (blk_alloc HX0.out.1)) (own_off HP.out.2.1 HX0.out.1 (by decide))
            · rw [hY _ (by omega)]; exact blk_grown hg (blk_drew (blk_alloc HX0.out.2)) (own_off HP.out.2.1 HX0.out.2 (by decide))
            · exact (((HP.out.2.2.1.alloc (by omega) _).drew.grown hg (by simp; omega) (fun k hk => by have := (own_blk HP.out.2.1 hk).1; omega)).setCell (by simp; omega) _)
          have Hfin := Lib.hid hfin
          clear hfin
          go_wp2
          go_roundw
          case rel =>
            have hfin := Hfin.out
            obtain ⟨z1, z2, z3, z4, z5, z6⟩ := hfin _ rfl
            exact ⟨k + 1, _, by omega, by go_num, z1, z2, z3, z4, z5, z6⟩
          case measure => simp [intOf]; omega
      | some o =>
        obtain ⟨x1, x2, x3⟩ := Hh.out.box k o he
        have y1 := cell_blk (j := 0) x1 rfl
        have y2 := later_below H.out.2.2.2.2.1 _ _ y1
        have y3 := World.block_lt_of_cell? _ _ y2
        obtain ⟨Af, cf, ef, -⟩ := id x3.rd
        have X3 := Lib.hid x3
        rw [ef] at y2
        simp only [Ob.ptr] at hc1
        have n1 := World.new_ne _ _ c2
        have n2 := World.new_ne _ _ y2
        clear x1 x2 x3 y1
        go_wp2
        have p2 := y2
        have p1 := H.out.1
        have p1c := c2
        have hXB := H.out.2.2.2.2.1
        have hX3 := H.out.2.2.2.2.2
        have HO := Lib.hid H.out.2.1
        have HX0 := Lib.hid (And.intro H.out.2.2.1 H.out.2.2.2.1)
        have HXF : Hid (RdV w (.slice Af o.fs.length cf) o.fs) := by have := X3.out.rd; rw [ef] at this; exact this
        obtain ⟨X, hXe⟩ : ∃ X, X = wr := ⟨_, rfl⟩
        rw [← hXe] at p1 p2 p1c hXB hX3 HO HX0 hc1 c2 f2 hz y2 y3 n1 n2 ⊢
        clear hXe H hs5 X3 ef
        obtain ⟨fvs, ho1, ho2⟩ := HO.out
        have hfl := ho1.1
        have r1 := cell_alloc (o := .cells #[.slice Af o.fs.length cf] 48) p2
        have r2 := cell_alloc (o := .cells #[.slice Af o.fs.length cf] 48) p1c
        have HP := Lib.hid (And.intro p1 (And.intro ho1 (And.intro hXB hX3)))
        have hzX := lt_blk p1
        have h6 : w.heap.size + 3 ≤ X.heap.size := hX3
        clear ho1 p1 hXB hX3
        go_region_law (refine step_app rfl _ _ 24 48 1 24 _ rfl Try.underlying24 Try.info48 rfl (by omega) (by omega) (w.heap.size + 3) _ k fvs [.slice Af o.fs.length cf] rfl (by simp [Value.oneCell']) X.heap.size (by rfl) (by rfl) (blk_drew (at_new _ _ _ rfl)) (own_below (by have := HP.out.2.1; rwa [Htk.out] at this) (((Below.refl _ _).alloc (Nat.le_refl _) _).drew)) (by simp; omega) (by omega) ?_; intro g2 cap2 w5 hown hg hgb hlt5; have q1 := blk_grown hg (blk_drew (blk_alloc HP.out.1)) (own_off HP.out.2.1 HP.out.1 (by decide)); have q2 := cell_blk (j := 0) q1 rfl; have q3 := frozen_blk (j := 0) q1; have q4 := lt_blk q1)
        all_goals
          have Hgr := Lib.hid (And.intro hown (And.intro hg q1))
          clear hown hg hgb q1
          have hfin : ∀ Y : World, Y = w5.setCell ⟨w.heap.size + 1 + 1, 0, none⟩ (.slice (some ⟨g2, 0, none⟩) (k + 1) cap2) → Y.heap[w.heap.size + 1 + 1]? = some (.cells #[.slice (some ⟨g2, 0, none⟩) (k + 1) cap2, .slice (some ⟨w.heap.size, 0, none⟩) 8 8] 27 (0, 0)) ∧ OwnH w Y (w.heap.size + 3) (.slice (some ⟨g2, 0, none⟩) (k + 1) cap2) ((graphOf (obs L) rs).objs.take (k + 1)) ∧
              Y.heap[w.heap.size]? = some (.cells (flatV rs).toArray 101 (0, 0)) ∧ Y.heap[w.heap.size + 1]? = some (.cells #[.slice none 0 0, .slice none 0 0] 27 (0, 0)) ∧ Below w.heap.size w Y ∧ w.heap.size + 3 ≤ Y.heap.size := by
            rintro Y rfl
            obtain ⟨hown, hg, q1⟩ := Hgr.out
            have hY : ∀ b, b ≠ w.heap.size + 1 + 1 → (w5.setCell ⟨w.heap.size + 1 + 1, 0, none⟩ (.slice (some ⟨g2, 0, none⟩) (k + 1) cap2)).heap[b]? = w5.heap[b]? := fun b hb => Below.heap_setCell _ _ _ _ hb
            have hs5 := hg.size
            simp at hs5
            refine ⟨by rw [set_blk q1]; rfl, ?_, ?_, ?_, ?_, by simp [World.setCell]; omega⟩
            · rw [Hsn.out]
              refine OwnH.same (OwnH.snoc (W := X) (W' := w5) (v' := .slice (some ⟨g2, 0, none⟩) (k + 1) cap2) ⟨fvs, HP.out.2.1, ho2⟩ HXF.out fun fvs' hf' => ?_) fun b hb => hY b ?_
              · obtain rfl : fvs' = fvs := own_inj hf' HP.out.2.1
                rw [Htk.out]
                exact hown
              · have : g2 = b := by simpa [Value.ownBlock] using hb
                subst this
                intro e
                rw [e] at hown
                have := (own_blk hown (k := w.heap.size + 1 + 1) rfl).1
                omega
            · rw [hY _ (by omega)]; exact blk_grown hg (blk_drew (blk_alloc HX0.out.1)) (own_off HP.out.2.1 HX0.out.1 (by decide))
            · rw [hY _ (by omega)]; exact blk_grown hg (blk_drew (blk_alloc HX0.out.2)) (own_off HP.out.2.1 HX0.out.2 (by decide))
            · exact (((HP.out.2.2.1.alloc (by omega) _).drew.grown hg (by simp; omega) (fun k hk => by have := (own_blk HP.out.2.1 hk).1; omega)).setCell (by simp; omega) _)
          have Hfin := Lib.hid hfin
          clear hfin
          go_wp2
          go_roundw
          case rel =>
            have hfin := Hfin.out
            obtain ⟨z1, z2, z3, z4, z5, z6⟩ := hfin _ rfl
            exact ⟨k + 1, _, by omega, by go_num, z1, z2, z3, z4, z5, z6⟩
          case measure => simp [intOf]; omega
    · have hk' : k = L.length := by omega
      subst hk'
      rw [List.take_of_length_le (by rw [Hog.out]; exact Nat.le_refl _)] at i2
      have HG : Hid (∀ gv', gv' = gv → RdG wr (.agg #[gv', .slice (some ⟨w.heap.size, 0, none⟩) 8 8]) (graphOf (obs L) rs)) := fun gv' e => ⟨_, _, rfl, by rw [e]; exact i2.rd (later_below i5), by have := rd_regs i3 (by rw [Hrs.out]; omega); rwa [Hrs.out] at this⟩
      obtain ⟨Ag, cg, rfl, hgm, -⟩ := id (i2.rd (later_below i5))
      have c2 := cell_blk (j := 0) i1 rfl
      have c3 := cell_blk (j := 1) i1 rfl
      have H := Lib.hid (And.intro i1 (And.intro i4 (And.intro i5 i6)))
      have Hok := Lib.hid (graphOf_ok Hc.out)
      have hl9 := lt_blk i4
      clear i1 i2 i3 i4 i5 i6
      have Hz2 : Hid (∀ o ∈ (graphOf (obs L) rs).objs, o.length ≤ 1099511627776) := by
        intro o ho
        simp only [graphOf, List.mem_map] at ho
        obtain ⟨e, he, rfl⟩ := ho
        have := Hfl.out e he
        omega
      have HFI := Lib.hid (iterF_fi Hok.out (graphOf (obs L) rs).objs.length)
      have Hz3 : Hid ((foundL (graphOf (obs L) rs)).length ≤ 1099511627775) := by
        have := HFI.out.le_len
        rw [Hog.out] at this
        show (iterF _ _).2.length ≤ _
        rw [Hog.out]
        omega
      have Hwf : Hid (∀ x ∈ allV (graphOf (obs L) rs), x.ref = true → (Lit.int .i64 x.n).wf = true) := by
        intro x hx hr
        simp only [allV, List.mem_append, List.mem_flatten] at hx
        have hb : 0 ≤ x.n ∧ x.n < ((graphOf (obs L) rs).objs.length : Int) := by
          rcases hx with hx | ⟨o, ho, hx⟩
          · exact Hok.out.roots _ (mem_tgts.2 ⟨x, hx, hr, rfl⟩)
          · exact Hok.out.objs o ho _ (mem_tgts.2 ⟨x, hx, hr, rfl⟩)
        rw [Hog.out] at hb
        exact wf_i64 _ (by omega) (by omega)
      go_wp2_with (first
        | (go_at_call 90; refine (found_any _ _ (graphOf (obs L) rs) (HG.out _ rfl) Hok.out (by rw [Hog.out]; exact hL)).mono ?_; rintro e w5 ⟨lv, dv, rfl, hlv, hB5⟩
           have d1 := blk_below hB5 H.out.1
           have d2 := cell_blk (j := 0) d1 rfl
           have d3 := cell_blk (j := 1) d1 rfl
           have HB5 := Lib.hid hB5
           have HLV := Lib.hid hlv
           clear hB5 hlv d1)
        | (go_at_call 57; refine (renumber_any _ _ _ (graphOf (obs L) rs) (foundL (graphOf (obs L) rs)) ((HG.out _ rfl).later (later_below HB5.out)) HLV.out.rd (by show rs.length ≤ _; rw [Hrs.out]; omega) Hz2.out Hz3.out HFI.out.inr Hwf.out).mono ?_; rintro e w6 ⟨v', rfl, hv', hB6⟩
           have d4 := blk_below hB6 (blk_below HB5.out H.out.2.1)
           obtain ⟨vo', vr', rfl, hv1, hv2⟩ := hv' _ (fun b hb => rfl)
           obtain ⟨Ao, co, rfl, -⟩ := id hv1
           obtain ⟨Ar, cr, rfl, -⟩ := id hv2
           have d5 := cell_blk (j := 0) d4 rfl
           have d6 := cell_blk (j := 1) d4 rfl
           have d7 := frozen_blk (j := 0) d4
           have d8 := frozen_blk (j := 1) d4
           have d9 := lt_blk d4
           have HV := Lib.hid (And.intro hv' (And.intro hB6 d4))
           clear hv' hv1 hv2 hB6 d4))
      obtain ⟨hv', hB6, d4⟩ := HV.out
      have hs6 := H.out.2.2.1.size
      have hs7 := HB5.out.size
      refine bodyPost_ret (results_cell_row rfl _ _ (w.heap.size + 1) 27 _ (0, 0) _ rfl (by rw [set_blk (set_blk d4)]) Try.underlying27 rfl (by kernel_rfl)) rfl ⟨_, rfl, fun W hW => ?_, ?_⟩
      · refine hv' W fun b hb => ?_
        rw [hW b (by omega), Below.heap_setCell _ _ _ _ (by have := lt_blk (blk_below HB5.out H.out.2.1); simp; omega), Below.heap_setCell _ _ _ _ (by have := lt_blk (blk_below HB5.out H.out.2.1); simp; omega)]
      · exact (((H.out.2.2.1.trans (HB5.out.mono (by omega))).trans (hB6.mono (by omega))).setCell (by simp) _).setCell (by simp) _

end Go.Proofs.Yteghhajfkdbcdaa
