/- graph.Renumber: its contract. -/
import Derived.Test.YteghhajfkdbcdaaRow
namespace Go.Proofs.Yteghhajfkdbcdaa
open Go.RowKit
set_option linter.unusedVariables false
set_option linter.unusedSimpArgs false

theorem own_same {w W : World} {base n size : Nat} {e : TypeId} {v : Value} {xs : List Value} (h : w.ownsRow base e size v n xs) (hs : ∀ b, base ≤ b → W.heap[b]? = w.heap[b]?) : W.ownsRow base e size v n xs := by
  refine ⟨h.1, ?_⟩
  rcases h.2 with h0 | ⟨g, cap, cur, h1, h2, h3, h4⟩
  · exact .inl h0
  · exact .inr ⟨g, cap, cur, h1, h2, (hs g h2).trans h3, h4⟩
theorem OwnV.same {w W : World} {base : Nat} {v : Value} {xs : List Vl} (h : OwnV w base v xs) (hs : ∀ b, base ≤ b → W.heap[b]? = w.heap[b]?) : OwnV W base v xs := own_same h hs
theorem OwnO.same {w W : World} {base : Nat} {v : Value} {os : List (List Vl)} (h : OwnO w base v os) (hs : ∀ b, base ≤ b → W.heap[b]? = w.heap[b]?) : OwnO W base v os := by
  obtain ⟨fvs, h1, h2⟩ := h
  exact ⟨fvs, own_same h1 hs, fun i hi => by obtain ⟨fv, e, h3⟩ := h2 i hi; exact ⟨fv, e, own_same h3 hs⟩⟩
def renumG (g : G) (l : List Int) : G := ⟨l.map fun x => turnV l (g.objs.getD x.toNat []), turnV l g.roots⟩

set_option maxRecDepth 20000 in
set_option maxHeartbeats 1000000 in
/-- graph.Renumber -/
theorem renumber_any (w : World) (v lv : Value) (g : G) (l : List Int) (h : RdG w v g) (hl : RdI w lv l) (hz : g.roots.length ≤ 1099511627776) (hz2 : ∀ o ∈ g.objs, o.length ≤ 1099511627776) (hz3 : l.length ≤ 1099511627775)
    (hin : ∀ x ∈ l, 0 ≤ x ∧ x < (g.objs.length : Int)) (hwf : ∀ x ∈ allV g, x.ref = true → (Lit.int .i64 x.n).wf = true) :
    Calls Try.prog 57 #[v, lv] w fun e w' => ∃ v', e = .returned v' ∧ (∀ W : World, (∀ b, w.heap.size ≤ b → W.heap[b]? = w'.heap[b]?) → RdG W v' (renumG g l)) ∧ Below w.heap.size w w' := by
  obtain ⟨vo, vr, rfl, ho, hr⟩ := h
  have Ho := Lib.hid ho
  have Hr := Lib.hid hr
  obtain ⟨A, c, rfl, hm, hc⟩ := hr
  obtain ⟨Ao, co, rfl, hmo, hco⟩ := ho
  obtain ⟨Al, cl, rfl, hml, hcl⟩ := hl
  clear hc hco
  have hwfl : ∀ x ∈ l, (Lit.int .i64 x).wf = true := fun x hx => by
    obtain ⟨h1, h2⟩ := hin x hx
    exact wf_i64 _ (by omega) (by omega)
  have hmm := @run_makeMap Try.prog
  go_enter Try.func57, Try.ntmps57
  go_wp2_with fail
  generalize hw1 : ((((w.alloc (.cells #[.slice Ao g.objs.length co, .slice A g.roots.length c] 27)).alloc (.cells #[.slice none 0 0, .slice none 0 0] 27)).alloc (.map #[] 0)).alloc (.cells #[.map (some (w.heap.size + 1 + 1))] 177)) = w1
  have k0 : w1.heap[w.heap.size]? = some (.cells #[.slice Ao g.objs.length co, .slice A g.roots.length c] 27 (0, 0)) := by rw [← hw1]; repeat (first | exact at_new _ _ _ (by simp only [World.size_alloc]) | refine at_old _ _ _ _ (by simp only [World.size_alloc]; omega) ?_)
  have k1 : w1.heap[w.heap.size + 1]? = some (.cells #[.slice none 0 0, .slice none 0 0] 27 (0, 0)) := by rw [← hw1]; repeat (first | exact at_new _ _ _ (by simp only [World.size_alloc]) | refine at_old _ _ _ _ (by simp only [World.size_alloc]; omega) ?_)
  have k2 : MapI w1 (w.heap.size + 1 + 1) 0 (fun _ => 0) := by
    rw [← hw1]
    have := MapI.made ((w.alloc (.cells #[.slice Ao g.objs.length co, .slice A g.roots.length c] 27)).alloc (.cells #[.slice none 0 0, .slice none 0 0] 27))
    simp only [World.size_alloc] at this
    exact this.below ((Below.refl _ _).alloc (Nat.le_refl _) _)
  have k3 : w1.heap[w.heap.size + 1 + 1 + 1]? = some (.cells #[.map (some (w.heap.size + 1 + 1))] 177 (0, 0)) := by rw [← hw1]; repeat (first | exact at_new _ _ _ (by simp only [World.size_alloc]) | refine at_old _ _ _ _ (by simp only [World.size_alloc]; omega) ?_)
  have kb : Below w.heap.size w w1 := by rw [← hw1]; exact ((((Below.refl _ _).alloc (Nat.le_refl _) _).alloc (by simp) _).alloc (by simp; omega) _).alloc (by simp; omega) _
  have ks : w1.heap.size = w.heap.size + 4 := by rw [← hw1]; simp
  go_loopw [15] (fun i wr => ∃ k : Nat, k ≤ l.length ∧ i = .int .i64 k ∧ MapI wr (w.heap.size + 1 + 1) k (numIn (l.take k)) ∧ Below w.heap.size w wr ∧ w.heap.size + 4 ≤ wr.heap.size ∧
    (∀ j, j ≠ w.heap.size + 1 + 1 → j < w.heap.size + 4 → wr.heap[j]? = w1.heap[j]?)) (fun i _ => l.length - (intOf i).toNat)
  case atStart => exact ⟨0, Nat.zero_le _, rfl, k2, kb, by omega, fun _ _ _ => rfl⟩
  case round =>
    obtain ⟨k, hk, rfl, hM, hB, hsz, hfix⟩ := hrel
    have m2 : wr.heap[w.heap.size + 1 + 1 + 1]? = some (.cells #[.map (some (w.heap.size + 1 + 1))] 177 (0, 0)) := by rw [hfix _ (by omega) (by omega)]; exact k3
    have c2 := cell_blk (j := 0) m2 rfl
    by_cases hlt : k < l.length
    · obtain ⟨b, off, rfl, hcell⟩ := hcl k hlt
      have hc1 := later_below hB _ _ hcell
      have hwk := hwfl l[k] (List.getElem_mem hlt)
      have Hs := numIn_snoc (l.take k) l[k]
      rw [← List.take_succ_eq_append_getElem hlt] at Hs
      obtain ⟨x, hx⟩ : ∃ x, l[k] = x := ⟨_, rfl⟩
      rw [hx] at hc1 hwk Hs
      have hlk : (l.take k).length = k := by simp; omega
      rw [hlk] at Hs
      have Hs' := Lib.hid Hs
      have HM := Lib.hid hM
      have Hw := Lib.hid hwk
      have HF := Lib.hid hfix
      have HBB := Lib.hid hB
      clear hcell hcl hM hwk Hs hfix hin hwf hwfl k0 k1 k2 k3 kb hx
      go_wp2_with (at_mapUpdate; refine upd_i rfl _ _ _ rfl (w.heap.size + 1 + 1) k (numIn (l.take k)) rfl HM.out (by omega) x k rfl rfl (Hw.out) (wf_i64 _ (by omega) (by omega)) ?_)
      intro w' hM' hg'
      go_wp2
      go_roundw
      case rel =>
        refine ⟨k + 1, by omega, by go_num, ?_, ?_, ?_, ?_⟩
        · rwa [funext Hs'.out]
        · exact (HBB.out.grown hg' (by omega) (by intro j hj; injection hj with hj; omega))
        · exact Nat.le_trans hsz hg'.size
        · intro j h1 h2; rw [← HF.out j h1 h2]; exact hg'.block j (by omega) (by simpa using h1)
      case measure => simp [intOf]; omega
    · have e : l.take k = l := List.take_of_length_le (by omega)
      rw [e] at hM
      clear k2
      have m0 : wr.heap[w.heap.size]? = some (.cells #[.slice Ao g.objs.length co, .slice A g.roots.length c] 27 (0, 0)) := by rw [hfix _ (by omega) (by omega)]; exact k0
      have m1 : wr.heap[w.heap.size + 1]? = some (.cells #[.slice none 0 0, .slice none 0 0] 27 (0, 0)) := by rw [hfix _ (by omega) (by omega)]; exact k1
      clear hfix k0 k1 k3 kb e
      have c0 := cell_blk (j := 0) m0 rfl
      have c1 := cell_blk (j := 1) m0 rfl
      have hroots := Hr.out.later (later_below hB)
      have hwr : ∀ x ∈ g.roots, x.ref = true → (Lit.int .i64 x.n).wf = true := fun x hx => hwf x (by simp [allV, hx])
      have Hroots := Lib.hid hroots
      have Hwr := Lib.hid hwr
      have HM := Lib.hid hM
      have HB := Lib.hid hB
      clear hroots hwr hM hB
      go_wp2_with (go_at_call 95; go_loud (refine (turn_any _ (w.heap.size + 1 + 1 + 1) (w.heap.size + 1 + 1) k l _ g.roots c2 HM.out Hroots.out hz Hwr.out).mono ?_); rintro e wt ⟨v1, rfl, hv1, hBt⟩; obtain ⟨A1, cap1, rfl, hm1, -⟩ := id hv1.rd)
      generalize hw2 : wt.alloc (.cells #[.slice none 0 0, .slice A1 (turnV l g.roots).length cap1] 27) = w2
      have hB1 := HB.out
      have j0 : w2.heap[wt.heap.size]? = some (.cells #[.slice none 0 0, .slice A1 (turnV l g.roots).length cap1] 27 (0, 0)) := by rw [← hw2]; exact at_new _ _ _ rfl
      have js : wt.heap.size + 1 ≤ w2.heap.size := by rw [← hw2]; simp
      have jb : Below wt.heap.size wt w2 := by rw [← hw2]; exact (Below.refl _ _).alloc (Nat.le_refl _) _
      clear hw2
      have hbt := hBt.size
      have m0t := blk_below hBt m0
      have m1t := blk_below hBt m1
      have m2t := blk_below hBt m2
      have HMt := Lib.hid (HM.out.below hBt)
      have Hco := Lib.hid (Ho.out.later ((later_below hB1).trans (later_below hBt)))
      obtain ⟨wz, hwz⟩ : ∃ wz : World, wz = wr := ⟨_, rfl⟩
      rw [← hwz] at hB1 hBt hbt hsz hv1
      have hB1 := Lib.hid hB1
      have hBt := Lib.hid hBt
      have Hv1 := Lib.hid hv1
      have hso := hB1.out.size
      clear m0 m1 m2 c0 c1 c2 HM hwz HB Hroots hv1
      clear wr
      go_loopw [32] (fun i wr2 => ∃ (k : Nat) (ov : Value), k ≤ l.length ∧ i = .int .i64 k ∧ wr2.heap[wt.heap.size]? = some (.cells #[ov, .slice A1 (turnV l g.roots).length cap1] 27 (0, 0)) ∧ OwnO wr2 (wt.heap.size + 1) ov ((renumG g l).objs.take k) ∧ Below wt.heap.size wt wr2 ∧ wt.heap.size + 1 ≤ wr2.heap.size) (fun i _ => l.length - (intOf i).toNat)
      case atStart => exact ⟨0, _, Nat.zero_le _, rfl, j0, OwnO.nil _ _, jb, js⟩
      case round =>
        obtain ⟨k2, ov, hk2, rfl, g0, gO, gB, gs⟩ := hrel
        have gm1 := blk_below gB m1t
        have e2 := cell_blk (j := 1) g0 rfl
        have e1 := cell_blk (j := 0) g0 rfl
        have f1 := cell_blk (j := 0) gm1 rfl
        have f2 := cell_blk (j := 1) gm1 rfl
        have f3 := frozen_blk (j := 0) gm1
        have f4 := frozen_blk (j := 1) gm1
        by_cases hlt : k2 < l.length
        · obtain ⟨b, off, rfl, hcell⟩ := hcl k2 hlt
          have hc1 := later_below gB _ _ (later_below hBt.out _ _ (later_below hB1.out _ _ hcell))
          obtain ⟨hx0, hx1⟩ := hin l[k2] (List.getElem_mem hlt)
          have hnx : (renumG g l).objs.take (k2 + 1) = (renumG g l).objs.take k2 ++ [turnV l (g.objs.getD l[k2].toNat [])] := by
            rw [List.take_succ_eq_append_getElem (by simp [renumG]; omega)]
            simp [renumG]
          generalize hx : l[k2] = x at hc1 hx0 hx1 hnx
          obtain ⟨A2, c2, e2', -, hrd⟩ := Hco.out
          injection e2' with e2' e3' e4'
          subst e2' e4'
          have hxn : x.toNat < g.objs.length := by omega
          obtain ⟨bo, oo, fv, rfl, hfc, hfr⟩ := hrd x.toNat hxn
          have hfc2 := later_below gB _ _ hfc
          have hfr2 := hfr.later (later_below gB)
          have hgd : g.objs.getD x.toNat [] = g.objs[x.toNat] := by simp [hxn]
          rw [hgd] at hnx
          have hwfo : ∀ y ∈ g.objs[x.toNat], y.ref = true → (Lit.int .i64 y.n).wf = true := fun y hy => hwf y (by simp only [allV, List.mem_append, List.mem_flatten]; exact .inr ⟨_, List.getElem_mem hxn, hy⟩)
          have hzo := hz2 _ (List.getElem_mem hxn)
          generalize hos : g.objs[x.toNat] = os at hfr hfr2 hnx hwfo hzo
          obtain ⟨Af, cf, rfl, -, -⟩ := id hfr2
          have Hfr := Lib.hid hfr2
          have Hnx := Lib.hid hnx
          have Hwfo := Lib.hid hwfo
          have GO := Lib.hid gO
          have GB := Lib.hid gB
          have HM := Lib.hid (HMt.out.below gB)
          clear hrd hfc hfr hfr2 hcl hgd hnx hwfo hwf hin hwfl hx hcell gO gB Hco hz2
          have h0 := cell_blk (j := 0) (blk_below GB.out m0t) rfl
          have h3 := cell_blk (j := 0) (blk_below GB.out m2t) rfl
          have hl1 := lt_blk g0
          have hl2 := lt_blk (blk_below GB.out m0t)
          have hl3 := World.block_lt_of_cell? _ _ hfc2
          have g5 := frozen_blk (j := 0) g0
          dsimp only at hl3
          go_wp2_with fail
          go_region_law (first
            | (refine step_app_o rfl _ _ rfl (wt.heap.size + 1) ov ((renumG g l).objs.take k2) (turnV l os) _ _ rfl (by rfl) (by rfl) (GO.out.below hB4) (by exact hv4) (Below.refl _ w3) (by omega) (by rw [List.length_take]; omega) ?_; intro g7 cap7 w7 hO7 hB7 hg7;
                have q6 := hg7.cell q1 (fun hh => absurd (own_base' GO.out wt.heap.size hh.symm) (by omega)); have q7 := blk_grown hg7 q4 (fun hh => absurd (own_base' GO.out wt.heap.size hh.symm) (by omega)); have q8 := frozen_blk (j := 0) q7)
            | (go_simp; go_at_call 95; refine (turn_any _ (w.heap.size + 1 + 1 + 1) (w.heap.size + 1 + 1) k l _ os (by simpa using h3) (HM.out.below (Below.refl _ _).drew) (Hfr.out.later (later_below (Below.refl _ _).drew)) hzo Hwfo.out).mono ?_; rintro e w3 ⟨v3, rfl, hv3, hB3⟩;
                obtain ⟨A3, cap3, rfl, -, -⟩ := id hv3.rd; have hB4 := ((Below.refl wr.heap.size wr).drew).trans hB3; have hv4 := own_mono hv3 gs; have q1 := later_below hB4 _ _ e1; have q2 := lt_blk (blk_below hB4 g0); have q3 := hB4.size; have q4 := blk_below hB4 g0))
          all_goals
            have hs7 := hB7.size
            have hbw : Below wt.heap.size wt w7 := GB.out.trans ((hB4.mono (by omega)).trans (hB7.mono (by omega)))
            have hs8 := lt_blk q7
            have hcs : (w7.setCell ⟨wt.heap.size, 0, none⟩ (.slice (some ⟨g7, 0, none⟩) (min k2 (renumG g l).objs.length + 1) cap7)).heap[wt.heap.size]? = some (.cells #[.slice (some ⟨g7, 0, none⟩) (min k2 (renumG g l).objs.length + 1) cap7, .slice A1 (turnV l g.roots).length cap1] 27 (0, 0)) := by
              rw [set_blk q7]; rfl
            have hO8 := hO7.low (grown_setCell w7 ⟨wt.heap.size, 0, none⟩ (.slice (some ⟨g7, 0, none⟩) (min k2 (renumG g l).objs.length + 1) cap7)) (by show wt.heap.size < wt.heap.size + 1; omega)
            have hB8 := hbw.setCell (p := ⟨wt.heap.size, 0, none⟩) (Nat.le_refl _) (.slice (some ⟨g7, 0, none⟩) (min k2 (renumG g l).objs.length + 1) cap7)
            generalize w7.setCell ⟨wt.heap.size, 0, none⟩ (.slice (some ⟨g7, 0, none⟩) (min k2 (renumG g l).objs.length + 1) cap7) = w8 at hcs hO8 hB8 ⊢
            rw [List.length_take] at hO8
            rw [← Hnx.out] at hO8
            go_wp2
            go_roundw
            case rel => exact ⟨k2 + 1, _, by omega, by go_num, hcs, hO8, hB8, lt_blk hcs⟩
            case measure => simp [intOf]; omega
        · have e : (renumG g l).objs.take k2 = (renumG g l).objs := List.take_of_length_le (by simp [renumG]; omega)
          rw [e] at gO
          obtain ⟨Aov, cov, rfl, hmv, -⟩ := id gO.rd
          have GO := Lib.hid gO
          have GB := Lib.hid gB
          clear gO gB e
          go_wp2_with fail
          have hbb : Below w.heap.size w wr := hB1.out.trans ((hBt.out.mono (by omega)).trans (GB.out.mono (by omega)))
          refine bodyPost_ret (results_g rfl _ _ (w.heap.size + 1) (.slice Aov (renumG g l).objs.length cov) (.slice A1 (turnV l g.roots).length cap1) rfl (by simp [go_sem, f1]) (by simp [go_sem, f2])) rfl ?_
          have r1 := ((GO.out.low (grown_setCell wr ⟨w.heap.size + 1, 0, none⟩ (.slice Aov (renumG g l).objs.length cov)) (by simp; omega)).low (grown_setCell _ ⟨w.heap.size + 1, 1, none⟩ (.slice A1 (turnV l g.roots).length cap1)) (by simp; omega))
          have r2 := (OwnV.low (OwnV.low (OwnV.below Hv1.out GB.out) (grown_setCell wr ⟨w.heap.size + 1, 0, none⟩ (.slice Aov (renumG g l).objs.length cov)) (by simp; omega)) (grown_setCell _ ⟨w.heap.size + 1, 1, none⟩ (.slice A1 (turnV l g.roots).length cap1)) (by simp; omega))
          exact ⟨_, rfl, fun W hW => ⟨_, _, rfl, (r1.same fun b hb => hW b (by omega)).rd, (OwnV.same r2 fun b hb => hW b (by omega)).rd⟩, (hbb.setCell (by simp) _).setCell (by simp) _⟩

end Go.Proofs.Yteghhajfkdbcdaa
