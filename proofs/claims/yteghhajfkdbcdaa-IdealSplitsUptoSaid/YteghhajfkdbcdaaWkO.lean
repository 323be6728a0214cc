/- weak: the kinds' test, KindsCheck, Graphs, list. -/
import Derived.Test.YteghhajfkdbcdaaWkK
namespace Go.Proofs.Yteghhajfkdbcdaa
open Go.RowKit
set_option linter.unusedVariables false
set_option linter.unusedSimpArgs false

def badK (n : Int) : Bool := decide (n < 0) || decide (2 < n)
theorem badk_any (w : World) (n : Int) : Calls Try.prog 92 #[.int .i64 n] w fun e w' => e = .returned (.bool (badK n)) ∧ w' = w := by
  by_cases h0 : n < 0
  · have d0 : decide (n < 0) = true := by simpa using h0
    go_enter Try.func92, Try.ntmps92
    go_wp2
    go_ret
    exact ⟨ret_bool (by simp [badK, h0]), rfl⟩
  · have d0 : decide (n < 0) = false := by simpa using h0
    go_enter Try.func92, Try.ntmps92
    go_wp2
    go_ret
    exact ⟨ret_bool (by simp [badK]; omega), rfl⟩

theorem idxk_any (w : World) (v : Value) (ks : List Int) (h : RdI w v ks) :
    Calls Try.prog 126 #[v, .func (.func 92) #[] #[]] w fun e w' => ∃ i : Int, e = .returned (.int .i64 i) ∧ (decide (0 ≤ i) = ks.any badK) ∧ w' = w := by
  obtain ⟨A, c, rfl, hm, hc⟩ := h
  go_enter Try.func126, Try.ntmps126
  go_wp2
  go_loopw [8] (fun i wr => ∃ k : Nat, k ≤ ks.length ∧ i = .int .i64 k ∧ ((ks.take k).any badK) = false ∧ wr = w) (fun i _ => ks.length - (intOf i).toNat)
  case atStart => exact ⟨0, Nat.zero_le _, rfl, by simp, rfl⟩
  case round =>
    obtain ⟨k, hk, rfl, hn, rfl⟩ := hrel
    have Hn := Lib.hid hn
    clear hn
    by_cases hlt : k < ks.length
    · obtain ⟨b, off, rfl, hcell⟩ := hc k hlt
      clear hc
      generalize hb : badK ks[k] = bk
      have HC := badk_any wr ks[k]
      rw [hb] at HC
      have Hb := Lib.hid hb
      have HC := Lib.hid HC
      clear hb
      cases bk
      · go_wp2_with (go_at_call 92; refine HC.out.mono ?_; rintro e w2 ⟨rfl, rfl⟩)
        go_roundw
        case rel => exact ⟨k + 1, by omega, by go_num, by rw [List.take_succ_eq_append_getElem hlt, List.any_append, Hn.out]; simp [Hb.out], by first | rfl | trivial⟩
        case measure => simp [intOf]; omega
      · go_wp2_with (go_at_call 92; refine HC.out.mono ?_; rintro e w2 ⟨rfl, rfl⟩)
        go_ret
        refine ⟨_, rfl, ?_, rfl⟩
        have : ks.any badK = true := List.any_eq_true.2 ⟨_, List.getElem_mem hlt, Hb.out⟩
        rw [this]; simp
    · go_wp2
      go_ret
      refine ⟨_, rfl, ?_, rfl⟩
      have hn := Hn.out
      rw [List.take_of_length_le (by omega)] at hn
      rw [hn]; rfl

theorem contk_any (w : World) (v : Value) (ks : List Int) (h : RdI w v ks) :
    Calls Try.prog 91 #[v, .func (.func 92) #[] #[]] w fun e w' => e = .returned (.bool (ks.any badK)) ∧ w' = w := by
  have HI := Lib.hid (idxk_any w v ks h)
  clear h
  go_enter Try.func91, Try.ntmps91
  go_wp2_with (go_at_call 126; refine HI.out.mono ?_; rintro e w2 ⟨i, rfl, hi, rfl⟩; have Hi := Lib.hid hi; clear hi)
  go_ret
  exact ⟨ret_bool (by rw [← Hi.out]), rfl⟩

def kcheck (n : Nat) (ks : List Int) : Int := if ks.length ≠ n then 2 else if ks.any badK then 5 else 0
theorem kc_step (k : Int) (h0 : k ≠ 0) (h1 : k ≠ 1) : badK k = decide (k ≠ 2) := by
  unfold badK
  by_cases h : k < 0
  · have : k ≠ 2 := by omega
    simp [h, this]
  · by_cases h2 : 2 < k
    · have : k ≠ 2 := by omega
      simp [h2, this]
    · have : k = 2 := by omega
      subst this; rfl

set_option maxRecDepth 20000 in
set_option maxHeartbeats 1000000 in
/-- ref.KindsCheck -/
theorem kcheck_any (w : World) (v kv : Value) (g : G) (ks : List Int) (h : RdG w v g) (hk : RdI w kv ks) :
    Calls Try.prog 28 #[v, kv] w fun e w' => e = .returned (.int .i64 (kcheck g.objs.length ks)) ∧ Below w.heap.size w w' := by
  obtain ⟨vo, vr, rfl, ho, hr⟩ := h
  obtain ⟨A, c, rfl, hm, hc⟩ := hk
  obtain ⟨Ao, co, rfl, hmo, -⟩ := ho
  by_cases hl : ks.length = g.objs.length
  · have dl : decide (ks.length = g.objs.length) = true := by simpa using hl
    have hll : (ks.length : Int) = g.objs.length := by omega
    have Hll := Lib.hid hl
    clear hr
    go_enter Try.func28, Try.ntmps28
    go_wp2
    go_loopw [15] (fun i wr => ∃ k : Nat, k ≤ ks.length ∧ i = .int .i64 k ∧ ((ks.take k).any badK) = false ∧ Below w.heap.size w wr) (fun i _ => ks.length - (intOf i).toNat)
    case atStart => exact ⟨0, Nat.zero_le _, rfl, by simp, (Below.refl _ _).alloc (Nat.le_refl _) _⟩
    case round =>
      obtain ⟨k, hk, rfl, hn, hB⟩ := hrel
      have Hn := Lib.hid hn
      clear hn
      by_cases hlt : k < ks.length
      · obtain ⟨b, off, rfl, hcell⟩ := hc k hlt
        have hc1 := later_below hB _ _ hcell
        clear hc hcell
        have Hs : Hid (((ks.take (k + 1)).any badK) = badK ks[k]) := by
          show _ = _
          rw [List.take_succ_eq_append_getElem hlt, List.any_append, Hn.out]; simp
        have Hm : Hid (ks[k] ∈ ks) := List.getElem_mem hlt
        generalize ks[k] = n at hc1 Hs Hm
        by_cases n0 : n = 0
        · subst n0
          go_wp2
          go_roundw
          case rel => exact ⟨k + 1, by omega, by go_num, by rw [Hs.out]; rfl, hB⟩
          case measure => simp [intOf]; omega
        · have d0 : decide (n = 0) = false := by simpa using n0
          by_cases n1 : n = 1
          · subst n1
            go_wp2
            go_roundw
            case rel => exact ⟨k + 1, by omega, by go_num, by rw [Hs.out]; rfl, hB⟩
            case measure => simp [intOf]; omega
          · have d1 : decide (n = 1) = false := by simpa using n1
            by_cases n2 : n = 2
            · subst n2
              go_wp2
              go_roundw
              case rel => exact ⟨k + 1, by omega, by go_num, by rw [Hs.out]; rfl, hB⟩
              case measure => simp [intOf]; omega
            · have b0 : (n != 0) = true := by simpa using n0
              have b1 : (n != 1) = true := by simpa using n1
              have b2 : (n != 2) = true := by simpa using n2
              go_wp2
              go_ret
              refine ⟨ret_int ?_, hB⟩
              have hbk : badK n = true := by rw [kc_step n n0 n1]; simpa using n2
              have : ks.any badK = true := List.any_eq_true.2 ⟨_, Hm.out, hbk⟩
              simp [kcheck, Hll.out, this]
      · go_wp2
        go_ret
        have hn := Hn.out
        rw [List.take_of_length_le (by omega)] at hn
        exact ⟨ret_int (by simp [kcheck, Hll.out, hn]), hB⟩
  · have dl : decide (ks.length = g.objs.length) = false := by simpa using hl
    have hll : ¬ (ks.length : Int) = g.objs.length := by omega
    go_enter Try.func28, Try.ntmps28
    go_wp2
    go_ret
    exact ⟨ret_int (by simp [kcheck, hl]), (Below.refl _ _).alloc (Nat.le_refl _) _⟩

set_option maxRecDepth 20000 in
set_option maxHeartbeats 1000000 in
/-- ref.Graphs -/
theorem graphs_any (w : World) (v1 v2 : Value) (g1 g2 : G) (h1 : RdG w v1 g1) (h2 : RdG w v2 g2) :
    Calls Try.prog 24 #[v1, v2] w fun e w' => e = .returned (.bool (decide (g1.objs = g2.objs ∧ g1.roots = g2.roots))) ∧ Below w.heap.size w w' := by
  obtain ⟨vo1, vr1, rfl, ho1, hr1⟩ := h1
  obtain ⟨vo2, vr2, rfl, ho2, hr2⟩ := h2
  have Hr1 := Lib.hid hr1
  have Hr2 := Lib.hid hr2
  obtain ⟨A1, c1, rfl, hm1, hc1⟩ := hr1
  obtain ⟨A2, c2, rfl, hm2, hc2⟩ := hr2
  obtain ⟨B1, d1, rfl, hn1, he1⟩ := ho1
  obtain ⟨B2, d2, rfl, hn2, he2⟩ := ho2
  clear hc1 hc2
  by_cases hl : g1.objs.length = g2.objs.length
  · have hll : (g1.objs.length : Int) = g2.objs.length := by omega
    generalize hrd : decide (g1.roots = g2.roots) = rd
    have Hrd := Lib.hid hrd
    have He1 := Lib.hid he1
    have He2 := Lib.hid he2
    have Hl := Lib.hid hl
    clear hrd he1 he2
    have hB0 : Below w.heap.size w ((w.alloc (.cells #[.slice B1 g2.objs.length d1, .slice A1 g1.roots.length c1] 27)).alloc (.cells #[.slice B2 g2.objs.length d2, .slice A2 g2.roots.length c2] 27)) := ((Below.refl _ _).alloc (Nat.le_refl _) _).alloc (by simp) _
    have HB0 := Lib.hid hB0
    clear hB0
    have HV := Lib.hid (values_any _ _ _ g1.roots g2.roots (Hr1.out.later (later_below HB0.out)) (Hr2.out.later (later_below HB0.out)))
    rw [Hrd.out] at HV
    rw [hl]
    clear hm1 hm2 hl
    cases rd
    · go_enter Try.func24, Try.ntmps24
      go_wp2_with (go_at_call 52; refine HV.out.mono ?_; rintro e w2 ⟨rfl, n2, rfl⟩)
      go_ret
      refine ⟨ret_bool ?_, below_drewN HB0.out _⟩
      have := Hrd.out
      simp only [decide_eq_false_iff_not] at this
      simp [this]
    · go_enter Try.func24, Try.ntmps24
      go_wp2_with (go_at_call 52; refine HV.out.mono ?_; rintro e w2 ⟨rfl, n2, rfl⟩)
      generalize hw1 : ((w.alloc (.cells #[.slice B1 g2.objs.length d1, .slice A1 g1.roots.length c1] 27)).alloc (.cells #[.slice B2 g2.objs.length d2, .slice A2 g2.roots.length c2] 27)) = w1 at HB0 ⊢
      have k0 : w1.heap[w.heap.size]? = some (.cells #[.slice B1 g2.objs.length d1, .slice A1 g1.roots.length c1] 27 (0, 0)) := by rw [← hw1]; repeat (first | exact at_new _ _ _ (by simp only [World.size_alloc]) | refine at_old _ _ _ _ (by simp only [World.size_alloc]; omega) ?_)
      have k1 : w1.heap[w.heap.size + 1]? = some (.cells #[.slice B2 g2.objs.length d2, .slice A2 g2.roots.length c2] 27 (0, 0)) := by rw [← hw1]; repeat (first | exact at_new _ _ _ (by simp only [World.size_alloc]) | refine at_old _ _ _ _ (by simp only [World.size_alloc]; omega) ?_)
      clear hw1 HV
      go_loopw [5] (fun i wr => ∃ k : Nat, k ≤ g2.objs.length ∧ i = .int .i64 k ∧ (g1.objs.take k = g2.objs.take k) ∧ ∃ n, wr = w1.drewN n) (fun i _ => g2.objs.length - (intOf i).toNat)
      case atStart => exact ⟨0, Nat.zero_le _, rfl, by simp, _, rfl⟩
      case round =>
        obtain ⟨k, hk, rfl, he, hw⟩ := hrel
        have hlw : Later w1 wr := by obtain ⟨nn, rfl⟩ := hw; exact later_drewN _ _
        have Hw := Lib.hid hw
        have z0 := hlw _ _ (cell_blk (j := 0) k0 rfl)
        have z1 := hlw _ _ (cell_blk (j := 0) k1 rfl)
        have Hlw := Lib.hid hlw
        clear hlw hw
        have He := Lib.hid he
        clear he
        by_cases hlt : k < g2.objs.length
        · obtain ⟨b1, o1, f1, rfl, hf1, hr1⟩ := He1.out k (by rw [Hl.out]; exact hlt)
          obtain ⟨b2, o2, f2, rfl, hf2, hr2⟩ := He2.out k hlt
          have y1 := Hlw.out _ _ (later_below HB0.out _ _ hf1)
          have y2 := Hlw.out _ _ (later_below HB0.out _ _ hf2)
          have Y1 := Lib.hid (hr1.later ((later_below HB0.out).trans Hlw.out))
          have Y2 := Lib.hid (hr2.later ((later_below HB0.out).trans Hlw.out))
          have Ht : Hid ((g1.objs.take (k + 1) = g2.objs.take (k + 1)) ↔ (g1.objs[k]'(by rw [Hl.out]; exact hlt) = g2.objs[k])) := by
            show _ ↔ _
            rw [List.take_succ_eq_append_getElem (l := g1.objs) (by rw [Hl.out]; exact hlt), List.take_succ_eq_append_getElem (l := g2.objs) hlt, He.out]
            exact ⟨fun h => by simpa using List.append_cancel_left h, fun h => by rw [h]⟩
          generalize g1.objs[k]'(by rw [Hl.out]; exact hlt) = p1 at Y1 Ht hr1
          generalize hp2 : g2.objs[k] = p2 at Y2 Ht hr2
          have HV := fun m => values_any (wr.drewN m) f1 f2 p1 p2 (Y1.out.later (later_drewN _ _)) (Y2.out.later (later_drewN _ _))
          generalize hq : decide (p1 = p2) = q at HV
          have Hq := Lib.hid hq
          have HV := Lib.hid HV
          clear hq hf1 hf2 hr1 hr2 hp2
          cases q
          · go_wp2
            go_quiet (first | (go_at_call 52; exact Calls.quiet_of (HV.out _)))
            go_wp2
            go_ret
            refine ⟨ret_bool ?_, by obtain ⟨nn, e⟩ := Hw.out; rw [e]; exact below_drewN (below_drewN HB0.out _) _⟩
            have h1 := Hq.out
            simp only [decide_eq_false_iff_not] at h1
            have : ¬ (g1.objs = g2.objs) := fun h => h1 (Ht.out.1 (by rw [h]))
            simp [this]
          · go_wp2
            go_quiet (first | (go_at_call 52; exact Calls.quiet_of (HV.out _)))
            go_wp2
            go_roundw
            case rel => exact ⟨k + 1, by omega, by go_num, Ht.out.2 (by simpa using Hq.out), by obtain ⟨nn, e⟩ := Hw.out; rw [e]; exact ⟨_, World.drewN_drewN ..⟩⟩
            case measure => simp [intOf]; omega
        · go_wp2
          go_ret
          refine ⟨ret_bool ?_, by obtain ⟨nn, e⟩ := Hw.out; rw [e]; exact below_drewN HB0.out _⟩
          have h1 := He.out
          rw [List.take_of_length_le (by rw [Hl.out]; omega), List.take_of_length_le (by omega)] at h1
          have h2 := Hrd.out
          simp only [decide_eq_true_eq] at h2
          simp [h1, h2]
  · have dl : decide (g1.objs.length = g2.objs.length) = false := by simpa using hl
    have hll : ¬ (g1.objs.length : Int) = g2.objs.length := by omega
    go_enter Try.func24, Try.ntmps24
    go_wp2
    go_ret
    refine ⟨ret_bool ?_, ((Below.refl _ _).alloc (Nat.le_refl _) _).alloc (by simp) _⟩
    have : ¬ (g1.objs = g2.objs ∧ g1.roots = g2.roots) := fun h => hl (by rw [h.1])
    simp [this]

end Go.Proofs.Yteghhajfkdbcdaa
