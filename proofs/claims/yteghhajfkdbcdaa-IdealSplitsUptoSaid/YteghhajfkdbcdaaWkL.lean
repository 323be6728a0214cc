/- weak: list, open, Kept. -/
import Derived.Test.YteghhajfkdbcdaaWkO
import Derived.Deep.RegionHeld3
namespace Go.Proofs.Yteghhajfkdbcdaa
open Go.RowKit
set_option linter.unusedVariables false
set_option linter.unusedSimpArgs false

/-- The kept ones below k, in order. -/
def lst (kept : List Bool) (k : Nat) : List Int := ((List.range k).filter (fun i => atB kept i)).map (fun i : Nat => (i : Int))
theorem lst_succ (kept : List Bool) (k : Nat) : lst kept (k + 1) = lst kept k ++ (if atB kept k then [(k : Int)] else []) := by
  unfold lst
  rw [List.range_succ, List.filter_append, List.map_append]
  cases h : atB kept k <;> simp [h]
theorem lst_len (kept : List Bool) (k : Nat) : (lst kept k).length ≤ k := by
  unfold lst
  rw [List.length_map]
  exact Nat.le_trans (List.length_filter_le _ _) (by simp)

set_option maxRecDepth 20000 in
set_option maxHeartbeats 1000000 in
/-- weak's keeper.list -/
theorem list_any (w0 w : World) (kb bb : Nat) (vo vr vk : Value) (kept : List Bool) (h : Kst w0 w kb bb vo vr vk kept) (hn : kept.length ≤ 1099511627776) :
    Calls Try.prog 54 #[.pointer (some ⟨kb, 0, none⟩)] w fun e w' => ∃ v', e = .returned v' ∧ OwnI w' w.heap.size v' (lst kept kept.length) ∧ Below w.heap.size w w' := by
  have h3 := cell_blk (j := 3) h.hk rfl
  have Hh := Lib.hid h
  clear h
  go_enter Try.func54, Try.ntmps54
  go_wp2
  go_loopw [3, 11] (fun l i wr => ∃ k : Nat, k ≤ kept.length ∧ i = .int .i64 k ∧ OwnI wr w.heap.size l (lst kept k) ∧ Below w.heap.size w wr) (fun _ i _ => kept.length - (intOf i).toNat)
  case atStart => exact ⟨0, Nat.zero_le _, rfl, OwnI.nil _ _, Below.refl _ _⟩
  case round =>
    obtain ⟨k, hk, rfl, ho, hB⟩ := hrel
    by_cases hlt : k < kept.length
    · have hc := later_below hB _ _ (Hh.out.cell k hlt)
      have hsn := lst_succ kept k
      have hll := lst_len kept k
      generalize atB kept k = bt at hc hsn
      have Hsn := Lib.hid hsn
      have Hll := Lib.hid hll
      clear hsn hll
      cases bt
      · go_wp2
        go_roundw
        case rel => exact ⟨k + 1, by omega, by go_num, by rw [Hsn.out]; simpa using ho, hB⟩
        case measure => simp [intOf]; omega
      · go_wp2_with (at_builtin; (refine app_i (w0 := w) w.heap.size rfl _ _ rfl _ (lst kept k) (k : Int) rfl _ rfl (by rfl) ?h1 ?h2 ?h3 ?h4 ?_))
        case h3 => exact hB.size
        case h4 => have := Hll.out; omega
        intro v1 w2 hown hB2 hg hat
        go_wp2
        go_roundw
        case rel => exact ⟨k + 1, by omega, by go_num, by rw [Hsn.out]; exact hown, hB2⟩
        case measure => simp [intOf]; omega
    · go_wp2
      go_ret
      have : k = kept.length := by omega
      subst this
      exact ⟨_, rfl, ho, hB⟩

theorem Try.info4 : (Try.prog.info? 4).map (fun i => (i.zero, i.size, i.bytes)) = some (some (.bool false), 1, 1) := by kernel_rfl
structure FixK (g : G) (ks : List Int) (kept : List Bool) : Prop where
  len : kept.length = g.objs.length
  roots : ∀ x ∈ tgts g.roots, atB kept x.toNat = true
  closed : Closed g ks (atB kept)
  least : ∀ L : Nat → Bool, Closed g ks L → (∀ x ∈ tgts g.roots, L x.toNat = true) → ∀ x, atB kept x = true → L x = true

def keptOf (w : World) (b : Nat) : List Bool := match w.heap[b]? with
  | some (.cells cs _ _) => cs.toList.map fun v => match v with | .bool c => c | _ => false
  | _ => []
theorem keptOf_st {w0 W : World} {kb bb : Nat} {vo vr vk : Value} {kept : List Bool} (h : Kst w0 W kb bb vo vr vk kept) : keptOf W bb = kept := by
  simp only [keptOf, h.hb, List.map_map]
  conv => rhs; rw [← List.map_id kept]
  exact List.map_congr_left fun a _ => rfl

theorem checkG_ok {g : G} (h : checkG g = 0) : g.objs.length ≤ 24 ∧ g.roots.length ≤ 8 ∧ (∀ o ∈ g.objs, o.length ≤ 4) ∧ Okv g g.roots ∧ ∀ o ∈ g.objs, Okv g o := by
  unfold checkG at h
  by_cases hL : largeG g = true
  · rw [if_pos hL] at h; cases h
  · rw [if_neg hL] at h
    by_cases h2 : ((allV g).any fun v => badV v.ref v.n g.objs.length == 2) = true
    · rw [if_pos h2] at h; cases h
    · rw [if_neg h2] at h
      by_cases h3 : ((allV g).any fun v => badV v.ref v.n g.objs.length == 3) = true
      · rw [if_pos h3] at h; cases h
      · have hall : ∀ v ∈ allV g, v.ref = true → 0 ≤ v.n ∧ v.n.toNat < g.objs.length := by
          intro v hv hr
          have a2 : ¬ badV v.ref v.n g.objs.length = 2 := fun e => h2 (List.any_eq_true.2 ⟨v, hv, by simp [e]⟩)
          have a3 : ¬ badV v.ref v.n g.objs.length = 3 := fun e => h3 (List.any_eq_true.2 ⟨v, hv, by simp [e]⟩)
          rw [hr] at a2 a3
          by_cases h0 : v.n < 0
          · exact (a2 (by simp [badV, h0])).elim
          · by_cases h1 : (g.objs.length : Int) ≤ v.n
            · exact (a2 (by simp [badV, h1])).elim
            · omega
        simp only [largeG, Bool.or_eq_true, decide_eq_true_eq, List.any_eq_true, not_or, not_exists, not_and] at hL
        exact ⟨by omega, by omega, fun o ho => by have := hL.2 o ho; omega, fun v hv => hall v (List.mem_append_left _ hv), fun o ho v hv => hall v (List.mem_append_right _ (List.mem_flatten.2 ⟨o, ho, hv⟩))⟩
/-- What holds of the kept ones all along. -/
structure FixPre (g : G) (ks : List Int) (kept : List Bool) : Prop where
  len : kept.length = g.objs.length
  roots : ∀ x ∈ tgts g.roots, atB kept x.toNat = true
  least : ∀ L : Nat → Bool, Closed g ks L → (∀ x ∈ tgts g.roots, L x.toNat = true) → ∀ x, atB kept x = true → L x = true
theorem atB_replicate (n x : Nat) : atB (List.replicate n false) x = false := by
  simp only [atB, List.getD_eq_getElem?_getD, List.getElem?_replicate]
  split <;> rfl
theorem FixPre.first {g : G} {ks : List Int} {kept : List Bool} {b : Bool} (h : Step g ks (List.replicate g.objs.length false) (tgts g.roots) kept b) : FixPre g ks kept :=
  ⟨by rw [h.len]; simp, h.all, fun L hL hr x hx => h.least L hL (fun y hy => by rw [atB_replicate] at hy; cases hy) hr x hx⟩
theorem FixPre.next {g : G} {ks : List Int} {kept kept' : List Bool} {b : Bool} {i : Nat} (h : FixPre g ks kept) (hi : i < g.objs.length) (hk : atB kept i = true) (hs : Step g ks kept (tgts (str g ks (atB kept) i)) kept' b) : FixPre g ks kept' :=
  ⟨by rw [hs.len, h.len], fun x hx => hs.mono _ (h.roots x hx), fun L hL hr x hx => hs.least L hL (fun y hy => h.least L hL hr y hy) (fun y hy => hL i hi (h.least L hL hr i hk) y (tgts_str_mono (fun z hz => h.least L hL hr z hz) i hy)) x hx⟩
def boolN (v : Value) : Nat := match v with | .bool true => 1 | _ => 0
def openErr (g : G) (ks : List Int) : Int := if checkG g ≠ 0 then checkG g else if ks.length ≠ g.objs.length then 2 else if ks.any badK then 5 else 0

def OpenPost (w : World) (v kv : Value) (g : G) (ks : List Int) (e : Ending) (w' : World) : Prop :=
  Below w.heap.size w w' ∧ ((openErr g ks ≠ 0 ∧ e = .returned (.tuple #[.pointer none, .int .i64 (openErr g ks)])) ∨
      (openErr g ks = 0 ∧ ∃ kb bb vo vr kept, e = .returned (.tuple #[.pointer (some ⟨kb, 0, none⟩), .int .i64 0]) ∧ v = .agg #[vo, vr] ∧ Kst w w' kb bb vo vr kv kept ∧ FixK g ks kept))

set_option maxRecDepth 100000 in
set_option maxHeartbeats 4000000 in
/-- weak's open -/
theorem open_any (w : World) (v kv : Value) (g : G) (ks : List Int) (h : RdG w v g) (hk : RdI w kv ks) :
    Calls Try.prog 53 #[v, kv] w (OpenPost w v kv g ks) := by
  obtain ⟨vo, vr, rfl, ho, hr⟩ := h
  generalize hce : checkG g = ce
  have Hce := Lib.hid hce
  clear hce
  obtain ⟨A, c, rfl, hm, -⟩ := id hr
  obtain ⟨Ao, co, rfl, hmo, -⟩ := id ho
  obtain ⟨Ak, ck, rfl, hmk, -⟩ := id hk
  have Hg : Hid (RdG w (.agg #[.slice Ao g.objs.length co, .slice A g.roots.length c]) g) := ⟨_, _, rfl, ho, hr⟩
  have Hk := Lib.hid hk
  have Ho := Lib.hid ho
  have Hr := Lib.hid hr
  clear ho hr hk
  by_cases hc0 : ce = 0
  · subst hc0
    by_cases hl : ks.length = g.objs.length
    · have hll : (ks.length : Int) = g.objs.length := by omega
      have Hl := Lib.hid hl
      clear hl
      generalize hab : ks.any badK = ab
      have Hab := Lib.hid hab
      clear hab
      cases ab
      · have Hoe : Hid (openErr g ks = 0) := by show _ = _; simp [openErr, Hce.out, Hl.out, Hab.out]
        obtain ⟨h24, h8, h4, hokr, hoko⟩ := checkG_ok Hce.out
        have hmk : ∀ w, (Instr.makeSlice 135 (.int .i64 (g.objs.length : Int)) (.int .i64 (g.objs.length : Int))).run Try.prog w = .ok (.slice (some ⟨w.heap.size, 0, none⟩) g.objs.length g.objs.length) (w.alloc (.cells ((List.replicate g.objs.length false).map Value.bool).toArray 4)) := by
          intro w
          obtain ⟨i0, hi, hz0, hz1, hz2⟩ := info_parts Try.info4
          have := run_make (P := Try.prog) w 135 4 i0 _ Try.underlying135 hi hz0 .i64 .i64 (g.objs.length : Int) (g.objs.length : Int) (by omega) (by omega) (by rw [hz2]; omega) (by omega)
          rw [this, hz1]
          simp only [Int.toNat_natCast]
          congr 3
          apply Array.ext
          · simp [madeCells]
          · intro i h1 h2
            simp [madeCells, Value.cells, Nat.mod_one]
        go_enter Try.func53, Try.ntmps53
        go_wp2_with (first | (go_at_call 59; refine (check_any _ _ g (Hg.out.later (later_below ((Below.refl _ _).alloc (Nat.le_refl _) _)))).mono ?_; rintro e w2 ⟨rfl, hb2⟩; rw [Hce.out]; have x0 := later_below hb2 ⟨w.heap.size, 0, none⟩ _ (cell_blk (j := 0) (heap_alloc_new w _) rfl); have x1 := later_below hb2 ⟨w.heap.size, 1, none⟩ _ (cell_blk (j := 1) (heap_alloc_new w _) rfl)) | (go_at_call 91; refine (contk_any _ _ ks (Hk.out.later ((later_below ((Below.refl _ _).alloc (Nat.le_refl _) _)).trans (later_below hb2)))).mono ?_; rintro e w3 ⟨rfl, rfl⟩; rw [Hab.out]))
        have hbw : w.heap.size < w3.heap.size := World.block_lt_of_cell? _ _ x0
        have y0 : w3.cell? ⟨w.heap.size, 0, none⟩ = some (.slice Ao g.objs.length co) := x0
        have y1 : w3.cell? ⟨w.heap.size, 1, none⟩ = some (.slice A g.roots.length c) := x1
        clear x0 x1
        go_region_held3 (fun W => W.cell? ⟨w.heap.size, 0, none⟩ = some (.slice Ao g.objs.length co) ∧ W.cell? ⟨w.heap.size, 1, none⟩ = some (.slice A g.roots.length c)) (go_keep) (fail)
        generalize hW : ((w3.alloc (.cells (Array.replicate g.objs.length (.bool false)) 4)).alloc (.cells #[.slice Ao g.objs.length co, .slice A g.roots.length c, .slice Ak ks.length ck, .slice (some ⟨w3.heap.size, 0, none⟩) g.objs.length g.objs.length] 174)).drew = W0
        have hB3 : Below w.heap.size w w3 := ((Below.refl _ _).alloc (Nat.le_refl _) _).trans (hb2.mono (by simp))
        have hB33 : Below w3.heap.size w3 W0 := by rw [← hW]; exact (((Below.refl w3.heap.size w3).alloc (Nat.le_refl _) _).alloc (by simp) _).drew
        have ab : W0.heap[w3.heap.size]? = some (.cells (Array.replicate g.objs.length (.bool false)) 4 (0, 0)) := by
          rw [← hW]; show (World.alloc _ _).heap[_]? = _
          repeat (first | exact at_new _ _ _ (by simp only [World.size_alloc]) | refine at_old _ _ _ _ (by simp only [World.size_alloc]; omega) ?_)
        have ak : W0.heap[w3.heap.size + 1]? = some (.cells #[.slice Ao g.objs.length co, .slice A g.roots.length c, .slice Ak ks.length ck, .slice (some ⟨w3.heap.size, 0, none⟩) g.objs.length g.objs.length] 174 (0, 0)) := by
          rw [← hW]; show (World.alloc _ _).heap[_]? = _
          repeat (first | exact at_new _ _ _ (by simp only [World.size_alloc]) | refine at_old _ _ _ _ (by simp only [World.size_alloc]; omega) ?_)
        have hs3 := hB3.size
        have HK0 : Hid (Kst w W0 (w3.heap.size + 1) w3.heap.size (.slice Ao g.objs.length co) (.slice A g.roots.length c) (.slice Ak ks.length ck) (List.replicate g.objs.length false)) :=
          ⟨by rw [List.length_replicate]; exact ak, by rw [ab]; simp, by omega, hs3, by omega, hB3.trans (hB33.mono hs3)⟩
        have z1 := later_below hB33 _ _ y1
        have hkbs := lt_blk ak
        have z0 := later_below hB33 _ _ y0
        have Hoko := Lib.hid hoko
        have hbox : w.heap.size < w3.heap.size := hbw
        clear hW y0 y1 ab ak hmk hB33 hb2 hoko
        go_wp2_with (go_at_call 93; refine (keep_any w (w3.heap.size + 1) w3.heap.size _ _ _ g ks Ho.out Hk.out Hl.out Hoko.out (by omega) _ (List.replicate g.objs.length false) _ _ g.roots (Nat.le_refl _) (by simp) HK0.out Hr.out hokr).mono ?_; rintro e wk ⟨kept1, b1, rfl, hP⟩)
        have v0 := hP.grown.cell z0 (by intro he; injection he with he; simp at he; omega)
        have HF1 := Lib.hid (FixPre.first hP.step)
        have HK1 := Lib.hid hP.st
        clear hP z0 z1
        go_loopw [8] (fun m wr => ∃ (kept : List Bool) (b : Bool), m = .bool b ∧ Kst w wr (w3.heap.size + 1) w3.heap.size (.slice Ao g.objs.length co) (.slice A g.roots.length c) (.slice Ak ks.length ck) kept ∧ FixPre g ks kept ∧ wr.cell? ⟨w.heap.size, 0, none⟩ = some (.slice Ao g.objs.length co) ∧ (b = false → Closed g ks (atB kept)))
          (fun m wr => 2 * unkept (keptOf wr w3.heap.size) + boolN m)
        case atStart => exact ⟨kept1, true, rfl, HK1.out, HF1.out, v0, fun h => by cases h⟩
        case round =>
          obtain ⟨kept, b, rfl, hK, hF, v1, hcl⟩ := hrel
          have Hcl := Lib.hid hcl
          have HK := Lib.hid hK
          have HF := Lib.hid hF
          clear hcl hK hF v0 HK1 HF1
          cases b
          · go_wp2
            go_ret2
            exact ⟨HK.out.below, .inr ⟨Hoe.out, w3.heap.size + 1, w3.heap.size, _, _, kept, rfl, rfl, HK.out, HF.out.len, HF.out.roots, Hcl.out (by first | rfl | trivial), HF.out.least⟩⟩
          · obtain ⟨wo, rfl⟩ : ∃ wo : World, wo = wr := ⟨_, rfl⟩
            go_wp2_with fail
            go_loopw [8, 39] (fun m i wr => ∃ (k : Nat) (kept2 : List Bool) (b : Bool), k ≤ g.objs.length ∧ i = .int .i64 k ∧ m = .bool b ∧ Kst w wr (w3.heap.size + 1) w3.heap.size (.slice Ao g.objs.length co) (.slice A g.roots.length c) (.slice Ak ks.length ck) kept2 ∧ FixPre g ks kept2 ∧ wr.cell? ⟨w.heap.size, 0, none⟩ = some (.slice Ao g.objs.length co) ∧
               unkept kept2 ≤ unkept kept ∧ (b = true → unkept kept2 < unkept kept) ∧ (b = false → kept2 = kept ∧ ∀ j, j < k → atB kept j = true → ∀ x ∈ tgts (str g ks (atB kept) j), atB kept x.toNat = true))
              (fun m i _ => g.objs.length - (intOf i).toNat)
            case atStart => exact ⟨0, kept, false, Nat.zero_le _, rfl, rfl, HK.out, HF.out, v1, Nat.le_refl _, (fun h => by cases h), fun _ => ⟨rfl, fun j hj => by omega⟩⟩
            case round =>
              obtain ⟨k, kept2, b, hk, rfl, rfl, hK2, hF2, v2, hle, hbt, hbf⟩ := hrel
              have HK2 := Lib.hid hK2
              have HF2 := Lib.hid hF2
              have Hle := Lib.hid hle
              have Hbt := Lib.hid hbt
              have Hbf := Lib.hid hbf
              have hn2 : kept2.length = g.objs.length := hF2.len
              have c3 : wr.cell? ⟨w3.heap.size + 1, 3, none⟩ = some (.slice (some ⟨w3.heap.size, 0, none⟩) g.objs.length g.objs.length) := by have := cell_blk (j := 3) hK2.hk rfl; rw [hn2] at this; exact this
              clear hK2 hF2 hle hbt hbf v1
              by_cases hlt : k < g.objs.length
              · have cb := HK2.out.cell k (by omega)
                have hlt' : (k : Int) < (g.objs.length : Int) := by omega
                generalize hat : atB kept2 k = bt at cb
                have Hat := Lib.hid hat
                clear hat
                cases bt
                · go_wp2
                  go_roundw
                  case rel => exact ⟨k + 1, kept2, b, by omega, by go_num, rfl, HK2.out, HF2.out, v2, Hle.out, Hbt.out, fun hb => ⟨(Hbf.out hb).1, fun j hj hkj => by
                    by_cases hjk : j = k
                    · subst hjk
                      have h1 := Hat.out
                      rw [(Hbf.out hb).1, hkj] at h1
                      cases h1
                    · exact (Hbf.out hb).2 j (by omega) hkj⟩⟩
                  case measure => simp [intOf]; omega
                · have HS := Lib.hid (fun W (hK : Kst w W (w3.heap.size + 1) w3.heap.size (.slice Ao g.objs.length co) (.slice A g.roots.length c) (.slice Ak ks.length ck) kept2) => strong_any w W (w3.heap.size + 1) w3.heap.size _ _ _ kept2 hK (by omega) g ks Ho.out Hk.out hn2 Hl.out k hlt Hoko.out)
                  go_wp2_with (first | (go_at_call 94; refine (HS.out _ HK2.out).mono ?_; rintro e w4 ⟨v4, rfl, hv4, hb4⟩) | (go_at_call 93; refine (keep_any w (w3.heap.size + 1) w3.heap.size _ _ _ g ks Ho.out Hk.out Hl.out Hoko.out (by omega) _ kept2 _ _ _ (Nat.le_refl _) hn2 (HK2.out.after hb4) hv4 (okv_str Hoko.out ks _ k)).mono ?_; rintro e w5 ⟨kept3, b3, rfl, hP⟩; cases b3))
                  · have hs := hP.step
                    have hno := hs.no rfl
                    have v3 := hP.grown.cell (later_below hb4 _ _ v2) (by intro he; injection he with he; simp at he; omega)
                    refine ⟨⟨k + 1, kept3, b, by omega, by go_num, rfl, hP.st, HF2.out.next hlt Hat.out hs, v3, by rw [hno]; exact Hle.out, by rw [hno]; exact Hbt.out, fun hb => ⟨by rw [hno]; exact (Hbf.out hb).1, fun j hj hkj x hx => ?_⟩⟩, by simp [intOf]; omega⟩
                    by_cases hjk : j = k
                    · subst hjk
                      have h1 := hs.all x (by rw [(Hbf.out hb).1]; exact hx)
                      rw [hno, (Hbf.out hb).1] at h1
                      exact h1
                    · exact (Hbf.out hb).2 j (by omega) hkj x hx
                  · have hs := hP.step
                    have hyes := hs.yes rfl
                    have v3 := hP.grown.cell (later_below hb4 _ _ v2) (by intro he; injection he with he; simp at he; omega)
                    have hl := Hle.out
                    exact ⟨⟨k + 1, kept3, true, by omega, by go_num, rfl, hP.st, HF2.out.next hlt Hat.out hs, v3, by omega, fun _ => by omega, fun hb => by cases hb⟩, by simp [intOf]; omega⟩
              · go_wp2
                have hko : keptOf wo w3.heap.size = kept := keptOf_st HK.out
                have hkr : keptOf wr w3.heap.size = kept2 := keptOf_st HK2.out
                go_roundw
                case rel => exact ⟨kept2, b, rfl, HK2.out, HF2.out, v2, fun hb => by
                  obtain ⟨e, h⟩ := Hbf.out hb
                  subst e
                  exact fun i hi hki x hx => h i (by omega) hki x hx⟩
                case measure =>
                  rw [hko, hkr]
                  have hl := Hle.out
                  cases b
                  · simp [boolN]; omega
                  · have := Hbt.out rfl; simp [boolN]; omega
      · have he : openErr g ks = 5 := by simp [openErr, Hce.out, Hl.out, Hab.out]
        go_enter Try.func53, Try.ntmps53
        go_wp2_with (first | (go_at_call 59; refine (check_any _ _ g (Hg.out.later (later_below ((Below.refl _ _).alloc (Nat.le_refl _) _)))).mono ?_; rintro e w2 ⟨rfl, hb2⟩; rw [Hce.out]; have x0 := later_below hb2 ⟨w.heap.size, 0, none⟩ _ (cell_blk (j := 0) (heap_alloc_new w _) rfl); have x1 := later_below hb2 ⟨w.heap.size, 1, none⟩ _ (cell_blk (j := 1) (heap_alloc_new w _) rfl)) | (go_at_call 91; refine (contk_any _ _ ks (Hk.out.later ((later_below ((Below.refl _ _).alloc (Nat.le_refl _) _)).trans (later_below hb2)))).mono ?_; rintro e w3 ⟨rfl, rfl⟩; rw [Hab.out]))
        go_ret2
        refine ⟨?_, .inl ⟨by rw [he]; decide, by rw [he]; rfl⟩⟩
        exact ((Below.refl _ _).alloc (Nat.le_refl _) _).trans (hb2.mono (by simp))
    · have dl : decide (ks.length = g.objs.length) = false := by simpa using hl
      have hll : ¬ (ks.length : Int) = g.objs.length := by omega
      have he : openErr g ks = 2 := by simp [openErr, Hce.out, hl]
      go_enter Try.func53, Try.ntmps53
      go_wp2_with (go_at_call 59; refine (check_any _ _ g (Hg.out.later (later_below ((Below.refl _ _).alloc (Nat.le_refl _) _)))).mono ?_; rintro e w2 ⟨rfl, hb2⟩; rw [Hce.out]; have x0 := later_below hb2 ⟨w.heap.size, 0, none⟩ _ (cell_blk (j := 0) (heap_alloc_new w _) rfl))
      go_ret2
      refine ⟨?_, .inl ⟨by rw [he]; decide, by rw [he]; rfl⟩⟩
      exact ((Below.refl _ _).alloc (Nat.le_refl _) _).trans (hb2.mono (by simp))
  · have dc : decide (ce = 0) = false := by simpa using hc0
    have bc : (ce != 0) = true := by simpa using hc0
    have he : openErr g ks = ce := by simp [openErr, Hce.out, hc0]
    go_enter Try.func53, Try.ntmps53
    go_wp2_with (go_at_call 59; refine (check_any _ _ g (Hg.out.later (later_below ((Below.refl _ _).alloc (Nat.le_refl _) _)))).mono ?_; rintro e w2 ⟨rfl, hb2⟩; rw [Hce.out])
    go_ret2
    refine ⟨?_, .inl ⟨by rw [he]; exact hc0, by rw [he]; rfl⟩⟩
    exact ((Below.refl _ _).alloc (Nat.le_refl _) _).trans (hb2.mono (by simp))

theorem open_ok (w : World) (v kv : Value) (g : G) (ks : List Int) (h : RdG w v g) (hk : RdI w kv ks) (h0 : openErr g ks = 0) :
    Calls Try.prog 53 #[v, kv] w fun e w' => Below w.heap.size w w' ∧ ∃ kb bb vo vr kept, e = .returned (.tuple #[.pointer (some ⟨kb, 0, none⟩), .int .i64 0]) ∧ v = .agg #[vo, vr] ∧ Kst w w' kb bb vo vr kv kept ∧ FixK g ks kept :=
  (open_any w v kv g ks h hk).mono fun e w' h => ⟨h.1, by
    rcases h.2 with ⟨hne, _⟩ | ⟨_, h⟩
    · exact absurd h0 hne
    · exact h⟩
theorem open_err (w : World) (v kv : Value) (g : G) (ks : List Int) (h : RdG w v g) (hk : RdI w kv ks) (h0 : openErr g ks ≠ 0) :
    Calls Try.prog 53 #[v, kv] w fun e w' => Below w.heap.size w w' ∧ e = .returned (.tuple #[.pointer none, .int .i64 (openErr g ks)]) :=
  (open_any w v kv g ks h hk).mono fun e w' h => ⟨h.1, by
    rcases h.2 with ⟨_, h⟩ | ⟨he, _⟩
    · exact h
    · exact absurd he h0⟩
theorem openErr_small {g : G} {ks : List Int} (h : openErr g ks = 0) : checkG g = 0 := by
  unfold openErr at h
  by_cases hc : checkG g = 0
  · exact hc
  · rw [if_pos hc] at h; exact (hc h).elim
def KeptPost (w : World) (g : G) (ks : List Int) (e : Ending) (w' : World) : Prop :=
  Below w.heap.size w w' ∧ ((openErr g ks ≠ 0 ∧ e = .returned (.tuple #[.slice none 0 0, .int .i64 (openErr g ks)])) ∨
      (openErr g ks = 0 ∧ ∃ v kept, e = .returned (.tuple #[v, .int .i64 0]) ∧ FixK g ks kept ∧ RdI w' v (lst kept kept.length)))

set_option maxRecDepth 20000 in
set_option maxHeartbeats 1000000 in
/-- weak's Kept -/
theorem kept_any (w : World) (v kv : Value) (g : G) (ks : List Int) (h : RdG w v g) (hk : RdI w kv ks) :
    Calls Try.prog 25 #[v, kv] w (KeptPost w g ks) := by
  obtain ⟨vo, vr, rfl, ho, hr⟩ := h
  obtain ⟨A, c, rfl, hm, -⟩ := id hr
  obtain ⟨Ao, co, rfl, hmo, -⟩ := id ho
  obtain ⟨Ak, ck, rfl, hmk, -⟩ := id hk
  have Hg : Hid (RdG w (.agg #[.slice Ao g.objs.length co, .slice A g.roots.length c]) g) := ⟨_, _, rfl, ho, hr⟩
  have Hk := Lib.hid hk
  clear ho hr hk
  have hB0 : Below w.heap.size w (w.alloc (.cells #[.slice Ao g.objs.length co, .slice A g.roots.length c] 27)) := (Below.refl _ _).alloc (Nat.le_refl _) _
  have HRg := Lib.hid (Hg.out.later (later_below hB0))
  have HRk := Lib.hid (Hk.out.later (later_below hB0))
  have HB0 := Lib.hid hB0
  clear hB0
  by_cases h0 : openErr g ks = 0
  · have HO := Lib.hid (open_ok _ _ _ g ks HRg.out HRk.out h0)
    have hcs := (checkG_ok (openErr_small h0)).1
    have Hoe := Lib.hid h0
    clear h0
    go_enter Try.func25, Try.ntmps25
    go_wp2_with (first | (go_at_call 53; refine HO.out.mono ?_; rintro e w2 ⟨hB2, kb, bb, vo', vr', kept, rfl, hv', hK, hF⟩; have HK := Lib.hid hK; have HF := Lib.hid hF; clear hK hF hv') | (go_at_call 54; refine (list_any _ _ kb bb _ _ _ kept HK.out (by have := HF.out.len; omega)).mono ?_; rintro e w3 ⟨v3, rfl, hv3, hB3⟩))
    go_ret2
    exact ⟨HB0.out.trans ((hB2.mono HB0.out.size).trans (hB3.mono (Nat.le_trans HB0.out.size hB2.size))), .inr ⟨Hoe.out, v3, kept, rfl, HF.out, hv3.rd⟩⟩
  · have HO := Lib.hid (open_err _ _ _ g ks HRg.out HRk.out h0)
    have Hoe := Lib.hid h0
    generalize hoe : openErr g ks = oe at HO
    have d0 : decide (oe = 0) = false := by rw [← hoe]; simpa using h0
    have b0 : (oe != 0) = true := by rw [← hoe]; simpa using h0
    have Hq := Lib.hid hoe
    clear hoe h0
    go_enter Try.func25, Try.ntmps25
    go_wp2_with (go_at_call 53; refine HO.out.mono ?_; rintro e w2 ⟨hB2, rfl⟩)
    go_ret2
    refine ⟨HB0.out.trans (hB2.mono HB0.out.size), .inl ⟨Hoe.out, by rw [Hq.out]; rfl⟩⟩

end Go.Proofs.Yteghhajfkdbcdaa
