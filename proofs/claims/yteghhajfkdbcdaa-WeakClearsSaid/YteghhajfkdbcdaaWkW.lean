/- The walk of WeakClears. -/
import Derived.Test.YteghhajfkdbcdaaWkQ
namespace Go.Proofs.Yteghhajfkdbcdaa
open Go.RowKit
set_option linter.unusedVariables false
set_option linter.unusedSimpArgs false

theorem kept_ok (w : World) (v kv : Value) (g : G) (ks : List Int) (h : RdG w v g) (hk : RdI w kv ks) (h0 : openErr g ks = 0) :
    Calls Try.prog 25 #[v, kv] w fun e w' => Below w.heap.size w w' ∧ ∃ v kept, e = .returned (.tuple #[v, .int .i64 0]) ∧ FixK g ks kept ∧ RdI w' v (lst kept kept.length) :=
  (kept_any w v kv g ks h hk).mono fun e w' h => ⟨h.1, by
    rcases h.2 with ⟨hne, _⟩ | ⟨_, h⟩
    · exact absurd h0 hne
    · exact h⟩
theorem kept_err (w : World) (v kv : Value) (g : G) (ks : List Int) (h : RdG w v g) (hk : RdI w kv ks) (h0 : openErr g ks ≠ 0) :
    Calls Try.prog 25 #[v, kv] w fun e w' => Below w.heap.size w w' ∧ e = .returned (.tuple #[.slice none 0 0, .int .i64 (openErr g ks)]) :=
  (kept_any w v kv g ks h hk).mono fun e w' h => ⟨h.1, by
    rcases h.2 with ⟨_, h⟩ | ⟨he, _⟩
    · exact h
    · exact absurd he h0⟩
theorem clear_ok (w : World) (v kv : Value) (g : G) (ks : List Int) (h : RdG w v g) (hk : RdI w kv ks) (h0 : openErr g ks = 0) :
    Calls Try.prog 26 #[v, kv] w fun e w' => Below w.heap.size w w' ∧ ∃ v kept, e = .returned (.tuple #[v, .int .i64 0]) ∧ FixK g ks kept ∧ RdG w' v (clearG g ks kept) :=
  (clear_any w v kv g ks h hk).mono fun e w' h => ⟨h.1, by
    rcases h.2 with ⟨hne, _⟩ | ⟨_, h⟩
    · exact absurd h0 hne
    · exact h⟩
theorem clear_err (w : World) (v kv : Value) (g : G) (ks : List Int) (h : RdG w v g) (hk : RdI w kv ks) (h0 : openErr g ks ≠ 0) :
    Calls Try.prog 26 #[v, kv] w fun e w' => Below w.heap.size w w' ∧ e = .returned (.tuple #[.agg #[.slice none 0 0, .slice none 0 0], .int .i64 (openErr g ks)]) :=
  (clear_any w v kv g ks h hk).mono fun e w' h => ⟨h.1, by
    rcases h.2 with ⟨_, h⟩ | ⟨he, _⟩
    · exact h
    · exact absurd he h0⟩

set_option maxRecDepth 100000 in
set_option maxHeartbeats 4000000 in
theorem weak_err (w : World) (v kv : Value) (g : G) (ks : List Int) (h : RdG w v g) (hk : RdI w kv ks) (h0 : openErr g ks ≠ 0) :
    Calls Try.prog 5 #[v, kv] w fun e w' => e = .returned (.bool true) ∧ Below w.heap.size w w' := by
  obtain ⟨vo, vr, rfl, ho, hr⟩ := h
  obtain ⟨A, c, rfl, hm, -⟩ := id hr
  obtain ⟨Ao, co, rfl, hmo, -⟩ := id ho
  obtain ⟨Ak, ck, rfl, hmk, -⟩ := id hk
  have hg : RdG w (.agg #[.slice Ao g.objs.length co, .slice A g.roots.length c]) g := ⟨_, _, rfl, ho, hr⟩
  generalize hv : (Value.agg #[.slice Ao g.objs.length co, .slice A g.roots.length c]) = vg at hg
  have hB0 : Below w.heap.size w (w.alloc (.cells #[.slice Ao g.objs.length co, .slice A g.roots.length c] 27)) := (Below.refl _ _).alloc (Nat.le_refl _) _
  have hx0 : (w.alloc (.cells #[.slice Ao g.objs.length co, .slice A g.roots.length c] 27)).heap[w.heap.size]? = some (.cells #[.slice Ao g.objs.length co, .slice A g.roots.length c] 27 (0, 0)) := heap_alloc_new _ _
  subst hv
  have HB0 := Lib.hid hB0
  have Hx0 := Lib.hid hx0
  have Hg := Lib.hid hg
  have Hk := Lib.hid hk
  have HKE := Lib.hid (kept_err _ _ _ g ks (Hg.out.later (later_below HB0.out)) (Hk.out.later (later_below HB0.out)) h0)
  have HCE := Lib.hid (fun W (hW : Below w.heap.size w W) => clear_err W _ _ g ks (Hg.out.later (later_below hW)) (Hk.out.later (later_below hW)) h0)
  have HGE := Lib.hid (fun W (hW : Below w.heap.size w W) => good_any W _ g (Hg.out.later (later_below hW)))
  have HKC := Lib.hid (fun W (hW : Below w.heap.size w W) => kcheck_any W _ _ g ks (Hg.out.later (later_below hW)) (Hk.out.later (later_below hW)))
  have Hz := Lib.hid (fun (h1 : checkG g = 0) (h2 : kcheck g.objs.length ks = 0) => h0 (openErr_zero.2 ⟨h1, kcheck_zero.1 h2⟩))
  generalize openErr g ks = oe at HKE HCE h0
  have d0 : decide (oe = 0) = false := by simpa using h0
  have b0 : (oe != 0) = true := by simpa using h0
  generalize hcg : (checkG g == 0) = cg at HGE
  have Hcg := Lib.hid hcg
  have hkc : checkG g = 0 → (kcheck g.objs.length ks != 0) = true := fun h1 => by
    have := Hz.out h1
    simpa using this
  generalize kcheck g.objs.length ks = kc at HKC hkc
  clear hB0 hx0 hg hk ho hr h0
  cases cg
  · clear hcg hkc
    go_enter Try.func5, Try.ntmps5
    go_wp2_with (first | (go_at_call 25; refine HKE.out.mono ?_; rintro e w2 ⟨hB2, rfl⟩; have hb2 := HB0.out.trans (hB2.mono HB0.out.size); have x2 := blk_below hB2 Hx0.out; have y0 := cell_blk (j := 0) x2 rfl; have y1 := cell_blk (j := 1) x2 rfl) | (go_at_call 26; refine (HCE.out _ hb2).mono ?_; rintro e w3 ⟨hB3, rfl⟩; have hb3 := hb2.trans (hB3.mono hb2.size); have x3 := blk_below hB3 x2; have z0 := cell_blk (j := 0) x3 rfl; have z1 := cell_blk (j := 1) x3 rfl; have hlt3 := lt_blk x3; have hb4 := fun o => hb3.alloc hb3.size o) | (go_at_call 27; refine (HGE.out _ (hb4 _)).mono ?_; rintro e w4 ⟨rfl, hB4⟩))
    go_ret
    exact ⟨rfl, (hb4 _).trans (hB4.mono (hb4 _).size)⟩
  · have h2 := hkc (by simpa using hcg)
    have d2 : decide (kc = 0) = false := by simpa using h2
    clear hcg hkc
    go_enter Try.func5, Try.ntmps5
    go_wp2_with (first | (go_at_call 25; refine HKE.out.mono ?_; rintro e w2 ⟨hB2, rfl⟩; have hb2 := HB0.out.trans (hB2.mono HB0.out.size); have x2 := blk_below hB2 Hx0.out; have y0 := cell_blk (j := 0) x2 rfl; have y1 := cell_blk (j := 1) x2 rfl) | (go_at_call 26; refine (HCE.out _ hb2).mono ?_; rintro e w3 ⟨hB3, rfl⟩; have hb3 := hb2.trans (hB3.mono hb2.size); have x3 := blk_below hB3 x2; have z0 := cell_blk (j := 0) x3 rfl; have z1 := cell_blk (j := 1) x3 rfl; have hlt3 := lt_blk x3; have hb4 := fun o => hb3.alloc hb3.size o) | (go_at_call 27; refine (HGE.out _ (hb4 _)).mono ?_; rintro e w4 ⟨rfl, hB4⟩; have hb5 := (hb4 _).trans (hB4.mono (hb4 _).size); have x5 := blk_below hB4 (at_old _ _ _ _ hlt3 x3); have t0 := cell_blk (j := 0) x5 rfl; have t1 := cell_blk (j := 1) x5 rfl) | (go_at_call 28; refine (HKC.out _ hb5).mono ?_; rintro e w6 ⟨rfl, hB6⟩))
    go_ret
    exact ⟨rfl, hb5.trans (hB6.mono hb5.size)⟩

theorem rdg_eq {w : World} {v : Value} {g g' : G} (h : RdG w v g) (h1 : g.objs = g'.objs) (h2 : g.roots = g'.roots) : RdG w v g' := by
  obtain ⟨vo, vr, e, h3, h4⟩ := h
  exact ⟨vo, vr, e, h1 ▸ h3, h2 ▸ h4⟩
theorem clear_len (ks : List Int) (kept : List Bool) (g : G) : (clearG g ks kept).objs.length = (lst kept kept.length).length := by rw [clearG_objs, List.length_map]
theorem clear_rlen (ks : List Int) (kept : List Bool) (g : G) : (clearG g ks kept).roots.length = g.roots.length := by rw [clearG_roots]; simp [turnV]
theorem within_lst {g : G} {ks : List Int} {kept : List Bool} (hF : FixK g ks kept) : ((lst kept kept.length).all fun x => decide (0 ≤ x) && decide (x < (g.objs.length : Int))) = true := by
  rw [List.all_eq_true]
  intro x hx
  have := lst_mem hx
  rw [hF.len] at this
  simp [this]
set_option maxRecDepth 100000 in
set_option maxHeartbeats 8000000 in
theorem weak_ok (w : World) (v kv : Value) (g : G) (ks : List Int) (h : RdG w v g) (hk : RdI w kv ks) (h0 : openErr g ks = 0) :
    Calls Try.prog 5 #[v, kv] w fun e w' => e = .returned (.bool true) ∧ Below w.heap.size w w' := by
  obtain ⟨vo, vr, rfl, ho, hr⟩ := h
  obtain ⟨A, c, rfl, hm, -⟩ := id hr
  obtain ⟨Ao, co, rfl, hmo, hco⟩ := id ho
  obtain ⟨Ak, ck, rfl, hmk, hck⟩ := id hk
  obtain ⟨hcg, hkk, hkb⟩ := openErr_zero.1 h0
  obtain ⟨h24, h8, h4, hval⟩ := checkG_zero.1 hcg
  have hg : RdG w (.agg #[.slice Ao g.objs.length co, .slice A g.roots.length c]) g := ⟨_, _, rfl, ho, hr⟩
  have hB0 : Below w.heap.size w (w.alloc (.cells #[.slice Ao g.objs.length co, .slice A g.roots.length c] 27)) := (Below.refl _ _).alloc (Nat.le_refl _) _
  have hx0 : (w.alloc (.cells #[.slice Ao g.objs.length co, .slice A g.roots.length c] 27)).heap[w.heap.size]? = some (.cells #[.slice Ao g.objs.length co, .slice A g.roots.length c] 27 (0, 0)) := heap_alloc_new _ _
  have HB0 := Lib.hid hB0
  have Hx0 := Lib.hid hx0
  have Hg := Lib.hid hg
  have Hk := Lib.hid hk
  have Hco := Lib.hid hco
  have Hck := Lib.hid hck
  have HKE := Lib.hid (kept_ok _ _ _ g ks (Hg.out.later (later_below HB0.out)) (Hk.out.later (later_below HB0.out)) h0)
  have HCE := Lib.hid (fun W (hW : Below w.heap.size w W) => clear_ok W _ _ g ks (Hg.out.later (later_below hW)) (Hk.out.later (later_below hW)) h0)
  have HGE := Lib.hid (fun W (hW : Below w.heap.size w W) => good_any W _ g (Hg.out.later (later_below hW)))
  have HKC := Lib.hid (fun W (hW : Below w.heap.size w W) => kcheck_any W _ _ g ks (Hg.out.later (later_below hW)) (Hk.out.later (later_below hW)))
  have e1 : (checkG g == 0) = true := by rw [hcg]; rfl
  have e2 : kcheck g.objs.length ks = 0 := kcheck_zero.2 ⟨hkk, hkb⟩
  rw [e1] at HGE
  rw [e2] at HKC
  have Hcg := Lib.hid hcg
  have Hkk := Lib.hid hkk
  have Hkb := Lib.hid hkb
  have Hval := Lib.hid hval
  have H4 := Lib.hid h4
  clear hB0 hx0 hg hk ho hr h0 hco hck e1 e2 hcg hkk hkb hval h4
  go_enter Try.func5, Try.ntmps5
  go_wp2_with (first
    | (go_at_call 25; refine HKE.out.mono ?_; rintro e w2 ⟨hB2, v2, kept, rfl, hF, hl2⟩; have hb2 := HB0.out.trans (hB2.mono HB0.out.size); have x2 := blk_below hB2 Hx0.out; have y0 := cell_blk (j := 0) x2 rfl; have y1 := cell_blk (j := 1) x2 rfl; have HF := Lib.hid hF; have Hl2 := Lib.hid hl2; obtain ⟨A2, c2, rfl, hm2, -⟩ := hl2; clear hF)
    | (go_at_call 26; (refine (HCE.out _ hb2).mono ?_; (rintro e w3 ⟨hB3, v3, kept', rfl, hF', hg3⟩; obtain rfl := fixK_unique HF.out hF'); have hb3 := hb2.trans (hB3.mono hb2.size); have x3 := blk_below hB3 x2; have z0 := cell_blk (j := 0) x3 rfl; have z1 := cell_blk (j := 1) x3 rfl; have hlt3 := lt_blk x3; have hb4 := fun o => hb3.alloc hb3.size o; have Hg3 := Lib.hid hg3; obtain ⟨vo3, vr3, rfl, ⟨A3, c3, rfl, hm3, -⟩, ⟨A4, c4, rfl, hm4, -⟩⟩ := hg3; have hlen3 := clear_len ks kept g; have hrl3 := clear_rlen ks kept g; (rw [hlen3, hrl3] at Hg3; rw [hlen3, hrl3]); have Hlen3 := Lib.hid hlen3; have Hgood := Lib.hid (clear_good Hcg.out Hkk.out Hkb.out HF.out); clear hF' hlen3 hrl3 hm3 hm4))
    | (go_at_call 27; refine (HGE.out _ (hb4 _)).mono ?_; rintro e w4 ⟨rfl, hB4⟩; have hb5 := (hb4 _).trans (hB4.mono (hb4 _).size); have x5 := blk_below hB4 (at_old _ _ _ _ hlt3 x3); have t0 := cell_blk (j := 0) x5 rfl; have t1 := cell_blk (j := 1) x5 rfl; have x6 := blk_below hB4 (at_new _ _ _ rfl); have hlx := later_below (((Below.refl w3.heap.size w3).alloc (Nat.le_refl _) _).trans (hB4.mono (by simp))))
    | (go_at_call 28; refine (HKC.out _ hb5).mono ?_; rintro e w6 ⟨rfl, hB6⟩; have hb6 := hb5.trans (hB6.mono hb5.size); have x7 := blk_below hB6 x5; have x8 := blk_below hB6 x6; have s0 := cell_blk (j := 0) x7 rfl; have s1 := cell_blk (j := 1) x7 rfl; have s2 := cell_blk (j := 0) x8 rfl; have s3 := cell_blk (j := 1) x8 rfl; have hlx6 := hlx.trans (later_below hB6); have hll6 := (later_below hB3).trans hlx6)
    | (go_at_call 29; refine (within_any _ _ (lst kept kept.length) _ (Hl2.out.later hll6)).mono ?_; rintro e w7 ⟨rfl, rfl⟩; rw [within_lst HF.out])
    | (go_at_call 27; refine (good_any _ _ (clearG g ks kept) (Hg3.out.later hlx6)).mono ?_; rintro e w8 ⟨rfl, hB8⟩; rw [Hgood.out]; have hb8 := hb6.trans (hB8.mono hb6.size); have x9 := blk_below hB8 x7; have x10 := blk_below hB8 x8; have r0 := cell_blk (j := 0) x9 rfl; have r1 := cell_blk (j := 1) x9 rfl; have r2 := cell_blk (j := 0) x10 rfl; have r3 := cell_blk (j := 1) x10 rfl))
  have HRG := Lib.hid (Hg3.out.later (hlx6.trans (later_below hB8)))
  have HRL := Lib.hid (Hl2.out.later (hll6.trans (later_below hB8)))
  have hsz8 := hb8.size
  have Hb8 := Lib.hid hb8
  clear Hg3 Hl2 hlx6 hll6 hB8 hb6 x7 x8 s0 s1 s2 s3 hB6 x5 x6 t0 t1 hb5 hB4 hlx x3 z0 z1 hb4 hB3 hb3 x2 y0 y1 hb2 hB2 HKE HCE HGE HKC Hx0 hlt3 r0 r1 r2 r3 hb8
  go_loopw [9, 78] (fun kl i wr => ∃ k : Nat, k ≤ (lst kept kept.length).length ∧ i = .int .i64 k ∧ OwnI wr w8.heap.size kl ((keptKinds ks kept).take k) ∧ Below w8.heap.size w8 wr) (fun _ i _ => (lst kept kept.length).length - (intOf i).toNat)
  case atStart => exact ⟨0, Nat.zero_le _, rfl, OwnI.nil _ _, Below.refl _ _⟩
  case round =>
    obtain ⟨k, hk, rfl, hO, hB⟩ := hrel
    have x9r := blk_below hB x9
    have x10r := blk_below hB x10
    have r0 := cell_blk (j := 0) x9r rfl
    have r2 := cell_blk (j := 0) x10r rfl
    have r3 := cell_blk (j := 1) x10r rfl
    have HO := Lib.hid hO
    have HB := Lib.hid hB
    clear hO hB
    by_cases hlt : k < (lst kept kept.length).length
    · obtain ⟨A2', c2', ea, -, hl⟩ := HRL.out
      injection ea with ea1 ea2 ea3
      subst ea1 ea3
      obtain ⟨b2, off2, rfl, hcell⟩ := hl k hlt
      obtain ⟨i, hi, hki, ei⟩ := mem_lst.1 (List.getElem_mem hlt)
      rw [HF.out.len] at hi
      have hks : (keptKinds ks kept).take (k + 1) = (keptKinds ks kept).take k ++ [ks[i]'(by rw [Hkk.out]; exact hi)] := by
        rw [List.take_succ_eq_append_getElem (by simpa [keptKinds] using hlt)]
        congr 1
        simp only [keptKinds, List.getElem_map, ← ei, Int.toNat_natCast]
        rw [getD_lt _ _ _ (by rw [Hkk.out]; exact hi)]
      obtain ⟨vo5, vr5, e5, ⟨A5, c5, e6, -, hro⟩, -⟩ := HRG.out
      obtain ⟨rfl, rfl⟩ := agg2 e5
      injection e6 with e7 e8 e9
      subst e7 e9
      obtain ⟨b3, off3, fv3, rfl, hf3, hv3⟩ := hro k (by rw [Hlen3.out]; exact hlt)
      obtain ⟨b, off, fv, rfl, hfg, hvg⟩ := Hco.out i hi
      obtain ⟨bk, offk, rfl, hkc⟩ := Hck.out i (by rw [Hkk.out]; exact hi)
      have hle : ((clearG g ks kept).objs[k]'(by rw [Hlen3.out]; exact hlt)).length = g.objs[i].length := by
        simp only [clearG_objs, List.getElem_map, ← ei, Int.toNat_natCast]
        rw [clrG_get _ _ hi, getD_lt _ _ _ hi]
        simp [turnV, clrO]
      obtain ⟨Af3, cf3, rfl, hmf, -⟩ := hv3
      rw [hle] at hf3 hmf
      obtain ⟨Afg, cfg, rfl, hmg, -⟩ := hvg
      have q1 := later_below HB.out _ _ hcell
      rw [← ei] at q1
      have q2 := later_below HB.out _ _ hf3
      have q3 := later_below (Hb8.out.trans (HB.out.mono hsz8)) _ _ hfg
      have q4 := later_below (Hb8.out.trans (HB.out.mono hsz8)) _ _ hkc
      have l2 := World.block_lt_of_cell? _ _ q2
      have l3 := World.block_lt_of_cell? _ _ q3
      dsimp only at l2 l3
      have hi' : (i : Int) < (g.objs.length : Int) := by omega
      have hik : i < ks.length := by rw [Hkk.out]; exact hi
      have hik' : (i : Int) < (ks.length : Int) := by omega
      have hkl' : (k : Int) < ((lst kept kept.length).length : Int) := by omega
      have HKS := Lib.hid hks
      generalize ks[i]'(by rw [Hkk.out]; exact hi) = kd at q4 HKS
      have hll := lst_len kept kept.length
      have hlf := HF.out.len
      have Hll := Lib.hid (show (lst kept kept.length).length ≤ 24 by omega)
      have Hf3 := Lib.hid hf3
      have Hfg := Lib.hid hfg
      clear e8 ea2 hl hcell hro hf3 hfg hkc hle hks hll hlf ei e5 hki hmf hmg
      go_wp2_with (at_builtin; (refine app_i (w0 := w8) w8.heap.size rfl _ _ rfl u9 ((keptKinds ks kept).take k) kd (by rfl) _ (by rfl) (by rfl) HO.out HB.out HB.out.size (by have := Hll.out; rw [List.length_take]; omega) ?_); intro v9 w9 hown hB9 hg9 hat9)
      clear q1 q2 q3 q4 r0 r2 r3 l2 l3 x9r x10r
      have p0 := cell_blk (j := 0) (blk_below hB9 x9) rfl
      have p2 := cell_blk (j := 0) (blk_below hB9 x10) rfl
      have q2 := later_below hB9 _ _ Hf3.out
      have q3 := later_below (Hb8.out.trans (hB9.mono hsz8)) _ _ Hfg.out
      have HOwn := Lib.hid hown
      clear hown hg9 hat9
      go_quiet (fail)
      go_wp2
      go_roundw
      case rel => exact ⟨k + 1, by omega, by go_num, by rw [HKS.out]; exact OwnI.below HOwn.out (below_drewN (Below.refl _ _) _), below_drewN hB9 _⟩
      case measure => simp [intOf]; omega
    · have hkf : (keptKinds ks kept).take k = keptKinds ks kept := List.take_of_length_le (by simp [keptKinds]; omega)
      have hO9 := HO.out
      rw [hkf] at hO9
      have HK9 := Lib.hid hO9.rd
      have HRG9 := Lib.hid (HRG.out.later (later_below HB.out))
      have hoe2 : openErr (clearG g ks kept) (keptKinds ks kept) = 0 := openErr_zero.2 ⟨Hgood.out, by rw [Hlen3.out]; simp [keptKinds], keptKinds_good Hkk.out Hkb.out⟩
      have HC2 := Lib.hid (clear_ok wr _ _ (clearG g ks kept) (keptKinds ks kept) HRG9.out HK9.out hoe2)
      have Hidem := Lib.hid (fun kept2 (hF2 : FixK (clearG g ks kept) (keptKinds ks kept) kept2) => clear_full Hgood.out hF2 (fun j hj => clr_again_all Hkk.out Hkb.out Hval.out HF.out kept2 hF2 j (by rw [← Hlen3.out]; exact hj)))
      have hx10 := World.block_lt_of_cell? _ _ r2
      dsimp only at hx10
      clear hkf hO9 hoe2 r0 x9r
      go_wp2_with (first
        | (go_at_call 26; refine HC2.out.mono ?_; rintro e wa ⟨hBa, va, kept2, rfl, hF2, hga⟩; obtain ⟨i1, i2⟩ := Hidem.out kept2 hF2; have hga2 := rdg_eq hga i1 i2; have Hga2 := Lib.hid hga2; obtain ⟨voa, vra, rfl, ⟨Aa, ca, rfl, hma, -⟩, ⟨Ab, cb, rfl, hmb, -⟩⟩ := hga2; have hlc := clear_len ks kept g; have hrc := clear_rlen ks kept g; rw [hlc, hrc] at Hga2; rw [hlc, hrc]; have ta0 := later_below hBa _ _ r2; have ta1 := later_below hBa _ _ r3; have hlta : w3.heap.size < wa.heap.size := World.block_lt_of_cell? _ _ ta0; clear hga hF2 i1 i2 hlc hrc hma hmb)
        | (go_at_call 24; refine (graphs_any _ _ _ (clearG g ks kept) (clearG g ks kept) (HRG9.out.later ((later_below hBa).trans (later_below ((Below.refl _ _).alloc (Nat.le_refl _) _)))) (Hga2.out.later (later_below ((Below.refl _ _).alloc (Nat.le_refl _) _)))).mono ?_; rintro e wb ⟨rfl, hBb⟩; have hB1 := Hb8.out.trans (HB.out.mono hsz8); have hB2 := hB1.trans (hBa.mono hB1.size); have hB3 := fun o => hB2.trans (((Below.refl wa.heap.size wa).alloc (Nat.le_refl _) o).mono hB2.size); have hBB := (hB3 _).trans (hBb.mono (hB3 _).size)))
      go_ret
      exact ⟨by simp, hBB⟩

end Go.Proofs.Yteghhajfkdbcdaa
