/- weak: keep. -/
import Derived.Test.YteghhajfkdbcdaaWkA
import Derived.Stop.RegionWithIn
import Derived.BigGuardIn
namespace Go.Proofs.Yteghhajfkdbcdaa
open Go.RowKit Go.Shelf
set_option linter.unusedVariables false
set_option linter.unusedSimpArgs false
attribute [local go_sem] Oper.semAt_some

set_option maxRecDepth 100000 in
set_option maxHeartbeats 2000000 in
/-- graph.Targets's closure: its contract. -/
theorem targets_iterK (m N B : Nat) (v : Value) (vs : List Vl) (w : World) (xs : List (Bd N)) (hx : xs.map (·.1) = tgts vs) (hb : w.cell? ⟨B, 0, none⟩ = some v) (hr : RdV w v vs) (K : Nat → Prop) (hKB : K B) (hKv : ∀ b off n c, v = .slice (some ⟨b, off, none⟩) n c → vs ≠ [] → K b) (hK0 : ∀ k, K k → k < w.heap.size) :
    SeqStopsK Fence.wide m Try.prog 143 #[.pointer (some ⟨B, 0, none⟩)] (fun x : Bd N => #[.int .i64 x.1]) (SameP K) (fun ys => ys = xs) (fun _ => True) xs.length w := by
  intro l J Jx W hW hJ hJx hY h0
  have hb' := later_below hW _ _ hb
  have hr' := hr.later (later_below hW)
  have hK1 : ∀ k, K k → ∃ o, W.heap[k]? = some o := fun k hk => by
    have h := hK0 k hk
    refine ⟨w.heap[k], ?_⟩
    rw [hW.block k h]; simp [h]
  clear hb hr hW hK0
  obtain ⟨A, c, rfl, hm, hc⟩ := hr'
  have hWB := World.block_lt_of_cell? _ _ hb'
  dsimp only at hWB
  refine callsIn_of_wp Try.func143 rfl trivial ?_ rfl
  simp only [Try.ntmps143, List.size_toArray, List.length_cons, List.length_nil, Nat.reduceAdd, Nat.reduceSub, Array.replicate_succ, Array.replicate_zero, List.push_toArray, List.append_toArray, List.nil_append, List.cons_append]
  gi_wp2
  gi_loopw [7] (fun i wr => ∃ k j : Nat, k ≤ vs.length ∧ i = .int .i64 k ∧ j ≤ xs.length ∧ (xs.take j).map (·.1) = tgts (vs.take k) ∧ J (xs.take j) wr ∧ SameP K W wr)
    (fun i _ => vs.length - (intOf i).toNat)
  case atStart => exact ⟨0, 0, Nat.zero_le _, rfl, Nat.zero_le _, rfl, h0, SameP.refl _ _⟩
  case round =>
    obtain ⟨k, j, hk, rfl, hj, hmap, hJs, hS⟩ := hrel
    have Hmap := Lib.hid hmap
    have Hx := Lib.hid hx
    clear hmap hx
    by_cases hlt : k < vs.length
    · obtain ⟨b, off, rfl, hcell, hcell'⟩ := hc k hlt
      have hc1 := (hS.cell (p := ⟨b, off + k * 2, none⟩) (hKv b off vs.length c rfl (by intro he; rw [he] at hlt; simp at hlt))).trans hcell
      have hc2 := (hS.cell (p := ⟨b, off + k * 2 + 1, none⟩) (hKv b off vs.length c rfl (by intro he; rw [he] at hlt; simp at hlt))).trans hcell'
      obtain ⟨r5, n5, hv5⟩ : ∃ r5 n5, vs[k] = ⟨r5, n5⟩ := ⟨_, _, rfl⟩
      rw [hv5] at hc1 hc2
      have Hv5 := Lib.hid hv5
      have Hb := Lib.hid hb'
      clear hv5 hcell hcell' hc hb'
      have Hsn : Hid (tgts (vs.take (k + 1)) = tgts (vs.take k) ++ (if r5 then [n5] else [])) := by
        rw [List.take_succ_eq_append_getElem hlt, Hv5.out, tgts_snoc]; exact rfl
      have hKs : ∀ i, K i → i < wr.heap.size := by
        intro i hi
        obtain ⟨o, ho⟩ := hK1 i hi
        exact lt_blk ((hS i hi).trans ho)
      cases r5
      · gi_wp2
        refine ⟨fun _ h => (by cases h), ?_⟩
        gi_wp2
        go_roundw
        case rel => exact ⟨k + 1, j, by omega, by go_num, hj, by rw [Hsn.out, Hmap.out]; simp, hJ _ _ _ none hJs (World.grownBy_alloc _ _ none) (by simp), hS.trans (SameP.below ((Below.refl wr.heap.size wr).alloc (Nat.le_refl _) _) hKs)⟩
        case measure => simp [intOf]; omega
      · obtain ⟨hlj, hxj⟩ := tgt_next vs xs Hx.out k hlt n5 Hv5.out j hj Hmap.out
        have hJa := hJ _ _ _ none hJs (World.grownBy_alloc wr (.cells #[.bool true, .int .i64 n5] 99) none) (by simp)
        obtain ⟨fn, tmps, assign, body, hy, hR⟩ := hY (xs.take j) xs[j] (wr.alloc (.cells #[.bool true, .int .i64 n5] 99)) hJa (by simp; omega)
        rw [hxj] at hy
        have Hxj := Lib.hid hxj
        clear hxj hY
        gi_wp2
        refine ⟨fun h => by simp [Fence.wide] at h, hR.mono ?_⟩
        rintro e W3 (⟨rfl, hJ3, hk3⟩ | ⟨rfl, hJx3⟩)
        · gi_wp2
          go_roundw
          case rel =>
            refine ⟨k + 1, j + 1, by omega, by go_num, hlj, ?_, ?_, (hS.trans (SameP.below ((Below.refl wr.heap.size wr).alloc (Nat.le_refl _) _) hKs)).trans hk3⟩
            · rw [List.take_succ_eq_append_getElem hlj, List.map_append, Hmap.out, Hsn.out]
              simp [Hxj.out]
            · rw [List.take_succ_eq_append_getElem hlj]; exact hJ3
          case measure => simp [intOf]; omega
        · gi_wp2
          refine bodyPost_ret (results_none rfl _ _ _) rfl ?_
          exact ⟨⟨_, rfl⟩, .inr ⟨_, trivial, hJx3⟩⟩
    · gi_wp2
      go_end0
      refine ⟨⟨_, rfl⟩, .inl ⟨_, rfl, ?_⟩⟩
      have e : xs.take j = xs := by
        have h1 := Hmap.out
        rw [List.take_of_length_le (l := vs) (i := k) (by omega), ← Hx.out] at h1
        have h2 := congrArg List.length h1
        simp at h2
        exact List.take_of_length_le (by omega)
      rw [← e]; exact hJs


structure KeepPost (w0 : World) (kb bb : Nat) (vo vr vk : Value) (g : G) (ks : List Int) (kept : List Bool) (ts : List Int) (W W' : World) (kept' : List Bool) (b : Bool) : Prop where
  st : Kst w0 W' kb bb vo vr vk kept'
  step : Step g ks kept ts kept' b
  grown : W.grownBy W' (some bb)
theorem Noise.grown {B : Nat} {w W W' : World} {row : Option Nat} (h : Noise B W W') (hb : w.grownBy W row) (hn : w.heap.size ≤ B) : w.grownBy W' row :=
  ⟨h.os.trans hb.os, h.tape.trans hb.tape, h.output.trans hb.output, Nat.le_trans hb.size h.size, fun k hk hne => by
    have hk' : k < W.heap.size := Nat.lt_of_lt_of_le hk hb.size
    have e := hb.block k hk hne
    rw [← e]
    exact (h.same k (W.heap[k]) (by simp [hk']) (.inl (by omega))).trans (by simp [hk'])⟩
theorem KeepPost.noise {w0 : World} {B kb bb : Nat} {vo vr vk : Value} {g : G} {ks : List Int} {kept kept' : List Bool} {ts : List Int} {W X X' : World} {b : Bool} (h : KeepPost w0 kb bb vo vr vk g ks kept ts W X kept' b) (hn : Noise B X X') (h1 : w0.heap.size ≤ B) (h2 : W.heap.size ≤ B) : KeepPost w0 kb bb vo vr vk g ks kept ts W X' kept' b :=
  ⟨h.st.noise hn h1, h.step, hn.grown h.grown h2⟩
theorem exists_bd (N : Nat) (l : List Int) (h : ∀ x ∈ l, 0 ≤ x ∧ x.toNat < N) : ∃ xs : List (Bd N), xs.map (·.1) = l := by
  induction l with
  | nil => exact ⟨[], rfl⟩
  | cons x l ih =>
    obtain ⟨xs, hxs⟩ := ih fun y hy => h y (by simp [hy])
    have := h x (by simp)
    exact ⟨⟨x, by omega, by omega⟩ :: xs, by simp [hxs]⟩
theorem Kst.mark {w0 W : World} {kb bb : Nat} {vo vr vk : Value} {kept : List Bool} (h : Kst w0 W kb bb vo vr vk kept) (n : Nat) : Kst w0 (W.setCell ⟨bb, n, none⟩ (.bool true)) kb bb vo vr vk (kept.set n true) := by
  refine ⟨?_, ?_, h.lk, h.lb, h.ne, h.below.setCell h.lb _⟩
  · rw [Below.heap_setCell W _ _ kb h.ne, List.length_set]; exact h.hk
  · rw [set_blk h.hb, List.map_set]; simp
theorem Kst.far {w0 W W' : World} {kb bb j : Nat} {vo vr vk : Value} {kept : List Bool} (h : Kst w0 W kb bb vo vr vk kept) (hg : W.grownBy W' (some j)) (h1 : j ≠ kb) (h2 : j ≠ bb) (h3 : w0.heap.size ≤ j) : Kst w0 W' kb bb vo vr vk kept :=
  ⟨blk_grown hg h.hk (by intro he; injection he with he; exact h1 he.symm), blk_grown hg h.hb (by intro he; injection he with he; exact h2 he.symm), h.lk, h.lb, h.ne, h.below.grown hg h.below.size (by intro k hk; injection hk with hk; omega)⟩
theorem strF_sub (K : Nat → Bool) (kind : Int) (f : List Vl) : ∀ x ∈ strF K kind f, x ∈ f := by
  intro x hx
  unfold strF at hx
  split at hx
  · exact hx
  · split at hx
    · cases f with
      | nil => exact hx
      | cons u r =>
        dsimp only at hx
        split at hx
        · exact List.mem_cons_of_mem _ hx
        · cases hx
    · cases hx
def Okv (g : G) (vs : List Vl) : Prop := ∀ x ∈ vs, x.ref = true → 0 ≤ x.n ∧ x.n.toNat < g.objs.length
theorem okv_str {g : G} (h : ∀ o ∈ g.objs, Okv g o) (ks : List Int) (K : Nat → Bool) (i : Nat) : Okv g (str g ks K i) := by
  intro x hx hr
  have hx := strF_sub _ _ _ x hx
  by_cases hi : i < g.objs.length
  · rw [show g.objs.getD i [] = g.objs[i] by simp [hi]] at hx
    exact h _ (List.getElem_mem hi) x hx hr
  · rw [show g.objs.getD i [] = [] by simp [List.getD_eq_getElem?_getD, List.getElem?_eq_none (Nat.le_of_not_lt hi)]] at hx
    cases hx

set_option maxRecDepth 100000 in
set_option maxHeartbeats 4000000 in
/-- weak's keeper.keep -/
theorem keep_any (w0 : World) (kb bb : Nat) (vo vr vk : Value) (g : G) (ks : List Int) (ho : RdO w0 vo g.objs) (hks : RdI w0 vk ks) (hkk : ks.length = g.objs.length) (hgd : ∀ o ∈ g.objs, Okv g o) (hnn : g.objs.length ≤ 9223372036854775807) : ∀ (m : Nat) (kept : List Bool) (w : World) (v : Value) (vs : List Vl),
    unkept kept ≤ m → kept.length = g.objs.length → Kst w0 w kb bb vo vr vk kept → RdV w0 v vs → Okv g vs →
    Calls Try.prog 93 #[.pointer (some ⟨kb, 0, none⟩), v] w fun e w' => ∃ kept' b, e = .returned (.bool b) ∧ KeepPost w0 kb bb vo vr vk g ks kept (tgts vs) w w' kept' b := by
  intro m
  induction m using Nat.strongRecOn with
  | _ m ih =>
    intro kept w v vs hu hkl hst hv hok
    obtain ⟨xs, hxs⟩ := exists_bd g.objs.length (tgts vs) (fun x hx => by
      obtain ⟨u, hu, h1, rfl⟩ := mem_tgts.1 hx
      exact hok u hu h1)
    refine calls_marks Try.func93 rfl ?_
    simp only [Try.ntmps93, List.size_toArray, List.length_cons, List.length_nil, Nat.reduceAdd, Nat.reduceSub, Array.replicate_succ, Array.replicate_zero, List.push_toArray, List.append_toArray, List.nil_append, List.cons_append]
    have hvw := hv.later (later_below hst.below)
    have Hv := Lib.hid hv
    have Hvw := Lib.hid hvw
    have Hst := Lib.hid hst
    have Hok := Lib.hid hok
    have Hih := Lib.hid ih
    clear hv hvw hst hok ih
    obtain ⟨Av, cv, rfl, hmv, hcv⟩ := id Hv.out
    have Hcv := Lib.hid hcv
    clear hcv
    go_wp2_with (go_at_call 113; refine (targets_any _ _ vs (Hvw.out.later ((later_below ((Below.refl w.heap.size w).alloc (Nat.le_refl _) _)).trans (later_below ((Below.refl _ _).alloc (Nat.le_refl _) _))))).mono ?_; rintro e w3 ⟨rfl, rfl⟩)
    generalize hw1 : ((w.alloc (.cells #[.pointer (some ⟨kb, 0, none⟩)] 109)).alloc (.cells #[.bool false] 4)).alloc (.cells #[.slice Av vs.length cv] 25) = W0
    have a0 : W0.heap[w.heap.size]? = some (.cells #[.pointer (some ⟨kb, 0, none⟩)] 109 (0, 0)) := by rw [← hw1]; repeat (first | exact at_new _ _ _ (by simp only [World.size_alloc]) | refine at_old _ _ _ _ (by simp only [World.size_alloc]; omega) ?_)
    have a1 : W0.heap[w.heap.size + 1]? = some (.cells #[.bool false] 4 (0, 0)) := by rw [← hw1]; repeat (first | exact at_new _ _ _ (by simp only [World.size_alloc]) | refine at_old _ _ _ _ (by simp only [World.size_alloc]; omega) ?_)
    have a2 : W0.heap[w.heap.size + 1 + 1]? = some (.cells #[.slice Av vs.length cv] 25 (0, 0)) := by rw [← hw1]; repeat (first | exact at_new _ _ _ (by simp only [World.size_alloc]) | refine at_old _ _ _ _ (by simp only [World.size_alloc]; omega) ?_)
    have aB : Below w.heap.size w W0 := by rw [← hw1]; exact (((Below.refl _ _).alloc (Nat.le_refl _) _).alloc (by simp) _).alloc (by simp; omega) _
    have asz : W0.heap.size = w.heap.size + 3 := by rw [← hw1]; simp
    clear hw1
    have hw0s := Hst.out.below.size
    have hbbw := lt_blk Hst.out.hb
    have hkbw := lt_blk Hst.out.hk
    refine range_wp' rfl eg143 (targets_iterK 8 g.objs.length (w.heap.size + 1 + 1) (.slice Av vs.length cv) vs W0 xs hxs (cell_blk a2 rfl) (Hvw.out.later (later_below aB)) (fun k => k = w.heap.size + 1 + 1 ∨ k < w0.heap.size) (.inl rfl) (fun b off n c e hne => .inr ?hv1) ?hv2) ?hv2' (fun _ => rfl)
      (fun pre W => ∃ kp bp, KeepPost w0 kb bb vo vr vk g ks kept (pre.map (·.1)) w W kp bp ∧ W.heap[w.heap.size]? = some (.cells #[.pointer (some ⟨kb, 0, none⟩)] 109 (0, 0)) ∧ W.heap[w.heap.size + 1]? = some (.cells #[.bool bp] 4 (0, 0)) ∧ W0.heap.size ≤ W.heap.size)
      (fun _ _ _ => False)
      (fun s W W' h hn => ?noise)
      (fun c s W W' h hn => h)
      ?start
      (fun x b => [(9, .int .i64 x.1), (6, .int .i64 x.1)])
      (fun x b W => True)
      (fun x b W W' h hn => trivial) ?assign ?body ?done ?stop
    case hv1 =>
      injection e with e _ _
      subst e
      obtain ⟨b', off', e', h1, _⟩ := Hcv.out 0 (by rcases vs with _ | _ <;> simp at hne ⊢)
      injection e' with e'; injection e' with e1 e2
      subst e1
      exact World.block_lt_of_cell? _ _ h1
    case hv2 => rintro k (rfl | h) <;> omega
    case hv2' => rintro k (rfl | h) <;> omega
    case noise =>
      obtain ⟨kp, bp, h1, h2, h3, h4⟩ := h
      exact ⟨kp, bp, h1.noise hn (by omega) (by omega), hn.block h2, hn.block h3, Nat.le_trans h4 hn.size⟩
    case start => exact ⟨kept, false, ⟨Hst.out.after aB, Step.start _ _ _, grown_of_below aB _⟩, a0, a1, Nat.le_refl _⟩
    case assign =>
      intro l pre x W K hi hK
      gi_wp2
      exact hK 0 W (KeepsFrom.refl _ _) (SameP.refl _ _) hi trivial
    case stop => rintro D c pre W hD hpre h; exact h.elim
    case done =>
      rintro D W hD ⟨kp, bp, h1, h2, h3, h4⟩ hkD
      have h31 := cell_blk (j := 0) h3 rfl
      have Hk := Lib.hid hkD
      have H1 := Lib.hid h1
      clear hkD h1
      go_wp2
      refine leaves_marks (B := w.heap.size) [D] _ (by simp) (by intro D' hD'; simp at hD'; subst hD'; exact ⟨by omega, Hk.out⟩) ?_
      intro W' hn
      refine ⟨_, by simp [results, Try.results93, go_sem], kp, bp, rfl, ?_⟩
      have h5 := H1.out.noise hn hw0s (Nat.le_refl _)
      rw [hxs] at h5
      exact h5
    case body =>
      rintro l pre ⟨x, hx0, hx1⟩ b W ⟨kp, bp, h1, h2, h3, h4⟩ _ hlen
      obtain ⟨n, rfl⟩ := Int.eq_ofNat_of_zero_le hx0
      have hng : n < g.objs.length := by omega
      have hlk : kp.length = g.objs.length := h1.step.len.trans hkl
      have hnk : n < kp.length := by omega
      have hnk' : (n : Int) < (kp.length : Int) := by omega
      have c3 := cell_blk (j := 3) h1.st.hk rfl
      have cb := h1.st.cell n hnk
      have fb := frozen_blk (j := n) h1.st.hb
      have b0 := cell_blk (j := 0) h2 rfl
      have b1 := cell_blk (j := 0) h3 rfl
      have f1 := frozen_blk (j := 0) h3
      have hsK := Hst.out.below.size
      generalize hat : atB kp n = bt at cb
      have Hat := Lib.hid hat
      have H1 := Lib.hid h1
      clear hat h1
      simp only [setS, List.foldl_cons, List.foldl_nil]
      cases bt
      · gi_wp2
        have HK1 := Lib.hid (H1.out.st.mark n)
        have hg1 := grown_setCell W ⟨bb, n, none⟩ (.bool true)
        have e0 := blk_grown hg1 h2 (by intro he; injection he with he; simp at he; omega)
        have e1 := blk_grown hg1 h3 (by intro he; injection he with he; simp at he; omega)
        have hs1 := hg1.size
        generalize W.setCell ⟨bb, n, none⟩ (.bool true) = W1 at HK1 hg1 e0 e1 hs1 ⊢
        have b0 := cell_blk (j := 0) e0 rfl
        have hun := unkept_set kp n hnk Hat.out
        have hle := H1.out.step.le
        have Hg1 := Lib.hid hg1
        clear hg1 b1 f1
        gi_region_with (first
          | (refine ⟨trivial, ?_⟩; gi_at_call 94; refine (CallsIn.inRound l (callsIn_wide.2 (strong_any w0 _ kb bb vo vr vk (kp.set n true) (HK1.out.after (Below.refl _ _).drew) (by rw [List.length_set]; omega) g ks ho hks (by rw [List.length_set]; omega) hkk n hng hgd))).mono ?_;
             rintro e w2 ⟨v2, rfl, hv2, hb2⟩; have hb3 := ((Below.refl W1.heap.size W1).drew).trans hb2; have b5 := later_below hb3 _ _ b0)
          | (refine ⟨trivial, ?_⟩; gi_at_call 93; refine (CallsIn.inRound l (callsIn_wide.2 (Hih.out (unkept (kp.set n true)) (by omega) (kp.set n true) _ v2 _ (Nat.le_refl _) (by rw [List.length_set]; omega) (HK1.out.after hb3) hv2 (okv_str hgd ks _ n)))).mono ?_;
             rintro e w3 ⟨kp2, b2, rfl, hP⟩; have e5 := blk_grown hP.grown (blk_below hb3 e1) (by intro he; injection he with he; omega); have e6 := blk_grown hP.grown (blk_below hb3 e0) (by intro he; injection he with he; omega); have q1 := cell_blk (j := 0) e5 rfl; have q2 := frozen_blk (j := 0) e5))
        all_goals
          gi_wp2
          have hgr : W.grownBy w3 (some bb) := (Hg1.out.trans (grown_of_below (hb3.mono (Nat.le_refl _)) _)).trans hP.grown
          have hnx : w.heap.size + 1 < w3.heap.size := lt_blk e5
          have hg4 := grown_setCell w3 ⟨w.heap.size + 1, 0, none⟩ (.bool true)
          refine ⟨(KeepsFrom.of_grownBy hgr (by intro j hj; injection hj with hj; omega)).trans ((KeepsOthers.setCell _ _ _).from _), ?_, kp2, true, ⟨hP.st.far hg4 (by simp; omega) (by simp; omega) (by simp; omega), ?_, ?_⟩, ?_, ?_, ?_⟩
          · intro k hk
            have hkW : k < W.heap.size := by rcases hk with rfl | hk <;> omega
            have hkb : k ≠ bb := by have := Hst.out.lb; rcases hk with rfl | hk <;> omega
            have hk1 : k ≠ w.heap.size + 1 := by rcases hk with rfl | hk <;> omega
            exact (hg4.block k (Nat.lt_of_lt_of_le hkW hgr.size) (by intro he; injection he with he; exact hk1 he)).trans (hgr.block k hkW (by intro he; injection he with he; exact hkb he))
          · have := H1.out.step.mark (n : Int) hkl (by simpa using hng) (by simpa using Hat.out) (by simpa using hP.step)
            simpa using this
          · exact (H1.out.grown.trans hgr).andThen hg4 (by intro j hj; injection hj with hj; left; simp at hj; omega)
          · exact blk_grown hg4 e6 (by intro he; injection he with he; simp at he)
          · rw [set_blk e5]; rfl
          · have := hgr.size; have := hg4.size; omega
      · gi_wp2
        have hst := H1.out.step.here (n : Int) (by simpa using Hat.out)
        exact ⟨KeepsFrom.refl _ _, SameP.refl _ _, kp, bp, ⟨H1.out.st, by simpa using hst, H1.out.grown⟩, h2, h3, h4⟩

end Go.Proofs.Yteghhajfkdbcdaa
