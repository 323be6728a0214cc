/- graph.Found: its contract. -/
import Derived.Test.YteghhajfkdbcdaaFnp
import Derived.Test.YteghhajfkdbcdaaRin
import Derived.Test.YteghhajfkdbcdaaWkK
import Derived.Laws.EntriesVeiled
import Derived.Outline
namespace Go.Proofs.Yteghhajfkdbcdaa
open Go.RowKit Go.Shelf
set_option linter.unusedVariables false
set_option linter.unusedSimpArgs false
attribute [local go_sem] Oper.semAt_some

theorem run_mkI (w : World) (n : Nat) (hn : n ≤ 1000000) : (Instr.makeSlice 39 (.int .i64 (n : Int)) (.int .i64 (n : Int))).run Try.prog w = .ok (.slice (some ⟨w.heap.size, 0, none⟩) n n) (w.alloc (.cells (flatI (List.replicate n 0)).toArray 3)) := by
  obtain ⟨i0, hi, hz0, hz1, hz2⟩ := info_parts Try.info3
  have := run_make (P := Try.prog) w 39 3 i0 _ Try.underlying39 hi hz0 .i64 .i64 (n : Int) (n : Int) (by omega) (by omega) (by rw [hz2]; omega) (by omega)
  rw [this, hz1]
  simp only [Int.toNat_natCast]
  have e : madeCells (Value.int .i64 0).cells (n * 1) = (flatI (List.replicate n 0)).toArray := by
    apply Array.ext
    · simp [madeCells, flatI]
    · intro i h1 h2
      simp [madeCells, flatI, Value.cells, Nat.mod_one]
  rw [e]
def negs (n k : Nat) : List Int := List.replicate k (-1) ++ List.replicate (n - k) 0
theorem negs_set {n k : Nat} (h : k < n) : (negs n k).set k (-1) = negs n (k + 1) := by
  unfold negs
  rw [List.set_append_right _ _ (by simp)]
  obtain ⟨m, hm⟩ : ∃ m, n - k = m + 1 := ⟨n - k - 1, by omega⟩
  rw [hm, List.length_replicate, Nat.sub_self, List.replicate_succ, List.set_cons_zero, List.replicate_succ']
  simp only [List.append_assoc, List.singleton_append]
  rw [show n - (k + 1) = m by omega]
theorem negs_full (n : Nat) : negs n n = List.replicate n (-1) := by simp [negs]
theorem negs_len {n k : Nat} (h : k ≤ n) : (negs n k).length = n := by simp [negs]; omega

/-- The loop's counter, off its variable. -/
def kOf (a : Act) (W : World) : Nat := match a.tmps.getD 9 undef with
  | .pointer (some p) => (match W.cell? p with | some (.int _ q) => q.toNat | _ => 0)
  | _ => 0

set_option maxRecDepth 100000 in
set_option maxHeartbeats 4000000 in
/-- graph.Found -/
theorem found_any (w : World) (v : Value) (g : G) (h : RdG w v g) (hok : GOk g) (hn : g.objs.length ≤ 1000000) :
    Calls Try.prog 90 #[v] w fun e w' => ∃ lv dv, e = .returned (.tuple #[lv, dv]) ∧ OwnI w' w.heap.size lv (foundL g) ∧ Below w.heap.size w w' := by
  obtain ⟨vo, vr, rfl, ho, hr⟩ := h
  have Ho := Lib.hid ho
  have Hr := Lib.hid hr
  have Hok := Lib.hid hok
  obtain ⟨A, c, rfl, hmr, hcr⟩ := hr
  obtain ⟨Ao, co, rfl, hmo, hco⟩ := ho
  have Hcr := Lib.hid hcr
  clear hco hcr hok
  have hmk := fun w => run_mkI w g.objs.length hn
  refine calls_marks Try.func90 rfl ?_
  simp only [Try.ntmps90, List.size_toArray, List.length_cons, List.length_nil, Nat.reduceAdd, Nat.reduceSub, Array.replicate_succ, Array.replicate_zero, List.push_toArray, List.append_toArray, List.nil_append, List.cons_append]
  go_wp2
  generalize hw1 : ((w.alloc (.cells #[.slice Ao g.objs.length co, .slice A g.roots.length c] 27)).alloc (.cells (flatI (List.replicate g.objs.length 0)).toArray 3)).alloc (.cells #[.slice (some ⟨w.heap.size + 1, 0, none⟩) g.objs.length g.objs.length] 39) = w1
  have k0 : w1.heap[w.heap.size]? = some (.cells #[.slice Ao g.objs.length co, .slice A g.roots.length c] 27 (0, 0)) := by rw [← hw1]; exact blk_alloc (blk_alloc (at_new _ _ _ rfl))
  have k1 : w1.heap[w.heap.size + 1]? = some (.cells (flatI (negs g.objs.length 0)).toArray 3 (0, 0)) := by rw [← hw1]; refine blk_alloc (at_new _ _ _ (by simp)) |>.trans ?_; simp [negs]
  have k2 : w1.heap[w.heap.size + 2]? = some (.cells #[.slice (some ⟨w.heap.size + 1, 0, none⟩) g.objs.length g.objs.length] 39 (0, 0)) := by rw [← hw1]; exact at_new _ _ _ (by simp)
  have kb : Below w.heap.size w w1 := by rw [← hw1]; exact (((Below.refl _ _).alloc (Nat.le_refl _) _).alloc (by simp) _).alloc (by simp; omega) _
  have ks : w1.heap.size = w.heap.size + 3 := by rw [← hw1]; simp
  clear hw1 hmk
  go_loopw [17] (fun i wr => ∃ k : Nat, k ≤ g.objs.length ∧ i = .int .i64 k ∧ wr.heap[w.heap.size + 1]? = some (.cells (flatI (negs g.objs.length k)).toArray 3 (0, 0)) ∧ wr.heap[w.heap.size]? = w1.heap[w.heap.size]? ∧ wr.heap[w.heap.size + 2]? = w1.heap[w.heap.size + 2]? ∧ Below w.heap.size w wr ∧ wr.heap.size = w.heap.size + 3) (fun i _ => g.objs.length - (intOf i).toNat)
  case atStart => exact ⟨0, Nat.zero_le _, rfl, k1, rfl, rfl, kb, ks⟩
  case round =>
    obtain ⟨k, hk, rfl, h1, h2, h3, hB, hsz⟩ := hrel
    have m0 := h2.trans k0
    have m2 := h3.trans k2
    have c2 := cell_blk (j := 0) m2 rfl
    by_cases hlt : k < g.objs.length
    · have hnl := negs_len hk
      obtain ⟨u, c1⟩ : ∃ u, wr.cell? ⟨w.heap.size + 1, k, none⟩ = some u := ⟨_, cell_blk (j := k) h1 (by rw [List.getElem?_toArray, flatI_get (by rw [hnl]; exact hlt)])⟩
      have f1 := frozen_blk (j := k) h1
      have H := Lib.hid (And.intro h1 (And.intro h2 (And.intro h3 (And.intro hB hsz))))
      have HK := Lib.hid (And.intro k0 (And.intro k1 (And.intro k2 (And.intro kb ks))))
      have hsw : w.heap.size + 1 < wr.heap.size := by omega
      have hsw2 : w.heap.size + 1 + 1 < wr.heap.size := by omega
      clear h1 h2 h3 hB hsz m0 m2 k0 k1 k2 kb ks hnl
      go_wp2
      go_roundw
      case rel =>
        obtain ⟨h1, h2, h3, hB, hsz⟩ := H.out
        refine ⟨k + 1, by omega, by go_num, ?_, ?_, ?_, hB.setCell (by simp) _, by simp [World.setCell]; exact hsz⟩
        · rw [set_blk h1, ← negs_set hlt, flatI_set]
          congr 2
          simp
        · rw [Below.heap_setCell _ _ _ _ (by simp)]; exact h2
        · rw [Below.heap_setCell _ _ _ _ (by simp)]; exact h3
      case measure => simp [intOf]; omega
    · have : k = g.objs.length := by omega
      subst this
      rw [negs_full] at h1
      obtain ⟨xs, hxs⟩ := exists_bd g.objs.length (tgts g.roots) (fun x hx => by have := Hok.out.roots x hx; exact ⟨this.1, by omega⟩)
      have H := Lib.hid (And.intro h1 (And.intro m0 (And.intro m2 (And.intro hB hsz))))
      have g0 := cell_blk (j := 0) m0 rfl
      have g1 := cell_blk (j := 1) m0 rfl
      have hsw : w.heap.size < wr.heap.size := by omega
      clear k0 k1 k2 kb ks h2 h3 hlt h1 m0 m2 hB hsz c2
      go_wp2_with (go_at_call 113; refine (targets_any _ _ g.roots (Hr.out.later (later_below (((H.out.2.2.2.1.alloc (by omega) _).alloc (by simp; omega) _))))).mono ?_; rintro e w3 ⟨rfl, rfl⟩)
      have hz := H.out.2.2.2.2
      rw [hz]
      clear g0 g1
      generalize hw2 : ((wr.alloc (.cells #[.slice none 0 0] 39)).alloc (.cells #[.func (.func 125) #[] #[.pointer (some ⟨w.heap.size + 1 + 1, 0, none⟩), .pointer (some ⟨w.heap.size + 3, 0, none⟩)]] 187)).alloc (.cells #[.slice A g.roots.length c] 25) = W0
      have a0 : W0.heap[w.heap.size]? = some (.cells #[.slice Ao g.objs.length co, .slice A g.roots.length c] 27 (0, 0)) := by rw [← hw2]; exact blk_alloc (blk_alloc (blk_alloc H.out.2.1))
      have a1 : W0.heap[w.heap.size + 3 + 1]? = some (.cells #[.func (.func 125) #[] #[.pointer (some ⟨w.heap.size + 1 + 1, 0, none⟩), .pointer (some ⟨w.heap.size + 3, 0, none⟩)]] 187 (0, 0)) := by rw [← hw2]; exact blk_alloc (at_new _ _ _ (by simp [hz]))
      have a2 : W0.heap[w.heap.size + 3 + 1 + 1]? = some (.cells #[.slice A g.roots.length c] 25 (0, 0)) := by rw [← hw2]; exact at_new _ _ _ (by simp [hz])
      have aS : FSt w.heap.size (w.heap.size + 1 + 1) (w.heap.size + 1) (w.heap.size + 3) (.slice none 0 0) W0 g.objs.length (List.replicate g.objs.length (-1), []) := by
        refine ⟨by rw [← hw2]; exact blk_alloc (blk_alloc (blk_alloc H.out.2.2.1)), by rw [← hw2]; exact blk_alloc (blk_alloc (blk_alloc H.out.1)), by rw [← hw2]; exact blk_alloc (blk_alloc (at_new _ _ _ hz.symm)), OwnI.nil _ _, by simp [Value.ownBlock], by simp, by omega, by omega⟩
      have aB : Below w.heap.size w W0 := by rw [← hw2]; exact (((H.out.2.2.2.1.alloc (by omega) _).alloc (by simp; omega) _).alloc (by simp; omega) _)
      have asz : W0.heap.size = w.heap.size + 6 := by rw [← hw2]; simp [hz]
      have hHr := Hr.out.later (later_below aB)
      clear hw2 H hz hsw
      refine range_wp' rfl eg143 (targets_iterK 8 g.objs.length (w.heap.size + 3 + 1 + 1) (.slice A g.roots.length c) g.roots W0 xs hxs (cell_blk a2 rfl) hHr (fun k => k = w.heap.size + 3 + 1 + 1 ∨ k < w.heap.size) (.inl rfl) (fun b off n c e hne => .inr ?hv1) ?hv2) ?hv2' (fun _ => rfl)
        (fun pre W => ∃ lv, FSt w.heap.size (w.heap.size + 1 + 1) (w.heap.size + 1) (w.heap.size + 3) lv W g.objs.length (takeAll (pre.map (·.1)) 0 (List.replicate g.objs.length (-1), [])) ∧ Fr (FP (w.heap.size + 1) (w.heap.size + 3) (.slice none 0 0)) W0 (FP (w.heap.size + 1) (w.heap.size + 3) lv) W)
        (fun _ _ _ => False)
        (fun s W W' h hn => ?noise)
        (fun c s W W' h hn => h)
        ⟨_, aS, Fr.refl _ _⟩
        (fun x b => [(28, .int .i64 x.1), (8, .int .i64 x.1)])
        (fun x b W => True)
        (fun x b W W' h hn => trivial) ?assign ?body ?done ?stop
      case hv1 =>
        injection e with e _ _
        subst e
        obtain ⟨b', off', e', h1, _⟩ := Hcr.out 0 (by rcases hr : g.roots with _ | _ <;> simp [hr] at hne ⊢)
        injection e' with e'; injection e' with e1 e2
        subst e1
        exact World.block_lt_of_cell? _ _ h1
      case hv2 => rintro k (rfl | h) <;> omega
      case hv2' => rintro k (rfl | h) <;> omega
      case noise =>
        obtain ⟨lv, h1, h2⟩ := h
        exact ⟨lv, h1.noise hn, h2.noise hn⟩
      case assign =>
        intro l pre x W K hi hK
        gi_wp2
        exact hK 0 W (KeepsFrom.refl _ _) (SameP.refl _ _) hi trivial
      case stop => rintro D c pre W hD hpre h; exact h.elim
      case body =>
        rintro l pre ⟨x, hx0, hx1⟩ b W ⟨lv, h1, h2⟩ _ hlen
        obtain ⟨i, rfl⟩ := Int.eq_ofNat_of_zero_le hx0
        have b1 := cell_blk (j := 0) (h2.blk a1 (by rintro (h | h | h) <;> first | omega | (simp [Value.ownBlock] at h))) rfl
        simp only [setS, List.foldl_cons, List.foldl_nil]
        have hfi := (takeAll_fi (n := g.objs.length) (B := 0) (d := 0) (by simp) (pre.map (·.1)) _ (FI.start _) (fun y hy => by obtain ⟨z, _, rfl⟩ := List.mem_map.1 hy; exact z.2)).1
        have hll := hfi.le_len
        have hi : i < g.objs.length := by omega
        have H12 := Lib.hid (And.intro h1 (And.intro h2 (And.intro hfi hll)))
        have hs12 := h2.size
        clear h1 h2 hfi hll
        gi_wp2_with (refine ⟨trivial, ?_⟩; gi_at_call 125; refine (callsIn_round (take_any w.heap.size (w.heap.size + 1 + 1) (w.heap.size + 1) (w.heap.size + 3) g.objs.length lv W _ H12.out.1 (by omega) i hi 0 (by have := H12.out.2.2.2; omega))).mono ?_; rintro e W2 ⟨rfl, lv', h3, h4⟩)
        refine ⟨H12.out.1.from h4 _, ?_, lv', by rw [List.map_append, List.map_cons, List.map_nil, takeAll_snoc]; exact h3, H12.out.2.1.trans h4⟩
        rintro k (rfl | hk)
        · refine (h4.keep _ (by omega) ?_).2
          exact H12.out.2.1.out a2 (by rintro (h | h | h) <;> first | omega | (simp [Value.ownBlock] at h))
        · refine (h4.keep _ (by omega) ?_).2
          intro hp
          have := (H12.out.1.cells hp).1
          omega
      case done =>
        rintro D W hD ⟨lv, h1, h2⟩ hkD
        rw [hxs] at h1
        have H12 := Lib.hid (And.intro h1 (And.intro h2 hkD))
        have hs12 := h2.size
        clear h1 h2 hkD
        go_wp2
        refine wp_loop (fun a Wc => ∃ (k tb : Nat) (Ds : List Nat) (lv : Value) (u32 u33 u34 u35 u36 u37 u38 u39 u40 u41 u42 u43 u44 u45 u46 u47 u60 : Value), a = { tmps := #[.agg #[.slice Ao g.objs.length co, .slice A g.roots.length c], .pointer (some ⟨w.heap.size, 0, none⟩), .slice none 0 0, .slice none 0 0, .pointer (some ⟨w.heap.size + 1 + 1, 0, none⟩), u5, .pointer (some ⟨w.heap.size + 3, 0, none⟩), .pointer (some ⟨w.heap.size + 3 + 1, 0, none⟩), undef, .pointer (some ⟨tb, 0, none⟩), undef, .pointer (some ⟨w.heap.size, 0, none⟩), .slice Ao g.objs.length co, .int .i64 g.objs.length, .slice (some ⟨w.heap.size + 1, 0, none⟩) g.objs.length g.objs.length, .slice (some ⟨w.heap.size + 1, 0, none⟩) g.objs.length g.objs.length, .int .i64 g.objs.length, .int .i64 g.objs.length, .bool false, u19, u20, u21, u22, u23, .func (.func 125) #[] #[.pointer (some ⟨w.heap.size + 1 + 1, 0, none⟩), .pointer (some ⟨w.heap.size + 3, 0, none⟩)], .pointer (some ⟨w.heap.size, 1, none⟩), .slice A g.roots.length c, .func (.func 143) #[] #[.pointer (some ⟨w.heap.size + 3 + 1 + 1, 0, none⟩)], undef, undef, undef, undef, u32, u33, u34, u35, u36, u37, u38, u39, u40, u41, u42, u43, u44, u45, u46, u47, undef, undef, undef, undef, undef, undef, undef, undef, undef, undef, undef, undef, u60, undef, undef], defers := Ds.map fun D => { target := .collected D, args := #[] } } ∧
          FSt w.heap.size (w.heap.size + 1 + 1) (w.heap.size + 1) (w.heap.size + 3) lv Wc g.objs.length (iterF g k) ∧ k ≤ (iterF g k).2.length ∧ Wc.heap[tb]? = some (.cells #[.int .i64 k] 3 (0, 0)) ∧ ¬ FP (w.heap.size + 1) (w.heap.size + 3) lv tb ∧ w.heap.size + 6 ≤ tb ∧
          Wc.heap[w.heap.size]? = some (.cells #[.slice Ao g.objs.length co, .slice A g.roots.length c] 27 (0, 0)) ∧ Wc.heap[w.heap.size + 3 + 1]? = some (.cells #[.func (.func 125) #[] #[.pointer (some ⟨w.heap.size + 1 + 1, 0, none⟩), .pointer (some ⟨w.heap.size + 3, 0, none⟩)]] 187 (0, 0)) ∧ Below w.heap.size w Wc ∧ Ds.Nodup ∧ ∀ D ∈ Ds, w.heap.size ≤ D ∧ Wc.heap[D]? = some (.deferred (some [])))
          (fun a Wc => g.objs.length - kOf a Wc) ?_ ?_
        · refine ⟨0, W.heap.size, [D], lv, undef, undef, undef, undef, undef, undef, undef, undef, undef, undef, undef, undef, undef, undef, undef, undef, undef, rfl, ?_⟩
          obtain ⟨h1, h2, hkD⟩ := H12.out
          have hsz0 := lt_blk hkD
          refine ⟨(h1.below ((Below.refl _ _).alloc (Nat.le_refl _) _)), Nat.zero_le _, heap_alloc_new _ _, ?_, by omega, blk_alloc (h2.blk a0 ?_), blk_alloc (h2.blk a1 ?_), ?_, by simp, ?_⟩
          · intro hp
            obtain ⟨_, cs, t, hb⟩ := h1.cells hp
            have := lt_blk hb
            omega
          · rintro (h | h | h) <;> first | omega | (simp [Value.ownBlock] at h)
          · rintro (h | h | h) <;> first | omega | (simp [Value.ownBlock] at h)
          · exact (aB.trans (h2.toBelow (by omega) (by rintro b hb (h | h | h) <;> first | omega | (simp [Value.ownBlock] at h)))).alloc (by omega) _
          · intro D' hD'
            simp only [List.mem_singleton] at hD'
            subst hD'
            exact ⟨by omega, blk_alloc hkD⟩
        · rintro a Wc ⟨k, tb, Ds, lv2, u32, u33, u34, u35, u36, u37, u38, u39, u40, u41, u42, u43, u44, u45, u46, u47, u60, rfl, i1, i2, i3, i4, i5, i6, i7, i8, i9, i10⟩
          have H := Lib.hid (And.intro i1 (And.intro i4 (And.intro i6 (And.intro i7 (And.intro i8 (And.intro i9 i10))))))
          have HT := Lib.hid i3
          have hfi := iterF_fi Hok.out k
          have hll := hfi.le_len
          have cb := cell_blk (j := 0) i3 rfl
          have cl := cell_blk (j := 0) i1.l rfl
          have cd := cell_blk (j := 0) i1.d rfl
          have cg := cell_blk (j := 0) i6 rfl
          obtain ⟨Al, cpl, rfl, hml, hcl⟩ := id i1.o.rd
          have hsz := i8.size
          by_cases hlt : k < (iterF g k).2.length
          · have d0 : decide (k < (iterF g k).2.length) = true := by simpa using hlt
            obtain ⟨x, hx, ex, hpos⟩ := hfi.at hlt
            have hle := hfi.le x hx
            have ex0 : Hid ((iterF g k).2[k]? = some (x : Int)) := by show _ = _; rw [List.getElem?_eq_getElem hlt, ← ex]; simp [hlt]
            obtain ⟨b2, o2, rfl, hck⟩ := hcl k hlt
            have ex2 : (iterF g k).2[k] = (x : Int) := by rw [← ex]; simp [hlt]
            rw [ex2] at hck
            obtain ⟨Ax, cx, ea, _, hrd⟩ := Ho.out
            injection ea with ea1 ea2 ea3
            subst ea1 ea3
            obtain ⟨bo, oo, fv, rfl, hfc, hfr⟩ := hrd x hx
            have hfc' := later_below i8 _ _ hfc
            have hfr' := hfr.later (later_below i8)
            have hgo := Hok.out.at x
            have egd : g.objs.getD x [] = g.objs[x] := by simp [hx]
            rw [egd] at hgo
            have hit : iterF g (k + 1) = takeAll (tgts g.objs[x]) ((iterF g k).1.getD x 0 + 1) (iterF g k) := by
              show stepF g.objs k (iterF g k) = _
              unfold stepF
              rw [if_pos hlt, ex, Int.toNat_natCast, egd]
            generalize g.objs[x] = fs at hfr' hgo hit hfr
            obtain ⟨Af, cf, rfl, hmf, hcf⟩ := id hfr
            obtain ⟨dx, hdx⟩ : ∃ dx : Int, (iterF g k).1.getD x 0 = dx := ⟨_, rfl⟩
            rw [hdx] at hpos hle hit
            have HX := Lib.hid (And.intro hfi (And.intro hit (And.intro hdx (And.intro hgo (And.intro hfr' hfr)))))
            have Hcf := Lib.hid hcf
            have hx2 : (x : Int) < (g.objs.length : Int) := by omega
            have hk2 : (k : Int) < ((iterF g k).2.length : Int) := by omega
            clear i1 i3 i4 i6 i7 i8 i9 i10 hfi hcl hrd hfc hfr hfr' hgo hit hdx ex ex2 egd ea2 hcf
            have n1 := World.new_ne _ _ cb
            have n2 := World.new_ne _ _ cl
            have n3 := World.new_ne _ _ cg
            have n4 := World.new_ne _ _ hck
            have n5 := World.new_ne _ _ hfc'
            go_wp2
            go_region_held3 (fun W' => W'.cell? ⟨w.heap.size, 0, none⟩ = some (.slice (some ⟨bo, oo, none⟩) g.objs.length co) ∧ W'.cell? ⟨w.heap.size + 3, 0, none⟩ = some (.slice (some ⟨b2, o2, none⟩) (iterF g k).2.length cpl) ∧ W'.cell? ⟨tb, 0, none⟩ = some (.int .i64 k) ∧ W'.cell? ⟨b2, o2 + k, none⟩ = some (.int .i64 x) ∧ W'.cell? ⟨bo, oo + x, none⟩ = some (.slice Af fs.length cf)) (go_keep)
              (first | (go_at_call 113; refine (targets_any _ _ fs (HX.out.2.2.2.2.1.later (later_below (Below.refl _ _).drew))).mono ?_; rintro e w3 ⟨rfl, rfl⟩))
            go_wp2
            have hWc : Wc.heap.size < ((Wc.alloc (.cells #[.slice Af fs.length cf] 25)).drew).heap.size := by simp
            obtain ⟨xs2, hxs2⟩ := exists_bd g.objs.length (tgts fs) (fun y hy => by have := HX.out.2.2.2.1 y hy; exact ⟨this.1, by omega⟩)
            have e1 : ((Wc.alloc (.cells #[.slice Af fs.length cf] 25)).drew).heap[Wc.heap.size]? = some (.cells #[.slice Af fs.length cf] 25 (0, 0)) := blk_drew (heap_alloc_new _ _)
            have e2 := blk_drew (blk_alloc (x := .cells #[.slice Af fs.length cf] 25) H.out.2.2.1)
            have e3 := blk_drew (blk_alloc (x := .cells #[.slice Af fs.length cf] 25) H.out.2.2.2.1)
            have e4 := blk_drew (blk_alloc (x := .cells #[.slice Af fs.length cf] 25) HT.out)
            have e5 : Below Wc.heap.size Wc ((Wc.alloc (.cells #[.slice Af fs.length cf] 25)).drew) := ((Below.refl _ _).alloc (Nat.le_refl _) _).drew
            have e6 := H.out.1.below e5
            have e7 := H.out.2.2.2.2.1.trans (e5.mono hsz)
            have e8 := HX.out.2.2.2.2.1.later (later_below e5)
            have e9 : ∀ D ∈ Ds, w.heap.size ≤ D ∧ ((Wc.alloc (.cells #[.slice Af fs.length cf] 25)).drew).heap[D]? = some (.deferred (some [])) := fun D hD => ⟨(H.out.2.2.2.2.2.2 D hD).1, blk_drew (blk_alloc (H.out.2.2.2.2.2.2 D hD).2)⟩
            have e10 : ((Wc.alloc (.cells #[.slice Af fs.length cf] 25)).drew).heap.size = Wc.heap.size + 1 := by simp
            generalize (Wc.alloc (.cells #[.slice Af fs.length cf] 25)).drew = W3 at *
            have HE := Lib.hid (And.intro e1 (And.intro e2 (And.intro e3 (And.intro e4 (And.intro e6 (And.intro e7 e9))))))
            clear e2 e3 e4 e5 e6 e9 n1 n2 n3 n4 n5 hfc' hck cb cl cg cd
            refine range_wp' rfl eg143 (targets_iterK 8 g.objs.length Wc.heap.size (.slice Af fs.length cf) fs W3 xs2 hxs2 (cell_blk e1 rfl) e8 (fun k' => k' = Wc.heap.size ∨ k' < w.heap.size) (.inl rfl) (fun b off n c e hne => .inr ?hv3) ?hv4) ?hv4' (fun _ => rfl)
              (fun pre W => ∃ lv', FSt w.heap.size (w.heap.size + 1 + 1) (w.heap.size + 1) (w.heap.size + 3) lv' W g.objs.length (takeAll (pre.map (·.1)) (dx + 1) (iterF g k)) ∧ Fr (FP (w.heap.size + 1) (w.heap.size + 3) (.slice (some ⟨b2, o2, none⟩) (iterF g k).2.length cpl)) W3 (FP (w.heap.size + 1) (w.heap.size + 3) lv') W)
              (fun _ _ _ => False)
              (fun s W W' h hn => ?noise2)
              (fun c s W W' h hn => h)
              ⟨_, HE.out.2.2.2.2.1, Fr.refl _ _⟩
              (fun x b => [(48, .int .i64 x.1), (10, .int .i64 x.1)])
              (fun x b W => True)
              (fun x b W W' h hn => trivial) ?assign2 ?body2 ?done2 ?stop2
            case hv3 =>
              injection e with e _ _
              subst e
              obtain ⟨b', off', e', h1, _⟩ := Hcf.out 0 (by rcases fs with _ | _ <;> simp at hne ⊢)
              injection e' with e'; injection e' with e1 e2
              subst e1
              exact World.block_lt_of_cell? _ _ h1
            case hv4 => rintro k' (rfl | h) <;> omega
            case hv4' => rintro k' (rfl | h) <;> omega
            case noise2 =>
              obtain ⟨lv', h1, h2⟩ := h
              exact ⟨lv', h1.noise hn, h2.noise hn⟩
            case assign2 =>
              intro l pre x W K hi hK
              gi_wp2
              exact hK 0 W (KeepsFrom.refl _ _) (SameP.refl _ _) hi trivial
            case stop2 => rintro D c pre W hD hpre h; exact h.elim
            case done2 =>
              rintro D2 W5 hD2 ⟨lv5, h1, h2⟩ hkD
              rw [hxs2, ← HX.out.2.1] at h1
              have t5 := h2.blk HE.out.2.2.2.1 H.out.2.1
              have t6 := cell_blk (j := 0) t5 rfl
              have hs5 := h2.size
              have hl5 := lt_blk t5
              have H5 := Lib.hid (And.intro h1 (And.intro h2 hkD))
              clear h1 h2 hkD
              go_wp2
              obtain ⟨h1, h2, hkD⟩ := H5.out
              have hD2l := lt_blk hkD
              have hfx := (stepF_fi Hok.out HX.out.1).2
              obtain ⟨ee, hee⟩ := hfx.pre
              have hlen1 : k + 1 ≤ (iterF g (k + 1)).2.length := by show k + 1 ≤ (stepF g.objs k (iterF g k)).2.length; rw [hee, List.length_append]; omega
              have hDs : ∀ D ∈ Ds, ¬ FP (w.heap.size + 1) (w.heap.size + 3) (.slice (some ⟨b2, o2, none⟩) (iterF g k).2.length cpl) D := fun D hD hp => by
                obtain ⟨_, cs, t, hb⟩ := HE.out.2.2.2.2.1.cells hp
                rw [(HE.out.2.2.2.2.2.2 D hD).2] at hb
                cases hb
              have hoff0 : ¬ FP (w.heap.size + 1) (w.heap.size + 3) (.slice (some ⟨b2, o2, none⟩) (iterF g k).2.length cpl) w.heap.size := by
                intro hp
                rcases HE.out.2.2.2.2.1.cells hp with ⟨_, cs, t, hb⟩
                rcases hp with hp | hp | hp
                · omega
                · omega
                · obtain ⟨_, c3, h3⟩ := own_blk HE.out.2.2.2.2.1.o hp
                  exact type_ne h3 HE.out.2.1 (by decide) rfl
              have hoff1 : ¬ FP (w.heap.size + 1) (w.heap.size + 3) (.slice (some ⟨b2, o2, none⟩) (iterF g k).2.length cpl) (w.heap.size + 3 + 1) := by
                intro hp
                rcases hp with hp | hp | hp
                · omega
                · omega
                · obtain ⟨_, c3, h3⟩ := own_blk HE.out.2.2.2.2.1.o hp
                  exact type_ne h3 HE.out.2.2.1 (by decide) rfl
              refine ⟨⟨k + 1, W5.heap.size, D2 :: Ds, lv5, _, _, _, _, _, _, _, _, _, _, _, _, _, _, _, _, _, rfl, (h1.below ((Below.refl _ _).alloc (Nat.le_refl _) _)), hlen1, by simpa using heap_alloc_new W5 _, ?_, by omega, blk_alloc (h2.blk HE.out.2.1 hoff0), blk_alloc (h2.blk HE.out.2.2.1 hoff1), ?_, ?_, ?_⟩, ?_⟩
              · intro hp
                obtain ⟨_, cs, t, hb⟩ := h1.cells hp
                have := lt_blk hb
                omega
              · exact (HE.out.2.2.2.2.2.1.trans (h2.toBelow (by omega) (fun b hb hp => by have := (HE.out.2.2.2.2.1.cells hp).1; omega))).alloc (by omega) _
              · refine List.nodup_cons.2 ⟨fun hm => ?_, H.out.2.2.2.2.2.1⟩
                have := lt_blk (HE.out.2.2.2.2.2.2 D2 hm).2
                omega
              · intro D hD
                rcases List.mem_cons.1 hD with rfl | hD
                · exact ⟨by omega, blk_alloc hkD⟩
                · exact ⟨(HE.out.2.2.2.2.2.2 D hD).1, blk_alloc (h2.blk (HE.out.2.2.2.2.2.2 D hD).2 (hDs D hD))⟩
              · have m1 : kOf { tmps := #[.nilFunc, .nilFunc, .nilFunc, .nilFunc, .nilFunc, .nilFunc, .nilFunc, .nilFunc, .nilFunc, .pointer (some ⟨tb, 0, none⟩)], defers := [] } Wc = k := by
                  simp [kOf, cell_blk (j := 0) HT.out rfl]
                have m2 : kOf { tmps := #[.nilFunc, .nilFunc, .nilFunc, .nilFunc, .nilFunc, .nilFunc, .nilFunc, .nilFunc, .nilFunc, .pointer (some ⟨W5.heap.size, 0, none⟩)], defers := [] } (W5.alloc (.cells #[.int .i64 ((k : Int) + 1)] 3)) = k + 1 := by
                  have := cell_blk (j := 0) (heap_alloc_new W5 (.cells #[.int .i64 ((k : Int) + 1)] 3)) rfl
                  simp [kOf, this]
                show g.objs.length - kOf { tmps := #[.nilFunc, .nilFunc, .nilFunc, .nilFunc, .nilFunc, .nilFunc, .nilFunc, .nilFunc, .nilFunc, .pointer (some ⟨W5.heap.size, 0, none⟩)], defers := [] } (W5.alloc (.cells #[.int .i64 ((k : Int) + 1)] 3)) < g.objs.length - kOf { tmps := #[.nilFunc, .nilFunc, .nilFunc, .nilFunc, .nilFunc, .nilFunc, .nilFunc, .nilFunc, .nilFunc, .pointer (some ⟨tb, 0, none⟩)], defers := [] } Wc
                rw [m1, m2]
                omega
            case body2 =>
              rintro l pre ⟨y, hy0, hy1⟩ b W5 ⟨lv5, h1, h2⟩ _ hlen
              have htbl := lt_blk HT.out
              have hwr : IntKind.i64.wrap (dx + 1) = dx + 1 := by rw [IntKind.wrap_i64]; omega
              obtain ⟨j, rfl⟩ := Int.eq_ofNat_of_zero_le hy0
              have hj : j < g.objs.length := by omega
              obtain ⟨hf5, hx5⟩ := takeAll_fi (n := g.objs.length) (B := k + 1) (d := dx + 1) (by omega) (pre.map (·.1)) _ (HX.out.1.mono (by omega)) (fun y hy => by obtain ⟨z, _, rfl⟩ := List.mem_map.1 hy; exact z.2)
              have hl5 := hf5.le_len
              obtain ⟨ee, hee⟩ := hx5.pre
              have hk5 : k < (takeAll (pre.map (·.1)) (dx + 1) (iterF g k)).2.length := by rw [hee, List.length_append]; omega
              have hxk : (takeAll (pre.map (·.1)) (dx + 1) (iterF g k)).2[k] = (x : Int) := by
                have hq := ex0.out
                have h9 : (takeAll (pre.map (·.1)) (dx + 1) (iterF g k)).2[k]? = some (x : Int) := by rw [hee, List.getElem?_append_left hlt]; exact hq
                exact (List.getElem?_eq_some_iff.1 h9).2
              have hdx5 : (takeAll (pre.map (·.1)) (dx + 1) (iterF g k)).1.getD x 0 = dx := by
                rcases hx5.keep x (by rw [HX.out.2.2.1]; exact hpos) with h9 | h9
                · rw [HX.out.1.len] at h9; omega
                · rw [h9]; exact HX.out.2.2.1
              have hc5 := h1.cell hx
              rw [hdx5] at hc5
              have hcd := cell_blk (j := 0) h1.d rfl
              have hcl := cell_blk (j := 0) h1.l rfl
              obtain ⟨A5, cp5, rfl, hm5, hr5⟩ := id h1.o.rd
              obtain ⟨b5, o5, rfl, hck5⟩ := hr5 k hk5
              rw [hxk] at hck5
              have hoffc : ¬ FP (w.heap.size + 1) (w.heap.size + 3) (.slice (some ⟨b2, o2, none⟩) (iterF g k).2.length cpl) (w.heap.size + 3 + 1) := by
                intro hp
                rcases hp with hp | hp | hp
                · omega
                · omega
                · obtain ⟨_, c3, h3⟩ := own_blk HE.out.2.2.2.2.1.o hp
                  exact type_ne h3 HE.out.2.2.1 (by decide) rfl
              have hbc := h2.blk HE.out.2.2.1 hoffc
              have hbt := h2.blk HE.out.2.2.2.1 H.out.2.1
              have hcc := cell_blk (j := 0) hbc rfl
              have hct := cell_blk (j := 0) hbt rfl
              have hoc := h2.out HE.out.2.2.1 hoffc
              have hot := h2.out HE.out.2.2.2.1 H.out.2.1
              have hoi := h2.out e1 (fun hp => by
                rcases hp with hp | hp | hp
                · omega
                · omega
                · obtain ⟨_, c3, h3⟩ := own_blk HE.out.2.2.2.2.1.o hp
                  exact type_ne h3 e1 (by decide) rfl)
              have hk2' : (k : Int) < ((takeAll (pre.map (·.1)) (dx + 1) (iterF g k)).2.length : Int) := by omega
              have hs35 := h2.size
              have hli := lt_blk (h2.blk e1 (fun hp => by
                rcases hp with hp | hp | hp
                · omega
                · omega
                · obtain ⟨_, c3, h3⟩ := own_blk HE.out.2.2.2.2.1.o hp
                  exact type_ne h3 e1 (by decide) rfl))
              have HB := Lib.hid (And.intro h1 (And.intro h2 (And.intro hoc (And.intro hot (And.intro hoi (And.intro hbc hbt))))))
              generalize hs5 : takeAll (pre.map (·.1)) (dx + 1) (iterF g k) = s5 at *
              have Hs5 := Lib.hid hs5
              clear h1 h2 hf5 hx5 hee hxk hdx5 hr5 hm5 hbc hbt hoc hot hoi hs5
              simp only [setS, List.foldl_cons, List.foldl_nil]
              refine wpIn_block (region_round (fun W' => W'.cell? ⟨w.heap.size + 3 + 1, 0, none⟩ = some (.func (.func 125) #[] #[.pointer (some ⟨w.heap.size + 1 + 1, 0, none⟩), .pointer (some ⟨w.heap.size + 3, 0, none⟩)]) ∧ W'.cell? ⟨w.heap.size + 1 + 1, 0, none⟩ = some (.slice (some ⟨w.heap.size + 1, 0, none⟩) g.objs.length g.objs.length) ∧ W'.cell? ⟨tb, 0, none⟩ = some (.int .i64 k)) (by kernel_rfl) (by rintro ⟨a, w, h⟩; exact h) ?_)
              have hS : W5.drew.cell? ⟨w.heap.size + 3 + 1, 0, none⟩ = some (.func (.func 125) #[] #[.pointer (some ⟨w.heap.size + 1 + 1, 0, none⟩), .pointer (some ⟨w.heap.size + 3, 0, none⟩)]) ∧ W5.drew.cell? ⟨w.heap.size + 1 + 1, 0, none⟩ = some (.slice (some ⟨w.heap.size + 1, 0, none⟩) g.objs.length g.objs.length) ∧ W5.drew.cell? ⟨tb, 0, none⟩ = some (.int .i64 k) := ⟨hcc, hcd, hct⟩
              show wpAnyH Try.prog .any _ _ _ 11 (Array.replicate 11 false) _ _
              refine wpAnyH_take (i := 0) (v := .func (.func 125) #[] #[.pointer (some ⟨w.heap.size + 1 + 1, 0, none⟩), .pointer (some ⟨w.heap.size + 3, 0, none⟩)]) rfl (by kernel_rfl) (by kernel_rfl) (by kernel_rfl) (fun _ _ _ h => h) (Or.inl ⟨by rfl, fun W' hS' => ?_⟩) hS ?_
              · obtain ⟨s1, s2, s3⟩ := hS'; go_simp
              refine wpAnyH_take (i := 1) (v := .int .i64 (j : Int)) rfl (by kernel_rfl) (by kernel_rfl) (by kernel_rfl) (fun _ _ _ h => h) (Or.inl ⟨by rfl, fun W' hS' => ?_⟩) hS ?_
              · obtain ⟨s1, s2, s3⟩ := hS'; go_simp
              refine wpAnyH_take (i := 2) (v := .slice (some ⟨w.heap.size + 1, 0, none⟩) g.objs.length g.objs.length) rfl (by kernel_rfl) (by kernel_rfl) (by kernel_rfl) (fun _ _ _ h => h) (Or.inl ⟨by rfl, fun W' hS' => ?_⟩) hS ?_
              · obtain ⟨s1, s2, s3⟩ := hS'; go_simp
              refine wpAnyH_take (i := 4) (v := .int .i64 (k : Int)) rfl (by kernel_rfl) (by kernel_rfl) (by kernel_rfl) (fun _ _ _ h => h) (Or.inl ⟨by rfl, fun W' hS' => ?_⟩) hS ?_
              · obtain ⟨s1, s2, s3⟩ := hS'; go_simp
              refine anyH_value (i := 3) (v := .slice (some ⟨b5, o5, none⟩) s5.2.length cp5) (by kernel_rfl) rfl (by rfl) ?_ hS ?_
              · go_simp
              refine anyH_value (i := 5) (v := .pointer (some ⟨b5, o5 + k, none⟩)) (by kernel_rfl) rfl (by rfl) ?_ hS ?_
              · go_simp
              refine anyH_value (i := 6) (v := .int .i64 (x : Int)) (by kernel_rfl) rfl (by rfl) ?_ hS ?_
              · go_simp
              refine anyH_value (i := 7) (v := .pointer (some ⟨w.heap.size + 1, x, none⟩)) (by kernel_rfl) rfl (by rfl) ?_ hS ?_
              · go_simp
              refine anyH_value (i := 8) (v := .int .i64 dx) (by kernel_rfl) rfl (by rfl) ?_ hS ?_
              · go_simp
              refine anyH_value (i := 9) (v := .int .i64 (dx + 1)) (by kernel_rfl) rfl (by rfl) ?_ hS ?_
              · go_simp
              refine anyH_call (i := 10) (f := 125) (args := #[.int .i64 (j : Int), .int .i64 (dx + 1), .pointer (some ⟨w.heap.size + 1 + 1, 0, none⟩), .pointer (some ⟨w.heap.size + 3, 0, none⟩)]) (by kernel_rfl) rfl (by rfl) ?_ (take_any w.heap.size (w.heap.size + 1 + 1) (w.heap.size + 1) (w.heap.size + 3) g.objs.length _ W5.drew s5 (HB.out.1.below (Below.refl _ _).drew) (by show w.heap.size ≤ W5.heap.size; omega) j hj (dx + 1) (by omega)) ?_
              · go_simp
              rintro e W6 ⟨rfl, lv6, h3, h4⟩
              have h5 := h4.blk (show W5.drew.heap[_]? = _ from HB.out.2.2.2.2.2.1) HB.out.2.2.1
              have h6 := h4.blk (show W5.drew.heap[_]? = _ from HB.out.2.2.2.2.2.2) HB.out.2.2.2.1
              refine ⟨_, rfl, ⟨cell_blk (j := 0) h5 rfl, cell_blk (j := 0) h3.d rfl, cell_blk (j := 0) h6 rfl⟩, wpAnyH_done (by kernel_rfl) ?_ _⟩
              have h4' : Fr (FP (w.heap.size + 1) (w.heap.size + 3) (.slice (some ⟨b5, o5, none⟩) s5.2.length cp5)) W5 (FP (w.heap.size + 1) (w.heap.size + 3) lv6) W6 := (Fr.refl _ W5).drew.trans h4
              refine ⟨HB.out.1.from h4' _, ?_, lv6, by rw [List.map_append, List.map_cons, List.map_nil, takeAll_snoc, Hs5.out]; exact h3, HB.out.2.1.trans h4'⟩
              rintro k' (rfl | hk')
              · exact (h4'.keep _ hli HB.out.2.2.2.2.1).2
              · refine (h4'.keep _ (by omega) ?_).2
                intro hp
                have := (HB.out.1.cells hp).1
                omega
          · have d0 : decide (k < (iterF g k).2.length) = false := by simpa using hlt
            clear i1 i3 i4 i6 i7 i8 i9 i10 hcl hml cg
            go_wp2
            go_quiet (fail)
            go_wp2
            refine leaves_marks (B := w.heap.size) Ds _ H.out.2.2.2.2.2.1 (fun D hD => H.out.2.2.2.2.2.2 D hD) ?_
            intro W' hn
            have hfl : foundL g = (iterF g k).2 := foundL_of Hok.out (by omega) (by omega)
            refine ⟨.tuple #[.slice Al (iterF g k).2.length cpl, .slice (some ⟨w.heap.size + 1, 0, none⟩) g.objs.length g.objs.length], by simp [results, Try.results90, go_sem], _, _, rfl, ?_, ?_⟩
            · rw [hfl]; exact hn.ownI (show OwnI (Wc.drewN _) _ _ _ from H.out.1.o)
            · exact hn.below (below_drewN H.out.2.2.2.2.1 _) (Nat.le_refl _) (Nat.le_refl _)

end Go.Proofs.Yteghhajfkdbcdaa
