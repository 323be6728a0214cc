/- heap.Objects: There; heap.First, heap.Of. -/
import Derived.Test.YteghhajfkdbcdaaHob
namespace Go.Proofs.Yteghhajfkdbcdaa
open Go.RowKit
set_option linter.unusedVariables false
set_option linter.unusedSimpArgs false

/-- Is the object of a number there? -/
def isAt (os : List (Option (List Vl))) (i : Nat) : Bool := (os.getD i none).isSome
/-- The numbers below k of what is there. -/
def thr (os : List (Option (List Vl))) (k : Nat) : List Int := ((List.range k).filter (fun i => isAt os i)).map (fun i : Nat => (i : Int))
theorem thr_succ (os : List (Option (List Vl))) (k : Nat) : thr os (k + 1) = thr os k ++ (if isAt os k then [(k : Int)] else []) := by
  unfold thr
  rw [List.range_succ, List.filter_append, List.map_append]
  cases h : isAt os k <;> simp [h]
theorem thr_len (os : List (Option (List Vl))) (k : Nat) : (thr os k).length ≤ k := by
  unfold thr
  have := List.length_filter_le (fun i => isAt os i) (List.range k)
  simpa using this
theorem obs_get {L : List (Option Ob)} {k : Nat} {e : Option Ob} (h : L[k]? = some e) : (obs L).getD k none = e.map Ob.fs := by simp [obs, h]
theorem obs_len (L : List (Option Ob)) : (obs L).length = L.length := by simp [obs]

set_option maxRecDepth 20000 in
set_option maxHeartbeats 1000000 in
/-- There -/
theorem there_of (W : World) (base : Nat) (ov : Value) (L : List (Option Ob)) (h : HObj W base ov L) (hL : L.length ≤ 1000000) :
    Calls Try.prog 64 #[ov] W fun e w' => ∃ v', e = .returned v' ∧ OwnI w' W.heap.size v' (thr (obs L) L.length) ∧ Below W.heap.size W w' := by
  obtain ⟨A, cap, rfl, hlen⟩ := h.len
  have Hh := Lib.hid h
  clear h
  go_enter Try.func64, Try.ntmps64
  go_wp2
  go_loopw [3, 8] (fun l i wr => ∃ k : Nat, k ≤ L.length ∧ i = .int .i64 k ∧ OwnI wr W.heap.size l (thr (obs L) k) ∧ Below W.heap.size W wr) (fun _ i _ => L.length - (intOf i).toNat)
  case atStart => exact ⟨0, Nat.zero_le _, rfl, OwnI.nil _ _, Below.refl _ _⟩
  case round =>
    obtain ⟨k, hk, rfl, ho, hB⟩ := hrel
    by_cases hlt : k < L.length
    · obtain ⟨e, he⟩ : ∃ e, L[k]? = some e := ⟨L[k], by simp [hlt]⟩
      obtain ⟨g, cap', cur, e1, hl, hm, hb, hc0⟩ := Hh.out.cell he
      injection e1 with e1 e2 e3
      subst e1 e3
      have hc := later_below hB _ _ hc0
      have hsn := thr_succ (obs L) k
      have hll := thr_len (obs L) k
      have hix : isAt (obs L) k = (e.map Ob.fs).isSome := by unfold isAt; rw [obs_get he]
      rw [hix] at hsn
      have Hsn := Lib.hid hsn
      have Hll := Lib.hid hll
      clear hsn hll hix he hb hc0
      cases e with
      | none =>
        simp only [Ob.ptr] at hc
        go_wp2
        go_roundw
        case rel => exact ⟨k + 1, by omega, by go_num, by rw [Hsn.out]; simpa using ho, hB⟩
        case measure => simp [intOf]; omega
      | some o =>
        simp only [Ob.ptr] at hc
        go_wp2_with (at_builtin; (refine app_i (w0 := W) W.heap.size rfl _ _ rfl _ (thr (obs L) k) (k : Int) rfl _ rfl (by rfl) ?h1 ?h2 ?h3 ?h4 ?_))
        case h3 => exact hB.size
        case h4 => have := Hll.out; omega
        intro v1 w2 hown hB2 hg hat
        go_wp2
        go_roundw
        case rel => exact ⟨k + 1, by omega, by go_num, by rw [Hsn.out]; exact hown, hB2⟩
        case measure => simp [intOf]; omega
    · go_wp2
      go_ret
      have : k = L.length := by omega
      subst this
      exact ⟨_, rfl, ho, hB⟩

theorem flatV_append (xs ys : List Vl) : flatV (xs ++ ys) = flatV xs ++ flatV ys := by simp [flatV]
theorem rd_news {w : World} {ad : Addr} {n c : Nat} {vs : List Vl} (h : RdV w (.slice (some ad) n c) vs) : n = vs.length ∧ ∀ j u, (flatV vs)[j]? = some u → w.cell? (ad.add j) = some u := by
  obtain ⟨A, c', e, hm, hc⟩ := h
  injection e with e1 e2 e3
  subst e1 e2
  refine ⟨rfl, fun j u hu => ?_⟩
  obtain ⟨i, hi, hju⟩ := flatV_get' vs j u hu
  obtain ⟨b, off, ha, h1, h2⟩ := hc i hi
  cases ha
  rcases hju with ⟨rfl, rfl⟩ | ⟨rfl, rfl⟩
  · rw [Addr.add_lit]; exact h1
  · rw [Addr.add_lit]; exact h2
theorem flatV_one (vs : List Vl) : ∀ u ∈ flatV vs, u.oneCell' = true := by
  intro u hu
  simp only [flatV, List.mem_flatMap, Vl.cells, List.mem_cons, List.mem_nil_iff, or_false] at hu
  obtain ⟨x, _, rfl | rfl⟩ := hu <;> rfl
/-- copy, of values. -/
theorem run_copyV (w : World) (ty : TypeId) (g dLen dCap : Nat) (v : Value) (vs : List Vl) (h : RdV w v vs) (hd : vs.length ≤ dLen) (cur : Array Value) (t : TypeId) (hg : w.heap[g]? = some (.cells cur t (0, 0))) (hfit : vs.length * 2 ≤ cur.size) :
    ∃ w', (Builtin.copy_ #[25, 25] ty #[.slice (some ⟨g, 0, none⟩) dLen dCap, v]).run Try.prog w = .ok (goInt vs.length) w' ∧ w'.heap[g]? = some (.cells (flatV vs ++ cur.toList.drop (vs.length * 2)).toArray t (0, 0)) ∧ w.grownBy w' (some g) := by
  obtain ⟨i0, hi, hz0, hz1, hz2⟩ := info_parts Try.info99
  obtain ⟨A, c, rfl, hm, hc⟩ := id h
  by_cases h0 : vs = []
  · subst h0
    refine ⟨w, ?_, by simpa [flatV] using hg, ⟨rfl, rfl, rfl, Nat.le_refl _, fun _ _ _ => rfl⟩⟩
    cases A <;> simp [Builtin.copy_, run_underlying Try.underlying25, Builtin.lenOf, Builtin.firstCells, sizeOf, typeInfo, hi, hz1, loadCells, loadCellsFrom, storeCells]
  · have hpos : 0 < vs.length := List.length_pos_iff.2 h0
    obtain ⟨b, off, rfl, _⟩ := hc 0 hpos
    obtain ⟨_, hnews⟩ := rd_news h
    have hl := run_loadCells_list (P := Try.prog) w ⟨b, off, none⟩ (flatV vs) hnews
    have hst := run_storeCells_at Try.prog g 0 t (flatV vs) 0 cur w hg (by simp [flatV_length]; omega) (flatV_one vs)
    have hmin : Nat.min vs.length dLen = vs.length := Nat.min_eq_left hd
    rw [flatV_length] at hl
    refine ⟨w.setRow g (flatV vs ++ cur.toList.drop (vs.length * 2)).toArray, ?_, setRow_heap w g cur _ t _ hg, ⟨rfl, rfl, rfl, by simp, fun k _ hk => setRow_other w g k _ (fun e => hk (by rw [e]))⟩⟩
    simp [Builtin.copy_, run_underlying Try.underlying25, Builtin.lenOf, Builtin.firstCells, sizeOf, typeInfo, hi, hz1, hmin, hl, hst, flatV_length]

/-- The registers of a graph's roots. -/
def regs0 (rs : List Vl) : List Vl := rs ++ zeroVs (8 - rs.length)

theorem setCells_blk (b : Nat) (t : TypeId) (fr : Nat × Nat) : ∀ (vs : List Value) (o : Nat) (w : World) (cur : Array Value), w.heap[b]? = some (.cells cur t fr) → o + vs.length ≤ cur.size → (w.setCells b o vs).heap[b]? = some (.cells (cur.toList.take o ++ vs ++ cur.toList.drop (o + vs.length)).toArray t fr)
  | [], o, w, cur, h, _ => by simpa [World.setCells] using h
  | v :: vs, o, w, cur, h, hl => by
    simp only [List.length_cons] at hl
    have := setCells_blk b t fr vs (o + 1) (w.setCell ⟨b, o, none⟩ v) _ (set_blk h) (by simp; omega)
    rw [World.setCells, this]
    congr 3
    have e := list_seg_step cur.toList o v vs (by simp; omega)
    simpa [Array.toList_setIfInBounds, Nat.add_assoc, Nat.add_comm 1] using e
theorem setCells_other (b : Nat) : ∀ (vs : List Value) (o : Nat) (w : World) (k : Nat), k ≠ b → (w.setCells b o vs).heap[k]? = w.heap[k]?
  | [], o, w, k, h => rfl
  | v :: vs, o, w, k, h => by rw [World.setCells, setCells_other b vs _ _ k h, Below.heap_setCell _ _ _ _ h]
theorem setCells_below (b B : Nat) (hB : B ≤ b) : ∀ (vs : List Value) (o : Nat) (a w : World), Below B a w → Below B a (w.setCells b o vs)
  | [], o, a, w, h => h
  | v :: vs, o, a, w, h => setCells_below b B hB vs _ a _ (h.setCell hB v)

theorem step_copyV {ops : Array Oper} {o : Oper} {a : Act} {K : Act → World → Prop} {Q : Exit → Act → World → Prop} {E : Prop} {W : World} (hgd : o.guard = none) (s x : Operand)
    (ho : o.op = .call { callee := .builtin .copy, args := #[s, x], argTypes := #[25, 25] })
    (g dLen dCap : Nat) (v : Value) (vs : List Vl) (hs : a.eval s = .slice (some ⟨g, 0, none⟩) dLen dCap) (hx : a.eval x = v) (h : RdV W v vs) (hd : vs.length ≤ dLen) (cur : Array Value) (t : TypeId) (hg : W.heap[g]? = some (.cells cur t (0, 0))) (hfit : vs.length * 2 ≤ cur.size)
    (hk : ∀ w1, w1.heap[g]? = some (.cells (flatV vs ++ cur.toList.drop (vs.length * 2)).toArray t (0, 0)) → W.grownBy w1 (some g) → K (a.put o.dst (goInt vs.length)) w1) :
    if Region.wanted o (yielded ops a.tmps) = true then Oper.wp Try.prog o a W K Q else E := by
  have hw : Region.wanted o (yielded ops a.tmps) = true := by simp [Region.wanted, hgd]
  rw [if_pos hw]
  obtain ⟨w1, hr, h2, h3⟩ := run_copyV W o.type g dLen dCap v vs h hd cur t hg hfit
  unfold Oper.wp execOp
  simp only [ho, resolve, invoke, builtin, Sem.run_bind, Sem.run_pure, Result.andThen_ok, List.map_toArray, List.map_cons, List.map_nil, hs, hx, hr]
  exact hk w1 h2 h3

theorem info101 : (Try.prog.info? 101).map (·.size) = some 16 := by kernel_rfl
theorem flat0_len (rs : List Vl) (hr : rs.length ≤ 8) : (flatV (regs0 rs)).length = 16 := by rw [flatV_length]; simp [regs0, zeroVs]; omega
def z16 : Array Value := (flatV (zeroVs 8)).toArray
theorem copy16 (rs : List Vl) (hr : rs.length ≤ 8) : flatV rs ++ z16.toList.drop (rs.length * 2) = flatV (regs0 rs) := by
  unfold regs0 z16
  rw [flatV_append]
  congr 1
  have h : rs.length = 0 ∨ rs.length = 1 ∨ rs.length = 2 ∨ rs.length = 3 ∨ rs.length = 4 ∨ rs.length = 5 ∨ rs.length = 6 ∨ rs.length = 7 ∨ rs.length = 8 := by omega
  rcases h with h | h | h | h | h | h | h | h | h <;> rw [h] <;> rfl

set_option maxRecDepth 20000 in
set_option maxHeartbeats 2000000 in
/-- heap.First -/
theorem first_any (w : World) (v : Value) (g : G) (h : RdG w v g) (hr : g.roots.length ≤ 8) :
    Calls Try.prog 61 #[v] w fun e w' => e = .returned (.agg (flatV (regs0 g.roots)).toArray) ∧ Below w.heap.size w w' := by
  obtain ⟨vo, vr, rfl, ho, hroots⟩ := h
  obtain ⟨A, c, rfl, hm, hc⟩ := id hroots
  have Hr := Lib.hid hroots
  have Hc := Lib.hid (copy16 g.roots hr)
  have Hl := Lib.hid (flat0_len g.roots hr)
  have HH := Lib.hid hr
  have hu101 := Try.underlying101
  clear hroots hc ho hr
  go_enter Try.func61, Try.ntmps61
  go_wp2
  go_region_law (refine step_copyV rfl _ _ rfl (w.heap.size + 2) 8 8 _ g.roots (by rfl) (by rfl) (Hr.out.later (later_below ((((Below.refl w.heap.size w).alloc (Nat.le_refl _) _).alloc (by simp) _).alloc (by simp; omega) _).drew)) HH.out z16 101 (blk_drew (at_new _ _ _ (by simp))) (by have := HH.out; show _ ≤ 16; omega) ?_; intro w1 h1 hg1; rw [Hc.out] at h1)
  have hb1 : Below w.heap.size w w1 := (((((Below.refl w.heap.size w).alloc (Nat.le_refl _) _).alloc (by simp) _).alloc (by simp; omega) _).drew).grown hg1 (by simp; omega) (by intro k hk; injection hk with hk; omega)
  have h2 : w1.heap[w.heap.size + 1]? = some (.cells z16 101 (0, 0)) := blk_grown hg1 (blk_drew (blk_alloc (at_new _ _ _ (by simp)))) (by simp)
  have H1 := Lib.hid h1
  have H2 := Lib.hid h2
  have hth : w1.there (w.heap.size + 1) 0 (flatV (regs0 g.roots)).toArray.size := by
    intro j hj
    simp [Hl.out] at hj
    exact ⟨by rw [cell_of_row w1 (w.heap.size + 1) (0 + j) _ _ _ h2]; simp [z16, flatV_length, zeroVs, hj], by simp [World.frozen?, h2]⟩
  clear h1 h2 hg1
  go_wp2_with (first | (refine wpList_load_row rfl 101 _ rfl (w.heap.size + 2) (by rfl) 101 _ (0, 0) _ H1.out Try.underlying101 rfl (by rw [info101]; simp [Hl.out]) ?_) | (refine wpList_store_mid rfl 101 _ _ rfl (w.heap.size + 1) 0 (flatV (regs0 g.roots)).toArray (by rfl) (by rfl) hth (by rw [info101]; simp [Hl.out]) (all_oneCell_toArray (flatV_one _)) ?_))
  have h3 := setCells_blk (w.heap.size + 1) 101 (0, 0) (flatV (regs0 g.roots)) 0 w1 z16 H2.out (by rw [Hl.out]; exact Nat.le_refl _)
  have e3 : z16.toList.take 0 ++ flatV (regs0 g.roots) ++ z16.toList.drop (0 + (flatV (regs0 g.roots)).length) = flatV (regs0 g.roots) := by
    rw [Hl.out]
    show [] ++ _ ++ [] = _
    simp
  rw [e3] at h3
  refine bodyPost_ret (results_cell_row rfl _ _ (w.heap.size + 1) 101 (flatV (regs0 g.roots)).toArray (0, 0) _ rfl h3 Try.underlying101 rfl (by rw [info101]; simp [Hl.out])) rfl ⟨rfl, ?_⟩
  exact setCells_below _ _ (by simp) _ _ _ _ hb1

theorem own_lt {W : World} {base : Nat} {v : Value} {xs : List Vl} (h : OwnV W base v xs) {b : Nat} (hb : v.ownBlock = some b) : base ≤ b ∧ b < W.heap.size := by
  obtain ⟨h1, cs, h2⟩ := own_blk h hb
  exact ⟨h1, lt_blk h2⟩

set_option maxRecDepth 20000 in
set_option maxHeartbeats 2000000 in
/-- heap.Of -/
theorem of_any (w : World) (v : Value) (g : G) (h : RdG w v g) (hz : g.objs.length ≤ 1000000) (hz2 : ∀ o ∈ g.objs, o.length ≤ 1099511627776) :
    Calls Try.prog 60 #[v] w fun e w' => ∃ ov L, e = .returned ov ∧ HObj w' w.heap.size ov L ∧ obs L = g.objs.map some ∧ Below w.heap.size w w' := by
  obtain ⟨vo, vr, rfl, ho, hroots⟩ := h
  have Ho := Lib.hid ho
  have Hz2 := Lib.hid hz2
  obtain ⟨A, c, rfl, hm, hc⟩ := ho
  clear hroots hc hz2
  go_enter Try.func60, Try.ntmps60
  go_wp2
  go_loopw [3, 9] (fun l i wr => ∃ (k : Nat) (L : List (Option Ob)), k ≤ g.objs.length ∧ i = .int .i64 k ∧ HObj wr w.heap.size l L ∧ obs L = (g.objs.take k).map some ∧ Below w.heap.size w wr) (fun _ i _ => g.objs.length - (intOf i).toNat)
  case atStart => exact ⟨0, [], Nat.zero_le _, rfl, ⟨⟨rfl, .inl ⟨rfl, rfl⟩⟩, by simp, by simp, by simp⟩, rfl, (Below.refl _ _).alloc (Nat.le_refl _) _⟩
  case round =>
    obtain ⟨k, L, hk, rfl, hO, hob, hB⟩ := hrel
    have hLk : L.length = k := by
      have := congrArg List.length hob
      simp [obs] at this; omega
    have HO := Lib.hid hO
    have Hob := Lib.hid hob
    have HL := Lib.hid hLk
    clear hO hob hLk
    by_cases hlt : k < g.objs.length
    · obtain ⟨A', c', e1, _, hc⟩ := Ho.out
      injection e1 with e1 e2 e3
      subst e1 e3
      obtain ⟨b, off, fv, rfl, hfc, hfr⟩ := hc k hlt
      have hfc' := later_below hB _ _ hfc
      have hfr' := hfr.later (later_below hB)
      have hzk := Hz2.out _ (List.getElem_mem hlt)
      have hsn : (g.objs.take (k + 1)).map some = (g.objs.take k).map some ++ [some g.objs[k]] := by
        rw [List.take_succ_eq_append_getElem hlt, List.map_append]; rfl
      generalize g.objs[k] = fs at hfr' hzk hsn
      obtain ⟨Af, cf, rfl, -, -⟩ := id hfr'
      have Hfr := Lib.hid hfr'
      have Hsn := Lib.hid hsn
      have hs0 := hB.size
      have HB := Lib.hid hB
      clear hc hfc hfr hfr' hsn e2
      go_wp2_with (first
        | (go_at_call 55; refine (clone_any _ _ fs (Hfr.out.later (later_below ((Below.refl _ _).alloc (Nat.le_refl _) _))) hzk).mono ?_; rintro e w2 ⟨v2, rfl, hv2, hB2⟩; obtain ⟨A2, c2, rfl, -, -⟩ := id hv2.rd
           have hs2 := hB2.size
           simp only [World.size_alloc] at hs2 hv2
           have HBr := Lib.hid (((Below.refl wr.heap.size wr).alloc (Nat.le_refl _) _).trans (hB2.mono (by simp)))
           have HO2 := Lib.hid (HO.out.below HBr.out)
           have HV := Lib.hid hv2
           clear hv2 hB2)
        | (at_builtin; refine list_app rfl _ _ 93 123 1 8 _ rfl Try.underlying93 Try.info123 rfl (by omega) (by omega) w.heap.size _ L.length (L.map Ob.ptr) [.pointer (some ⟨w2.heap.size, 0, none⟩)] rfl (by simp [Value.oneCell']) (w2.heap.size + 1) rfl (by rfl) (at_new _ _ _ (by simp)) ((HO2.out.alloc _).alloc _).row (by simp; omega) (by have := HL.out; omega) ?_
           intro g2 cap2 w3 hown hg hgb hlt3
           have HN := Lib.hid (And.intro hown hg)
           clear hown hg hgb))
      obtain ⟨hown, hg⟩ := HN.out
      have hnew := HObj.push ((HO2.out.alloc (.cells #[.slice A2 fs.length c2] 48)).alloc (.cells #[.pointer (some ⟨w2.heap.size, 0, none⟩)] 123)) ⟨w2.heap.size, .slice A2 fs.length c2, fs⟩ _ hown hg
        (blk_alloc (at_new _ _ _ rfl)) (by simp; omega) (own_mono (HV.out.below ((Below.refl _ _).alloc (Nat.le_refl _) _ |>.alloc (by simp) _)) (by omega))
        (fun hf => by have := HO2.out.lt hf; simp at this) (fun b hb hf => by
          have h1 := own_lt HV.out hb
          have h2 := HO.out.lt hf
          omega)
      have hB3 : Below w.heap.size w w3 := ((HB.out.trans ((HBr.out.mono hs0))).trans ((((Below.refl w.heap.size w2).alloc (by omega) _).alloc (by simp; omega) _).grown hg (by simp; omega) (fun k hk => (own_blk HO2.out.row hk).1)))
      go_roundw
      case rel => exact ⟨k + 1, _, by omega, by go_num, hnew, by rw [Hsn.out, ← Hob.out]; simp [obs], hB3⟩
      case measure => simp [intOf]; omega
    · go_wp2
      go_ret
      exact ⟨_, L, rfl, HO.out, by rw [Hob.out, List.take_of_length_le (by omega)], hB⟩

end Go.Proofs.Yteghhajfkdbcdaa
