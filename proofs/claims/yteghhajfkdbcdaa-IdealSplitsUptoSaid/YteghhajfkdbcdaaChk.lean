/- graph.values, graph.Check. -/
import Derived.Test.YteghhajfkdbcdaaRng
namespace Go.Proofs.Yteghhajfkdbcdaa
open Go.RowKit Go.Shelf
set_option linter.unusedVariables false
set_option linter.unusedSimpArgs false
attribute [local go_sem] Oper.semAt_some

theorem SameP.later {w W : World} (h : SameP (· < w.heap.size) w W) : Later w W := fun p v hc => (h.cell (World.block_lt_of_cell? _ _ hc)).trans hc

theorem SameP.size {w W : World} (h : SameP (· < w.heap.size) w W) : w.heap.size ≤ W.heap.size := by
  rcases Nat.eq_zero_or_pos w.heap.size with h0 | h0
  · omega
  · have h1 := h (w.heap.size - 1) (by simp; omega)
    rw [Array.getElem?_eq_getElem (show w.heap.size - 1 < w.heap.size by omega)] at h1
    have := (Array.getElem?_eq_some_iff.1 h1).1
    omega

set_option maxRecDepth 100000 in
set_option maxHeartbeats 4000000 in
/-- graph.values's closure: its contract. -/
theorem values_iter (m B : Nat) (vo vr : Value) (g : G) (w : World) (hb0 : w.cell? ⟨B, 0, none⟩ = some vo) (hb1 : w.cell? ⟨B, 1, none⟩ = some vr) (ho : RdO w vo g.objs) (hr : RdV w vr g.roots) :
    SeqStopsK Fence.wide m Try.prog 128 #[.pointer (some ⟨B, 0, none⟩)] (fun x : Vl => #[.agg #[.bool x.ref, .int .i64 x.n]]) (SameP (· < w.heap.size)) (fun ys => ys = allV g) (fun pre => pre <+: allV g) (allV g).length w := by
  intro l J Jx W hW hJ hJx hY h0
  have hSW : SameP (· < w.heap.size) w W := SameP.below hW (fun _ h => h)
  have hsW := hW.size
  clear hW
  have hb0' := hSW.later _ _ hb0
  have hb1' := hSW.later _ _ hb1
  obtain ⟨A, c, rfl, hm, hc⟩ := hr
  obtain ⟨Ao, co, rfl, hmo, hco⟩ := ho
  refine callsIn_of_wp Try.func128 rfl trivial ?_ rfl
  simp only [Try.ntmps128, List.size_toArray, List.length_cons, List.length_nil, Nat.reduceAdd, Nat.reduceSub, Array.replicate_succ, Array.replicate_zero, List.push_toArray, List.append_toArray, List.nil_append, List.cons_append]
  gi_wp2
  gi_loopw [12] (fun i wr => ∃ k : Nat, k ≤ g.roots.length ∧ i = .int .i64 k ∧ J (g.roots.take k) wr ∧ SameP (· < w.heap.size) w wr)
    (fun i _ => g.roots.length - (intOf i).toNat)
  case atStart => exact ⟨0, Nat.zero_le _, rfl, h0, hSW⟩
  case round =>
    obtain ⟨k, hk, rfl, hJs, hS⟩ := hrel
    have hszr := hS.size
    by_cases hlt : k < g.roots.length
    · obtain ⟨b, off, rfl, hcell, hcell'⟩ := hc k hlt
      have hc1 := hS.later _ _ hcell
      have hc2 := hS.later _ _ hcell'
      have hJa := hJ _ _ _ none hJs (World.grownBy_alloc wr (.cells #[.bool g.roots[k].ref, .int .i64 g.roots[k].n] 99) none) (by simp)
      have hSa : SameP (· < w.heap.size) w (wr.alloc (.cells #[.bool g.roots[k].ref, .int .i64 g.roots[k].n] 99)) := hS.trans (SameP.below ((Below.refl wr.heap.size wr).alloc (Nat.le_refl _) _) (fun i hi => by omega))
      obtain ⟨fn, tmps, assign, body, hy, hR⟩ := hY (g.roots.take k) g.roots[k] _ hJa (by simp [allV]; omega)
      clear hY hcell hcell' hc hb0 hb1 hb0' hb1' hco
      gi_wp2
      refine ⟨fun h => by simp [Fence.wide] at h, hR.mono ?_⟩
      rintro e W3 (⟨rfl, hJ3, hk3⟩ | ⟨rfl, hJx3⟩)
      · gi_wp2
        go_roundw
        case rel => exact ⟨k + 1, by omega, by go_num, by rw [List.take_succ_eq_append_getElem hlt]; exact hJ3, hSa.trans hk3⟩
        case measure => simp [intOf]; omega
      · gi_wp2
        refine bodyPost_ret (results_none rfl _ _ _) rfl ?_
        exact ⟨⟨_, rfl⟩, .inr ⟨_, by rw [← List.take_succ_eq_append_getElem hlt]; exact (List.take_prefix _ _).trans (List.prefix_append _ _), hJx3⟩⟩
    · have e : g.roots.take k = g.roots := List.take_of_length_le (by omega)
      rw [e] at hJs
      have hx0 := hS.later _ _ hb0
      clear e hc hb0' hb1' hb0 hb1
      gi_wp2
      obtain ⟨wo, rfl⟩ : ∃ wo : World, wo = wr := ⟨_, rfl⟩
      gi_loopw [24] (fun i wr => ∃ k : Nat, k ≤ g.objs.length ∧ i = .int .i64 k ∧ J (g.roots ++ (g.objs.take k).flatten) wr ∧ SameP (· < w.heap.size) w wr)
        (fun i _ => g.objs.length - (intOf i).toNat)
      case atStart => exact ⟨0, Nat.zero_le _, rfl, by simpa using hJs, hS⟩
      case round =>
        obtain ⟨k2, hk2, rfl, hJ2, hS2⟩ := hrel
        clear hJs hS hx0
        by_cases hlt2 : k2 < g.objs.length
        · obtain ⟨b, off, fv, rfl, hcell, A3, c3, rfl, hm3, hc3⟩ := hco k2 hlt2
          have hc1 := hS2.later _ _ hcell
          clear hcell hco
          gi_wp2
          obtain ⟨wi, hwi⟩ : ∃ wi, wr.alloc (.cells #[Value.slice A3 (g.objs[k2]).length c3] 48) = wi := ⟨_, rfl⟩
          rw [hwi]
          have hSi : SameP (· < w.heap.size) w wi := by
            rw [← hwi]; exact hS2.trans (SameP.below ((Below.refl wr.heap.size wr).alloc (Nat.le_refl _) _) (fun i hi => by have := hS2.size; omega))
          have hJi : J (g.roots ++ (g.objs.take k2).flatten) wi := by
            rw [← hwi]; exact hJ _ _ _ none hJ2 (World.grownBy_alloc wr _ none) (by simp)
          clear hwi hJ2 hS2 hc1
          have HN : Hid (∀ j, j < (g.objs[k2]).length → (g.roots ++ (g.objs.take k2).flatten ++ (g.objs[k2]).take j).length < (allV g).length) := by
            intro j hj
            have e : allV g = g.roots ++ (g.objs.take k2).flatten ++ ((g.objs[k2]) ++ (g.objs.drop (k2 + 1)).flatten) := by
              unfold allV
              rw [show g.objs.flatten = (g.objs.take k2 ++ g.objs.drop k2).flatten by rw [List.take_append_drop], List.drop_eq_getElem_cons hlt2, List.flatten_append, List.flatten_cons, List.append_assoc]
            rw [e]
            simp only [List.length_append, List.length_take]
            omega
          gi_loopw [31] (fun i wr => ∃ j : Nat, j ≤ (g.objs[k2]).length ∧ i = .int .i64 j ∧ J (g.roots ++ (g.objs.take k2).flatten ++ (g.objs[k2]).take j) wr ∧ SameP (· < w.heap.size) w wr)
            (fun i _ => (g.objs[k2]).length - (intOf i).toNat)
          case atStart => exact ⟨0, Nat.zero_le _, rfl, by simpa using hJi, hSi⟩
          case round =>
            obtain ⟨j, hj, rfl, hJ4, hS4⟩ := hrel
            clear hJi hSi
            by_cases hlt3 : j < (g.objs[k2]).length
            · obtain ⟨b, off, rfl, hcell, hcell'⟩ := hc3 j hlt3
              have hd1 := hS4.later _ _ hcell
              have hd2 := hS4.later _ _ hcell'
              have hJa := hJ _ _ _ none hJ4 (World.grownBy_alloc wr (.cells #[.bool (g.objs[k2])[j].ref, .int .i64 (g.objs[k2])[j].n] 99) none) (by simp)
              have hSa : SameP (· < w.heap.size) w (wr.alloc (.cells #[.bool (g.objs[k2])[j].ref, .int .i64 (g.objs[k2])[j].n] 99)) := hS4.trans (SameP.below ((Below.refl wr.heap.size wr).alloc (Nat.le_refl _) _) (fun i hi => by have := hS4.size; omega))
              obtain ⟨fn, tmps, assign, body, hy, hR⟩ := hY (g.roots ++ (g.objs.take k2).flatten ++ (g.objs[k2]).take j) (g.objs[k2])[j] _ hJa (HN.out j hlt3)
              clear hY hcell hcell' hc3
              gi_wp2
              refine ⟨fun h => by simp [Fence.wide] at h, hR.mono ?_⟩
              rintro e W3 (⟨rfl, hJ3, hk3⟩ | ⟨rfl, hJx3⟩)
              · gi_wp2
                go_roundw
                case rel => exact ⟨j + 1, by omega, by go_num, by rw [List.take_succ_eq_append_getElem hlt3, ← List.append_assoc]; exact hJ3, hSa.trans hk3⟩
                case measure => simp [intOf]; omega
              · gi_wp2
                refine bodyPost_ret (results_none rfl _ _ _) rfl ?_
                refine ⟨⟨_, rfl⟩, .inr ⟨_, ?_, hJx3⟩⟩
                rw [List.append_assoc, ← List.take_succ_eq_append_getElem hlt3]
                refine ⟨(g.objs[k2]).drop (j + 1) ++ (g.objs.drop (k2 + 1)).flatten, ?_⟩
                unfold allV
                rw [show g.objs.flatten = (g.objs.take k2 ++ g.objs.drop k2).flatten by rw [List.take_append_drop], List.drop_eq_getElem_cons hlt2, List.flatten_append, List.flatten_cons]
                simp only [List.append_assoc]
                rw [← List.append_assoc (List.take (j + 1) _), List.take_append_drop]
            · have e : (g.objs[k2]).take j = g.objs[k2] := List.take_of_length_le (by omega)
              rw [e] at hJ4
              gi_wp2
              go_roundw
              case rel => exact ⟨k2 + 1, by omega, by go_num, by rw [List.take_succ_eq_append_getElem hlt2, List.flatten_append]; simpa using hJ4, hS4⟩
              case measure => simp [intOf]; omega
        · have e : g.objs.take k2 = g.objs := List.take_of_length_le (by omega)
          rw [e] at hJ2
          gi_wp2
          go_end0
          exact ⟨⟨_, rfl⟩, .inl ⟨_, rfl, hJ2⟩⟩

set_option maxRecDepth 20000 in
/-- graph.values -/
theorem gvalues_any (w : World) (vo vr : Value) :
    Calls Try.prog 100 #[.agg #[vo, vr]] w fun e w' => e = .returned (.func (.func 128) #[] #[.pointer (some ⟨w.heap.size, 0, none⟩)]) ∧ w' = w.alloc (.cells #[vo, vr] 27) := by
  go_enter Try.func100, Try.ntmps100
  go_wp2
  go_ret
  exact ⟨rfl, rfl⟩

/-- graph.Check's first closure -/
theorem check1_any (w : World) (A : Option Addr) (n c : Nat) (hn : n ≤ 9223372036854775807) :
    Calls Try.prog 98 #[.agg #[.slice A n c]] w fun e w' => e = .returned (.bool (decide (4 < n))) ∧ Below w.heap.size w w' := by
  have hB : Below w.heap.size w (w.alloc (.cells #[.slice A n c] 48)) := (Below.refl _ _).alloc (Nat.le_refl _) _
  by_cases h : 4 < n
  · have hb : decide ((4 : Int) < (n : Int)) = true := by simp; omega
    go_enter Try.func98, Try.ntmps98
    go_wp2
    go_ret
    exact ⟨ret_bool (by simp [h]), hB⟩
  · have hb : decide ((4 : Int) < (n : Int)) = false := by simp; omega
    go_enter Try.func98, Try.ntmps98
    go_wp2
    go_ret
    exact ⟨ret_bool (by simp [h]), hB⟩

set_option maxHeartbeats 400000 in
/-- slices.IndexFunc at objects and that closure -/
theorem idxo_any (w : World) (v : Value) (os : List (List Vl)) (h : RdO w v os) :
    Calls Try.prog 127 #[v, .func (.func 98) #[] #[]] w fun e w' => ∃ i : Int, e = .returned (.int .i64 i) ∧ (decide (0 ≤ i) = os.any fun o => decide (4 < o.length)) ∧ Below w.heap.size w w' := by
  obtain ⟨A, c, rfl, hm, hc⟩ := h
  go_enter Try.func127, Try.ntmps127
  go_wp2
  go_loopw [8] (fun i wr => ∃ k : Nat, k ≤ os.length ∧ i = .int .i64 k ∧ ((os.take k).any fun o => decide (4 < o.length)) = false ∧ Below w.heap.size w wr) (fun i _ => os.length - (intOf i).toNat)
  case atStart => exact ⟨0, Nat.zero_le _, rfl, by simp, Below.refl _ _⟩
  case round =>
    obtain ⟨k, hk, rfl, hn, hB⟩ := hrel
    have Hn := Lib.hid hn
    clear hn
    by_cases hlt : k < os.length
    · obtain ⟨b, off, fv, rfl, hcell, A3, c3, rfl, hm3, hc3⟩ := hc k hlt
      have hc1 := later_below hB _ _ hcell
      clear hcell hc hc3
      have HC := check1_any wr A3 (os[k]).length c3 hm3.2
      have HC := Lib.hid HC
      by_cases h4 : 4 < (os[k]).length
      · have hb : decide (4 < (os[k]).length) = true := by simpa using h4
        rw [hb] at HC
        go_wp2_with (go_at_call 98; refine HC.out.mono ?_; rintro e w2 ⟨rfl, hB2⟩)
        go_ret
        refine ⟨_, rfl, ?_, hB.trans (hB2.mono hB.size)⟩
        have : (os.any fun o => decide (4 < o.length)) = true := List.any_eq_true.2 ⟨_, List.getElem_mem hlt, by simpa using h4⟩
        rw [this]; simp
      · have hb : decide (4 < (os[k]).length) = false := by simpa using h4
        rw [hb] at HC
        have Hb := Lib.hid hb
        clear hb
        go_wp2_with (go_at_call 98; refine HC.out.mono ?_; rintro e w2 ⟨rfl, hB2⟩)
        go_roundw
        case rel => exact ⟨k + 1, by omega, by go_num, by rw [List.take_succ_eq_append_getElem hlt, List.any_append, Hn.out]; simp; omega, hB.trans (hB2.mono hB.size)⟩
        case measure => simp [intOf]; omega
    · go_wp2
      go_ret
      refine ⟨_, rfl, ?_, hB⟩
      have hn := Hn.out
      rw [List.take_of_length_le (by omega)] at hn
      rw [hn]; rfl

/-- slices.ContainsFunc at objects and that closure -/
theorem conto_any (w : World) (v : Value) (os : List (List Vl)) (h : RdO w v os) :
    Calls Try.prog 99 #[v, .func (.func 98) #[] #[]] w fun e w' => e = .returned (.bool (os.any fun o => decide (4 < o.length))) ∧ Below w.heap.size w w' := by
  have HI := Lib.hid (idxo_any w v os h)
  clear h
  go_enter Try.func99, Try.ntmps99
  go_wp2_with (go_at_call 127; refine HI.out.mono ?_; rintro e w2 ⟨i, rfl, hi, hB2⟩; have Hi := Lib.hid hi; clear hi)
  go_ret
  exact ⟨ret_bool (by rw [← Hi.out]), hB2⟩

end Go.Proofs.Yteghhajfkdbcdaa
