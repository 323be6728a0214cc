/- Contracts: ragpickerref.all, GraphCheck; ragpickerkeep.good. -/
import Derived.Test.YteghhajfkdbcdaaRefA
namespace Go.Proofs.Yteghhajfkdbcdaa
open Go.RowKit
set_option linter.unusedVariables false
set_option linter.unusedSimpArgs false

def allV (g : G) : List Vl := g.roots ++ g.objs.flatten

theorem flatten_le {α : Type} (l : List (List α)) (m : Nat) (h : ∀ o ∈ l, o.length ≤ m) : l.flatten.length ≤ l.length * m := by
  induction l with
  | nil => simp
  | cons x l ih =>
    have h1 := h x (by simp)
    have h2 := ih (fun o ho => h o (by simp [ho]))
    simp only [List.flatten_cons, List.length_append, List.length_cons, Nat.add_mul]
    omega

set_option maxRecDepth 20000 in
/-- ragpickerref.all -/
theorem all_any (w : World) (v : Value) (g : G) (h : RdG w v g) (hz : g.roots.length ≤ 8) (hz1 : g.objs.length ≤ 24) (hz2 : ∀ o ∈ g.objs, o.length ≤ 4) :
    Calls Try.prog 96 #[v] w fun e w' => ∃ v', e = .returned v' ∧ RdV w' v' (allV g) ∧ Below w.heap.size w w' := by
  obtain ⟨vo, vr, rfl, ho, hr⟩ := h
  obtain ⟨A, c, rfl, hm, hc⟩ := hr
  obtain ⟨Ao, co, rfl, hmo, hco⟩ := ho
  go_enter Try.func96, Try.ntmps96
  go_wp2
  obtain ⟨w1, hw1⟩ : ∃ w1, w.alloc (.cells #[Value.slice Ao g.objs.length co, Value.slice A g.roots.length c] 27) = w1 := ⟨_, rfl⟩
  rw [hw1]
  have hbx : w1.cell? ⟨w.heap.size, 0, none⟩ = some (.slice Ao g.objs.length co) := by rw [← hw1]; simp
  have hby : w1.cell? ⟨w.heap.size, 1, none⟩ = some (.slice A g.roots.length c) := by rw [← hw1]; simp
  have hB1 : Below w.heap.size w w1 := by rw [← hw1]; exact (Below.refl _ _).alloc (Nat.le_refl _) _
  have hl1 : Later w w1 := later_below hB1
  clear hw1
  go_loopw [3, 13] (fun l i wr => ∃ k : Nat, k ≤ g.roots.length ∧ i = .int .i64 k ∧ OwnV wr w1.heap.size l (g.roots.take k) ∧ Below w1.heap.size w1 wr) (fun _ i _ => g.roots.length - (intOf i).toNat)
  case atStart => exact ⟨0, Nat.zero_le _, rfl, OwnV.nil _ _, Below.refl _ _⟩
  case round =>
    obtain ⟨k, hk, rfl, hn, hB⟩ := hrel
    by_cases hlt : k < g.roots.length
    · obtain ⟨b, off, rfl, hcell, hcell'⟩ := hc k hlt
      have hc1 := later_below hB _ _ (hl1 _ _ hcell)
      have hc2 := later_below hB _ _ (hl1 _ _ hcell')
      clear hbx hby hcell hcell' hc hco
      go_wp2_with (at_builtin; go_loud (refine app_v (w0 := w1) w1.heap.size rfl _ _ rfl _ (g.roots.take k) g.roots[k] rfl _ rfl ?h0 ?h1 ?h2 ?h3 ?h4 ?_))
      case h0 => simp
      case h1 => exact hn.below ((Below.refl _ _).alloc (Nat.le_refl _) _)
      case h2 => exact hB.alloc hB.size _
      case h3 => simp; have := hB.size; omega
      case h4 => simp; omega
      intro v1 w2 hown hB2 hg hat
      go_wp2
      go_roundw
      case rel => exact ⟨k + 1, by omega, by go_num, hown, hB2⟩
      case measure => simp [intOf]; omega
    · have hbx1 := later_below hB _ _ hbx
      have hn' : OwnV wr w1.heap.size u3 g.roots := by rw [List.take_of_length_le (by omega)] at hn; exact hn
      clear hn hc
      go_wp2_with fail
      obtain ⟨wo, rfl⟩ : ∃ wo : World, wo = wr := ⟨_, rfl⟩
      go_loopw [3, 25] (fun l i wr => ∃ k : Nat, k ≤ g.objs.length ∧ i = .int .i64 k ∧ OwnV wr w1.heap.size l (g.roots ++ (g.objs.take k).flatten) ∧ Below w1.heap.size w1 wr) (fun _ i _ => g.objs.length - (intOf i).toNat)
      case atStart => exact ⟨0, Nat.zero_le _, rfl, by simpa using hn', hB⟩
      case round =>
        obtain ⟨k2, hk2, rfl, hn2, hB2⟩ := hrel
        clear hn' hbx1 hB
        by_cases hlt2 : k2 < g.objs.length
        · obtain ⟨b, off, fv, rfl, hcell, A3, c3, rfl, hm3, hc3⟩ := hco k2 hlt2
          have hc1 := later_below hB2 _ _ (hl1 _ _ hcell)
          clear hbx hby hcell hco
          go_wp2_with fail
          obtain ⟨wi, hwi⟩ : ∃ wi, wr.alloc (.cells #[Value.slice A3 (g.objs[k2]).length c3] 48) = wi := ⟨_, rfl⟩
          rw [hwi]
          have hBi : Below wr.heap.size wr wi := by rw [← hwi]; exact (Below.refl _ _).alloc (Nat.le_refl _) _
          have hB3 : Below w1.heap.size w1 wi := hB2.trans (hBi.mono hB2.size)
          have hn3 := hn2.below hBi
          clear hwi hn2 hc1
          go_loopw [3, 32] (fun l i wr => ∃ j : Nat, j ≤ (g.objs[k2]).length ∧ i = .int .i64 j ∧ OwnV wr w1.heap.size l (g.roots ++ (g.objs.take k2).flatten ++ (g.objs[k2]).take j) ∧ Below w1.heap.size w1 wr) (fun _ i _ => (g.objs[k2]).length - (intOf i).toNat)
          case atStart => exact ⟨0, Nat.zero_le _, rfl, by simpa using hn3, hB3⟩
          case round =>
            obtain ⟨j, hj, rfl, hn4, hB4⟩ := hrel
            clear hn3 hB3
            by_cases hlt3 : j < (g.objs[k2]).length
            · obtain ⟨b, off, rfl, hcell, hcell'⟩ := hc3 j hlt3
              have hd1 := later_below hB4 _ _ (hl1 _ _ hcell)
              have hd2 := later_below hB4 _ _ (hl1 _ _ hcell')
              clear hcell hcell' hc3
              go_wp2_with (at_builtin; go_loud (refine app_v (w0 := w1) w1.heap.size rfl _ _ rfl _ (g.roots ++ (g.objs.take k2).flatten ++ (g.objs[k2]).take j) (g.objs[k2])[j] rfl _ rfl ?g0 ?g1 ?g2 ?g3 ?g4 ?_))
              case g0 => simp
              case g1 => exact hn4.below ((Below.refl _ _).alloc (Nat.le_refl _) _)
              case g2 => exact hB4.alloc hB4.size _
              case g3 => simp; have := hB4.size; omega
              case g4 => have h1 := flatten_le (g.objs.take k2) 4 (fun o ho => hz2 o (List.mem_of_mem_take ho)); have h2 := hz2 _ (List.getElem_mem hlt2); simp only [List.length_append, List.length_take] at h1 ⊢; omega
              intro v1 w2 hown hB5 hg hat
              go_wp2
              go_roundw
              case rel => exact ⟨j + 1, by omega, by go_num, by simpa using hown, hB5⟩
              case measure => simp [intOf]; omega
            · have e : (g.objs[k2]).take j = g.objs[k2] := List.take_of_length_le (by omega)
              rw [e] at hn4
              go_wp2
              go_roundw
              case rel => exact ⟨k2 + 1, by omega, by go_num, by rw [List.take_succ_eq_append_getElem hlt2, List.flatten_append]; simpa using hn4, hB4⟩
              case measure => simp [intOf]; omega
        · have e : g.objs.take k2 = g.objs := List.take_of_length_le (by omega)
          rw [e] at hn2
          go_wp2
          go_ret
          exact ⟨_, rfl, hn2.rd, hB1.trans (hB2.mono hB1.size)⟩
def largeG (g : G) : Bool := decide (24 < g.objs.length) || decide (8 < g.roots.length) || g.objs.any fun o => decide (4 < o.length)
/-- A1's Check, as a number. -/
def checkG (g : G) : Int :=
  if largeG g then 1 else if (allV g).any (fun v => badV v.ref v.n g.objs.length == 2) then 2 else if (allV g).any (fun v => badV v.ref v.n g.objs.length == 3) then 3 else 0

theorem badV_cases (r : Bool) (x n : Int) : badV r x n = 0 ∨ badV r x n = 2 ∨ badV r x n = 3 := by
  unfold badV; split <;> split <;> simp

set_option maxRecDepth 20000 in
set_option maxHeartbeats 1000000 in
/-- ragpickerref.GraphCheck -/
theorem gcheck_any (w : World) (v : Value) (g : G) (h : RdG w v g) :
    Calls Try.prog 58 #[v] w fun e w' => e = .returned (.int .i64 (checkG g)) ∧ Below w.heap.size w w' := by
  have hg0 := h
  obtain ⟨vo, vr, rfl, ho, hr⟩ := h
  obtain ⟨A, c, rfl, hm, hc⟩ := hr
  obtain ⟨Ao, co, rfl, hmo, hco⟩ := ho
  have hB0 : ∀ o, Below w.heap.size w (w.alloc o) := fun o => (Below.refl _ _).alloc (Nat.le_refl _) o
  by_cases h24 : 24 < g.objs.length
  · have hb : decide ((24 : Int) < (g.objs.length : Int)) = true := by simp; omega
    go_enter Try.func58, Try.ntmps58
    go_wp2_with fail
    go_ret
    exact ⟨ret_int (by simp [checkG, largeG, h24]), hB0 _⟩
  have hb : decide ((24 : Int) < (g.objs.length : Int)) = false := by simp; omega
  by_cases h8 : 8 < g.roots.length
  · have hb : decide ((8 : Int) < (g.roots.length : Int)) = true := by simp; omega
    go_enter Try.func58, Try.ntmps58
    go_wp2_with fail
    go_ret
    exact ⟨ret_int (by simp [checkG, largeG, h8]), hB0 _⟩
  have hb8 : decide ((8 : Int) < (g.roots.length : Int)) = false := by simp; omega
  go_enter Try.func58, Try.ntmps58
  go_wp2_with fail
  obtain ⟨w1, hw1⟩ : ∃ w1, w.alloc (.cells #[Value.slice Ao g.objs.length co, Value.slice A g.roots.length c] 27) = w1 := ⟨_, rfl⟩
  rw [hw1]
  have hbx : w1.cell? ⟨w.heap.size, 0, none⟩ = some (.slice Ao g.objs.length co) := by rw [← hw1]; simp
  have hby : w1.cell? ⟨w.heap.size, 1, none⟩ = some (.slice A g.roots.length c) := by rw [← hw1]; simp
  have hB1 : Below w.heap.size w w1 := by rw [← hw1]; exact (Below.refl _ _).alloc (Nat.le_refl _) _
  have hl1 : Later w w1 := later_below hB1
  clear hw1
  go_loopw [22] (fun i wr => ∃ k : Nat, k ≤ g.objs.length ∧ i = .int .i64 k ∧ (∀ o ∈ g.objs.take k, o.length ≤ 4) ∧ Below w1.heap.size w1 wr) (fun i _ => g.objs.length - (intOf i).toNat)
  case atStart => exact ⟨0, Nat.zero_le _, rfl, by simp, Below.refl _ _⟩
  case round =>
    obtain ⟨k, hk, rfl, hn, hB⟩ := hrel
    have Hn := Lib.hid hn
    clear hn
    by_cases hlt : k < g.objs.length
    · obtain ⟨b, off, fv, rfl, hcell, A3, c3, rfl, hm3, hc3⟩ := hco k hlt
      have hc1 := later_below hB _ _ (hl1 _ _ hcell)
      clear hbx hby hcell hco
      by_cases h4 : 4 < (g.objs[k]).length
      · have hb4 : decide ((4 : Int) < ((g.objs[k]).length : Int)) = true := by simp; omega
        go_wp2_with fail
        go_ret
        refine ⟨ret_int ?_, hB1.trans ((hB.alloc hB.size _).mono hB1.size)⟩
        have : (g.objs.any fun o => decide (4 < o.length)) = true := List.any_eq_true.2 ⟨_, List.getElem_mem hlt, by simpa using h4⟩
        simp [checkG, largeG, this]
      · have hb4 : decide ((4 : Int) < ((g.objs[k]).length : Int)) = false := by simp; omega
        go_wp2_with fail
        go_roundw
        case rel =>
          refine ⟨k + 1, by omega, by go_num, ?_, hB.alloc hB.size _⟩
          intro o ho
          rw [List.take_succ_eq_append_getElem hlt, List.mem_append, List.mem_singleton] at ho
          rcases ho with ho | rfl
          · exact Hn.out o ho
          · omega
        case measure => simp [intOf]; omega
    · have hall : ∀ o ∈ g.objs, o.length ≤ 4 := by
        have := Hn.out
        rw [List.take_of_length_le (by omega)] at this; exact this
      have hL : largeG g = false := by
        simp only [largeG, Bool.or_eq_false_iff, decide_eq_false_iff_not]
        refine ⟨⟨h24, h8⟩, ?_⟩
        rw [List.any_eq_false]
        intro o ho
        have := hall o ho
        simp; omega
      have Hall := Lib.hid hall
      have HL := Lib.hid hL
      have hgw : RdG wr (.agg #[Value.slice Ao g.objs.length co, Value.slice A g.roots.length c]) g := hg0.later (hl1.trans (later_below hB))
      have Hg := Lib.hid hgw
      clear hall hL hgw
      have hbx1 := later_below hB _ _ hbx
      have hby1 := later_below hB _ _ hby
      go_wp2_with (go_at_call 96; refine (all_any _ _ g Hg.out (by omega) (by omega) Hall.out).mono ?_; rintro e w2 ⟨v2, rfl, ⟨A5, c5, rfl, hm5, hc5⟩, hB2⟩)
      have hB3 : Below w1.heap.size w1 w2 := hB.trans (hB2.mono hB.size)
      obtain ⟨vs, hvs⟩ : ∃ vs, vs = allV g := ⟨_, rfl⟩
      rw [← hvs] at hm5 hc5 ⊢
      have Hvs := Lib.hid hvs
      have hl2 : Later w w2 := hl1.trans (later_below hB3)
      clear hvs hbx1 hby1 hco hc
      go_loopw [5, 34] (fun m i wr => ∃ k : Nat, k ≤ vs.length ∧ i = .int .i64 k ∧ m = .int .i64 (if ((vs.take k).any fun v => badV v.ref v.n g.objs.length == 3) then 3 else 0) ∧ ((vs.take k).any fun v => badV v.ref v.n g.objs.length == 2) = false ∧ Below w2.heap.size w2 wr) (fun _ i _ => vs.length - (intOf i).toNat)
      case atStart => exact ⟨0, Nat.zero_le _, rfl, by simp, by simp, Below.refl _ _⟩
      case round =>
        obtain ⟨k5, hk5, rfl, rfl, hn5, hB5⟩ := hrel
        have Hn5 := Lib.hid hn5
        clear hn5
        by_cases hlt5 : k5 < vs.length
        · obtain ⟨b, off, rfl, hcell, hcell'⟩ := hc5 k5 hlt5
          have hc1 := later_below hB5 _ _ hcell
          have hc2 := later_below hB5 _ _ hcell'
          have hx1 := later_below hB5 _ _ (later_below hB3 _ _ hbx)
          have hz1 := World.block_lt_of_cell? _ _ hx1
          dsimp only at hz1
          clear hcell hcell' hc5 hbx hby
          obtain ⟨r5, n5, hv5⟩ : ∃ r5 n5, vs[k5] = ⟨r5, n5⟩ := ⟨_, _, rfl⟩
          rw [hv5] at hc1 hc2
          have Hv5 := Lib.hid hv5
          clear hv5
          have hcl : checkG g = (if vs.any (fun v => badV v.ref v.n g.objs.length == 2) then 2 else if vs.any (fun v => badV v.ref v.n g.objs.length == 3) then 3 else 0) := by
            simp [checkG, HL.out, Hvs.out]
          have Hcl := Lib.hid hcl
          clear hcl
          have hsn2 : ((vs.take (k5 + 1)).any fun v => badV v.ref v.n g.objs.length == 2) = (badV r5 n5 g.objs.length == 2) := by
            rw [List.take_succ_eq_append_getElem hlt5, List.any_append, Hn5.out, Hv5.out]; simp
          have hsn3 : ((vs.take (k5 + 1)).any fun v => badV v.ref v.n g.objs.length == 3) = (((vs.take k5).any fun v => badV v.ref v.n g.objs.length == 3) || (badV r5 n5 g.objs.length == 3)) := by
            rw [List.take_succ_eq_append_getElem hlt5, List.any_append, Hv5.out]; simp
          have Hsn2 := Lib.hid hsn2
          have Hsn3 := Lib.hid hsn3
          clear hsn2 hsn3
          obtain ⟨p3, hp3⟩ : ∃ p3, p3 = ((vs.take k5).any fun v => badV v.ref v.n g.objs.length == 3) := ⟨_, rfl⟩
          rw [← hp3] at Hsn3 ⊢
          clear hp3
          obtain ⟨ev, hev⟩ : ∃ ev, ev = badV r5 n5 g.objs.length := ⟨_, rfl⟩
          rw [← hev] at Hsn2 Hsn3
          have Hev := Lib.hid hev
          have hcs : ev = 0 ∨ ev = 2 ∨ ev = 3 := by rw [hev]; exact badV_cases _ _ _
          clear hev
          have hcall : ∀ W, Calls Try.prog 97 #[.agg #[.bool r5, .int .i64 n5], .int .i64 (g.objs.length : Int)] W fun e w' => e = .returned (.int .i64 ev) ∧ Below W.heap.size W w' := fun W => by
            rw [Hev.out]; exact bad_any W r5 n5 _
          have HC := Lib.hid hcall
          clear hcall
          rcases hcs with rfl | rfl | rfl <;> cases p3
          all_goals
            go_wp2_with (go_at_call 97; refine (HC.out _).mono ?_; rintro e w6 ⟨rfl, hB6⟩)
          · go_roundw
            case rel => exact ⟨k5 + 1, by omega, by go_num, by rw [Hsn3.out]; rfl, by rw [Hsn2.out]; rfl, (hB5.alloc hB5.size _).trans (hB6.mono (by simp; have := hB5.size; omega))⟩
            case measure => simp [intOf]; omega
          · go_roundw
            case rel => exact ⟨k5 + 1, by omega, by go_num, by rw [Hsn3.out]; rfl, by rw [Hsn2.out]; rfl, (hB5.alloc hB5.size _).trans (hB6.mono (by simp; have := hB5.size; omega))⟩
            case measure => simp [intOf]; omega
          · go_ret
            refine ⟨ret_int ?_, ?_⟩
            · have : vs.any (fun v => badV v.ref v.n g.objs.length == 2) = true := List.any_eq_true.2 ⟨_, List.getElem_mem hlt5, by rw [Hv5.out, ← Hev.out]; rfl⟩
              rw [Hcl.out, this]; rfl
            · exact hB1.trans ((hB3.trans (((hB5.alloc hB5.size _).trans (hB6.mono (by simp; have := hB5.size; omega))).mono hB3.size)).mono hB1.size)
          · go_ret
            refine ⟨ret_int ?_, ?_⟩
            · have : vs.any (fun v => badV v.ref v.n g.objs.length == 2) = true := List.any_eq_true.2 ⟨_, List.getElem_mem hlt5, by rw [Hv5.out, ← Hev.out]; rfl⟩
              rw [Hcl.out, this]; rfl
            · exact hB1.trans ((hB3.trans (((hB5.alloc hB5.size _).trans (hB6.mono (by simp; have := hB5.size; omega))).mono hB3.size)).mono hB1.size)
          · go_roundw
            case rel => exact ⟨k5 + 1, by omega, by go_num, by rw [Hsn3.out]; rfl, by rw [Hsn2.out]; rfl, (hB5.alloc hB5.size _).trans (hB6.mono (by simp; have := hB5.size; omega))⟩
            case measure => simp [intOf]; omega
          · go_roundw
            case rel => exact ⟨k5 + 1, by omega, by go_num, by rw [Hsn3.out]; rfl, by rw [Hsn2.out]; rfl, (hB5.alloc hB5.size _).trans (hB6.mono (by simp; have := hB5.size; omega))⟩
            case measure => simp [intOf]; omega
        · have e : vs.take k5 = vs := List.take_of_length_le (by omega)
          have hcl : checkG g = (if vs.any (fun v => badV v.ref v.n g.objs.length == 3) then 3 else 0) := by
            have := Hn5.out
            rw [e] at this
            simp only [checkG, HL.out, ← Hvs.out, this]; rfl
          rw [e]
          obtain ⟨m3, hm3⟩ : ∃ m3 : Int, m3 = (if vs.any (fun v => badV v.ref v.n g.objs.length == 3) then 3 else 0) := ⟨_, rfl⟩
          rw [← hm3] at hcl ⊢
          have Hcl := Lib.hid hcl
          clear hcl e hm3
          go_wp2_with fail
          go_ret
          exact ⟨ret_int Hcl.out.symm, hB1.trans ((hB3.trans (hB5.mono hB3.size)).mono hB1.size)⟩

set_option maxRecDepth 20000 in
/-- ragpickerkeep.good -/
theorem good_any (w : World) (v : Value) (g : G) (h : RdG w v g) :
    Calls Try.prog 27 #[v] w fun e w' => e = .returned (.bool (checkG g == 0)) ∧ Below w.heap.size w w' := by
  have Hg := Lib.hid h
  obtain ⟨vo, vr, rfl, ⟨Ao, co, rfl, _, _⟩, ⟨A, c, rfl, _, _⟩⟩ := h
  have hB1 : Below w.heap.size w (w.alloc (.cells #[Value.slice Ao g.objs.length co, Value.slice A g.roots.length c] 27)) := (Below.refl _ _).alloc (Nat.le_refl _) _
  go_enter Try.func27, Try.ntmps27
  go_wp2_with (go_at_call 58; refine (gcheck_any _ _ g (Hg.out.later (later_below hB1))).mono ?_; rintro e w2 ⟨rfl, hB2⟩)
  go_ret
  exact ⟨rfl, hB1.trans (hB2.mono hB1.size)⟩

end Go.Proofs.Yteghhajfkdbcdaa
