/- graph.Check: its contract. -/
import Derived.Test.YteghhajfkdbcdaaChk
import Derived.BigGuardIn
namespace Go.Proofs.Yteghhajfkdbcdaa
open Go.RowKit Go.Shelf
set_option linter.unusedVariables false
set_option linter.unusedSimpArgs false
attribute [local go_sem] Oper.semAt_some

/-- Is there a value that is wrong so? -/
def badAny (N : Nat) (c : Int) (vs : List Vl) : Bool := vs.any fun v => badV v.ref v.n N == c
theorem badAny_snoc (N : Nat) (c : Int) (vs : List Vl) (v : Vl) : badAny N c (vs ++ [v]) = (badAny N c vs || (badV v.ref v.n N == c)) := by simp [badAny]
theorem badAny_pre (N : Nat) (c : Int) {a b : List Vl} (h : a <+: b) (ha : badAny N c a = true) : badAny N c b = true := by
  obtain ⟨x, hx, hx2⟩ := List.any_eq_true.1 ha
  exact List.any_eq_true.2 ⟨x, h.subset hx, hx2⟩

theorem no_undef {b : Bool} (h : some undef = some (Value.bool b)) : False := by simp [undef] at h

set_option maxRecDepth 100000 in
set_option maxHeartbeats 4000000 in
/-- graph.Check -/
theorem check_any (w : World) (v : Value) (g : G) (h : RdG w v g) :
    Calls Try.prog 59 #[v] w fun e w' => e = .returned (.int .i64 (checkG g)) ∧ Below w.heap.size w w' := by
  have hg0 := h
  obtain ⟨vo, vr, rfl, ho, hr⟩ := h
  have Ho := Lib.hid ho
  have Hr := Lib.hid hr
  obtain ⟨A, c, rfl, hm, hc⟩ := hr
  obtain ⟨Ao, co, rfl, hmo, hco⟩ := ho
  clear hc hco
  obtain ⟨w1, hw1⟩ : ∃ w1, (w.alloc (.cells #[Value.slice Ao g.objs.length co, Value.slice A g.roots.length c] 27)).alloc (.cells #[.int .i64 0] 30) = w1 := ⟨_, rfl⟩
  have hB1 : Below w.heap.size w w1 := by rw [← hw1]; exact ((Below.refl _ _).alloc (Nat.le_refl _) _).alloc (by simp) _
  have hx0 : w1.cell? ⟨w.heap.size, 0, none⟩ = some (.slice Ao g.objs.length co) := by rw [← hw1]; simp
  have hx1 : w1.cell? ⟨w.heap.size, 1, none⟩ = some (.slice A g.roots.length c) := by rw [← hw1]; simp
  have hbx : Boxed w1 (w.heap.size + 1) 30 (.int .i64 0) := by rw [← hw1]; have := Boxed.new (w.alloc (.cells #[Value.slice Ao g.objs.length co, Value.slice A g.roots.length c] 27)) 30 (.int .i64 0); simpa using this
  have hl1 : Later w w1 := later_below hB1
  have hcb := hbx.cell
  have hfb := hbx.frozen
  have Hbx := Lib.hid hbx
  have Hg0 := Lib.hid hg0
  clear hbx hg0
  -- the way out with a code n, the box set
  have fin : ∀ (n : Int) (W W' : World), Below w.heap.size w W → Boxed W (w.heap.size + 1) 30 (.int .i64 0) → Noise w.heap.size (W.setCell ⟨w.heap.size + 1, 0, none⟩ (.int .i64 n)) W' → Below w.heap.size w W' ∧ W'.cell? ⟨w.heap.size + 1, 0, none⟩ = some (.int .i64 n) := by
    intro n W W' hB hb hn
    exact ⟨hn.below (hB.setCell (by simp) _) (Nat.le_refl _) (Nat.le_refl _), hn.cell (hb.set _).cell⟩
  have Fin := Lib.hid fin
  clear fin
  by_cases hL : largeG g = true
  · have Hck : Hid (checkG g = 1) := by show checkG g = 1; simp [checkG, hL]
    have HL := Lib.hid hL
    clear hL
    by_cases h24 : 24 < g.objs.length
    · have hb : decide ((24 : Int) < (g.objs.length : Int)) = true := by simp; omega
      refine calls_marks Try.func59 rfl ?_
      simp only [Try.ntmps59, List.size_toArray, List.length_cons, List.length_nil, Nat.reduceAdd, Nat.reduceSub, Array.replicate_succ, Array.replicate_zero, List.push_toArray, List.append_toArray, List.nil_append, List.cons_append]
      go_wp2_with fail
      refine leaves_marks (B := w.heap.size) [] _ (by simp) (by simp) ?_
      intro W' hn
      obtain ⟨d1, d2⟩ := Fin.out 1 _ W' hB1 Hbx.out hn
      exact ⟨_, by simp [results, Try.results59, go_sem, d2], ret_int Hck.out.symm, d1⟩
    have hb24 : decide ((24 : Int) < (g.objs.length : Int)) = false := by simp; omega
    by_cases h8 : 8 < g.roots.length
    · have hb : decide ((8 : Int) < (g.roots.length : Int)) = true := by simp; omega
      refine calls_marks Try.func59 rfl ?_
      simp only [Try.ntmps59, List.size_toArray, List.length_cons, List.length_nil, Nat.reduceAdd, Nat.reduceSub, Array.replicate_succ, Array.replicate_zero, List.push_toArray, List.append_toArray, List.nil_append, List.cons_append]
      go_wp2_with fail
      refine leaves_marks (B := w.heap.size) [] _ (by simp) (by simp) ?_
      intro W' hn
      obtain ⟨d1, d2⟩ := Fin.out 1 _ W' hB1 Hbx.out hn
      exact ⟨_, by simp [results, Try.results59, go_sem, d2], ret_int Hck.out.symm, d1⟩
    have hb8 : decide ((8 : Int) < (g.roots.length : Int)) = false := by simp; omega
    have hany : (g.objs.any fun o => decide (4 < o.length)) = true := by
      have := HL.out
      simp only [largeG, h24, h8, decide_false, Bool.false_or] at this
      exact this
    have HC := Lib.hid (conto_any w1 _ g.objs (Ho.out.later hl1))
    rw [hany] at HC
    clear hany
    refine calls_marks Try.func59 rfl ?_
    simp only [Try.ntmps59, List.size_toArray, List.length_cons, List.length_nil, Nat.reduceAdd, Nat.reduceSub, Array.replicate_succ, Array.replicate_zero, List.push_toArray, List.append_toArray, List.nil_append, List.cons_append]
    go_wp2_with (go_at_call 99; refine HC.out.mono ?_; rintro e w2 ⟨rfl, hB2⟩; have hcb2 := later_below hB2 _ _ hcb; have hfb2 := (hB2.frozen (p := ⟨w.heap.size + 1, 0, none⟩) Hbx.out.lt).trans hfb)
    refine leaves_marks (B := w.heap.size) [] _ (by simp) (by simp) ?_
    intro W' hn
    obtain ⟨d1, d2⟩ := Fin.out 1 _ W' (hB1.trans (hB2.mono hB1.size)) (Hbx.out.kept (grown_of_below hB2 none) (by simp)) hn
    exact ⟨_, by simp [results, Try.results59, go_sem, d2], ret_int Hck.out.symm, d1⟩
  · have hL : largeG g = false := by simpa using hL
    have h24 : ¬ 24 < g.objs.length := by intro h; simp [largeG, h] at hL
    have h8 : ¬ 8 < g.roots.length := by intro h; simp [largeG, h] at hL
    have hb24 : decide ((24 : Int) < (g.objs.length : Int)) = false := by simp; omega
    have hb8 : decide ((8 : Int) < (g.roots.length : Int)) = false := by simp; omega
    have hany : (g.objs.any fun o => decide (4 < o.length)) = false := by
      have := hL
      simp only [largeG, h24, h8, decide_false, Bool.false_or] at this
      exact this
    have Hck : Hid (checkG g = if badAny g.objs.length 2 (allV g) then 2 else if badAny g.objs.length 3 (allV g) then 3 else 0) := by
      show checkG g = _
      simp [checkG, hL, badAny]
    have HC := Lib.hid (conto_any w1 _ g.objs (Ho.out.later hl1))
    rw [hany] at HC
    clear hany hL
    refine calls_marks Try.func59 rfl ?_
    simp only [Try.ntmps59, List.size_toArray, List.length_cons, List.length_nil, Nat.reduceAdd, Nat.reduceSub, Array.replicate_succ, Array.replicate_zero, List.push_toArray, List.append_toArray, List.nil_append, List.cons_append]
    go_wp2_with (first | (go_at_call 99; refine HC.out.mono ?_; rintro e w2 ⟨rfl, hB2⟩; have hcb2 := later_below hB2 _ _ hcb; have hx02 := later_below hB2 _ _ hx0; have hx12 := later_below hB2 _ _ hx1) | (go_at_call 100; refine (gvalues_any _ _ _).mono ?_; rintro e w3 ⟨rfl, rfl⟩))
    have hB12 : Below w.heap.size w w2 := hB1.trans (hB2.mono hB1.size)
    have hl2 : Later w w2 := later_below hB12
    have Hbx2 : Hid (Boxed w2 (w.heap.size + 1) 30 (.int .i64 0)) := Hbx.out.kept (grown_of_below hB2 none) (by simp)
    obtain ⟨W0, hW0⟩ : ∃ W0, w2.alloc (.cells #[Value.slice Ao g.objs.length co, Value.slice A g.roots.length c] 27) = W0 := ⟨_, rfl⟩
    have hB3 : Below w2.heap.size w2 W0 := by rw [← hW0]; exact (Below.refl _ _).alloc (Nat.le_refl _) _
    have hy0 : W0.cell? ⟨w2.heap.size, 0, none⟩ = some (.slice Ao g.objs.length co) := by rw [← hW0]; simp
    have hy1 : W0.cell? ⟨w2.heap.size, 1, none⟩ = some (.slice A g.roots.length c) := by rw [← hW0]; simp
    rw [hW0]
    clear hW0
    have hl3 : Later w W0 := hl2.trans (later_below hB3)
    have hB03 : Below w.heap.size w W0 := hB12.trans (hB3.mono hB12.size)
    have Hbx3 : Hid (Boxed W0 (w.heap.size + 1) 30 (.int .i64 0)) := Hbx2.out.kept (grown_of_below hB3 none) (by simp)
    have hx03 := later_below hB3 _ _ hx02
    have hx13 := later_below hB3 _ _ hx12
    clear hcb hfb hcb2 hx02 hx12 hx0 hx1 hw1
    refine range_wp' rfl eg128 (values_iter 8 w2.heap.size _ _ g W0 hy0 hy1 (Ho.out.later hl3) (Hr.out.later hl3)) (fun _ h => h) (fun _ => rfl)
      (fun pre W => Below W0.heap.size W0 W ∧ badAny g.objs.length 2 pre = false)
      (fun c pre W => c = .ret ∧ badAny g.objs.length 2 pre = true ∧ Below w.heap.size w W ∧ W.cell? ⟨w.heap.size + 1, 0, none⟩ = some (.int .i64 2))
      (fun s W W' h hn => ⟨hn.below h.1 (Nat.le_refl _) (Nat.le_refl _), h.2⟩)
      (fun c s W W' h hn => ⟨h.1, h.2.1, hn.below h.2.2.1 hB03.size (Nat.le_refl _), hn.cell h.2.2.2⟩)
      ⟨Below.refl _ _, rfl⟩
      (fun x b => [(24, .agg #[.bool x.ref, .int .i64 x.n]), (4, .pointer (some ⟨b, 0, none⟩))])
      (fun x b W => W.heap[b]? = some (.cells #[.bool x.ref, .int .i64 x.n] 99))
      (fun x b W W' h hn => hn.block h) ?assign ?body ?done ?stop
    case assign =>
      intro l pre x W K hi hK
      gi_wp2
      refine hK W.heap.size _ ((KeepsOthers.alloc W _).from _) (SameP.below ((Below.refl W.heap.size W).alloc (Nat.le_refl _) _) (fun i h => by have := hi.1.size; omega)) ⟨hi.1.alloc hi.1.size _, hi.2⟩ ?_
      exact World.alloc_heap_new W _
    case body =>
      rintro l pre ⟨xr, xn⟩ b W ⟨hi1, hi2⟩ hb hlen
      have Hi2 := Lib.hid hi2
      have hbc0 : W.cell? ⟨b, 0, none⟩ = some (.bool xr) := by simp [World.cell?, hb]
      have hbc1 : W.cell? ⟨b, 1, none⟩ = some (.int .i64 xn) := by simp [World.cell?, hb]
      have hx04 := later_below hi1 _ _ hx03
      have Hbx4 : Hid (Boxed W (w.heap.size + 1) 30 (.int .i64 0)) := Hbx3.out.kept (grown_of_below hi1 none) (by simp)
      have hcb4 := Hbx4.out.cell
      have hfb4 := Hbx4.out.frozen
      have Hb := Lib.hid hb
      clear hb hi2 hx03 hx13
      have hgo : ∀ p, p = (badV xr xn g.objs.length == 2) → badAny g.objs.length 2 (pre ++ [(⟨xr, xn⟩ : Vl)]) = p := by
        intro p hp; rw [badAny_snoc, Hi2.out, hp]; simp
      have Hgo := Lib.hid hgo
      clear hgo
      simp only [setS, List.foldl_cons, List.foldl_nil]
      cases xr
      · gi_wp2
        all_goals first | exact (no_undef ‹some undef = some (Value.bool _)›).elim | exact ⟨KeepsFrom.refl _ _, SameP.refl _ _, hi1, Hgo.out false (by simp [badV]; split <;> simp)⟩
      · by_cases h0 : xn < 0
        · have hd0 : decide (xn < 0) = true := by simpa using h0
          gi_wp2
          exact ⟨(KeepsOthers.setCell _ _ _).from _, rfl, Hgo.out true (by simp [badV, h0]), (hB03.trans (hi1.mono hB03.size)).setCell (by simp) _, (Hbx4.out.set _).cell⟩
        · have hd0 : decide (xn < 0) = false := by simpa using h0
          by_cases h1 : (g.objs.length : Int) ≤ xn
          · have hd1 : decide ((g.objs.length : Int) ≤ xn) = true := by simpa using h1
            gi_wp2
            exact ⟨(KeepsOthers.setCell _ _ _).from _, rfl, Hgo.out true (by simp [badV, h1]), (hB03.trans (hi1.mono hB03.size)).setCell (by simp) _, (Hbx4.out.set _).cell⟩
          · have hd1 : decide ((g.objs.length : Int) ≤ xn) = false := by simpa using h1
            gi_wp2
            exact ⟨KeepsFrom.refl _ _, SameP.refl _ _, hi1, Hgo.out false (by simp [badV, h0, h1])⟩
    case stop =>
      rintro D c pre W hD hpre ⟨rfl, hany, hbel, hcc⟩ hk
      have Hany := Lib.hid hany
      clear hany
      go_wp2
      refine leaves_marks (B := w.heap.size) [D] _ (by simp) (by intro D' hD'; simp at hD'; subst hD'; exact ⟨Nat.le_trans hB03.size hD, hk⟩) ?_
      intro W' hn
      have hcc' := hn.cell hcc
      refine ⟨_, by simp [results, Try.results59, go_sem, hcc']; rfl, ret_int ?_, hn.below hbel (Nat.le_refl _) (Nat.le_refl _)⟩
      rw [Hck.out, badAny_pre _ _ hpre Hany.out]; rfl
    case done =>
      rintro D W hD ⟨hi1, hi2⟩ hkD
      have Hi2 := Lib.hid hi2
      have HkD := Lib.hid hkD
      have hx05 := later_below hi1 _ _ hx03
      have hx15 := later_below hi1 _ _ hx13
      have Hbx5 : Hid (Boxed W (w.heap.size + 1) 30 (.int .i64 0)) := Hbx3.out.kept (grown_of_below hi1 none) (by simp)
      have hB05 : Below w.heap.size w W := hB03.trans (hi1.mono hB03.size)
      have hl5 : Later w W := later_below hB05
      have hszD : w.heap.size ≤ D := Nat.le_trans hB03.size hD
      have hDW : D < W.heap.size := (Array.getElem?_eq_some_iff.1 hkD).1
      have hneD : w.heap.size + 1 < D := by have := Hbx3.out.lt; omega
      clear hi2 hkD hx03 hx13 hi1 hB03 hB12 hB3 hB1 hl1 hl2 hl3 hB2 hy0 hy1 Hbx2 Hbx3 Hbx HC hD
      clear W0
      go_wp2_with (go_at_call 100; refine (gvalues_any _ _ _).mono ?_; rintro e w3 ⟨rfl, rfl⟩)
      obtain ⟨W0, hW0⟩ : ∃ W0, W.alloc (.cells #[Value.slice Ao g.objs.length co, Value.slice A g.roots.length c] 27) = W0 := ⟨_, rfl⟩
      have hB3 : Below W.heap.size W W0 := by rw [← hW0]; exact (Below.refl _ _).alloc (Nat.le_refl _) _
      have hy0 : W0.cell? ⟨W.heap.size, 0, none⟩ = some (.slice Ao g.objs.length co) := by rw [← hW0]; simp
      have hy1 : W0.cell? ⟨W.heap.size, 1, none⟩ = some (.slice A g.roots.length c) := by rw [← hW0]; simp
      rw [hW0]
      clear hW0
      have hl3 : Later w W0 := hl5.trans (later_below hB3)
      have hB03 : Below w.heap.size w W0 := hB05.trans (hB3.mono hB05.size)
      have Hbx3 : Hid (Boxed W0 (w.heap.size + 1) 30 (.int .i64 0)) := Hbx5.out.kept (grown_of_below hB3 none) (by simp)
      have HkD0 : Hid (W0.heap[D]? = some (.deferred (some []))) := (hB3.block D hDW).trans HkD.out
      have hDW0 : D < W0.heap.size := by have := hB3.size; omega
      refine range_wp' rfl eg128 (values_iter 8 W.heap.size _ _ g W0 hy0 hy1 (Ho.out.later hl3) (Hr.out.later hl3)) (fun _ h => h) (fun _ => rfl)
        (fun pre W => Below W0.heap.size W0 W ∧ badAny g.objs.length 3 pre = false)
        (fun c pre W => c = .ret ∧ badAny g.objs.length 3 pre = true ∧ Below w.heap.size w W ∧ W.cell? ⟨w.heap.size + 1, 0, none⟩ = some (.int .i64 3) ∧ W.heap[D]? = some (.deferred (some [])))
        (fun s W W' h hn => ⟨hn.below h.1 (Nat.le_refl _) (Nat.le_refl _), h.2⟩)
        (fun c s W W' h hn => ⟨h.1, h.2.1, hn.below h.2.2.1 hB03.size (Nat.le_refl _), hn.cell h.2.2.2.1, hn.same D _ h.2.2.2.2 (.inl hDW0)⟩)
        ⟨Below.refl _ _, rfl⟩
        (fun x b => [(42, .agg #[.bool x.ref, .int .i64 x.n]), (5, .pointer (some ⟨b, 0, none⟩))])
        (fun x b W => W.heap[b]? = some (.cells #[.bool x.ref, .int .i64 x.n] 99))
        (fun x b W W' h hn => hn.block h) ?assign2 ?body2 ?done2 ?stop2
      case assign2 =>
        intro l pre x W K hi hK
        gi_wp2
        refine hK W.heap.size _ ((KeepsOthers.alloc W _).from _) (SameP.below ((Below.refl W.heap.size W).alloc (Nat.le_refl _) _) (fun i h => by have := hi.1.size; omega)) ⟨hi.1.alloc hi.1.size _, hi.2⟩ ?_
        exact World.alloc_heap_new W _
      case body2 =>
        rintro l pre ⟨xr, xn⟩ b W ⟨hi1, hi2⟩ hb hlen
        have Hi2 := Lib.hid hi2
        have hbc0 : W.cell? ⟨b, 0, none⟩ = some (.bool xr) := by simp [World.cell?, hb]
        have hbc1 : W.cell? ⟨b, 1, none⟩ = some (.int .i64 xn) := by simp [World.cell?, hb]
        have Hbx4 : Hid (Boxed W (w.heap.size + 1) 30 (.int .i64 0)) := Hbx3.out.kept (grown_of_below hi1 none) (by simp)
        have hcb4 := Hbx4.out.cell
        have hfb4 := Hbx4.out.frozen
        have HkD1 : Hid (W.heap[D]? = some (.deferred (some []))) := (hi1.block D hDW0).trans HkD0.out
        have Hb := Lib.hid hb
        clear hb hi2
        have hgo : ∀ p, p = (badV xr xn g.objs.length == 3) → badAny g.objs.length 3 (pre ++ [(⟨xr, xn⟩ : Vl)]) = p := by
          intro p hp; rw [badAny_snoc, Hi2.out, hp]; simp
        have Hgo := Lib.hid hgo
        clear hgo
        simp only [setS, List.foldl_cons, List.foldl_nil]
        cases xr
        · by_cases h0 : xn < -4611686018427387904
          · have hd0 : decide (xn < -4611686018427387904) = true := by simpa using h0
            gi_wp2
            exact ⟨(KeepsOthers.setCell _ _ _).from _, rfl, Hgo.out true (by simp [badV, h0]), (hB03.trans (hi1.mono hB03.size)).setCell (by simp) _, (Hbx4.out.set _).cell, by rw [Below.heap_setCell _ _ _ _ (by simp; omega)]; exact HkD1.out⟩
          · have hd0 : decide (xn < -4611686018427387904) = false := by simpa using h0
            by_cases h1 : 4611686018427387903 < xn
            · have hd1 : decide (4611686018427387903 < xn) = true := by simpa using h1
              gi_wp2
              exact ⟨(KeepsOthers.setCell _ _ _).from _, rfl, Hgo.out true (by simp [badV, h1]), (hB03.trans (hi1.mono hB03.size)).setCell (by simp) _, (Hbx4.out.set _).cell, by rw [Below.heap_setCell _ _ _ _ (by simp; omega)]; exact HkD1.out⟩
            · have hd1 : decide (4611686018427387903 < xn) = false := by simpa using h1
              gi_wp2
              exact ⟨KeepsFrom.refl _ _, SameP.refl _ _, hi1, Hgo.out false (by simp [badV, h0, h1])⟩
        · gi_wp2
          all_goals first | exact (no_undef ‹some undef = some (Value.bool _)›).elim | exact ⟨KeepsFrom.refl _ _, SameP.refl _ _, hi1, Hgo.out false (by simp [badV]; split <;> simp)⟩
      case stop2 =>
        rintro D2 c pre W hD2 hpre ⟨rfl, hany, hbel, hcc, hkD⟩ hk
        have Hany := Lib.hid hany
        clear hany
        go_wp2
        refine leaves_marks (B := w.heap.size) [D2, D] _ (by simp; omega) (by intro D' hD'; simp at hD'; rcases hD' with rfl | rfl; exact ⟨Nat.le_trans hB03.size hD2, hk⟩; exact ⟨hszD, hkD⟩) ?_
        intro W' hn
        have hcc' := hn.cell hcc
        refine ⟨_, by simp [results, Try.results59, go_sem, hcc']; rfl, ret_int ?_, hn.below hbel (Nat.le_refl _) (Nat.le_refl _)⟩
        rw [Hck.out, Hi2.out, badAny_pre _ _ hpre Hany.out]; rfl
      case done2 =>
        rintro D2 W hD2 ⟨hi1, hi3⟩ hk
        have Hi3 := Lib.hid hi3
        have Hbx6 : Hid (Boxed W (w.heap.size + 1) 30 (.int .i64 0)) := Hbx3.out.kept (grown_of_below hi1 none) (by simp)
        have hcb6 := Hbx6.out.cell
        have hfb6 := Hbx6.out.frozen
        have HkD1 : Hid (W.heap[D]? = some (.deferred (some []))) := (hi1.block D hDW0).trans HkD0.out
        have hB06 : Below w.heap.size w W := hB03.trans (hi1.mono hB03.size)
        have Hk := Lib.hid hk
        clear hi3 hk
        go_wp2
        refine leaves_marks (B := w.heap.size) [D2, D] _ (by simp; omega) ?_ ?_
        · intro D' hD'
          simp at hD'
          rcases hD' with rfl | rfl
          · exact ⟨Nat.le_trans hB03.size hD2, by rw [Below.heap_setCell _ _ _ _ (by simp; have := hB03.size; have := Hbx3.out.lt; omega)]; exact Hk.out⟩
          · exact ⟨hszD, by rw [Below.heap_setCell _ _ _ _ (by simp; omega)]; exact HkD1.out⟩
        intro W' hn
        obtain ⟨d1, d2⟩ := Fin.out 0 _ W' hB06 Hbx6.out hn
        refine ⟨_, by simp [results, Try.results59, go_sem, d2]; rfl, ret_int ?_, d1⟩
        rw [Hck.out, Hi2.out, Hi3.out]; rfl

end Go.Proofs.Yteghhajfkdbcdaa
