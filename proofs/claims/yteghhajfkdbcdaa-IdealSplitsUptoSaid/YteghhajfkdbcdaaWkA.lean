/- weak: alive, strong, the kinds' test. -/
import Derived.Test.YteghhajfkdbcdaaWkP
namespace Go.Proofs.Yteghhajfkdbcdaa
open Go.RowKit
set_option linter.unusedVariables false
set_option linter.unusedSimpArgs false

theorem below_drewN {B : Nat} {a w : World} (h : Below B a w) (n : Nat) : Below B a (w.drewN n) := h.trans ⟨rfl, rfl, rfl, Nat.le_refl _, fun _ _ => rfl⟩
structure Kst (w0 W : World) (kb bb : Nat) (vo vr vk : Value) (kept : List Bool) : Prop where
  hk : W.heap[kb]? = some (.cells #[vo, vr, vk, .slice (some ⟨bb, 0, none⟩) kept.length kept.length] 174 (0, 0))
  hb : W.heap[bb]? = some (.cells (kept.map Value.bool).toArray 4 (0, 0))
  lk : w0.heap.size ≤ kb
  lb : w0.heap.size ≤ bb
  ne : kb ≠ bb
  below : Below w0.heap.size w0 W
theorem Kst.after {w0 W W' : World} {kb bb : Nat} {vo vr vk : Value} {kept : List Bool} (h : Kst w0 W kb bb vo vr vk kept) (hb : Below W.heap.size W W') : Kst w0 W' kb bb vo vr vk kept :=
  ⟨blk_below hb h.hk, blk_below hb h.hb, h.lk, h.lb, h.ne, h.below.trans (hb.mono h.below.size)⟩
theorem Kst.noise {w0 W W' : World} {B kb bb : Nat} {vo vr vk : Value} {kept : List Bool} (h : Kst w0 W kb bb vo vr vk kept) (hn : Noise B W W') (hB : w0.heap.size ≤ B) : Kst w0 W' kb bb vo vr vk kept :=
  ⟨hn.block h.hk, hn.block h.hb, h.lk, h.lb, h.ne, hn.below h.below hB (Nat.le_refl _)⟩
theorem Kst.cell {w0 W : World} {kb bb : Nat} {vo vr vk : Value} {kept : List Bool} (h : Kst w0 W kb bb vo vr vk kept) (k : Nat) (hk : k < kept.length) : W.cell? ⟨bb, k, none⟩ = some (.bool (atB kept k)) := by
  refine cell_blk h.hb ?_
  simp [hk, atB]

set_option maxRecDepth 20000 in
set_option maxHeartbeats 1000000 in
/-- weak's keeper.alive -/
theorem alive_any (w0 w : World) (kb bb : Nat) (vo vr vk : Value) (kept : List Bool) (h : Kst w0 w kb bb vo vr vk kept) (r : Bool) (n : Int) (hn : r = true → 0 ≤ n ∧ n.toNat < kept.length) (hkl : kept.length ≤ 9223372036854775807) :
    Calls Try.prog 56 #[.pointer (some ⟨kb, 0, none⟩), .agg #[.bool r, .int .i64 n]] w fun e w' => e = .returned (.bool (aliveV (atB kept) ⟨r, n⟩)) ∧ Below w.heap.size w w' := by
  have h3 := cell_blk (j := 3) h.hk rfl
  have hlt := lt_blk h.hk
  have hlt2 := lt_blk h.hb
  cases r
  · go_enter Try.func56, Try.ntmps56
    go_wp2
    go_quiet (fail)
    go_wp2
    go_ret
    exact ⟨by simp [aliveV], below_drewN ((Below.refl _ _).alloc (Nat.le_refl _) _) _⟩
  · obtain ⟨h0, h1⟩ := hn rfl
    obtain ⟨m, rfl⟩ := Int.eq_ofNat_of_zero_le h0
    have hc := h.cell m (by simpa using h1)
    have h1' : (m : Int) < kept.length := by simp at h1; omega
    generalize hv : atB kept m = b at hc
    go_enter Try.func56, Try.ntmps56
    go_wp2
    go_quiet (fail)
    go_wp2
    go_ret
    refine ⟨?_, below_drewN ((Below.refl _ _).alloc (Nat.le_refl _) _) _⟩
    simp [aliveV, hv]

set_option maxRecDepth 20000 in
set_option maxHeartbeats 2000000 in
/-- weak's keeper.strong -/
theorem strong_any (w0 w : World) (kb bb : Nat) (vo vr vk : Value) (kept : List Bool) (h : Kst w0 w kb bb vo vr vk kept) (hkn : kept.length ≤ 9223372036854775807) (g : G) (ks : List Int) (ho : RdO w0 vo g.objs) (hks : RdI w0 vk ks) (hkl : kept.length = g.objs.length) (hkk : ks.length = g.objs.length)
    (i : Nat) (hi : i < g.objs.length) (hgd : ∀ o ∈ g.objs, ∀ x ∈ o, x.ref = true → 0 ≤ x.n ∧ x.n.toNat < g.objs.length) :
    Calls Try.prog 94 #[.pointer (some ⟨kb, 0, none⟩), .int .i64 i] w fun e w' => ∃ v', e = .returned v' ∧ RdV w0 v' (str g ks (atB kept) i) ∧ Below w.heap.size w w' := by
  have h0 := cell_blk (j := 0) h.hk rfl
  have h2 := cell_blk (j := 2) h.hk rfl
  have hlt := lt_blk h.hk
  obtain ⟨A, c, rfl, hm, hc⟩ := ho
  obtain ⟨A2, c2, rfl, hm2, hc2⟩ := hks
  obtain ⟨b, off, fv, rfl, hfc, hfr⟩ := hc i hi
  obtain ⟨b2, off2, rfl, hkc⟩ := hc2 i (by omega)
  have hfc' := later_below h.below _ _ hfc
  have hkc' := later_below h.below _ _ hkc
  have hgo := hgd _ (List.getElem_mem hi)
  have es : str g ks (atB kept) i = strF (atB kept) ks[i] g.objs[i] := by simp [str, hi, hkk]
  rw [es]
  generalize hf : g.objs[i] = f at hfr hgo
  obtain ⟨Af, cf, rfl, hmf, hcf⟩ := id hfr
  have hi2 : i < ks.length := by omega
  have Hfr := Lib.hid hfr
  have Hcf := Lib.hid hcf
  have Hgo := Lib.hid hgo
  clear hc hc2 hfc hkc hfr hcf hgo es hf hgd
  generalize ks[i] = kind at hkc'
  by_cases k0 : kind = 0
  · subst k0
    go_enter Try.func94, Try.ntmps94
    go_wp2
    go_ret
    exact ⟨_, rfl, by simpa [strF] using Hfr.out, Below.refl _ _⟩
  · have d0 : decide (kind = 0) = false := by simp [k0]
    by_cases k2 : kind = 2
    · subst k2
      cases f with
      | nil =>
        go_enter Try.func94, Try.ntmps94
        go_wp2
        go_ret
        refine ⟨_, rfl, ?_, Below.refl _ _⟩
        exact ⟨none, 0, rfl, by simp [strF], fun i hi => by simp [strF] at hi⟩
      | cons u r =>
        obtain ⟨bf, of, rfl, hu1, hu2⟩ := Hcf.out 0 (by simp)
        have hu1' := later_below h.below _ _ hu1
        have hu2' := later_below h.below _ _ hu2
        have hgu := Hgo.out u (by simp)
        obtain ⟨ur, un⟩ := u
        have Hu := Lib.hid hgu
        simp only [List.getElem_cons_zero, Nat.zero_mul, Nat.add_zero] at hu1' hu2'
        have Hh := Lib.hid h
        clear hgu hu1 hu2 h
        have hn0 : (0 : Int) < ((⟨ur, un⟩ :: r : List Vl).length : Int) := by simp
        generalize hb : aliveV (atB kept) ⟨ur, un⟩ = al
        have Hb := Lib.hid hb
        clear hb
        have d1 : decide ((0 : Int) < ((⟨ur, un⟩ :: r : List Vl).length : Int)) = true := by simp
        obtain ⟨L, hL⟩ : ∃ L, L = (⟨ur, un⟩ :: r : List Vl).length := ⟨_, rfl⟩
        rw [← hL] at hfc' hn0 d1
        cases al
        · go_enter Try.func94, Try.ntmps94
          go_wp2_with (go_at_call 56; refine (alive_any w0 w kb bb _ vr _ kept Hh.out ur un (fun hr => by have := Hgo.out ⟨ur, un⟩ (by simp) hr; rw [hkl]; exact this) hkn).mono ?_; rintro e w2 ⟨rfl, hb2⟩; rw [Hb.out])
          try go_wp2
          go_ret
          refine ⟨_, rfl, ?_, hb2⟩
          show RdV w0 (.slice none 0 0) _
          exact ⟨none, 0, by simp [strF, Hb.out], by simp [strF, Hb.out], fun i hi => by simp [strF, Hb.out] at hi⟩
        · have hrd : RdV w0 (.slice (some ⟨bf, of + 2, none⟩) r.length (cf - 1)) (strF (atB kept) 2 (⟨ur, un⟩ :: r)) := by
            have e : strF (atB kept) 2 (⟨ur, un⟩ :: r) = r := by simp [strF, Hb.out]
            rw [e]
            refine ⟨_, _, rfl, by simp at hmf; omega, fun j hj => ?_⟩
            obtain ⟨b9, o9, e9, h1, h2⟩ := Hcf.out (j + 1) (by simp; omega)
            injection e9 with e9; injection e9 with e9 e10
            subst e9 e10
            refine ⟨bf, of + 2, rfl, ?_, ?_⟩
            · rw [show of + 2 + j * 2 = of + (j + 1) * 2 by omega]; simpa using h1
            · rw [show of + 2 + j * 2 + 1 = of + (j + 1) * 2 + 1 by omega]; simpa using h2
          by_cases hcf1 : cf = 1
          · have hr0 : r = [] := by cases r with
              | nil => rfl
              | cons _ _ => simp at hmf; omega
            subst hr0
            go_enter Try.func94, Try.ntmps94
            go_wp2_with (go_at_call 56; refine (alive_any w0 w kb bb _ vr _ kept Hh.out ur un (fun hr => by have := Hgo.out ⟨ur, un⟩ (by simp) hr; rw [hkl]; exact this) hkn).mono ?_; rintro e w2 ⟨rfl, hb2⟩; rw [Hb.out])
            go_ret
            refine ⟨_, rfl, ?_, hb2⟩
            show RdV w0 (.slice (some ⟨bf, of, none⟩) 0 0) _
            exact ⟨some ⟨bf, of, none⟩, 0, by simp [strF, Hb.out], by simp [strF, Hb.out], fun i hi => by simp [strF, Hb.out] at hi⟩
          · go_enter Try.func94, Try.ntmps94
            go_wp2_with (go_at_call 56; refine (alive_any w0 w kb bb _ vr _ kept Hh.out ur un (fun hr => by have := Hgo.out ⟨ur, un⟩ (by simp) hr; rw [hkl]; exact this) hkn).mono ?_; rintro e w2 ⟨rfl, hb2⟩; rw [Hb.out])
            go_ret
            exact ⟨_, rfl, by simpa using hrd, hb2⟩
    · have d2 : decide (kind = 2) = false := by simp [k2]
      go_enter Try.func94, Try.ntmps94
      go_wp2
      go_ret
      refine ⟨_, rfl, ?_, Below.refl _ _⟩
      simp only [strF, if_neg k0, if_neg k2]
      exact ⟨none, 0, rfl, by simp, fun i hi => by simp at hi⟩

end Go.Proofs.Yteghhajfkdbcdaa
