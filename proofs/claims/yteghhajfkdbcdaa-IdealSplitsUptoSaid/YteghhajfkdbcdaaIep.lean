/- ideal.Play: its contract. -/
import Derived.Test.YteghhajfkdbcdaaIeg
import Derived.Test.YteghhajfkdbcdaaGph
import Derived.Test.YteghhajfkdbcdaaWkQ
import Derived.Deep.MidRow
import Derived.Outline
namespace Go.Proofs.Yteghhajfkdbcdaa
open Go.RowKit
set_option linter.unusedVariables false
set_option linter.unusedSimpArgs false

/-- A graph that may be: its registers and objects are closed. -/
theorem start_clo {g : G} (h : checkG g = 0) : Clo (g.objs.map some) (regs0 g.roots) ∧ Small (g.objs.map some) := by
  obtain ⟨h24, h8, h4, hv⟩ := checkG_zero.1 h
  have key : ∀ v ∈ allV g, okR (g.objs.map some) v := fun v hm hr => by
    have := hv v hm
    simp only [okVal, hr, if_true] at this
    refine ⟨this.1, isAt_iff.2 ⟨g.objs[v.n.toNat]'(by omega), ?_⟩⟩
    rw [List.getElem?_map, List.getElem?_eq_getElem (by omega)]; rfl
  refine ⟨⟨fun v hm => ?_, ?_, regs0_len h8⟩, ?_⟩
  · rcases List.mem_append.1 hm with hm | hm
    · exact key v (List.mem_append_left _ hm)
    · rw [List.eq_of_mem_replicate hm]; intro e; cases e
  · intro i f hf v hm
    rw [List.getElem?_map] at hf
    cases hq : g.objs[i]? with
    | none => rw [hq] at hf; cases hf
    | some o =>
      rw [hq] at hf
      injection hf with hf; injection hf with hf
      subst hf
      exact key v (List.mem_append_right _ (List.mem_flatten.2 ⟨_, List.mem_of_getElem? hq, hm⟩))
  · intro o ho
    obtain ⟨f, hf, rfl⟩ := List.mem_map.1 ho
    exact h4 f hf

/-- A row of api.Out, one more. -/
theorem OwnU.app {W w6 : World} {base g cap : Nat} {xs : List Ol} {y : Ol} (h : w6.ownsRow base 37 3 (.slice (some ⟨g, 0, none⟩) (xs.length + 1) cap) (xs.length + 1) (flatU xs ++ y.cells)) : OwnU w6 base (.slice (some ⟨g, 0, none⟩) (xs.length + 1) cap) (xs ++ [y]) := by
  unfold OwnU
  rw [List.length_append, flatU_snoc]
  exact h

/-- A slice whose cap is no less than its length. -/
def Cap (v : Value) : Prop := ∃ A n c, v = .slice A n c ∧ n ≤ c
theorem OwnU.cap {W : World} {base : Nat} {v : Value} {xs : List Ol} (h : OwnU W base v xs) : Cap v := by
  rcases h.2 with ⟨rfl, h0⟩ | ⟨g, cap, cur, rfl, hb, hh, h1, h2, h3, h4⟩
  · exact ⟨none, 0, 0, rfl, Nat.le_refl _⟩
  · exact ⟨_, _, _, rfl, by omega⟩

namespace Ie
theorem off {bm bM base : Nat} {W : World} {F : Nat → Prop} {s : Ovs} (h : MRep bm bM base W F s) {b : Nat} {cs : Array Value} {t : TypeId} {fr : Nat × Nat} (hb : W.heap[b]? = some (.cells cs t fr)) (ht : (t == 123 || t == 48 || t == 99 || t == 127) = false) : ¬ F b := by
  obtain ⟨ov, L, h1, h2, h3, rfl⟩ := h
  simp only [Bool.or_eq_false_iff] at ht
  rintro (rfl | hf)
  · rw [h3] at hb
    injection hb with hb
    injection hb with _ hb
    subst hb
    simp at ht
  · exact h1.off hb (by simp [ht]) hf
theorem ge {bm bM base : Nat} {W : World} {F : Nat → Prop} {s : Ovs} (h : MRep bm bM base W F s) (hM : base ≤ bM) {b : Nat} (hb : F b) : base ≤ b := by
  obtain ⟨ov, L, h1, h2, h3, rfl⟩ := h
  rcases hb with rfl | hf
  · exact hM
  · exact (h1.types hf).1
/-- ideal.Play, in plain words. -/
def endOf (g : G) (ds : List Dl) : List Ol × (List Vl × Ovs) := M.run (regs0 g.roots, g.objs.map some) ds
def playE (g : G) (ds : List Dl) : Int := if checkG g ≠ 0 then checkG g else if 100 < ds.length then 1 else 0
def playO (g : G) (ds : List Dl) : List Ol := if playE g ds ≠ 0 then [] else (endOf g ds).1
def playG (g : G) (ds : List Dl) : G := if playE g ds ≠ 0 then ⟨[], []⟩ else canonOf (endOf g ds).2.2 (endOf g ds).2.1

theorem _root_.Go.Proofs.Yteghhajfkdbcdaa.HObj.mono {W : World} {b b' : Nat} {ov : Value} {L : List (Option Ob)} (h : HObj W b ov L) (hb : b' ≤ b) : HObj W b' ov L := by
  refine ⟨?_, fun i o hi => ?_, h.nbx, h.nfv⟩
  · refine ⟨h.row.1, ?_⟩
    rcases h.row.2 with h0 | ⟨g, cap, cur, h1, h2, h3⟩
    · exact .inl h0
    · exact .inr ⟨g, cap, cur, h1, by omega, h3⟩
  · obtain ⟨h1, h2, h3⟩ := h.box i o hi
    exact ⟨h1, by omega, own_mono h3 hb⟩
theorem iep_own {wr w6 : World} {bm bM base k : Nat} {v : Value} {outs : List Ol} {F F' : Nat → Prop} {rs : List Vl} {s : Ovs} {o : Obj} (h : OwnU wr base v outs) (hl : outs.length = k) (hm : Mach wr bm bM 125 rs) (hr : MRep bm bM base wr F s) (hf : Fr (fun x => F x ∨ x = bm) (wr.alloc o) F' w6) : w6.ownsRow base 37 3 v k (flatU outs) := by
  subst hl
  refine own_same_blk h fun b hb => ?_
  obtain ⟨_, cs, h2⟩ := own_blk h hb
  rw [h2]
  refine hf.blk (blk_alloc h2) ?_
  rintro (h3 | h3)
  · exact off hr h2 rfl h3
  · exact type_ne h2 hm.blk (by decide) h3
theorem range_regs {W : World} {bm bM : Nat} {T : TypeId} {rs : List Vl} (h : Mach W bm bM T rs) : W.rangeAt bm 0 (flatV rs) := by
  intro j v hv
  have hl := (List.getElem?_eq_some_iff.1 hv).1
  rw [Nat.zero_add]
  refine cell_blk h.blk ?_
  rw [Array.getElem?_push, if_neg (by simp; omega)]
  simpa using hv
theorem regs16 {W : World} {bm bM : Nat} {T : TypeId} {b0 b1 b2 b3 b4 b5 b6 b7 : Bool} {n0 n1 n2 n3 n4 n5 n6 n7 : Int} (h : Mach W bm bM T [⟨b0, n0⟩, ⟨b1, n1⟩, ⟨b2, n2⟩, ⟨b3, n3⟩, ⟨b4, n4⟩, ⟨b5, n5⟩, ⟨b6, n6⟩, ⟨b7, n7⟩]) : W.cell? ⟨bm, 0, none⟩ = some (.bool b0) ∧ W.cell? ⟨bm, 1, none⟩ = some (.int .i64 n0) ∧ W.cell? ⟨bm, 2, none⟩ = some (.bool b1) ∧ W.cell? ⟨bm, 3, none⟩ = some (.int .i64 n1) ∧ W.cell? ⟨bm, 4, none⟩ = some (.bool b2) ∧ W.cell? ⟨bm, 5, none⟩ = some (.int .i64 n2) ∧ W.cell? ⟨bm, 6, none⟩ = some (.bool b3) ∧ W.cell? ⟨bm, 7, none⟩ = some (.int .i64 n3) ∧ W.cell? ⟨bm, 8, none⟩ = some (.bool b4) ∧ W.cell? ⟨bm, 9, none⟩ = some (.int .i64 n4) ∧ W.cell? ⟨bm, 10, none⟩ = some (.bool b5) ∧ W.cell? ⟨bm, 11, none⟩ = some (.int .i64 n5) ∧ W.cell? ⟨bm, 12, none⟩ = some (.bool b6) ∧ W.cell? ⟨bm, 13, none⟩ = some (.int .i64 n6) ∧ W.cell? ⟨bm, 14, none⟩ = some (.bool b7) ∧ W.cell? ⟨bm, 15, none⟩ = some (.int .i64 n7) := by
  exact ⟨(h.get (k := 0) rfl).1, (h.get (k := 0) rfl).2, (h.get (k := 1) rfl).1, (h.get (k := 1) rfl).2, (h.get (k := 2) rfl).1, (h.get (k := 2) rfl).2, (h.get (k := 3) rfl).1, (h.get (k := 3) rfl).2, (h.get (k := 4) rfl).1, (h.get (k := 4) rfl).2, (h.get (k := 5) rfl).1, (h.get (k := 5) rfl).2, (h.get (k := 6) rfl).1, (h.get (k := 6) rfl).2, (h.get (k := 7) rfl).1, (h.get (k := 7) rfl).2⟩
theorem results_33 {fn : Func} (h : fn.results = #[.tmp 4, .cell 5 27, .tmp 6]) (tmps : Array Value) (w : World) (b : Nat) (v x y z : Value) (h4 : tmps.getD 4 undef = v) (h5 : tmps.getD 5 undef = .pointer (some ⟨b, 0, none⟩)) (h6 : tmps.getD 6 undef = z)
    (h0 : w.cell? ⟨b, 0, none⟩ = some x) (h1 : w.cell? ⟨b, 1, none⟩ = some y) : (results fn tmps).run Try.prog w = .ok (.tuple #[v, .agg #[x, y], z]) w := by
  have h4' : tmps[4]?.getD undef = v := by simpa using h4
  have h5' : tmps[5]?.getD undef = .pointer (some ⟨b, 0, none⟩) := by simpa using h5
  have h6' : tmps[6]?.getD undef = z := by simpa using h6
  simp [results, h, go_sem, h4', h5', h6', asAddr, loadVar, h0, h1, Result.andThen]

set_option maxRecDepth 100000 in
set_option maxHeartbeats 4000000 in
/-- ideal.Play -/
theorem play_any (w : World) (gv sv : Value) (g : G) (ds : List Dl) (hg : RdG w gv g) (hs : RdD w sv ds) :
    Calls Try.prog 33 #[gv, sv] w fun e w' => ∃ v gv', e = .returned (.tuple #[v, gv', .int .i64 (playE g ds)]) ∧ (∀ W : World, (∀ b, w.heap.size ≤ b → W.heap[b]? = w'.heap[b]?) → (RdU W v (playO g ds) ∧ Cap v) ∧ RdG W gv' (playG g ds)) ∧ Below w.heap.size w w' := by
  have Hg := Lib.hid hg
  obtain ⟨vo, vr, rfl, ho, hroots⟩ := hg
  obtain ⟨Ao, co, rfl, hmo, -⟩ := ho
  obtain ⟨Ar, cr, rfl, hmr, -⟩ := hroots
  have Hs := Lib.hid hs
  obtain ⟨As, cs, rfl, hms, hcs⟩ := hs
  have Hcs := Lib.hid hcs
  clear hcs
  by_cases hck : checkG g = 0
  · by_cases hlen : 100 < ds.length
    · have d0 : decide ((100 : Int) < (ds.length : Int)) = true := by simp; omega
      have He : Hid (playE g ds = 1) := by show _ = _; simp [playE, hck, hlen]
      have Hck := Lib.hid hck
      clear hck
      go_enter Try.func33, Try.ntmps33
      go_wp2_with (go_at_call 59; refine (check_any _ _ g (Hg.out.later (later_below (((Below.refl _ _).alloc (Nat.le_refl _) _).alloc (by simp) _)))).mono ?_; rintro e w2 ⟨rfl, hB⟩; rw [Hck.out]; have q := blk_below hB (at_new _ _ (w.heap.size + 1) (by simp)); have q0 := cell_blk (j := 0) q rfl; have q1 := cell_blk (j := 1) q rfl; have f0 := frozen_blk (j := 0) q; have f1 := frozen_blk (j := 1) q; have hsz := lt_blk q)
      have hBw : Below w.heap.size w w2 := (((Below.refl w.heap.size w).alloc (Nat.le_refl _) _).alloc (by simp) _).trans (hB.mono (by simp; omega))
      have q5 := set_blk (j := 1) (u := .slice none 0 0) (set_blk (j := 0) (u := .slice none 0 0) q)
      refine bodyPost_ret (results_33 rfl _ _ (w.heap.size + 1) _ (.slice none 0 0) (.slice none 0 0) _ rfl rfl rfl (cell_blk (j := 0) q5 rfl) (cell_blk (j := 1) q5 rfl)) rfl ?_
      rw [He.out]
      refine ⟨_, _, rfl, fun W hW => ?_, (hBw.setCell (by simp) _).setCell (by simp) _⟩
      have ho : playO g ds = [] := by unfold playO; rw [He.out, if_pos (by simp)]
      have hg : playG g ds = ⟨[], []⟩ := by unfold playG; rw [He.out, if_pos (by simp)]
      rw [ho, hg]
      exact ⟨⟨⟨none, 0, rfl, by simp, fun i hi => by simp at hi⟩, none, 0, 0, rfl, Nat.le_refl _⟩, _, _, rfl, ⟨none, 0, rfl, by simp, fun i hi => by simp at hi⟩, ⟨none, 0, rfl, by simp, fun i hi => by simp at hi⟩⟩
    · have d0 : decide ((100 : Int) < (ds.length : Int)) = false := by simp; omega
      have He : Hid (playE g ds = 0) := by show _ = _; simp [playE, hck, hlen]
      obtain ⟨h24, h8, h4, hval⟩ := checkG_zero.1 hck
      obtain ⟨hclo, hsmall⟩ := start_clo hck
      have Hinv : Hid (Inv (regs0 g.roots) (g.objs.map some)) := ⟨hclo, hsmall⟩
      have Hck := Lib.hid hck
      have H8 := Lib.hid h8
      have H24 := Lib.hid h24
      have H4 : Hid (∀ o ∈ g.objs, o.length ≤ 1099511627776) := fun o ho => by have := h4 o ho; omega
      obtain ⟨b0, n0, b1, n1, b2, n2, b3, n3, b4, n4, b5, n5, b6, n6, b7, n7, hr8⟩ := regs8 (regs0_len h8)
      have Hr8 := Lib.hid hr8
      have Hfl : Hid ((flatV (regs0 g.roots)).toArray = #[.bool b0, .int .i64 n0, .bool b1, .int .i64 n1, .bool b2, .int .i64 n2, .bool b3, .int .i64 n3, .bool b4, .int .i64 n4, .bool b5, .int .i64 n5, .bool b6, .int .i64 n6, .bool b7, .int .i64 n7]) := by show _ = _; rw [hr8]; rfl
      have Hlen := Lib.hid hlen
      clear hck hclo hsmall h24 h8 h4 hval hr8 hlen
      go_enter Try.func33, Try.ntmps33
      go_wp2_with (first
        | (go_at_call 59; refine (check_any _ _ g (Hg.out.later (later_below (((Below.refl _ _).alloc (Nat.le_refl _) _).alloc (by simp) _)))).mono ?_; rintro e w2 ⟨rfl, hB⟩; rw [Hck.out]
           have HQ := Lib.hid (blk_below hB (at_new _ _ (w.heap.size + 1) (by simp)))
           have HQ0 := Lib.hid (blk_below hB (blk_alloc (heap_alloc_new w (.cells #[.slice Ao g.objs.length co, .slice Ar g.roots.length cr] 27))))
           have HB2 := Lib.hid ((((Below.refl w.heap.size w).alloc (Nat.le_refl _) (.cells #[.slice Ao g.objs.length co, .slice Ar g.roots.length cr] 27)).alloc (by simp) (.cells #[.slice none 0 0, .slice none 0 0] 27)).trans (hB.mono (by simp; omega)))
           have q0 := cell_blk (j := 0) HQ0.out rfl
           have q1 := cell_blk (j := 1) HQ0.out rfl
           have hz2 := lt_blk HQ.out
           clear hB)
        | (go_at_call 60; refine (of_any w2 _ g (Hg.out.later (later_below HB2.out)) (by have := H24.out; omega) H4.out).mono ?_; rintro e w3 ⟨ov, L, rfl, hO, hob, hB⟩
           have HB3 := Lib.hid (HB2.out.trans (hB.mono HB2.out.size))
           have hz23 := hB.size
           have HQ3 := Lib.hid (blk_below hB HQ.out)
           have HQ03 := Lib.hid (blk_below hB HQ0.out)
           have HO := Lib.hid (And.intro hO hob)
           have hlob : L.length ≤ 24 := by have := congrArg List.length hob; simp [obs] at this; have := H24.out; omega
           obtain ⟨Aw, cw, rfl, -⟩ := id hO.len
           have q0 := cell_blk (j := 0) HQ03.out rfl
           have q1 := cell_blk (j := 1) HQ03.out rfl
           have hzz := lt_blk HQ03.out
           clear hB hO hob)
        | (go_at_call 61; refine (first_any _ _ g (Hg.out.later (later_below (HB3.out.alloc HB3.out.size _))) H8.out).mono ?_; rintro e w4 ⟨rfl, hB⟩; rw [Hfl.out]
           have HB4 := Lib.hid ((HB3.out.alloc HB3.out.size (.cells #[.slice Aw L.length cw] 127)).trans (hB.mono (by have := HB3.out.size; simp; omega)))
           have HQ4 := Lib.hid (blk_below hB (blk_alloc (x := .cells #[.slice Aw L.length cw] 127) HQ3.out))
           have HM4 := Lib.hid (blk_below hB (heap_alloc_new w3 (.cells #[.slice Aw L.length cw] 127)))
           have HO4 := Lib.hid ((HO.out.1.alloc (.cells #[.slice Aw L.length cw] 127)).below hB)
           have hz34 := hB.size
           clear hB))
      generalize hW5 : w4.alloc (.cells #[.bool b0, .int .i64 n0, .bool b1, .int .i64 n1, .bool b2, .int .i64 n2, .bool b3, .int .i64 n3, .bool b4, .int .i64 n4, .bool b5, .int .i64 n5, .bool b6, .int .i64 n6, .bool b7, .int .i64 n7, .iface 125 (.pointer (some ⟨w3.heap.size, 0, none⟩))] 105) = w5
      have hz5 : w5.heap.size = w4.heap.size + 1 := by rw [← hW5]; simp
      have HS : Hid (∃ F, Mach w5 w4.heap.size w3.heap.size 125 (regs0 g.roots) ∧ MRep w4.heap.size w3.heap.size w.heap.size w5 F (g.objs.map some) ∧ ¬ F w4.heap.size ∧ w5.heap[w.heap.size + 1]? = some (.cells #[.slice none 0 0, .slice none 0 0] 27 (0, 0)) ∧ Below w.heap.size w w5) := by
        rw [← hW5]
        have hb5 : (w4.alloc (.cells #[.bool b0, .int .i64 n0, .bool b1, .int .i64 n1, .bool b2, .int .i64 n2, .bool b3, .int .i64 n3, .bool b4, .int .i64 n4, .bool b5, .int .i64 n5, .bool b6, .int .i64 n6, .bool b7, .int .i64 n7, .iface 125 (.pointer (some ⟨w3.heap.size, 0, none⟩))] 105)).heap[w4.heap.size]? = some (.cells ((flatV (regs0 g.roots)).toArray.push (.iface 125 (.pointer (some ⟨w3.heap.size, 0, none⟩)))) 105 (0, 0)) := by rw [heap_alloc_new, Hfl.out]; rfl
        have hr5 : MRep w4.heap.size w3.heap.size w.heap.size (w4.alloc (.cells #[.bool b0, .int .i64 n0, .bool b1, .int .i64 n1, .bool b2, .int .i64 n2, .bool b3, .int .i64 n3, .bool b4, .int .i64 n4, .bool b5, .int .i64 n5, .bool b6, .int .i64 n6, .bool b7, .int .i64 n7, .iface 125 (.pointer (some ⟨w3.heap.size, 0, none⟩))] 105)) (HG w3.heap.size (.slice Aw L.length cw) L) (g.objs.map some) := ⟨_, L, (HObj.mono HO4.out HB2.out.size).alloc _, HO.out.2, blk_alloc HM4.out, rfl⟩
        exact ⟨_, ⟨hb5, regs0_len H8.out⟩, hr5, off hr5 hb5 rfl, blk_alloc HQ4.out, HB4.out.alloc HB4.out.size _⟩
      clear hW5 q0 q1
      have hbM : w.heap.size ≤ w3.heap.size := HB3.out.size
      have hbm : w.heap.size ≤ w4.heap.size := HB4.out.size
      go_loopw [10, 35] (fun l i wr => ∃ (k : Nat) (F : Nat → Prop), k ≤ ds.length ∧ i = .int .i64 k ∧ OwnU wr w.heap.size l (M.run (regs0 g.roots, g.objs.map some) (ds.take k)).1 ∧ Mach wr w4.heap.size w3.heap.size 125 (M.run (regs0 g.roots, g.objs.map some) (ds.take k)).2.1 ∧ MRep w4.heap.size w3.heap.size w.heap.size wr F (M.run (regs0 g.roots, g.objs.map some) (ds.take k)).2.2 ∧ ¬ F w4.heap.size ∧ wr.heap[w.heap.size + 1]? = some (.cells #[.slice none 0 0, .slice none 0 0] 27 (0, 0)) ∧ Below w.heap.size w wr ∧ w5.heap.size ≤ wr.heap.size) (fun _ i _ => ds.length - (intOf i).toNat)
      case atStart =>
        obtain ⟨F, a1, a2, a3, a4, a5⟩ := HS.out
        exact ⟨0, F, Nat.zero_le _, rfl, OwnU.nil _ _, a1, a2, a3, a4, a5, Nat.le_refl _⟩
      case round =>
        obtain ⟨k, F, hk, rfl, i1, i2, i3, i4, i5, i6, i7⟩ := hrel
        have hgr := good.run (p := (regs0 g.roots, g.objs.map some)) Hinv.out (ds.take k)
        have hl1 := M.run_len (regs0 g.roots, g.objs.map some) (ds.take k)
        rw [List.length_take, Nat.min_eq_left hk] at hl1
        have hll : (M.objs (M.run (regs0 g.roots, g.objs.map some) (ds.take k)).2.2).length ≤ 1000 := by
          have h1 := hgr.2
          dsimp only at h1
          have h2 : (M.objs (g.objs.map some)).length ≤ 24 := by show (g.objs.map some).length ≤ 24; rw [List.length_map]; exact H24.out
          have h3 : (ds.take k).length ≤ 100 := by rw [List.length_take]; have := Hlen.out; omega
          omega
        by_cases hlt : k < ds.length
        · obtain ⟨b, o, rfl, c0, c1, c2, c3, c4⟩ := Hcs.out k hlt
          have c0' := later_below i6 _ _ c0
          have c1' := later_below i6 _ _ c1
          have c2' := later_below i6 _ _ c2
          have c3' := later_below i6 _ _ c3
          have c4' := later_below i6 _ _ c4
          have hsn : M.run (regs0 g.roots, g.objs.map some) (ds.take (k + 1)) = ((M.run (regs0 g.roots, g.objs.map some) (ds.take k)).1 ++ [(M.step (M.run (regs0 g.roots, g.objs.map some) (ds.take k)).2 ds[k]).1], (M.step (M.run (regs0 g.roots, g.objs.map some) (ds.take k)).2 ds[k]).2) := by
            rw [List.take_succ_eq_append_getElem hlt, PMem.run_snoc]
          obtain ⟨dk, dt, dz, df, dn, hd⟩ : ∃ dk dt dz df dn, ds[k] = (⟨dk, dt, dz, df, dn⟩ : Dl) := ⟨_, _, _, _, _, rfl⟩
          rw [hd] at c0' c1' c2' c3' c4' hsn
          dsimp only at c0' c1' c2' c3' c4'
          have Hsn := Lib.hid hsn
          clear hd c0 c1 c2 c3 c4 hsn
          obtain ⟨q, hq⟩ : ∃ q, q = M.run (regs0 g.roots, g.objs.map some) (ds.take k) := ⟨_, rfl⟩
          rw [← hq] at i1 i2 i3 hgr hl1 hll Hsn
          clear hq
          obtain ⟨outs, rs, s⟩ := q
          dsimp only at i1 i2 i3 hgr hl1 hll
          obtain ⟨Au, cu, eu, hmu, -⟩ := id i1.rd
          rw [hl1] at eu
          subst eu
          have H := Lib.hid (And.intro i1 (And.intro i2 (And.intro i3 (And.intro i4 (And.intro i5 (And.intro i6 i7))))))
          have Hg := Lib.hid hgr.1
          have Hll := Lib.hid hll
          have Hl1 := Lib.hid hl1
          have hz6 := i6.size
          have hk100 : k ≤ 100 := by have := Hlen.out; omega
          clear i1 i2 i3 i4 i5 i6 hgr hll hl1 hmu
          go_wp2_with (first
            | (go_at_call 50; refine (do_any w4.heap.size w3.heap.size w.heap.size _ F rs s (H.out.2.1.alloc _) (alloc H.out.2.2.1 _) H.out.2.2.2.1 Hg.out Hll.out (by simp; omega) dk dt dz df dn).mono ?_; rintro e w6 ⟨rfl, F', m1, m2, m3, m4⟩
               have HD := Lib.hid (And.intro m1 (And.intro m2 (And.intro m3 m4)))
               have hz66 := m4.size
               clear m1 m2 m3 m4)
            | (at_builtin; refine list_app rfl _ _ 23 37 3 24 _ rfl Try.underlying23 Try.info37 rfl (by omega) (by omega) w.heap.size _ k (flatU outs) (Ol.cells (M.step (rs, s) ⟨dk, dt, dz, df, dn⟩).1) rfl (by simp [Ol.cells, Value.oneCell']) w6.heap.size rfl (by rfl) (at_new _ _ _ rfl) (own_below (iep_own H.out.1 Hl1.out H.out.2.1 H.out.2.2.1 HD.out.2.2.2) ((Below.refl _ _).alloc (Nat.le_refl _) _)) (by simp at hz66; simp; omega) (by omega) ?_
               intro g2 cap2 w7 hown hg hgb hlt7
               have HN := Lib.hid (And.intro hown hg)
               clear hown hg hgb))
          obtain ⟨hown, hg⟩ := HN.out
          obtain ⟨m1, m2, m3, m4⟩ := HD.out
          obtain ⟨i1, i2, i3, i4, i5, i6, i7⟩ := H.out
          have hon := iep_own i1 Hl1.out i2 i3 m4
          have hob6 : ∀ (b : Nat) (cs : Array Value) (t : TypeId), w6.heap[b]? = some (.cells cs t (0, 0)) → t ≠ 37 → w7.heap[b]? = some (.cells cs t (0, 0)) := fun b cs t hb ht => blk_grown hg (blk_alloc hb) (own_off hon hb ht)
          have hm7 : Mach w7 w4.heap.size w3.heap.size 125 (M.step (rs, s) ⟨dk, dt, dz, df, dn⟩).2.1 := ⟨hob6 _ _ _ m1.blk (by decide), m1.len⟩
          have hr7 : MRep w4.heap.size w3.heap.size w.heap.size w7 F' (M.step (rs, s) ⟨dk, dt, dz, df, dn⟩).2.2 := same m2 fun b hb => by
            refine (hg.block b (by have := lt m2 hb; simp; omega) fun e => ?_).trans (Below.heap_alloc _ _ _ (lt m2 hb))
            obtain ⟨_, cs, h2⟩ := own_blk hon e.symm
            exact off m2 h2 rfl hb
          have hq5 : ¬ (F (w.heap.size + 1) ∨ w.heap.size + 1 = w4.heap.size) := by
            rintro (h | h)
            · exact off i3 i5 rfl h
            · exact type_ne i5 i2.blk (by decide) h
          have hq7 := hob6 _ _ _ (m4.blk (blk_alloc i5) hq5) (by decide)
          have hB7 : Below w.heap.size w w7 := (((i6.alloc i6.size _).trans (m4.toBelow (by simp; omega) (fun b hb => by
            rintro (h | h)
            · have := ge i3 hbM h; omega
            · omega))).alloc (by have := m4.size; simp at this; omega) _).grown hg (by have := m4.size; simp at this ⊢; omega) (fun b hb => (own_blk hon hb).1)
          have hsz7 : w5.heap.size ≤ w7.heap.size := by have := hg.size; have := m4.size; simp at *; omega
          go_wp2
          go_roundw
          case rel =>
            refine ⟨k + 1, F', by omega, by go_num, ?_, ?_, ?_, m3, hq7, hB7, hsz7⟩
            · rw [Hsn.out]
              have := OwnU.app (W := w7) (w6 := w7) (base := w.heap.size) (g := g2) (cap := cap2) (xs := outs) (y := (M.step (rs, s) ⟨dk, dt, dz, df, dn⟩).1) (by rw [Hl1.out]; exact hown)
              rw [Hl1.out] at this
              exact this
            · rw [Hsn.out]; exact hm7
            · rw [Hsn.out]; exact hr7
          case measure => simp [intOf]; omega
        · have hkk : ds.take k = ds := List.take_of_length_le (by omega)
          rw [hkk] at i1 i2 i3 hgr hl1 hll
          have hEnd : M.run (regs0 g.roots, g.objs.map some) ds = endOf g ds := rfl
          rw [hEnd] at i1 i2 i3 hgr hl1 hll
          have hkd : k = ds.length := by omega
          subst hkd
          obtain ⟨Au, cu, eu, hmu, -⟩ := id i1.rd
          rw [hl1] at eu
          subst eu
          have H := Lib.hid (And.intro i1 (And.intro i2 (And.intro i3 (And.intro i4 (And.intro i5 (And.intro i6 i7))))))
          obtain ⟨ov9, L9, o1, o2, o3, hFF⟩ := i3
          obtain ⟨A9, c9, rfl, hl9⟩ := o1.len
          have q1 := cell_blk (j := 0) o3 rfl
          obtain ⟨rb0, rn0, rb1, rn1, rb2, rn2, rb3, rn3, rb4, rn4, rb5, rn5, rb6, rn6, rb7, rn7, hr9⟩ := regs8 i2.len
          obtain ⟨g0a, g0b⟩ := i2.get (k := 0) (b := rb0) (n := rn0) (by rw [hr9]; rfl)
          obtain ⟨g1a, g1b⟩ := i2.get (k := 1) (b := rb1) (n := rn1) (by rw [hr9]; rfl)
          obtain ⟨g2a, g2b⟩ := i2.get (k := 2) (b := rb2) (n := rn2) (by rw [hr9]; rfl)
          obtain ⟨g3a, g3b⟩ := i2.get (k := 3) (b := rb3) (n := rn3) (by rw [hr9]; rfl)
          obtain ⟨g4a, g4b⟩ := i2.get (k := 4) (b := rb4) (n := rn4) (by rw [hr9]; rfl)
          obtain ⟨g5a, g5b⟩ := i2.get (k := 5) (b := rb5) (n := rn5) (by rw [hr9]; rfl)
          obtain ⟨g6a, g6b⟩ := i2.get (k := 6) (b := rb6) (n := rn6) (by rw [hr9]; rfl)
          obtain ⟨g7a, g7b⟩ := i2.get (k := 7) (b := rb7) (n := rn7) (by rw [hr9]; rfl)
          simp only [Nat.zero_mul, Nat.reduceMul, Nat.reduceAdd, Nat.zero_add] at g0a g0b g1a g1b g2a g2b g3a g3b g4a g4b g5a g5b g6a g6b g7a g7b
          have Hr9 := Lib.hid hr9
          have hz9 := lt_blk o3
          have hz8 := lt_blk i2.blk
          have hz7 := lt_blk i5
          have HG9 := Lib.hid (And.intro o1 (And.intro o2 (And.intro hgr.1 (And.intro hll i2.len))))
          have HMr := Lib.hid i2
          have HoM := Lib.hid o3
          clear i1 i2 i4 i5 i7 o1 o2 o3 hFF hgr hll hl1 hkk hEnd hlt hr9
          go_wp2
          go_region_held3 (fun w' => w'.cell? ⟨w3.heap.size, 0, none⟩ = some (.slice A9 L9.length c9) ∧ w'.cell? ⟨w4.heap.size, 0, none⟩ = some (.bool rb0) ∧ w'.cell? ⟨w4.heap.size, 1, none⟩ = some (.int .i64 rn0) ∧ w'.cell? ⟨w4.heap.size, 2, none⟩ = some (.bool rb1) ∧ w'.cell? ⟨w4.heap.size, 3, none⟩ = some (.int .i64 rn1) ∧ w'.cell? ⟨w4.heap.size, 4, none⟩ = some (.bool rb2) ∧ w'.cell? ⟨w4.heap.size, 5, none⟩ = some (.int .i64 rn2) ∧ w'.cell? ⟨w4.heap.size, 6, none⟩ = some (.bool rb3) ∧ w'.cell? ⟨w4.heap.size, 7, none⟩ = some (.int .i64 rn3) ∧ w'.cell? ⟨w4.heap.size, 8, none⟩ = some (.bool rb4) ∧ w'.cell? ⟨w4.heap.size, 9, none⟩ = some (.int .i64 rn4) ∧ w'.cell? ⟨w4.heap.size, 10, none⟩ = some (.bool rb5) ∧ w'.cell? ⟨w4.heap.size, 11, none⟩ = some (.int .i64 rn5) ∧ w'.cell? ⟨w4.heap.size, 12, none⟩ = some (.bool rb6) ∧ w'.cell? ⟨w4.heap.size, 13, none⟩ = some (.int .i64 rn6) ∧ w'.cell? ⟨w4.heap.size, 14, none⟩ = some (.bool rb7) ∧ w'.cell? ⟨w4.heap.size, 15, none⟩ = some (.int .i64 rn7)) (first | go_keep | exact e1 | exact e2)
            (first
            | (go_at_call 51; refine (graph_any _ w.heap.size _ L9 [⟨rb0, rn0⟩, ⟨rb1, rn1⟩, ⟨rb2, rn2⟩, ⟨rb3, rn3⟩, ⟨rb4, rn4⟩, ⟨rb5, rn5⟩, ⟨rb6, rn6⟩, ⟨rb7, rn7⟩] (HG9.out.1.drew) rfl (Nat.le_trans (Nat.le_of_eq (by rw [← obs_len L9, HG9.out.2.1]; rfl)) (Nat.le_trans HG9.out.2.2.2.1 (by omega))) (by rw [HG9.out.2.1]; intro o ho; have := HG9.out.2.2.1.2 o ho; omega) (by rw [HG9.out.2.1, ← Hr9.out]; exact HG9.out.2.2.1.1)).mono ?_; rintro e w7 ⟨v', rfl, hv', hB7⟩
               obtain ⟨vo', vr', rfl, hv1, hv2⟩ := hv' _ (fun b hb => rfl)
               obtain ⟨Ao7, co7, rfl, -⟩ := id hv1
               obtain ⟨Ar7, cr7, rfl, -⟩ := id hv2
               have hm7 := (HMr.out.drew).below hB7
               rw [Hr9.out] at hm7
               have hq7 := blk_below hB7 (blk_drew H.out.2.2.2.2.1)
               have hM7 := blk_below hB7 (blk_drew HoM.out)
               have e1 := And.intro (cell_blk (j := 0) hM7 rfl) (regs16 hm7)
               have hne1 : w4.heap.size ≠ w.heap.size + 1 := type_ne hm7.blk hq7 (by decide)
               have hne2 : w3.heap.size ≠ w.heap.size + 1 := type_ne hM7 hq7 (by decide)
               have e2 := And.intro (cell_blk (j := 0) (blk_set (p := ⟨w.heap.size + 1, 1, none⟩) (v := .slice Ar7 (canonOf (obs L9) [⟨rb0, rn0⟩, ⟨rb1, rn1⟩, ⟨rb2, rn2⟩, ⟨rb3, rn3⟩, ⟨rb4, rn4⟩, ⟨rb5, rn5⟩, ⟨rb6, rn6⟩, ⟨rb7, rn7⟩]).roots.length cr7) (blk_set (p := ⟨w.heap.size + 1, 0, none⟩) (v := .slice Ao7 (canonOf (obs L9) [⟨rb0, rn0⟩, ⟨rb1, rn1⟩, ⟨rb2, rn2⟩, ⟨rb3, rn3⟩, ⟨rb4, rn4⟩, ⟨rb5, rn5⟩, ⟨rb6, rn6⟩, ⟨rb7, rn7⟩]).objs.length co7) hM7 hne2) hne2) rfl) (regs16 (hm7.to ((Below.heap_setCell (w7.setCell ⟨w.heap.size + 1, 0, none⟩ (.slice Ao7 (canonOf (obs L9) [⟨rb0, rn0⟩, ⟨rb1, rn1⟩, ⟨rb2, rn2⟩, ⟨rb3, rn3⟩, ⟨rb4, rn4⟩, ⟨rb5, rn5⟩, ⟨rb6, rn6⟩, ⟨rb7, rn7⟩]).objs.length co7)) ⟨w.heap.size + 1, 1, none⟩ (.slice Ar7 (canonOf (obs L9) [⟨rb0, rn0⟩, ⟨rb1, rn1⟩, ⟨rb2, rn2⟩, ⟨rb3, rn3⟩, ⟨rb4, rn4⟩, ⟨rb5, rn5⟩, ⟨rb6, rn6⟩, ⟨rb7, rn7⟩]).roots.length cr7) _ hne1).trans (Below.heap_setCell _ _ _ _ hne1))))
               have d1 := cell_blk (j := 0) hq7 rfl
               have d2 := cell_blk (j := 1) hq7 rfl
               have d3 := frozen_blk (j := 0) hq7
               have d4 := frozen_blk (j := 1) hq7
               have d5 := lt_blk hq7
               have HZ := Lib.hid (And.intro hv' (And.intro hB7 hq7))
               clear hv' hv1 hv2 hB7 hm7 hq7 hM7))
          clear e1 e2
          go_wp2
          obtain ⟨hv', hB7, hq7⟩ := HZ.out
          obtain ⟨i1, i2, i3, i4, i5, i6, i7⟩ := H.out
          have q5 := set_blk (j := 1) (u := .slice Ar7 (canonOf (obs L9) [⟨rb0, rn0⟩, ⟨rb1, rn1⟩, ⟨rb2, rn2⟩, ⟨rb3, rn3⟩, ⟨rb4, rn4⟩, ⟨rb5, rn5⟩, ⟨rb6, rn6⟩, ⟨rb7, rn7⟩]).roots.length cr7) (set_blk (j := 0) (u := .slice Ao7 (canonOf (obs L9) [⟨rb0, rn0⟩, ⟨rb1, rn1⟩, ⟨rb2, rn2⟩, ⟨rb3, rn3⟩, ⟨rb4, rn4⟩, ⟨rb5, rn5⟩, ⟨rb6, rn6⟩, ⟨rb7, rn7⟩]).objs.length co7) hq7)
          have hsz7 := hB7.size
          refine bodyPost_ret (results_33 rfl _ _ (w.heap.size + 1) _ (.slice Ao7 (canonOf (obs L9) [⟨rb0, rn0⟩, ⟨rb1, rn1⟩, ⟨rb2, rn2⟩, ⟨rb3, rn3⟩, ⟨rb4, rn4⟩, ⟨rb5, rn5⟩, ⟨rb6, rn6⟩, ⟨rb7, rn7⟩]).objs.length co7) (.slice Ar7 (canonOf (obs L9) [⟨rb0, rn0⟩, ⟨rb1, rn1⟩, ⟨rb2, rn2⟩, ⟨rb3, rn3⟩, ⟨rb4, rn4⟩, ⟨rb5, rn5⟩, ⟨rb6, rn6⟩, ⟨rb7, rn7⟩]).roots.length cr7) _ rfl rfl rfl (cell_blk (j := 0) q5 rfl) (cell_blk (j := 1) q5 rfl)) rfl ?_
          rw [He.out]
          refine ⟨_, _, rfl, fun W hW => ?_, ((i6.drew.trans (hB7.mono i6.size)).setCell (by simp) _).setCell (by simp) _⟩
          have ho : playO g ds = (endOf g ds).1 := by unfold playO; rw [He.out, if_neg (by simp)]
          have hg : playG g ds = canonOf (endOf g ds).2.2 (endOf g ds).2.1 := by unfold playG; rw [He.out, if_neg (by simp)]
          have hset : ∀ b, b ≠ w.heap.size + 1 → ((w7.setCell ⟨w.heap.size + 1, 0, none⟩ (.slice Ao7 (canonOf (obs L9) [⟨rb0, rn0⟩, ⟨rb1, rn1⟩, ⟨rb2, rn2⟩, ⟨rb3, rn3⟩, ⟨rb4, rn4⟩, ⟨rb5, rn5⟩, ⟨rb6, rn6⟩, ⟨rb7, rn7⟩]).objs.length co7)).setCell ⟨w.heap.size + 1, 1, none⟩ (.slice Ar7 (canonOf (obs L9) [⟨rb0, rn0⟩, ⟨rb1, rn1⟩, ⟨rb2, rn2⟩, ⟨rb3, rn3⟩, ⟨rb4, rn4⟩, ⟨rb5, rn5⟩, ⟨rb6, rn6⟩, ⟨rb7, rn7⟩]).roots.length cr7)).heap[b]? = w7.heap[b]? := fun b hb => (Below.heap_setCell _ _ _ _ hb).trans (Below.heap_setCell _ _ _ _ hb)
          rw [ho, hg]
          constructor
          · have hu1 : OwnU W w.heap.size (.slice Au ds.length cu) (endOf g ds).1 := by
              refine own_same_blk i1 fun b hb => ?_
              obtain ⟨hb1, cs1, hb2⟩ := own_blk i1 hb
              rw [hW b hb1, hset b (type_ne hb2 i5 (by decide)), blk_below hB7 (blk_drew hb2), hb2]
            exact ⟨hu1.rd, hu1.cap⟩
          · rw [← HG9.out.2.1, Hr9.out]
            refine hv' W fun b hb => ?_
            have hlt5 := lt_blk (blk_drew i5)
            rw [hW b (by have := i6.size; simp at hb; omega), hset b (by omega)]
  · have Hck : Hid (checkG g = checkG g) := rfl
    have He : Hid (playE g ds = checkG g) := by show _ = _; simp [playE, hck]
    have b1 : (checkG g != 0) = true := by simpa using hck
    have hnz := Lib.hid hck
    obtain ⟨x, hxx⟩ : ∃ x, x = checkG g := ⟨_, rfl⟩
    have Hck2 : Hid (checkG g = x) := hxx.symm
    rw [← hxx] at b1 hnz He
    clear hck hxx
    go_enter Try.func33, Try.ntmps33
    go_wp2_with (go_at_call 59; refine (check_any _ _ g (Hg.out.later (later_below (((Below.refl _ _).alloc (Nat.le_refl _) _).alloc (by simp) _)))).mono ?_; rintro e w2 ⟨rfl, hB⟩; rw [Hck2.out]; have q := blk_below hB (at_new _ _ (w.heap.size + 1) (by simp)); have q0 := cell_blk (j := 0) q rfl; have q1 := cell_blk (j := 1) q rfl; have f0 := frozen_blk (j := 0) q; have f1 := frozen_blk (j := 1) q; have hsz := lt_blk q)
    have hBw : Below w.heap.size w w2 := (((Below.refl w.heap.size w).alloc (Nat.le_refl _) _).alloc (by simp) _).trans (hB.mono (by simp; omega))
    have q5 := set_blk (j := 1) (u := .slice none 0 0) (set_blk (j := 0) (u := .slice none 0 0) q)
    refine bodyPost_ret (results_33 rfl _ _ (w.heap.size + 1) _ (.slice none 0 0) (.slice none 0 0) _ rfl rfl rfl (cell_blk (j := 0) q5 rfl) (cell_blk (j := 1) q5 rfl)) rfl ?_
    rw [He.out]
    refine ⟨_, _, rfl, fun W hW => ?_, (hBw.setCell (by simp) _).setCell (by simp) _⟩
    have ho : playO g ds = [] := by unfold playO; rw [He.out, if_pos (hnz.out)]
    have hg : playG g ds = ⟨[], []⟩ := by unfold playG; rw [He.out, if_pos (hnz.out)]
    rw [ho, hg]
    exact ⟨⟨⟨none, 0, rfl, by simp, fun i hi => by simp at hi⟩, none, 0, 0, rfl, Nat.le_refl _⟩, _, _, rfl, ⟨none, 0, rfl, by simp, fun i hi => by simp at hi⟩, ⟨none, 0, rfl, by simp, fun i hi => by simp at hi⟩⟩
end Ie
end Go.Proofs.Yteghhajfkdbcdaa
