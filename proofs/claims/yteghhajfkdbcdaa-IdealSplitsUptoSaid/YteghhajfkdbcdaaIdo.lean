/- heap.Machine's Do, for one memory (printed by gendo.py). -/
import Derived.Test.YteghhajfkdbcdaaIdm
namespace Go.Proofs.Yteghhajfkdbcdaa
open Go.RowKit
set_option linter.unusedVariables false
set_option linter.unusedSimpArgs false
namespace Ie

/-- What is shown of one thing done. -/
def DoPost (bm bM base : Nat) (W : World) (F : Nat → Prop) (r : Ol × (List Vl × Ovs)) (e : Ending) (w' : World) : Prop :=
  e = .returned (.agg #[.int .i64 r.1.code, .bool r.1.ref, .int .i64 r.1.n]) ∧ ∃ F', Mach w' bm bM 125 r.2.1 ∧ MRep bm bM base w' F' r.2.2 ∧ ¬ F' bm ∧ Fr (fun x => F x ∨ x = bm) W (fun x => F' x ∨ x = bm) w'
theorem do_fin {bm bM base : Nat} {W w3 : World} {F F' : Nat → Prop} {rs : List Vl} {s : Ovs} {rb : Nat} {u v z : Value} (hq : w3.heap[rb]? = some (.cells #[u, v, z] 37 (0, 0))) (hrb : W.heap.size ≤ rb) (hnb : ¬ F' rb) (hbm : rb ≠ bm)
    (hm : Mach w3 bm bM 125 rs) (h : MRep bm bM base w3 F' s) (hF : ¬ F' bm) (hfr : Fr (fun x => F x ∨ x = bm) W (fun x => F' x ∨ x = bm) w3) (o : Ol) (a : Act) (ht : a.tmps.getD 4 undef = .pointer (some ⟨rb, 0, none⟩)) (hd : a.defers = []) (r : Ol × (List Vl × Ovs)) (hr : r = (o, (rs, s))) :
    bodyPost Try.prog Try.f50 (DoPost bm bM base W F r) Exit.ret a (((w3.setCell ⟨rb, 0, none⟩ (.int .i64 o.code)).setCell ⟨rb, 1, none⟩ (.bool o.ref)).setCell ⟨rb, 2, none⟩ (.int .i64 o.n)) := by
  subst hr
  have hset : ∀ b, b ≠ rb → (((w3.setCell ⟨rb, 0, none⟩ (.int .i64 o.code)).setCell ⟨rb, 1, none⟩ (.bool o.ref)).setCell ⟨rb, 2, none⟩ (.int .i64 o.n)).heap[b]? = w3.heap[b]? := fun b hb => by
    rw [Below.heap_setCell _ _ _ _ hb, Below.heap_setCell _ _ _ _ hb, Below.heap_setCell _ _ _ _ hb]
  refine bodyPost_ret (v := .agg #[.int .i64 o.code, .bool o.ref, .int .i64 o.n]) (results_cell_row rfl _ _ rb 37 #[.int .i64 o.code, .bool o.ref, .int .i64 o.n] (0, 0) _ ht (set_blk (set_blk (set_blk hq))) Try.underlying37 rfl (by kernel_rfl)) hd ?_
  exact ⟨rfl, F', hm.to (hset _ hbm.symm), same h fun b hb => hset b fun e => hnb (e ▸ hb), hF, ((hfr.set (p := ⟨rb, 0, none⟩) (.inr hrb) _).set (p := ⟨rb, 1, none⟩) (.inr hrb) _).set (p := ⟨rb, 2, none⟩) (.inr hrb) _⟩
/-- The same where the memory has not turned. -/
theorem do_fin0 {bm bM base : Nat} {W w2 w3 : World} {F : Nat → Prop} {rs : List Vl} {s : Ovs} {rb : Nat} {u v z : Value} (hB : Below W.heap.size W w3) (hq : w3.heap[rb]? = some (.cells #[u, v, z] 37 (0, 0))) (hrb : rb = W.heap.size + 1)
    (hm : Mach W bm bM 125 rs) (h : MRep bm bM base W F s) (hF : ¬ F bm) (o : Ol) (a : Act) (ht : a.tmps.getD 4 undef = .pointer (some ⟨rb, 0, none⟩)) (hd : a.defers = []) (r : Ol × (List Vl × Ovs)) (hr : r = (o, (rs, s))) :
    bodyPost Try.prog Try.f50 (DoPost bm bM base W F r) Exit.ret a (((w3.setCell ⟨rb, 0, none⟩ (.int .i64 o.code)).setCell ⟨rb, 1, none⟩ (.bool o.ref)).setCell ⟨rb, 2, none⟩ (.int .i64 o.n)) := by
  have hlt : ∀ b, F b → b < W.heap.size := fun b hb => lt h hb
  have hbm := lt_blk hm.blk
  exact do_fin hq (by omega) (fun hf => by have := hlt _ hf; omega) (by omega) (hm.below hB) (same h fun b hb => hB.block b (hlt b hb)) hF ((Fr.refl _ _).below hB) o a ht hd r hr

set_option maxRecDepth 20000 in
set_option maxHeartbeats 1000000 in
theorem do_wrong (bm bM base : Nat) (W : World) (F : Nat → Prop) (rs : List Vl) (s : Ovs) (hm : Mach W bm bM 125 rs) (h : MRep bm bM base W F s) (hF : ¬ F bm) (hi : Inv rs s) (hlen : (M.objs s).length ≤ 1000) (hbase : base ≤ W.heap.size) (k t f a n : Int) (hw : wrongD ⟨k, t, f, a, n⟩ ≠ 0) :
    Calls Try.prog 50 #[.pointer (some ⟨bm, 0, none⟩), .agg #[.int .i64 k, .int .i64 t, .int .i64 f, .int .i64 a, .int .i64 n]] W (DoPost bm bM base W F (M.step (rs, s) ⟨k, t, f, a, n⟩)) := by
  have hs : M.step (rs, s) ⟨k, t, f, a, n⟩ = (⟨wrongD ⟨k, t, f, a, n⟩, false, 0⟩, (rs, s)) := by unfold PMem.step; rw [if_pos hw]
  rw [hs]
  generalize hx : wrongD ⟨k, t, f, a, n⟩ = x at hw
  have Hx := Lib.hid hx
  have b1 : (x != 0) = true := by simpa using hw
  have HX := Lib.hid (And.intro hm (And.intro h hF))
  clear hs hx hw hm h hF hi hlen hbase
  go_enter Try.func50, Try.ntmps50
  go_wp2_with (go_at_call 87; refine (wrong_any _ _ _ _ _ _).mono ?_; rintro e w2 ⟨rfl, hB⟩; rw [Hx.out]; have q := blk_below hB (at_new _ _ (W.heap.size + 1) (by simp)); have q0 := cell_blk (j := 0) q rfl; have q1 := cell_blk (j := 1) q rfl; have q2 := cell_blk (j := 2) q rfl; have f0 := frozen_blk (j := 0) q; have f1 := frozen_blk (j := 1) q; have f2 := frozen_blk (j := 2) q; have hsz := lt_blk q)
  obtain ⟨x1, x2, x3⟩ := HX.out
  have hBw : Below W.heap.size W w2 := (((Below.refl W.heap.size W).alloc (Nat.le_refl _) _).alloc (by simp) _).trans (hB.mono (by simp; omega))
  exact do_fin0 (w2 := w2) hBw q rfl x1 x2 x3 ⟨x, false, 0⟩ _ rfl rfl _ rfl

set_option maxRecDepth 20000 in
set_option maxHeartbeats 2000000 in
theorem do_2 (bm bM base : Nat) (W : World) (F : Nat → Prop) (rs : List Vl) (s : Ovs) (hm : Mach W bm bM 125 rs) (h : MRep bm bM base W F s) (hF : ¬ F bm) (hi : Inv rs s) (hlen : (M.objs s).length ≤ 1000) (hbase : base ≤ W.heap.size) (t f a n : Int) (hw : wrongD ⟨2, t, f, a, n⟩ = 0) :
    Calls Try.prog 50 #[.pointer (some ⟨bm, 0, none⟩), .agg #[.int .i64 2, .int .i64 t, .int .i64 f, .int .i64 a, .int .i64 n]] W (DoPost bm bM base W F (M.step (rs, s) ⟨2, t, f, a, n⟩)) := by
  obtain ⟨-, -, z1, z2, z3⟩ := wrongD_zero hw
  obtain ⟨t0, t8⟩ := z1 (by simp)
  obtain ⟨r, rfl⟩ := Int.eq_ofNat_of_zero_le t0
  have Hr : r < 8 := by simp at t8; omega
  have hs : M.step (rs, s) ⟨2, (r : Int), f, a, n⟩ = (okO, M.set (rs, s) (r : Int) ⟨false, n⟩) := by unfold PMem.step; rw [if_neg (by simpa using hw)]; rfl
  have Hs := Lib.hid hs
  clear hs z1 z2 z3 t0 t8
  have hc := hi.clo
  have HX := Lib.hid (And.intro hm (And.intro h (And.intro hF hi)))
  have Hlen := Lib.hid hlen
  have Hbase := Lib.hid hbase
  have Hc := Lib.hid hc
  have Hx := Lib.hid hw
  clear hw hm h hF hi hlen hc hbase
  go_enter Try.func50, Try.ntmps50
  go_wp2_with (first
    | (go_at_call 87; refine (wrong_any _ _ _ _ _ _).mono ?_; rintro e w2 ⟨rfl, hB⟩; rw [Hx.out]
       have HB := Lib.hid ((((Below.refl W.heap.size W).alloc (Nat.le_refl _) (.cells #[.int .i64 2, .int .i64 (r : Int), .int .i64 f, .int .i64 a, .int .i64 n] 88)).alloc (by simp) (.cells #[.int .i64 0, .bool false, .int .i64 0] 37)).trans (hB.mono (by simp; omega)))
       have HQ := Lib.hid (blk_below hB (at_new _ _ (W.heap.size + 1) (by simp)))
       have q := blk_below hB (blk_alloc (heap_alloc_new W (.cells #[.int .i64 2, .int .i64 (r : Int), .int .i64 f, .int .i64 a, .int .i64 n] 88)))
       have q0 := cell_blk (j := 0) q rfl
       have q1 := cell_blk (j := 1) q rfl
       have q2 := cell_blk (j := 2) q rfl
       have q3 := cell_blk (j := 3) q rfl
       have q4 := cell_blk (j := 4) q rfl
       have HK := Lib.hid q
       have hsz := lt_blk HQ.out
       have hltF : Hid (∀ b, F b → b < W.heap.size) := fun b hb => lt HX.out.2.1 hb
       have hbm := lt_blk HX.out.1.blk
       have HM := Lib.hid (HX.out.1.below HB.out)
       have HR := Lib.hid (same HX.out.2.1 fun b hb => HB.out.block b (hltF.out b hb))
       clear hB q)
    | (go_at_call 88; refine (set_any bm bM base _ F rs s HM.out HR.out HX.out.2.2.1 HX.out.2.2.2 r Hr false n (fun e => by cases e)).mono ?_; rintro e w3 ⟨rfl, F', hm3, hr3, hf3, hfr3⟩
       have hn1 : ¬ (F (W.heap.size + 1) ∨ W.heap.size + 1 = bm) := by
         rintro (hf | hf)
         · have := hltF.out _ hf; omega
         · omega
       have HQ3 := Lib.hid (hfr3.blk HQ.out hn1)
       have q0 := cell_blk (j := 0) HQ3.out rfl
       have q1 := cell_blk (j := 1) HQ3.out rfl
       have q2 := cell_blk (j := 2) HQ3.out rfl
       have f0 := frozen_blk (j := 0) HQ3.out
       have f1 := frozen_blk (j := 1) HQ3.out
       have f2 := frozen_blk (j := 2) HQ3.out
       have hsz3 := lt_blk HQ3.out

       have HY := Lib.hid (And.intro hm3 (And.intro hr3 (And.intro hf3 (And.intro hfr3 (hfr3.out HQ.out hn1)))))
       clear hm3 hr3 hf3 hfr3))
  obtain ⟨y1, y2, y3, y4, y5⟩ := HY.out
  exact do_fin HQ3.out (by omega) (fun hf => y5 (.inl hf)) (by omega) y1 y2 y3 (((Fr.refl _ _).below HB.out).trans y4) okO _ rfl rfl _ Hs.out

set_option maxRecDepth 20000 in
set_option maxHeartbeats 2000000 in
theorem do_3 (bm bM base : Nat) (W : World) (F : Nat → Prop) (rs : List Vl) (s : Ovs) (hm : Mach W bm bM 125 rs) (h : MRep bm bM base W F s) (hF : ¬ F bm) (hi : Inv rs s) (hlen : (M.objs s).length ≤ 1000) (hbase : base ≤ W.heap.size) (t f a n : Int) (hw : wrongD ⟨3, t, f, a, n⟩ = 0) :
    Calls Try.prog 50 #[.pointer (some ⟨bm, 0, none⟩), .agg #[.int .i64 3, .int .i64 t, .int .i64 f, .int .i64 a, .int .i64 n]] W (DoPost bm bM base W F (M.step (rs, s) ⟨3, t, f, a, n⟩)) := by
  obtain ⟨-, -, z1, z2, z3⟩ := wrongD_zero hw
  obtain ⟨t0, t8⟩ := z1 (by simp)
  obtain ⟨r, rfl⟩ := Int.eq_ofNat_of_zero_le t0
  have Hr : r < 8 := by simp at t8; omega
  obtain ⟨f0, f8⟩ := z2 (by simp) (by simp)
  obtain ⟨l, rfl⟩ := Int.eq_ofNat_of_zero_le f0
  have Hl : l < 8 := by simp at f8; omega
  have hll : l < rs.length := by rw [hm.len]; exact Hl
  have hvl : regAt rs (l : Int) = rs[l] := by simp [regAt, hll]
  have hok := hi.clo.regs _ (List.getElem_mem hll)
  obtain ⟨vb, vn, hv⟩ : ∃ vb vn, rs[l] = (⟨vb, vn⟩ : Vl) := ⟨_, _, rfl⟩
  rw [hv] at hok hvl
  have Hv : Hid (rs[l]? = some ⟨vb, vn⟩) := by show rs[l]? = _; rw [List.getElem?_eq_getElem hll, hv]
  have hs : M.step (rs, s) ⟨3, (r : Int), (l : Int), a, n⟩ = (okO, M.set (rs, s) (r : Int) ⟨vb, vn⟩) := by unfold PMem.step; rw [if_neg (by simpa using hw), ← hvl]; rfl
  have Hs := Lib.hid hs
  have Hok := Lib.hid hok
  have hl8 : (l : Int) < 8 := by omega
  clear hs z1 z2 z3 t0 t8 f0 f8 hvl hok hv hll
  have hc := hi.clo
  have HX := Lib.hid (And.intro hm (And.intro h (And.intro hF hi)))
  have Hlen := Lib.hid hlen
  have Hbase := Lib.hid hbase
  have Hc := Lib.hid hc
  have Hx := Lib.hid hw
  clear hw hm h hF hi hlen hc hbase
  go_enter Try.func50, Try.ntmps50
  go_wp2_with (first
    | (go_at_call 87; refine (wrong_any _ _ _ _ _ _).mono ?_; rintro e w2 ⟨rfl, hB⟩; rw [Hx.out]
       have HB := Lib.hid ((((Below.refl W.heap.size W).alloc (Nat.le_refl _) (.cells #[.int .i64 3, .int .i64 (r : Int), .int .i64 (l : Int), .int .i64 a, .int .i64 n] 88)).alloc (by simp) (.cells #[.int .i64 0, .bool false, .int .i64 0] 37)).trans (hB.mono (by simp; omega)))
       have HQ := Lib.hid (blk_below hB (at_new _ _ (W.heap.size + 1) (by simp)))
       have q := blk_below hB (blk_alloc (heap_alloc_new W (.cells #[.int .i64 3, .int .i64 (r : Int), .int .i64 (l : Int), .int .i64 a, .int .i64 n] 88)))
       have q0 := cell_blk (j := 0) q rfl
       have q1 := cell_blk (j := 1) q rfl
       have q2 := cell_blk (j := 2) q rfl
       have q3 := cell_blk (j := 3) q rfl
       have q4 := cell_blk (j := 4) q rfl
       have HK := Lib.hid q
       have hsz := lt_blk HQ.out
       have hltF : Hid (∀ b, F b → b < W.heap.size) := fun b hb => lt HX.out.2.1 hb
       have hbm := lt_blk HX.out.1.blk
       have HM := Lib.hid (HX.out.1.below HB.out)
       have HR := Lib.hid (same HX.out.2.1 fun b hb => HB.out.block b (hltF.out b hb))
       clear hB q))
  obtain ⟨c1, c2⟩ := HM.out.get Hv.out
  go_region_held3 (fun w' => w'.cell? ⟨W.heap.size, 1, none⟩ = some (.int .i64 (r : Int)) ∧ w'.cell? ⟨W.heap.size, 2, none⟩ = some (.int .i64 (l : Int)) ∧ w'.cell? ⟨bm, l * 2, none⟩ = some (.bool vb) ∧ w'.cell? ⟨bm, l * 2 + 1, none⟩ = some (.int .i64 vn)) (first | go_keep | exact ⟨p1, p2, p3, p4⟩)
    (first
    | (go_at_call 88; refine (set_any bm bM base _ F rs s HM.out.drew (drew HR.out) HX.out.2.2.1 HX.out.2.2.2 r Hr vb vn Hok.out).mono ?_; rintro e w3 ⟨rfl, F', hm3, hr3, hf3, hfr3⟩
       have hn1 : ¬ (F (W.heap.size + 1) ∨ W.heap.size + 1 = bm) := by
         rintro (hf | hf)
         · have := hltF.out _ hf; omega
         · omega
       have HQ3 := Lib.hid (hfr3.blk (blk_drew HQ.out) hn1)
       have q0 := cell_blk (j := 0) HQ3.out rfl
       have q1 := cell_blk (j := 1) HQ3.out rfl
       have q2 := cell_blk (j := 2) HQ3.out rfl
       have f0 := frozen_blk (j := 0) HQ3.out
       have f1 := frozen_blk (j := 1) HQ3.out
       have f2 := frozen_blk (j := 2) HQ3.out
       have hsz3 := lt_blk HQ3.out

       have HY := Lib.hid (And.intro hm3 (And.intro hr3 (And.intro hf3 (And.intro hfr3 (hfr3.out (blk_drew HQ.out) hn1)))))
       have hn0 : ¬ (F W.heap.size ∨ W.heap.size = bm) := by
         rintro (hf | hf)
         · have := hltF.out _ hf; omega
         · omega
       have hk3 := (hfr3.blk (blk_drew HK.out) hn0)
       have p1 := cell_blk (j := 1) hk3 rfl
       have p2 := cell_blk (j := 2) hk3 rfl
       have hg : (rs.set r ⟨vb, vn⟩)[l]? = some ⟨vb, vn⟩ := by
         rw [List.getElem?_set]
         split
         · rename_i e; subst e; rw [if_pos (by have := (List.getElem?_eq_some_iff.1 Hv.out).1; exact this)]
         · exact Hv.out
       obtain ⟨p3, p4⟩ := hm3.get hg
       clear hk3 hg
       clear hm3 hr3 hf3 hfr3))
  clear p1 p2 p3 p4 c1 c2
  go_wp2
  obtain ⟨y1, y2, y3, y4, y5⟩ := HY.out
  exact do_fin HQ3.out (by omega) (fun hf => y5 (.inl hf)) (by omega) y1 y2 y3 (((Fr.refl _ _).below HB.out).drew.trans y4) okO _ rfl rfl _ Hs.out

set_option maxRecDepth 20000 in
set_option maxHeartbeats 2000000 in
theorem do_6eq (bm bM base : Nat) (W : World) (F : Nat → Prop) (rs : List Vl) (s : Ovs) (hm : Mach W bm bM 125 rs) (h : MRep bm bM base W F s) (hF : ¬ F bm) (hi : Inv rs s) (hlen : (M.objs s).length ≤ 1000) (hbase : base ≤ W.heap.size) (t f a n : Int) (he : (regAt rs t = regAt rs f)) (hw : wrongD ⟨6, t, f, a, n⟩ = 0) :
    Calls Try.prog 50 #[.pointer (some ⟨bm, 0, none⟩), .agg #[.int .i64 6, .int .i64 t, .int .i64 f, .int .i64 a, .int .i64 n]] W (DoPost bm bM base W F (M.step (rs, s) ⟨6, t, f, a, n⟩)) := by
  obtain ⟨-, -, z1, z2, z3⟩ := wrongD_zero hw
  obtain ⟨t0, t8⟩ := z1 (by simp)
  obtain ⟨r, rfl⟩ := Int.eq_ofNat_of_zero_le t0
  have Hr : r < 8 := by simp at t8; omega
  obtain ⟨f0, f8⟩ := z2 (by simp) (by simp)
  obtain ⟨l, rfl⟩ := Int.eq_ofNat_of_zero_le f0
  have Hl : l < 8 := by simp at f8; omega
  have hll : l < rs.length := by rw [hm.len]; exact Hl
  have hvl : regAt rs (l : Int) = rs[l] := by simp [regAt, hll]
  have hok := hi.clo.regs _ (List.getElem_mem hll)
  obtain ⟨vb, vn, hv⟩ : ∃ vb vn, rs[l] = (⟨vb, vn⟩ : Vl) := ⟨_, _, rfl⟩
  rw [hv] at hok hvl
  have Hv : Hid (rs[l]? = some ⟨vb, vn⟩) := by show rs[l]? = _; rw [List.getElem?_eq_getElem hll, hv]
  have hlr : r < rs.length := by rw [hm.len]; exact Hr
  have hvr : regAt rs (r : Int) = rs[r] := by simp [regAt, hlr]
  have hokr := hi.clo.regs _ (List.getElem_mem hlr)
  obtain ⟨ub, un, hu⟩ : ∃ ub un, rs[r] = (⟨ub, un⟩ : Vl) := ⟨_, _, rfl⟩
  rw [hu] at hokr hvr
  have Hu : Hid (rs[r]? = some ⟨ub, un⟩) := by show rs[r]? = _; rw [List.getElem?_eq_getElem hlr, hu]
  have hs : M.step (rs, s) ⟨6, (r : Int), (l : Int), a, n⟩ = (⟨0, false, 1⟩, (rs, s)) := by unfold PMem.step PMem.go; rw [if_neg (by simpa using hw), if_neg (by simp), if_neg (by simp), if_neg (by simp), if_neg (by simp), if_neg (by simp), if_pos rfl]; dsimp only; rw [if_pos he]
  rw [hvl, hvr] at he
  have hq : eqVl ub un vb vn = true := by
    exact (eqVl_iff ⟨ub, un⟩ ⟨vb, vn⟩).2 he
  have Hs := Lib.hid hs
  have hl8 : (l : Int) < 8 := by omega
  have hr8 : (r : Int) < 8 := by omega
  clear hs z1 z2 z3 t0 t8 f0 f8 hvl hok hv hll hokr hu hlr hvr he
  have hc := hi.clo
  have HX := Lib.hid (And.intro hm (And.intro h (And.intro hF hi)))
  have Hlen := Lib.hid hlen
  have Hbase := Lib.hid hbase
  have Hc := Lib.hid hc
  have Hx := Lib.hid hw
  clear hw hm h hF hi hlen hc hbase
  go_enter Try.func50, Try.ntmps50
  go_wp2_with (first
    | (go_at_call 87; refine (wrong_any _ _ _ _ _ _).mono ?_; rintro e w2 ⟨rfl, hB⟩; rw [Hx.out]
       have HB := Lib.hid ((((Below.refl W.heap.size W).alloc (Nat.le_refl _) (.cells #[.int .i64 6, .int .i64 (r : Int), .int .i64 (l : Int), .int .i64 a, .int .i64 n] 88)).alloc (by simp) (.cells #[.int .i64 0, .bool false, .int .i64 0] 37)).trans (hB.mono (by simp; omega)))
       have HQ := Lib.hid (blk_below hB (at_new _ _ (W.heap.size + 1) (by simp)))
       have q := blk_below hB (blk_alloc (heap_alloc_new W (.cells #[.int .i64 6, .int .i64 (r : Int), .int .i64 (l : Int), .int .i64 a, .int .i64 n] 88)))
       have q0 := cell_blk (j := 0) q rfl
       have q1 := cell_blk (j := 1) q rfl
       have q2 := cell_blk (j := 2) q rfl
       have q3 := cell_blk (j := 3) q rfl
       have q4 := cell_blk (j := 4) q rfl
       have HK := Lib.hid q
       have hsz := lt_blk HQ.out
       have hltF : Hid (∀ b, F b → b < W.heap.size) := fun b hb => lt HX.out.2.1 hb
       have hbm := lt_blk HX.out.1.blk
       have HM := Lib.hid (HX.out.1.below HB.out)
       have HR := Lib.hid (same HX.out.2.1 fun b hb => HB.out.block b (hltF.out b hb))
       clear hB q))
  obtain ⟨c1, c2⟩ := HM.out.get Hv.out
  obtain ⟨c3, c4⟩ := HM.out.get Hu.out
  go_quiet (fail)
  have g0 := cell_blk (j := 0) HQ.out rfl
  have g1 := cell_blk (j := 1) HQ.out rfl
  have g2 := cell_blk (j := 2) HQ.out rfl
  have k0 := frozen_blk (j := 0) HQ.out
  have k1 := frozen_blk (j := 1) HQ.out
  have k2 := frozen_blk (j := 2) HQ.out
  go_wp2
  obtain ⟨x1, x2, x3, x4⟩ := HX.out
  exact do_fin0 (w2 := w2) (below_drewN HB.out _) (show (w2.drewN _).heap[W.heap.size + 1]? = _ from HQ.out) rfl x1 x2 x3 ⟨0, false, 1⟩ _ rfl rfl _ Hs.out

set_option maxRecDepth 20000 in
set_option maxHeartbeats 2000000 in
theorem do_6ne (bm bM base : Nat) (W : World) (F : Nat → Prop) (rs : List Vl) (s : Ovs) (hm : Mach W bm bM 125 rs) (h : MRep bm bM base W F s) (hF : ¬ F bm) (hi : Inv rs s) (hlen : (M.objs s).length ≤ 1000) (hbase : base ≤ W.heap.size) (t f a n : Int) (he : ¬ (regAt rs t = regAt rs f)) (hw : wrongD ⟨6, t, f, a, n⟩ = 0) :
    Calls Try.prog 50 #[.pointer (some ⟨bm, 0, none⟩), .agg #[.int .i64 6, .int .i64 t, .int .i64 f, .int .i64 a, .int .i64 n]] W (DoPost bm bM base W F (M.step (rs, s) ⟨6, t, f, a, n⟩)) := by
  obtain ⟨-, -, z1, z2, z3⟩ := wrongD_zero hw
  obtain ⟨t0, t8⟩ := z1 (by simp)
  obtain ⟨r, rfl⟩ := Int.eq_ofNat_of_zero_le t0
  have Hr : r < 8 := by simp at t8; omega
  obtain ⟨f0, f8⟩ := z2 (by simp) (by simp)
  obtain ⟨l, rfl⟩ := Int.eq_ofNat_of_zero_le f0
  have Hl : l < 8 := by simp at f8; omega
  have hll : l < rs.length := by rw [hm.len]; exact Hl
  have hvl : regAt rs (l : Int) = rs[l] := by simp [regAt, hll]
  have hok := hi.clo.regs _ (List.getElem_mem hll)
  obtain ⟨vb, vn, hv⟩ : ∃ vb vn, rs[l] = (⟨vb, vn⟩ : Vl) := ⟨_, _, rfl⟩
  rw [hv] at hok hvl
  have Hv : Hid (rs[l]? = some ⟨vb, vn⟩) := by show rs[l]? = _; rw [List.getElem?_eq_getElem hll, hv]
  have hlr : r < rs.length := by rw [hm.len]; exact Hr
  have hvr : regAt rs (r : Int) = rs[r] := by simp [regAt, hlr]
  have hokr := hi.clo.regs _ (List.getElem_mem hlr)
  obtain ⟨ub, un, hu⟩ : ∃ ub un, rs[r] = (⟨ub, un⟩ : Vl) := ⟨_, _, rfl⟩
  rw [hu] at hokr hvr
  have Hu : Hid (rs[r]? = some ⟨ub, un⟩) := by show rs[r]? = _; rw [List.getElem?_eq_getElem hlr, hu]
  have hs : M.step (rs, s) ⟨6, (r : Int), (l : Int), a, n⟩ = (okO, (rs, s)) := by unfold PMem.step PMem.go; rw [if_neg (by simpa using hw), if_neg (by simp), if_neg (by simp), if_neg (by simp), if_neg (by simp), if_neg (by simp), if_pos rfl]; dsimp only; rw [if_neg he]
  rw [hvl, hvr] at he
  have hq : eqVl ub un vb vn = false := by
    have := (eqVl_iff ⟨ub, un⟩ ⟨vb, vn⟩); cases hh : eqVl ub un vb vn; rfl; exact absurd (this.1 hh) he
  have Hs := Lib.hid hs
  have hl8 : (l : Int) < 8 := by omega
  have hr8 : (r : Int) < 8 := by omega
  clear hs z1 z2 z3 t0 t8 f0 f8 hvl hok hv hll hokr hu hlr hvr he
  have hc := hi.clo
  have HX := Lib.hid (And.intro hm (And.intro h (And.intro hF hi)))
  have Hlen := Lib.hid hlen
  have Hbase := Lib.hid hbase
  have Hc := Lib.hid hc
  have Hx := Lib.hid hw
  clear hw hm h hF hi hlen hc hbase
  go_enter Try.func50, Try.ntmps50
  go_wp2_with (first
    | (go_at_call 87; refine (wrong_any _ _ _ _ _ _).mono ?_; rintro e w2 ⟨rfl, hB⟩; rw [Hx.out]
       have HB := Lib.hid ((((Below.refl W.heap.size W).alloc (Nat.le_refl _) (.cells #[.int .i64 6, .int .i64 (r : Int), .int .i64 (l : Int), .int .i64 a, .int .i64 n] 88)).alloc (by simp) (.cells #[.int .i64 0, .bool false, .int .i64 0] 37)).trans (hB.mono (by simp; omega)))
       have HQ := Lib.hid (blk_below hB (at_new _ _ (W.heap.size + 1) (by simp)))
       have q := blk_below hB (blk_alloc (heap_alloc_new W (.cells #[.int .i64 6, .int .i64 (r : Int), .int .i64 (l : Int), .int .i64 a, .int .i64 n] 88)))
       have q0 := cell_blk (j := 0) q rfl
       have q1 := cell_blk (j := 1) q rfl
       have q2 := cell_blk (j := 2) q rfl
       have q3 := cell_blk (j := 3) q rfl
       have q4 := cell_blk (j := 4) q rfl
       have HK := Lib.hid q
       have hsz := lt_blk HQ.out
       have hltF : Hid (∀ b, F b → b < W.heap.size) := fun b hb => lt HX.out.2.1 hb
       have hbm := lt_blk HX.out.1.blk
       have HM := Lib.hid (HX.out.1.below HB.out)
       have HR := Lib.hid (same HX.out.2.1 fun b hb => HB.out.block b (hltF.out b hb))
       clear hB q))
  obtain ⟨c1, c2⟩ := HM.out.get Hv.out
  obtain ⟨c3, c4⟩ := HM.out.get Hu.out
  go_quiet (fail)
  have g0 := cell_blk (j := 0) HQ.out rfl
  have g1 := cell_blk (j := 1) HQ.out rfl
  have g2 := cell_blk (j := 2) HQ.out rfl
  have k0 := frozen_blk (j := 0) HQ.out
  have k1 := frozen_blk (j := 1) HQ.out
  have k2 := frozen_blk (j := 2) HQ.out
  go_wp2
  obtain ⟨x1, x2, x3, x4⟩ := HX.out
  exact do_fin0 (w2 := w2) (below_drewN HB.out _) (show (w2.drewN _).heap[W.heap.size + 1]? = _ from HQ.out) rfl x1 x2 x3 okO _ rfl rfl _ Hs.out

set_option maxRecDepth 20000 in
set_option maxHeartbeats 2000000 in
theorem do_7n (bm bM base : Nat) (W : World) (F : Nat → Prop) (rs : List Vl) (s : Ovs) (hm : Mach W bm bM 125 rs) (h : MRep bm bM base W F s) (hF : ¬ F bm) (hi : Inv rs s) (hlen : (M.objs s).length ≤ 1000) (hbase : base ≤ W.heap.size) (t f a n : Int) (he : (regAt rs f).ref = false) (hw : wrongD ⟨7, t, f, a, n⟩ = 0) :
    Calls Try.prog 50 #[.pointer (some ⟨bm, 0, none⟩), .agg #[.int .i64 7, .int .i64 t, .int .i64 f, .int .i64 a, .int .i64 n]] W (DoPost bm bM base W F (M.step (rs, s) ⟨7, t, f, a, n⟩)) := by
  obtain ⟨-, -, z1, z2, z3⟩ := wrongD_zero hw
  obtain ⟨f0, f8⟩ := z2 (by simp) (by simp)
  obtain ⟨l, rfl⟩ := Int.eq_ofNat_of_zero_le f0
  have Hl : l < 8 := by simp at f8; omega
  have hll : l < rs.length := by rw [hm.len]; exact Hl
  have hvl : regAt rs (l : Int) = rs[l] := by simp [regAt, hll]
  have hok := hi.clo.regs _ (List.getElem_mem hll)
  obtain ⟨vb, vn, hv⟩ : ∃ vb vn, rs[l] = (⟨vb, vn⟩ : Vl) := ⟨_, _, rfl⟩
  rw [hv] at hok hvl
  have Hv : Hid (rs[l]? = some ⟨vb, vn⟩) := by show rs[l]? = _; rw [List.getElem?_eq_getElem hll, hv]
  rw [hvl] at he
  dsimp only at he
  subst he
  have hs : M.step (rs, s) ⟨7, t, (l : Int), a, n⟩ = (⟨0, false, vn⟩, (rs, s)) := by unfold PMem.step PMem.go; rw [if_neg (by simpa using hw), if_neg (by simp), if_neg (by simp), if_neg (by simp), if_neg (by simp), if_neg (by simp), if_neg (by simp)]; dsimp only; rw [hvl]; rfl
  have Hs := Lib.hid hs
  have hl8 : (l : Int) < 8 := by omega
  clear hs z1 z2 z3 f0 f8 hvl hok hv hll
  have hc := hi.clo
  have HX := Lib.hid (And.intro hm (And.intro h (And.intro hF hi)))
  have Hlen := Lib.hid hlen
  have Hbase := Lib.hid hbase
  have Hc := Lib.hid hc
  have Hx := Lib.hid hw
  clear hw hm h hF hi hlen hc hbase
  go_enter Try.func50, Try.ntmps50
  go_wp2_with (first
    | (go_at_call 87; refine (wrong_any _ _ _ _ _ _).mono ?_; rintro e w2 ⟨rfl, hB⟩; rw [Hx.out]
       have HB := Lib.hid ((((Below.refl W.heap.size W).alloc (Nat.le_refl _) (.cells #[.int .i64 7, .int .i64 t, .int .i64 (l : Int), .int .i64 a, .int .i64 n] 88)).alloc (by simp) (.cells #[.int .i64 0, .bool false, .int .i64 0] 37)).trans (hB.mono (by simp; omega)))
       have HQ := Lib.hid (blk_below hB (at_new _ _ (W.heap.size + 1) (by simp)))
       have q := blk_below hB (blk_alloc (heap_alloc_new W (.cells #[.int .i64 7, .int .i64 t, .int .i64 (l : Int), .int .i64 a, .int .i64 n] 88)))
       have q0 := cell_blk (j := 0) q rfl
       have q1 := cell_blk (j := 1) q rfl
       have q2 := cell_blk (j := 2) q rfl
       have q3 := cell_blk (j := 3) q rfl
       have q4 := cell_blk (j := 4) q rfl
       have HK := Lib.hid q
       have hsz := lt_blk HQ.out
       have hltF : Hid (∀ b, F b → b < W.heap.size) := fun b hb => lt HX.out.2.1 hb
       have hbm := lt_blk HX.out.1.blk
       have HM := Lib.hid (HX.out.1.below HB.out)
       have HR := Lib.hid (same HX.out.2.1 fun b hb => HB.out.block b (hltF.out b hb))
       clear hB q))
  obtain ⟨c1, c2⟩ := HM.out.get Hv.out
  have n1 := World.new_ne _ _ q2
  have n2 := World.new_ne _ _ c1
  go_region_held3 (fun w' => w'.cell? ⟨W.heap.size, 2, none⟩ = some (.int .i64 (l : Int)) ∧ w'.cell? ⟨bm, l * 2, none⟩ = some (.bool false) ∧ w'.cell? ⟨bm, l * 2 + 1, none⟩ = some (.int .i64 vn)) (go_keep) (fail)
  have HW := Lib.hid ((HB.out.alloc HB.out.size (.cells #[.bool false, .int .i64 vn] 99)).drew)
  have HQ2 := Lib.hid (blk_drew (blk_alloc (x := .cells #[.bool false, .int .i64 vn] 99) HQ.out))
  generalize hW2 : (w2.alloc (.cells #[.bool false, .int .i64 vn] 99)).drew = w5 at *
  have hv5 : w5.heap[w2.heap.size]? = some (.cells #[.bool false, .int .i64 vn] 99 (0, 0)) := by rw [← hW2]; exact heap_alloc_new _ _
  have v0 := cell_blk (j := 0) hv5 rfl
  have v1 := cell_blk (j := 1) hv5 rfl
  clear hW2 n1 n2 c1 c2 q0 q1 q2 q3 q4 hv5
  have g0 := cell_blk (j := 0) HQ2.out rfl
  have g1 := cell_blk (j := 1) HQ2.out rfl
  have g2 := cell_blk (j := 2) HQ2.out rfl
  have k0 := frozen_blk (j := 0) HQ2.out
  have k1 := frozen_blk (j := 1) HQ2.out
  have k2 := frozen_blk (j := 2) HQ2.out
  have hsz5 := lt_blk HQ2.out
  go_wp2
  obtain ⟨x1, x2, x3, x4⟩ := HX.out
  exact do_fin0 (w2 := w2) HW.out HQ2.out rfl x1 x2 x3 ⟨0, false, vn⟩ _ rfl rfl _ Hs.out

set_option maxRecDepth 20000 in
set_option maxHeartbeats 2000000 in
theorem do_7r (bm bM base : Nat) (W : World) (F : Nat → Prop) (rs : List Vl) (s : Ovs) (hm : Mach W bm bM 125 rs) (h : MRep bm bM base W F s) (hF : ¬ F bm) (hi : Inv rs s) (hlen : (M.objs s).length ≤ 1000) (hbase : base ≤ W.heap.size) (t f a n : Int) (he : (regAt rs f).ref = true) (hw : wrongD ⟨7, t, f, a, n⟩ = 0) :
    Calls Try.prog 50 #[.pointer (some ⟨bm, 0, none⟩), .agg #[.int .i64 7, .int .i64 t, .int .i64 f, .int .i64 a, .int .i64 n]] W (DoPost bm bM base W F (M.step (rs, s) ⟨7, t, f, a, n⟩)) := by
  obtain ⟨-, -, z1, z2, z3⟩ := wrongD_zero hw
  obtain ⟨f0, f8⟩ := z2 (by simp) (by simp)
  obtain ⟨l, rfl⟩ := Int.eq_ofNat_of_zero_le f0
  have Hl : l < 8 := by simp at f8; omega
  have hll : l < rs.length := by rw [hm.len]; exact Hl
  have hvl : regAt rs (l : Int) = rs[l] := by simp [regAt, hll]
  have hok := hi.clo.regs _ (List.getElem_mem hll)
  obtain ⟨vb, vn, hv⟩ : ∃ vb vn, rs[l] = (⟨vb, vn⟩ : Vl) := ⟨_, _, rfl⟩
  rw [hv] at hok hvl
  have Hv : Hid (rs[l]? = some ⟨vb, vn⟩) := by show rs[l]? = _; rw [List.getElem?_eq_getElem hll, hv]
  rw [hvl] at he
  dsimp only at he
  subst he
  obtain ⟨hn0, hat⟩ := hok rfl
  obtain ⟨i, rfl⟩ := Int.eq_ofNat_of_zero_le hn0
  obtain ⟨fs, hfs⟩ := isAt_iff.1 hat
  obtain ⟨ov, LL, cs, tt, hO, hob, hbM, h00⟩ := objs h
  obtain ⟨o, hLi, ho⟩ := obs_some hob (show (M.objs s)[i]? = some (some fs) by simpa using hfs)
  have hfa : fldsAt (M.objs s) (i : Int) = o.fs := by rw [ho]; exact fldsAt_of (by simpa using hfs)
  have hs : M.step (rs, s) ⟨7, t, (l : Int), a, n⟩ = (⟨0, true, (o.fs.length : Int)⟩, (rs, s)) := by unfold PMem.step PMem.go; rw [if_neg (by simpa using hw), if_neg (by simp), if_neg (by simp), if_neg (by simp), if_neg (by simp), if_neg (by simp), if_neg (by simp)]; dsimp only; rw [hvl]; dsimp only; rw [hfa]; rfl
  have Hs := Lib.hid hs
  have hl8 : (l : Int) < 8 := by omega
  obtain ⟨A, cap, rfl, -⟩ := hO.len
  have HO := Lib.hid hO
  have HLi := Lib.hid hLi
  have HbM := Lib.hid (And.intro hbM h00)
  have m1 := nilLen
  have m2 := methLen bM A LL.length cap
  clear hs z1 z2 z3 f0 f8 hvl hok hv hll hn0 hat hfs hO hob hbM h00 hLi ho hfa
  have hc := hi.clo
  have HX := Lib.hid (And.intro hm (And.intro h (And.intro hF hi)))
  have Hlen := Lib.hid hlen
  have Hbase := Lib.hid hbase
  have Hc := Lib.hid hc
  have Hx := Lib.hid hw
  clear hw hm h hF hi hlen hc hbase
  go_enter Try.func50, Try.ntmps50
  go_wp2_with (first
    | (go_at_call 87; refine (wrong_any _ _ _ _ _ _).mono ?_; rintro e w2 ⟨rfl, hB⟩; rw [Hx.out]
       have HB := Lib.hid ((((Below.refl W.heap.size W).alloc (Nat.le_refl _) (.cells #[.int .i64 7, .int .i64 t, .int .i64 (l : Int), .int .i64 a, .int .i64 n] 88)).alloc (by simp) (.cells #[.int .i64 0, .bool false, .int .i64 0] 37)).trans (hB.mono (by simp; omega)))
       have HQ := Lib.hid (blk_below hB (at_new _ _ (W.heap.size + 1) (by simp)))
       have q := blk_below hB (blk_alloc (heap_alloc_new W (.cells #[.int .i64 7, .int .i64 t, .int .i64 (l : Int), .int .i64 a, .int .i64 n] 88)))
       have q0 := cell_blk (j := 0) q rfl
       have q1 := cell_blk (j := 1) q rfl
       have q2 := cell_blk (j := 2) q rfl
       have q3 := cell_blk (j := 3) q rfl
       have q4 := cell_blk (j := 4) q rfl
       have HK := Lib.hid q
       have hsz := lt_blk HQ.out
       have hltF : Hid (∀ b, F b → b < W.heap.size) := fun b hb => lt HX.out.2.1 hb
       have hbm := lt_blk HX.out.1.blk
       have HM := Lib.hid (HX.out.1.below HB.out)
       have HR := Lib.hid (same HX.out.2.1 fun b hb => HB.out.block b (hltF.out b hb))
       clear hB q))
  obtain ⟨c1, c2⟩ := HM.out.get Hv.out
  have n1 := World.new_ne _ _ q2
  have n2 := World.new_ne _ _ c1
  go_region_held3 (fun w' => w'.cell? ⟨W.heap.size, 2, none⟩ = some (.int .i64 (l : Int)) ∧ w'.cell? ⟨bm, l * 2, none⟩ = some (.bool true) ∧ w'.cell? ⟨bm, l * 2 + 1, none⟩ = some (.int .i64 (i : Int))) (go_keep) (fail)
  have HB3 := Lib.hid ((HB.out.alloc HB.out.size (.cells #[.bool true, .int .i64 (i : Int)] 99)).drew)
  have HQ2 := Lib.hid (blk_drew (blk_alloc (x := .cells #[.bool true, .int .i64 (i : Int)] 99) HQ.out))
  generalize hW2 : (w2.alloc (.cells #[.bool true, .int .i64 (i : Int)] 99)).drew = w5 at *
  have hv5 : w5.heap[w2.heap.size]? = some (.cells #[.bool true, .int .i64 (i : Int)] 99 (0, 0)) := by rw [← hW2]; exact heap_alloc_new _ _
  have v0 := cell_blk (j := 0) hv5 rfl
  have v1 := cell_blk (j := 1) hv5 rfl
  have vf := frozen_blk (j := 1) hv5
  have hs5 := lt_blk hv5
  have Hv5 := Lib.hid hv5
  have c9 := (HX.out.1.below HB3.out).mem
  have cM := cell_blk (j := 0) (blk_below HB3.out HbM.out.1) HbM.out.2
  clear hW2 hv5 n1 n2 c1 c2 q0 q1 q2 q3 q4
  go_wp2
  go_region_law (first | (go_simp; go_at_call 200; refine (olen_any _ base _ LL ((HO.out.below HB3.out).drew) i o HLi.out).mono ?_; rintro e w4 ⟨rfl, rfl⟩))
  all_goals
    have HB6 := Lib.hid ((HB3.out.setCell (p := ⟨w2.heap.size, 1, none⟩) HB.out.size (.int .i64 (o.fs.length : Int))).drew)
    have hne : W.heap.size + 1 ≠ w2.heap.size := by omega
    have HQ6 := Lib.hid (blk_drew (blk_set (p := ⟨w2.heap.size, 1, none⟩) (v := .int .i64 (o.fs.length : Int)) HQ2.out hne))
    have hv6 := blk_drew (set_blk (j := 1) (u := .int .i64 (o.fs.length : Int)) Hv5.out)
    generalize (w5.setCell ⟨w2.heap.size, 1, none⟩ (.int .i64 (o.fs.length : Int))).drew = w6 at *
    clear v0 v1 vf c9 cM
    have v0 := cell_blk (j := 0) hv6 rfl
    have v1 := cell_blk (j := 1) hv6 rfl
    have g0 := cell_blk (j := 0) HQ6.out rfl
    have g1 := cell_blk (j := 1) HQ6.out rfl
    have g2 := cell_blk (j := 2) HQ6.out rfl
    have k0 := frozen_blk (j := 0) HQ6.out
    have k1 := frozen_blk (j := 1) HQ6.out
    have k2 := frozen_blk (j := 2) HQ6.out
    have hsz6 := lt_blk HQ6.out
    go_wp2
    obtain ⟨x1, x2, x3, x4⟩ := HX.out
    exact do_fin0 (w2 := w2) HB6.out HQ6.out rfl x1 x2 x3 ⟨0, true, (o.fs.length : Int)⟩ _ rfl rfl _ Hs.out

set_option maxRecDepth 20000 in
set_option maxHeartbeats 2000000 in
theorem do_4e (bm bM base : Nat) (W : World) (F : Nat → Prop) (rs : List Vl) (s : Ovs) (hm : Mach W bm bM 125 rs) (h : MRep bm bM base W F s) (hF : ¬ F bm) (hi : Inv rs s) (hlen : (M.objs s).length ≤ 1000) (hbase : base ≤ W.heap.size) (t f a n : Int) (x : Int) (hx : fieldE (M.objs s) (regAt rs t) a = x) (hx0 : x ≠ 0) (hw : wrongD ⟨4, t, f, a, n⟩ = 0) :
    Calls Try.prog 50 #[.pointer (some ⟨bm, 0, none⟩), .agg #[.int .i64 4, .int .i64 t, .int .i64 f, .int .i64 a, .int .i64 n]] W (DoPost bm bM base W F (M.step (rs, s) ⟨4, t, f, a, n⟩)) := by
  obtain ⟨-, -, z1, z2, z3⟩ := wrongD_zero hw
  obtain ⟨t0, t8⟩ := z1 (by simp)
  obtain ⟨r, rfl⟩ := Int.eq_ofNat_of_zero_le t0
  have Hr : r < 8 := by simp at t8; omega
  have hlr : r < rs.length := by rw [hm.len]; exact Hr
  have hvr : regAt rs (r : Int) = rs[r] := by simp [regAt, hlr]
  have hokr := hi.clo.regs _ (List.getElem_mem hlr)
  obtain ⟨ub, un, hu⟩ : ∃ ub un, rs[r] = (⟨ub, un⟩ : Vl) := ⟨_, _, rfl⟩
  rw [hu] at hokr hvr
  have Hu : Hid (rs[r]? = some ⟨ub, un⟩) := by show rs[r]? = _; rw [List.getElem?_eq_getElem hlr, hu]
  rw [hvr] at hx
  have hs : M.step (rs, s) ⟨4, (r : Int), f, a, n⟩ = (⟨x, false, 0⟩, (rs, s)) := by unfold PMem.step PMem.go; rw [if_neg (by simpa using hw)]; rw [if_neg (by simp)]; rw [if_neg (by simp)]; rw [if_neg (by simp)]; rw [if_pos rfl]; dsimp only; rw [hvr, hx, if_pos hx0]
  have Hs := Lib.hid hs
  have Hx2 := Lib.hid hx
  have b1 : (x != 0) = true := by simpa using hx0
  have rr8 : (r : Int) < 8 := by omega
  clear hs z1 z2 z3 hx hx0 t0 t8 hvr hu hlr
  have Hok := Lib.hid hokr
  clear hokr
  have hc := hi.clo
  have HX := Lib.hid (And.intro hm (And.intro h (And.intro hF hi)))
  have Hlen := Lib.hid hlen
  have Hbase := Lib.hid hbase
  have Hc := Lib.hid hc
  have Hx := Lib.hid hw
  clear hw hm h hF hi hlen hc hbase
  go_enter Try.func50, Try.ntmps50
  go_wp2_with (first
    | (go_at_call 87; refine (wrong_any _ _ _ _ _ _).mono ?_; rintro e w2 ⟨rfl, hB⟩; rw [Hx.out]
       have HB := Lib.hid ((((Below.refl W.heap.size W).alloc (Nat.le_refl _) (.cells #[.int .i64 4, .int .i64 (r : Int), .int .i64 f, .int .i64 a, .int .i64 n] 88)).alloc (by simp) (.cells #[.int .i64 0, .bool false, .int .i64 0] 37)).trans (hB.mono (by simp; omega)))
       have HQ := Lib.hid (blk_below hB (at_new _ _ (W.heap.size + 1) (by simp)))
       have q := blk_below hB (blk_alloc (heap_alloc_new W (.cells #[.int .i64 4, .int .i64 (r : Int), .int .i64 f, .int .i64 a, .int .i64 n] 88)))
       have q0 := cell_blk (j := 0) q rfl
       have q1 := cell_blk (j := 1) q rfl
       have q2 := cell_blk (j := 2) q rfl
       have q3 := cell_blk (j := 3) q rfl
       have q4 := cell_blk (j := 4) q rfl
       have HK := Lib.hid q
       have hsz := lt_blk HQ.out
       have hltF : Hid (∀ b, F b → b < W.heap.size) := fun b hb => lt HX.out.2.1 hb
       have hbm := lt_blk HX.out.1.blk
       have HM := Lib.hid (HX.out.1.below HB.out)
       have HR := Lib.hid (same HX.out.2.1 fun b hb => HB.out.block b (hltF.out b hb))
       clear hB q))
  obtain ⟨c1, c2⟩ := HM.out.get Hu.out
  have n1 := World.new_ne _ _ q2
  have n2 := World.new_ne _ _ c1
  go_region_held3 (fun w' => w'.cell? ⟨W.heap.size, 1, none⟩ = some (.int .i64 (r : Int)) ∧ w'.cell? ⟨bm, r * 2, none⟩ = some (.bool ub) ∧ w'.cell? ⟨bm, r * 2 + 1, none⟩ = some (.int .i64 un)) (go_keep) (fail)
  have HB5 := Lib.hid ((HB.out.alloc HB.out.size (.cells #[.bool ub, .int .i64 un] 99)).drew)
  have HQ5 := Lib.hid (blk_drew (blk_alloc (x := .cells #[.bool ub, .int .i64 un] 99) HQ.out))
  have HK5 := Lib.hid (blk_drew (blk_alloc (x := .cells #[.bool ub, .int .i64 un] 99) HK.out))
  generalize hW2 : (w2.alloc (.cells #[.bool ub, .int .i64 un] 99)).drew = w5 at *
  have Hv5 := Lib.hid (show w5.heap[w2.heap.size]? = some (.cells #[.bool ub, .int .i64 un] 99 (0, 0)) by rw [← hW2]; exact heap_alloc_new _ _)
  have v0 := cell_blk (j := 0) Hv5.out rfl
  have v1 := cell_blk (j := 1) Hv5.out rfl
  have hs5 := lt_blk Hv5.out
  have hs25 : w2.heap.size < w5.heap.size := hs5
  have u1 := cell_blk (j := 1) HK5.out rfl
  have u2 := cell_blk (j := 2) HK5.out rfl
  have u3 := cell_blk (j := 3) HK5.out rfl
  have HM5 := Lib.hid (HX.out.1.below HB5.out)
  have HR5 := Lib.hid (same HX.out.2.1 fun b hb => HB5.out.block b (hltF.out b hb))
  clear hW2 n1 n2 c1 c2 q0 q1 q2 q3 q4
  go_wp2_with (first
    | (go_at_call 89; refine (field_any bm bM base _ F rs s HM5.out HR5.out ub un Hok.out a).mono ?_; rintro e w6 ⟨rfl, hB6⟩; rw [Hx2.out]
       have HB6 := Lib.hid (HB5.out.trans (hB6.mono HB5.out.size))
       have HQ6 := Lib.hid (blk_below hB6 HQ5.out)
       have HK6 := Lib.hid (blk_below hB6 HK5.out)
       have Hv6 := Lib.hid (blk_below hB6 Hv5.out)
       have g0 := cell_blk (j := 0) HQ6.out rfl
       have g1 := cell_blk (j := 1) HQ6.out rfl
       have g2 := cell_blk (j := 2) HQ6.out rfl
       have k0 := frozen_blk (j := 0) HQ6.out
       have k1 := frozen_blk (j := 1) HQ6.out
       have k2 := frozen_blk (j := 2) HQ6.out
       have hszr := lt_blk HQ6.out
       clear hB6))
  have done := True.intro
  obtain ⟨x1, x2, x3, x4⟩ := HX.out
  exact do_fin0 (w2 := w2) HB6.out HQ6.out rfl x1 x2 x3 ⟨x, false, 0⟩ _ rfl rfl _ Hs.out

set_option maxRecDepth 20000 in
set_option maxHeartbeats 2000000 in
theorem do_5e (bm bM base : Nat) (W : World) (F : Nat → Prop) (rs : List Vl) (s : Ovs) (hm : Mach W bm bM 125 rs) (h : MRep bm bM base W F s) (hF : ¬ F bm) (hi : Inv rs s) (hlen : (M.objs s).length ≤ 1000) (hbase : base ≤ W.heap.size) (t f a n : Int) (x : Int) (hx : fieldE (M.objs s) (regAt rs f) a = x) (hx0 : x ≠ 0) (hw : wrongD ⟨5, t, f, a, n⟩ = 0) :
    Calls Try.prog 50 #[.pointer (some ⟨bm, 0, none⟩), .agg #[.int .i64 5, .int .i64 t, .int .i64 f, .int .i64 a, .int .i64 n]] W (DoPost bm bM base W F (M.step (rs, s) ⟨5, t, f, a, n⟩)) := by
  obtain ⟨-, -, z1, z2, z3⟩ := wrongD_zero hw
  obtain ⟨f0, f8⟩ := z2 (by simp) (by simp)
  obtain ⟨l, rfl⟩ := Int.eq_ofNat_of_zero_le f0
  have Hl : l < 8 := by simp at f8; omega
  have hll : l < rs.length := by rw [hm.len]; exact Hl
  have hvl : regAt rs (l : Int) = rs[l] := by simp [regAt, hll]
  have hok := hi.clo.regs _ (List.getElem_mem hll)
  obtain ⟨vb, vn, hv⟩ : ∃ vb vn, rs[l] = (⟨vb, vn⟩ : Vl) := ⟨_, _, rfl⟩
  rw [hv] at hok hvl
  have Hv : Hid (rs[l]? = some ⟨vb, vn⟩) := by show rs[l]? = _; rw [List.getElem?_eq_getElem hll, hv]
  rw [hvl] at hx
  have hs : M.step (rs, s) ⟨5, t, (l : Int), a, n⟩ = (⟨x, false, 0⟩, (rs, s)) := by unfold PMem.step PMem.go; rw [if_neg (by simpa using hw)]; rw [if_neg (by simp)]; rw [if_neg (by simp)]; rw [if_neg (by simp)]; rw [if_neg (by simp)]; rw [if_pos rfl]; dsimp only; rw [hvl, hx, if_pos hx0]
  have Hs := Lib.hid hs
  have Hx2 := Lib.hid hx
  have b1 : (x != 0) = true := by simpa using hx0
  have ll8 : (l : Int) < 8 := by omega
  clear hs z1 z2 z3 hx hx0 f0 f8 hvl hv hll
  have Hok := Lib.hid hok
  clear hok
  have hc := hi.clo
  have HX := Lib.hid (And.intro hm (And.intro h (And.intro hF hi)))
  have Hlen := Lib.hid hlen
  have Hbase := Lib.hid hbase
  have Hc := Lib.hid hc
  have Hx := Lib.hid hw
  clear hw hm h hF hi hlen hc hbase
  go_enter Try.func50, Try.ntmps50
  go_wp2_with (first
    | (go_at_call 87; refine (wrong_any _ _ _ _ _ _).mono ?_; rintro e w2 ⟨rfl, hB⟩; rw [Hx.out]
       have HB := Lib.hid ((((Below.refl W.heap.size W).alloc (Nat.le_refl _) (.cells #[.int .i64 5, .int .i64 t, .int .i64 (l : Int), .int .i64 a, .int .i64 n] 88)).alloc (by simp) (.cells #[.int .i64 0, .bool false, .int .i64 0] 37)).trans (hB.mono (by simp; omega)))
       have HQ := Lib.hid (blk_below hB (at_new _ _ (W.heap.size + 1) (by simp)))
       have q := blk_below hB (blk_alloc (heap_alloc_new W (.cells #[.int .i64 5, .int .i64 t, .int .i64 (l : Int), .int .i64 a, .int .i64 n] 88)))
       have q0 := cell_blk (j := 0) q rfl
       have q1 := cell_blk (j := 1) q rfl
       have q2 := cell_blk (j := 2) q rfl
       have q3 := cell_blk (j := 3) q rfl
       have q4 := cell_blk (j := 4) q rfl
       have HK := Lib.hid q
       have hsz := lt_blk HQ.out
       have hltF : Hid (∀ b, F b → b < W.heap.size) := fun b hb => lt HX.out.2.1 hb
       have hbm := lt_blk HX.out.1.blk
       have HM := Lib.hid (HX.out.1.below HB.out)
       have HR := Lib.hid (same HX.out.2.1 fun b hb => HB.out.block b (hltF.out b hb))
       clear hB q))
  obtain ⟨c1, c2⟩ := HM.out.get Hv.out
  have n1 := World.new_ne _ _ q2
  have n2 := World.new_ne _ _ c1
  go_region_held3 (fun w' => w'.cell? ⟨W.heap.size, 2, none⟩ = some (.int .i64 (l : Int)) ∧ w'.cell? ⟨bm, l * 2, none⟩ = some (.bool vb) ∧ w'.cell? ⟨bm, l * 2 + 1, none⟩ = some (.int .i64 vn)) (go_keep) (fail)
  have HB5 := Lib.hid ((HB.out.alloc HB.out.size (.cells #[.bool vb, .int .i64 vn] 99)).drew)
  have HQ5 := Lib.hid (blk_drew (blk_alloc (x := .cells #[.bool vb, .int .i64 vn] 99) HQ.out))
  have HK5 := Lib.hid (blk_drew (blk_alloc (x := .cells #[.bool vb, .int .i64 vn] 99) HK.out))
  generalize hW2 : (w2.alloc (.cells #[.bool vb, .int .i64 vn] 99)).drew = w5 at *
  have Hv5 := Lib.hid (show w5.heap[w2.heap.size]? = some (.cells #[.bool vb, .int .i64 vn] 99 (0, 0)) by rw [← hW2]; exact heap_alloc_new _ _)
  have v0 := cell_blk (j := 0) Hv5.out rfl
  have v1 := cell_blk (j := 1) Hv5.out rfl
  have hs5 := lt_blk Hv5.out
  have hs25 : w2.heap.size < w5.heap.size := hs5
  have u1 := cell_blk (j := 1) HK5.out rfl
  have u2 := cell_blk (j := 2) HK5.out rfl
  have u3 := cell_blk (j := 3) HK5.out rfl
  have HM5 := Lib.hid (HX.out.1.below HB5.out)
  have HR5 := Lib.hid (same HX.out.2.1 fun b hb => HB5.out.block b (hltF.out b hb))
  clear hW2 n1 n2 c1 c2 q0 q1 q2 q3 q4
  go_wp2_with (first
    | (go_at_call 89; refine (field_any bm bM base _ F rs s HM5.out HR5.out vb vn Hok.out a).mono ?_; rintro e w6 ⟨rfl, hB6⟩; rw [Hx2.out]
       have HB6 := Lib.hid (HB5.out.trans (hB6.mono HB5.out.size))
       have HQ6 := Lib.hid (blk_below hB6 HQ5.out)
       have HK6 := Lib.hid (blk_below hB6 HK5.out)
       have Hv6 := Lib.hid (blk_below hB6 Hv5.out)
       have g0 := cell_blk (j := 0) HQ6.out rfl
       have g1 := cell_blk (j := 1) HQ6.out rfl
       have g2 := cell_blk (j := 2) HQ6.out rfl
       have k0 := frozen_blk (j := 0) HQ6.out
       have k1 := frozen_blk (j := 1) HQ6.out
       have k2 := frozen_blk (j := 2) HQ6.out
       have hszr := lt_blk HQ6.out
       clear hB6))
  have done := True.intro
  obtain ⟨x1, x2, x3, x4⟩ := HX.out
  exact do_fin0 (w2 := w2) HB6.out HQ6.out rfl x1 x2 x3 ⟨x, false, 0⟩ _ rfl rfl _ Hs.out

set_option maxRecDepth 20000 in
set_option maxHeartbeats 2000000 in
theorem do_4 (bm bM base : Nat) (W : World) (F : Nat → Prop) (rs : List Vl) (s : Ovs) (hm : Mach W bm bM 125 rs) (h : MRep bm bM base W F s) (hF : ¬ F bm) (hi : Inv rs s) (hlen : (M.objs s).length ≤ 1000) (hbase : base ≤ W.heap.size) (t f a n : Int) (hx : fieldE (M.objs s) (regAt rs t) a = 0) (hw : wrongD ⟨4, t, f, a, n⟩ = 0) :
    Calls Try.prog 50 #[.pointer (some ⟨bm, 0, none⟩), .agg #[.int .i64 4, .int .i64 t, .int .i64 f, .int .i64 a, .int .i64 n]] W (DoPost bm bM base W F (M.step (rs, s) ⟨4, t, f, a, n⟩)) := by
  obtain ⟨-, -, z1, z2, z3⟩ := wrongD_zero hw
  obtain ⟨t0, t8⟩ := z1 (by simp)
  obtain ⟨r, rfl⟩ := Int.eq_ofNat_of_zero_le t0
  have Hr : r < 8 := by simp at t8; omega
  obtain ⟨f0, f8⟩ := z2 (by simp) (by simp)
  obtain ⟨l, rfl⟩ := Int.eq_ofNat_of_zero_le f0
  have Hl : l < 8 := by simp at f8; omega
  have hll : l < rs.length := by rw [hm.len]; exact Hl
  have hvl : regAt rs (l : Int) = rs[l] := by simp [regAt, hll]
  have hok := hi.clo.regs _ (List.getElem_mem hll)
  obtain ⟨vb, vn, hv⟩ : ∃ vb vn, rs[l] = (⟨vb, vn⟩ : Vl) := ⟨_, _, rfl⟩
  rw [hv] at hok hvl
  have Hv : Hid (rs[l]? = some ⟨vb, vn⟩) := by show rs[l]? = _; rw [List.getElem?_eq_getElem hll, hv]
  have hlr : r < rs.length := by rw [hm.len]; exact Hr
  have hvr : regAt rs (r : Int) = rs[r] := by simp [regAt, hlr]
  have hokr := hi.clo.regs _ (List.getElem_mem hlr)
  obtain ⟨ub, un, hu⟩ : ∃ ub un, rs[r] = (⟨ub, un⟩ : Vl) := ⟨_, _, rfl⟩
  rw [hu] at hokr hvr
  have Hu : Hid (rs[r]? = some ⟨ub, un⟩) := by show rs[r]? = _; rw [List.getElem?_eq_getElem hlr, hu]
  rw [hvr] at hx
  have hfe := hx
  unfold fieldE at hfe
  have hrf : ub = true := by
    cases hq : ub
    · rw [hq] at hfe; simp at hfe
    · rfl
  subst hrf
  rw [if_neg (by simp)] at hfe
  obtain ⟨hn0, hat⟩ := hokr rfl
  obtain ⟨i, rfl⟩ := Int.eq_ofNat_of_zero_le hn0
  obtain ⟨fs, hfs⟩ := isAt_iff.1 hat
  obtain ⟨ov, LL, cs, tt, hO, hob, hbM, h00⟩ := objs h
  obtain ⟨o, hLi, ho⟩ := obs_some hob (show (M.objs s)[i]? = some (some fs) by simpa using hfs)
  have hfa : fldsAt (M.objs s) (i : Int) = o.fs := by rw [ho]; exact fldsAt_of (by simpa using hfs)
  dsimp only at hfe
  rw [hfa] at hfe
  have ha : ¬ (a < 0 ∨ (o.fs.length : Int) ≤ a) := fun hh => by rw [if_pos hh] at hfe; cases hfe
  obtain ⟨k, rfl⟩ := Int.eq_ofNat_of_zero_le (show 0 ≤ a by omega)
  have hk : k < o.fs.length := by omega
  have hoi : (M.objs s)[i]? = some (some o.fs) := by rw [ho]; simpa using hfs
  obtain ⟨A, cap, rfl, -⟩ := hO.len
  have hs : M.step (rs, s) ⟨4, (r : Int), (l : Int), (k : Int), n⟩ = (okO, (rs, M.put rs s i k ⟨vb, vn⟩)) := by unfold PMem.step PMem.go; rw [if_neg (by simpa using hw)]; rw [if_neg (by simp)]; rw [if_neg (by simp)]; rw [if_neg (by simp)]; rw [if_pos rfl]; dsimp only; rw [hvr, hvl, hx, if_neg (by simp)]; rfl
  have Hs := Lib.hid hs
  have Hx2 := Lib.hid hx
  have Hok := Lib.hid hokr
  have Hokv := Lib.hid hok
  have Hoi := Lib.hid hoi
  have HbM := Lib.hid (And.intro hbM h00)
  have rr8 : (r : Int) < 8 := by omega
  have ll8 : (l : Int) < 8 := by omega
  have Hkk := Lib.hid hk
  have m1 := nilPut
  have m2 := methPut bM A LL.length cap
  clear hs z1 z2 z3 hx t0 t8 hvr hu hlr f0 f8 hvl hv hll hfe hn0 hat hfs hO hob hbM h00 hLi ho hfa ha hk hoi hok hokr
  have hc := hi.clo
  have HX := Lib.hid (And.intro hm (And.intro h (And.intro hF hi)))
  have Hlen := Lib.hid hlen
  have Hbase := Lib.hid hbase
  have Hc := Lib.hid hc
  have Hx := Lib.hid hw
  clear hw hm h hF hi hlen hc hbase
  go_enter Try.func50, Try.ntmps50
  go_wp2_with (first
    | (go_at_call 87; refine (wrong_any _ _ _ _ _ _).mono ?_; rintro e w2 ⟨rfl, hB⟩; rw [Hx.out]
       have HB := Lib.hid ((((Below.refl W.heap.size W).alloc (Nat.le_refl _) (.cells #[.int .i64 4, .int .i64 (r : Int), .int .i64 (l : Int), .int .i64 (k : Int), .int .i64 n] 88)).alloc (by simp) (.cells #[.int .i64 0, .bool false, .int .i64 0] 37)).trans (hB.mono (by simp; omega)))
       have HQ := Lib.hid (blk_below hB (at_new _ _ (W.heap.size + 1) (by simp)))
       have q := blk_below hB (blk_alloc (heap_alloc_new W (.cells #[.int .i64 4, .int .i64 (r : Int), .int .i64 (l : Int), .int .i64 (k : Int), .int .i64 n] 88)))
       have q0 := cell_blk (j := 0) q rfl
       have q1 := cell_blk (j := 1) q rfl
       have q2 := cell_blk (j := 2) q rfl
       have q3 := cell_blk (j := 3) q rfl
       have q4 := cell_blk (j := 4) q rfl
       have HK := Lib.hid q
       have hsz := lt_blk HQ.out
       have hltF : Hid (∀ b, F b → b < W.heap.size) := fun b hb => lt HX.out.2.1 hb
       have hbm := lt_blk HX.out.1.blk
       have HM := Lib.hid (HX.out.1.below HB.out)
       have HR := Lib.hid (same HX.out.2.1 fun b hb => HB.out.block b (hltF.out b hb))
       clear hB q))
  obtain ⟨c1, c2⟩ := HM.out.get Hu.out
  have n1 := World.new_ne _ _ q2
  have n2 := World.new_ne _ _ c1
  go_region_held3 (fun w' => w'.cell? ⟨W.heap.size, 1, none⟩ = some (.int .i64 (r : Int)) ∧ w'.cell? ⟨bm, r * 2, none⟩ = some (.bool true) ∧ w'.cell? ⟨bm, r * 2 + 1, none⟩ = some (.int .i64 (i : Int))) (go_keep) (fail)
  have HB5 := Lib.hid ((HB.out.alloc HB.out.size (.cells #[.bool true, .int .i64 (i : Int)] 99)).drew)
  have HQ5 := Lib.hid (blk_drew (blk_alloc (x := .cells #[.bool true, .int .i64 (i : Int)] 99) HQ.out))
  have HK5 := Lib.hid (blk_drew (blk_alloc (x := .cells #[.bool true, .int .i64 (i : Int)] 99) HK.out))
  generalize hW2 : (w2.alloc (.cells #[.bool true, .int .i64 (i : Int)] 99)).drew = w5 at *
  have Hv5 := Lib.hid (show w5.heap[w2.heap.size]? = some (.cells #[.bool true, .int .i64 (i : Int)] 99 (0, 0)) by rw [← hW2]; exact heap_alloc_new _ _)
  have v0 := cell_blk (j := 0) Hv5.out rfl
  have v1 := cell_blk (j := 1) Hv5.out rfl
  have hs5 := lt_blk Hv5.out
  have hs25 : w2.heap.size < w5.heap.size := hs5
  have u1 := cell_blk (j := 1) HK5.out rfl
  have u2 := cell_blk (j := 2) HK5.out rfl
  have u3 := cell_blk (j := 3) HK5.out rfl
  have HM5 := Lib.hid (HX.out.1.below HB5.out)
  have HR5 := Lib.hid (same HX.out.2.1 fun b hb => HB5.out.block b (hltF.out b hb))
  clear hW2 n1 n2 c1 c2 q0 q1 q2 q3 q4
  go_wp2_with (first
    | (go_at_call 89; refine (field_any bm bM base _ F rs s HM5.out HR5.out true (i : Int) Hok.out (k : Int)).mono ?_; rintro e w6 ⟨rfl, hB6⟩; rw [Hx2.out]
       have HB6 := Lib.hid (HB5.out.trans (hB6.mono HB5.out.size))
       have HQ6 := Lib.hid (blk_below hB6 HQ5.out)
       have HK6 := Lib.hid (blk_below hB6 HK5.out)
       have Hv6 := Lib.hid (blk_below hB6 Hv5.out)
       clear hB6))
  have HM6 := Lib.hid (HX.out.1.below HB6.out)
  have HR6 := Lib.hid (same HX.out.2.1 fun b hb => HB6.out.block b (hltF.out b hb))
  have cM := cell_blk (j := 0) (blk_below HB6.out HbM.out.1) HbM.out.2
  obtain ⟨c1, c2⟩ := HM6.out.get Hv.out
  have c9 := HM6.out.mem
  have p1 := cell_blk (j := 1) Hv6.out rfl
  have p2 := cell_blk (j := 2) HK6.out rfl
  have p3 := cell_blk (j := 3) HK6.out rfl
  clear v0 v1 u1 u2 u3
  have hsw := HB6.out.size
  go_region_held3 (fun w' => w'.cell? ⟨bm, 16, none⟩ = some (.iface 125 (.pointer (some ⟨bM, 0, none⟩))) ∧ w'.cell? ⟨w2.heap.size, 1, none⟩ = some (.int .i64 (i : Int)) ∧ w'.cell? ⟨W.heap.size, 3, none⟩ = some (.int .i64 (k : Int)) ∧ w'.cell? ⟨W.heap.size, 2, none⟩ = some (.int .i64 (l : Int)) ∧ w'.cell? ⟨bm, l * 2, none⟩ = some (.bool vb) ∧ w'.cell? ⟨bm, l * 2 + 1, none⟩ = some (.int .i64 vn)) (first | go_keep | exact ⟨e1, e2, e3, e4, e5, e6⟩)
    (first
    | (go_at_call 202; refine (put_any bm bM base _ F rs s HM6.out.drew (drew HR6.out) HX.out.2.2.1 HX.out.2.2.2 (.slice A LL.length cap) (show (World.drew _).cell? _ = _ from cM) i k o.fs Hoi.out Hkk.out vb vn Hokv.out).mono ?_; rintro e w7 ⟨rfl, F', hr7, hf7⟩
       have hn0 : ¬ F W.heap.size := fun hf => by have := hltF.out _ hf; omega
       have hn1 : ¬ F (W.heap.size + 1) := fun hf => by have := hltF.out _ hf; omega
       have hn2 : ¬ F w2.heap.size := fun hf => by have := hltF.out _ hf; omega
       have hm7 := HM6.out.drew.fr hf7 HX.out.2.2.1
       have e1 := hm7.mem
       have e2 := cell_blk (j := 1) (hf7.blk (blk_drew Hv6.out) hn2) rfl
       have e3 := cell_blk (j := 3) (hf7.blk (blk_drew HK6.out) hn0) rfl
       have e4 := cell_blk (j := 2) (hf7.blk (blk_drew HK6.out) hn0) rfl
       obtain ⟨e5, e6⟩ := hm7.get Hv.out
       have HQ3 := Lib.hid (hf7.blk (blk_drew HQ6.out) hn1)
       have HY := Lib.hid (And.intro hm7 (And.intro hr7 (And.intro (hf7.keep bm (lt_blk HM6.out.drew.blk) HX.out.2.2.1).1 (And.intro hf7 (hf7.out (blk_drew HQ6.out) hn1)))))
       clear hm7 hr7 hf7))
  have g0 := cell_blk (j := 0) HQ3.out rfl
  have g1 := cell_blk (j := 1) HQ3.out rfl
  have g2 := cell_blk (j := 2) HQ3.out rfl
  have k0 := frozen_blk (j := 0) HQ3.out
  have k1 := frozen_blk (j := 1) HQ3.out
  have k2 := frozen_blk (j := 2) HQ3.out
  have hszr := lt_blk HQ3.out
  clear e1 e2 e3 e4 e5 e6
  go_wp2
  obtain ⟨y1, y2, y3, y4, y5⟩ := HY.out
  exact do_fin HQ3.out (by omega) y5 (by omega) y1 y2 y3 (((Fr.refl _ _).below HB6.out).drew.trans (y4.wide (· = bm))) okO _ rfl rfl _ Hs.out

set_option maxRecDepth 20000 in
set_option maxHeartbeats 2000000 in
theorem do_5 (bm bM base : Nat) (W : World) (F : Nat → Prop) (rs : List Vl) (s : Ovs) (hm : Mach W bm bM 125 rs) (h : MRep bm bM base W F s) (hF : ¬ F bm) (hi : Inv rs s) (hlen : (M.objs s).length ≤ 1000) (hbase : base ≤ W.heap.size) (t f a n : Int) (hx : fieldE (M.objs s) (regAt rs f) a = 0) (hw : wrongD ⟨5, t, f, a, n⟩ = 0) :
    Calls Try.prog 50 #[.pointer (some ⟨bm, 0, none⟩), .agg #[.int .i64 5, .int .i64 t, .int .i64 f, .int .i64 a, .int .i64 n]] W (DoPost bm bM base W F (M.step (rs, s) ⟨5, t, f, a, n⟩)) := by
  obtain ⟨-, -, z1, z2, z3⟩ := wrongD_zero hw
  obtain ⟨t0, t8⟩ := z1 (by simp)
  obtain ⟨r, rfl⟩ := Int.eq_ofNat_of_zero_le t0
  have Hr : r < 8 := by simp at t8; omega
  obtain ⟨f0, f8⟩ := z2 (by simp) (by simp)
  obtain ⟨l, rfl⟩ := Int.eq_ofNat_of_zero_le f0
  have Hl : l < 8 := by simp at f8; omega
  have hll : l < rs.length := by rw [hm.len]; exact Hl
  have hvl : regAt rs (l : Int) = rs[l] := by simp [regAt, hll]
  have hok := hi.clo.regs _ (List.getElem_mem hll)
  obtain ⟨vb, vn, hv⟩ : ∃ vb vn, rs[l] = (⟨vb, vn⟩ : Vl) := ⟨_, _, rfl⟩
  rw [hv] at hok hvl
  have Hv : Hid (rs[l]? = some ⟨vb, vn⟩) := by show rs[l]? = _; rw [List.getElem?_eq_getElem hll, hv]
  rw [hvl] at hx
  have hfe := hx
  unfold fieldE at hfe
  have hrf : vb = true := by
    cases hq : vb
    · rw [hq] at hfe; simp at hfe
    · rfl
  subst hrf
  rw [if_neg (by simp)] at hfe
  obtain ⟨hn0, hat⟩ := hok rfl
  obtain ⟨i, rfl⟩ := Int.eq_ofNat_of_zero_le hn0
  obtain ⟨fs, hfs⟩ := isAt_iff.1 hat
  obtain ⟨ov, LL, cs, tt, hO, hob, hbM, h00⟩ := objs h
  obtain ⟨o, hLi, ho⟩ := obs_some hob (show (M.objs s)[i]? = some (some fs) by simpa using hfs)
  have hfa : fldsAt (M.objs s) (i : Int) = o.fs := by rw [ho]; exact fldsAt_of (by simpa using hfs)
  dsimp only at hfe
  rw [hfa] at hfe
  have ha : ¬ (a < 0 ∨ (o.fs.length : Int) ≤ a) := fun hh => by rw [if_pos hh] at hfe; cases hfe
  obtain ⟨k, rfl⟩ := Int.eq_ofNat_of_zero_le (show 0 ≤ a by omega)
  have hk : k < o.fs.length := by omega
  have hoi : (M.objs s)[i]? = some (some o.fs) := by rw [ho]; simpa using hfs
  obtain ⟨A, cap, rfl, -⟩ := hO.len
  obtain ⟨gb, gn, hgv⟩ : ∃ gb gn, o.fs[k] = (⟨gb, gn⟩ : Vl) := ⟨_, _, rfl⟩
  have hokg := hi.clo.objs i o.fs hoi _ (List.getElem_mem hk)
  rw [hgv] at hokg
  have hga : fldAt (M.objs s) (i : Int) (k : Int) = ⟨gb, gn⟩ := by unfold fldAt; rw [hfa, ← hgv]; simp [hk]
  have hs : M.step (rs, s) ⟨5, (r : Int), (l : Int), (k : Int), n⟩ = (okO, M.set (rs, s) (r : Int) ⟨gb, gn⟩) := by unfold PMem.step PMem.go; rw [if_neg (by simpa using hw)]; rw [if_neg (by simp)]; rw [if_neg (by simp)]; rw [if_neg (by simp)]; rw [if_neg (by simp)]; rw [if_pos rfl]; dsimp only; rw [hvl, hx, if_neg (by simp)]; dsimp only; rw [hga]
  have Hs := Lib.hid hs
  have Hx2 := Lib.hid hx
  have Hok := Lib.hid hok
  have Hokg := Lib.hid hokg
  have Hgv := Lib.hid hgv
  have HO := Lib.hid hO
  have HLi := Lib.hid hLi
  have HbM := Lib.hid (And.intro hbM h00)
  have ll8 : (l : Int) < 8 := by omega
  have Hkk := Lib.hid hk
  have m1 := nilGet
  have m2 := methGet bM A LL.length cap
  clear hs z1 z2 z3 hx t0 t8 f0 f8 hvl hv hll hfe hn0 hat hfs hO hob hbM h00 hLi ho hfa ha hoi hok hokg hga
  have hc := hi.clo
  have HX := Lib.hid (And.intro hm (And.intro h (And.intro hF hi)))
  have Hlen := Lib.hid hlen
  have Hbase := Lib.hid hbase
  have Hc := Lib.hid hc
  have Hx := Lib.hid hw
  clear hw hm h hF hi hlen hc hbase
  go_enter Try.func50, Try.ntmps50
  go_wp2_with (first
    | (go_at_call 87; refine (wrong_any _ _ _ _ _ _).mono ?_; rintro e w2 ⟨rfl, hB⟩; rw [Hx.out]
       have HB := Lib.hid ((((Below.refl W.heap.size W).alloc (Nat.le_refl _) (.cells #[.int .i64 5, .int .i64 (r : Int), .int .i64 (l : Int), .int .i64 (k : Int), .int .i64 n] 88)).alloc (by simp) (.cells #[.int .i64 0, .bool false, .int .i64 0] 37)).trans (hB.mono (by simp; omega)))
       have HQ := Lib.hid (blk_below hB (at_new _ _ (W.heap.size + 1) (by simp)))
       have q := blk_below hB (blk_alloc (heap_alloc_new W (.cells #[.int .i64 5, .int .i64 (r : Int), .int .i64 (l : Int), .int .i64 (k : Int), .int .i64 n] 88)))
       have q0 := cell_blk (j := 0) q rfl
       have q1 := cell_blk (j := 1) q rfl
       have q2 := cell_blk (j := 2) q rfl
       have q3 := cell_blk (j := 3) q rfl
       have q4 := cell_blk (j := 4) q rfl
       have HK := Lib.hid q
       have hsz := lt_blk HQ.out
       have hltF : Hid (∀ b, F b → b < W.heap.size) := fun b hb => lt HX.out.2.1 hb
       have hbm := lt_blk HX.out.1.blk
       have HM := Lib.hid (HX.out.1.below HB.out)
       have HR := Lib.hid (same HX.out.2.1 fun b hb => HB.out.block b (hltF.out b hb))
       clear hB q))
  obtain ⟨c1, c2⟩ := HM.out.get Hv.out
  have n1 := World.new_ne _ _ q2
  have n2 := World.new_ne _ _ c1
  go_region_held3 (fun w' => w'.cell? ⟨W.heap.size, 2, none⟩ = some (.int .i64 (l : Int)) ∧ w'.cell? ⟨bm, l * 2, none⟩ = some (.bool true) ∧ w'.cell? ⟨bm, l * 2 + 1, none⟩ = some (.int .i64 (i : Int))) (go_keep) (fail)
  have HB5 := Lib.hid ((HB.out.alloc HB.out.size (.cells #[.bool true, .int .i64 (i : Int)] 99)).drew)
  have HQ5 := Lib.hid (blk_drew (blk_alloc (x := .cells #[.bool true, .int .i64 (i : Int)] 99) HQ.out))
  have HK5 := Lib.hid (blk_drew (blk_alloc (x := .cells #[.bool true, .int .i64 (i : Int)] 99) HK.out))
  generalize hW2 : (w2.alloc (.cells #[.bool true, .int .i64 (i : Int)] 99)).drew = w5 at *
  have Hv5 := Lib.hid (show w5.heap[w2.heap.size]? = some (.cells #[.bool true, .int .i64 (i : Int)] 99 (0, 0)) by rw [← hW2]; exact heap_alloc_new _ _)
  have v0 := cell_blk (j := 0) Hv5.out rfl
  have v1 := cell_blk (j := 1) Hv5.out rfl
  have hs5 := lt_blk Hv5.out
  have hs25 : w2.heap.size < w5.heap.size := hs5
  have u1 := cell_blk (j := 1) HK5.out rfl
  have u2 := cell_blk (j := 2) HK5.out rfl
  have u3 := cell_blk (j := 3) HK5.out rfl
  have HM5 := Lib.hid (HX.out.1.below HB5.out)
  have HR5 := Lib.hid (same HX.out.2.1 fun b hb => HB5.out.block b (hltF.out b hb))
  clear hW2 n1 n2 c1 c2 q0 q1 q2 q3 q4
  go_wp2_with (first
    | (go_at_call 89; refine (field_any bm bM base _ F rs s HM5.out HR5.out true (i : Int) Hok.out (k : Int)).mono ?_; rintro e w6 ⟨rfl, hB6⟩; rw [Hx2.out]
       have HB6 := Lib.hid (HB5.out.trans (hB6.mono HB5.out.size))
       have HQ6 := Lib.hid (blk_below hB6 HQ5.out)
       have HK6 := Lib.hid (blk_below hB6 HK5.out)
       have Hv6 := Lib.hid (blk_below hB6 Hv5.out)
       clear hB6))
  have HM6 := Lib.hid (HX.out.1.below HB6.out)
  have cM := cell_blk (j := 0) (blk_below HB6.out HbM.out.1) HbM.out.2
  have c9 := HM6.out.mem
  have p1 := cell_blk (j := 1) Hv6.out rfl
  have p2 := cell_blk (j := 1) HK6.out rfl
  have p3 := cell_blk (j := 3) HK6.out rfl
  clear v0 v1 u1 u2 u3
  have hsw := HB6.out.size
  go_region_held3 (fun w' => w'.cell? ⟨bm, 16, none⟩ = some (.iface 125 (.pointer (some ⟨bM, 0, none⟩))) ∧ w'.cell? ⟨w2.heap.size, 1, none⟩ = some (.int .i64 (i : Int)) ∧ w'.cell? ⟨W.heap.size, 3, none⟩ = some (.int .i64 (k : Int)) ∧ w'.cell? ⟨W.heap.size, 1, none⟩ = some (.int .i64 (r : Int))) (first | go_keep | exact ⟨e1, e2, e3, e4⟩ | exact ⟨d1, d2, d3, d4⟩)
    (first
    | (go_at_call 198; refine (oget_any _ base _ LL ((HO.out.below HB6.out).drew) i o HLi.out k Hkk.out).mono ?_; rintro e w7 ⟨rfl, hB7⟩; rw [Hgv.out]
       have HB7 := Lib.hid (HB6.out.drew.trans (hB7.mono HB6.out.size))
       have d1 := (HM6.out.drew.below hB7).mem
       have HQ7 := Lib.hid (blk_below hB7 (blk_drew HQ6.out))
       have HK7 := Lib.hid (blk_below hB7 (blk_drew HK6.out))
       have Hv7 := Lib.hid (blk_below hB7 (blk_drew Hv6.out))
       have d2 := cell_blk (j := 1) Hv7.out rfl
       have d3 := cell_blk (j := 3) HK7.out rfl
       have d4 := cell_blk (j := 1) HK7.out rfl
       have hs7 := lt_blk Hv7.out
       have HM7 := Lib.hid (HX.out.1.below HB7.out)
       have HR7 := Lib.hid (same HX.out.2.1 fun b hb => HB7.out.block b (hltF.out b hb))
       clear hB7)
    | (go_at_call 88; refine (set_any bm bM base _ F rs s HM7.out HR7.out HX.out.2.2.1 HX.out.2.2.2 r Hr gb gn Hokg.out).mono ?_; rintro e w3 ⟨rfl, F', hm3, hr3, hf3, hfr3⟩
       have hn0 : ¬ (F W.heap.size ∨ W.heap.size = bm) := by
         rintro (hf | hf)
         · have := hltF.out _ hf; omega
         · omega
       have hn1 : ¬ (F (W.heap.size + 1) ∨ W.heap.size + 1 = bm) := by
         rintro (hf | hf)
         · have := hltF.out _ hf; omega
         · omega
       have hn2 : ¬ (F w2.heap.size ∨ w2.heap.size = bm) := by
         rintro (hf | hf)
         · have := hltF.out _ hf; omega
         · omega
       have e1 := hm3.mem
       have e2 := cell_blk (j := 1) (hfr3.blk Hv7.out hn2) rfl
       have e3 := cell_blk (j := 3) (hfr3.blk HK7.out hn0) rfl
       have e4 := cell_blk (j := 1) (hfr3.blk HK7.out hn0) rfl
       have HQ3 := Lib.hid (hfr3.blk HQ7.out hn1)
       have HY := Lib.hid (And.intro hm3 (And.intro hr3 (And.intro hf3 (And.intro hfr3 (hfr3.out HQ7.out hn1)))))
       clear hm3 hr3 hf3 hfr3))
  have g0 := cell_blk (j := 0) HQ3.out rfl
  have g1 := cell_blk (j := 1) HQ3.out rfl
  have g2 := cell_blk (j := 2) HQ3.out rfl
  have k0 := frozen_blk (j := 0) HQ3.out
  have k1 := frozen_blk (j := 1) HQ3.out
  have k2 := frozen_blk (j := 2) HQ3.out
  have hszr := lt_blk HQ3.out
  clear e1 e2 e3 e4 d1 d2 d3 d4
  go_wp2
  obtain ⟨y1, y2, y3, y4, y5⟩ := HY.out
  exact do_fin HQ3.out (by omega) (fun hf => y5 (.inl hf)) (by omega) y1 y2 y3 (((Fr.refl _ _).below HB7.out).trans y4) okO _ rfl rfl _ Hs.out

set_option maxRecDepth 20000 in
set_option maxHeartbeats 2000000 in
theorem do_1 (bm bM base : Nat) (W : World) (F : Nat → Prop) (rs : List Vl) (s : Ovs) (hm : Mach W bm bM 125 rs) (h : MRep bm bM base W F s) (hF : ¬ F bm) (hi : Inv rs s) (hlen : (M.objs s).length ≤ 1000) (hbase : base ≤ W.heap.size) (t f a n : Int) (er : Int) (s1 : Ovs) (hne : ∀ m : Nat, (m : Int) = n → M.new rs s m = (er, s1)) (her : er = 0) (hw : wrongD ⟨1, t, f, a, n⟩ = 0) :
    Calls Try.prog 50 #[.pointer (some ⟨bm, 0, none⟩), .agg #[.int .i64 1, .int .i64 t, .int .i64 f, .int .i64 a, .int .i64 n]] W (DoPost bm bM base W F (M.step (rs, s) ⟨1, t, f, a, n⟩)) := by
  obtain ⟨-, -, z1, z2, z3⟩ := wrongD_zero hw
  obtain ⟨t0, t8⟩ := z1 (by simp)
  obtain ⟨r, rfl⟩ := Int.eq_ofNat_of_zero_le t0
  have Hr : r < 8 := by simp at t8; omega
  obtain ⟨n0, n4⟩ := z3 rfl
  obtain ⟨nn, rfl⟩ := Int.eq_ofNat_of_zero_le n0
  have hn4 : nn ≤ 4 := by simp at n4; omega
  have hnw := hne nn rfl
  have hs : M.step (rs, s) ⟨1, (r : Int), f, a, (nn : Int)⟩ = (okO, M.set (rs, s1) (r : Int) ⟨true, (M.objs s).length⟩) := by
    unfold PMem.step PMem.go
    rw [if_neg (by simpa using hw), if_pos rfl]
    dsimp only
    rw [Int.toNat_natCast, hnw]
    dsimp only
    rw [if_neg (by simp [her])]
  have Hs := Lib.hid hs
  have Hn4 := Lib.hid hn4
  have Hne := Lib.hid hnw
  obtain ⟨hi1, hat⟩ := new_ok hi nn hn4 (by rw [hnw]; exact her)
  rw [hnw] at hi1 hat
  have Hi1 := Lib.hid hi1
  have Hok1 : Hid (okR (M.objs s1) ⟨true, ((M.objs s).length : Int)⟩) := fun _ => ⟨by simp, by simpa using hat⟩
  subst her
  clear hi1 hat
  have rr8 : (r : Int) < 8 := by omega
  have m1 := nilNew
  have m2 := methNew
  clear hs hne hnw hn4 n0 n4 z1 z2 z3 t0 t8
  have hc := hi.clo
  have HX := Lib.hid (And.intro hm (And.intro h (And.intro hF hi)))
  have Hlen := Lib.hid hlen
  have Hbase := Lib.hid hbase
  have Hc := Lib.hid hc
  have Hx := Lib.hid hw
  clear hw hm h hF hi hlen hc hbase
  go_enter Try.func50, Try.ntmps50
  go_wp2_with (first
    | (go_at_call 87; refine (wrong_any _ _ _ _ _ _).mono ?_; rintro e w2 ⟨rfl, hB⟩; rw [Hx.out]
       have HB := Lib.hid ((((Below.refl W.heap.size W).alloc (Nat.le_refl _) (.cells #[.int .i64 1, .int .i64 (r : Int), .int .i64 f, .int .i64 a, .int .i64 (nn : Int)] 88)).alloc (by simp) (.cells #[.int .i64 0, .bool false, .int .i64 0] 37)).trans (hB.mono (by simp; omega)))
       have HQ := Lib.hid (blk_below hB (at_new _ _ (W.heap.size + 1) (by simp)))
       have q := blk_below hB (blk_alloc (heap_alloc_new W (.cells #[.int .i64 1, .int .i64 (r : Int), .int .i64 f, .int .i64 a, .int .i64 (nn : Int)] 88)))
       have q0 := cell_blk (j := 0) q rfl
       have q1 := cell_blk (j := 1) q rfl
       have q2 := cell_blk (j := 2) q rfl
       have q3 := cell_blk (j := 3) q rfl
       have q4 := cell_blk (j := 4) q rfl
       have HK := Lib.hid q
       have hsz := lt_blk HQ.out
       have hltF : Hid (∀ b, F b → b < W.heap.size) := fun b hb => lt HX.out.2.1 hb
       have hbm := lt_blk HX.out.1.blk
       have HM := Lib.hid (HX.out.1.below HB.out)
       have HR := Lib.hid (same HX.out.2.1 fun b hb => HB.out.block b (hltF.out b hb))
       clear hB q))
  have c9 := HM.out.mem
  have m3 := nilNew
  go_region_held3 (fun w' => w'.cell? ⟨bm, 16, none⟩ = some (.iface 125 (.pointer (some ⟨bM, 0, none⟩))) ∧ w'.cell? ⟨W.heap.size, 4, none⟩ = some (.int .i64 (nn : Int))) (first | go_keep | exact ⟨e1, e2⟩)
    (first
    | (go_at_call 204; refine (new_any bm bM base _ F rs s HM.out.drew (drew HR.out) HX.out.2.2.1 HX.out.2.2.2 (Nat.le_trans Hbase.out HB.out.size) Hlen.out nn Hn4.out).mono ?_; rintro e w4 ⟨rfl, F1, hr4, hf4⟩; rw [Hne.out] at hr4 ⊢; dsimp only at hr4
       have hn0 : ¬ F W.heap.size := fun hf => by have := hltF.out _ hf; omega
       have hn1 : ¬ F (W.heap.size + 1) := fun hf => by have := hltF.out _ hf; omega
       have hm4 := HM.out.drew.fr hf4 HX.out.2.2.1
       have e1 := hm4.mem
       have HK4 := Lib.hid (hf4.blk (blk_drew HK.out) hn0)
       have HQ4 := Lib.hid (hf4.blk (blk_drew HQ.out) hn1)
       have e2 := cell_blk (j := 4) HK4.out rfl
       have e3 := cell_blk (j := 1) HK4.out rfl
       have hs4 := lt_blk HQ4.out
       have HY4 := Lib.hid (And.intro hm4 (And.intro hr4 (And.intro (hf4.keep bm (lt_blk HM.out.drew.blk) HX.out.2.2.1).1 (And.intro hf4 (And.intro (hf4.out (blk_drew HQ.out) hn1) (hf4.out (blk_drew HK.out) hn0))))))
       clear hm4 hr4 hf4))
  clear q0 q1 q2 q3 q4 e1 e2 c9
  go_wp2_with (first
    | (go_at_call 88; refine (set_any bm bM base _ F1 rs s1 HY4.out.1 HY4.out.2.1 HY4.out.2.2.1 Hi1.out r Hr true _ Hok1.out).mono ?_; rintro e w3 ⟨rfl, F', hm3, hr3, hf3, hfr3⟩
       have hn1 : ¬ (F1 (W.heap.size + 1) ∨ W.heap.size + 1 = bm) := by
         rintro (hf | hf)
         · exact HY4.out.2.2.2.2.1 hf
         · omega
       have HQ3 := Lib.hid (hfr3.blk HQ4.out hn1)
       have HY := Lib.hid (And.intro hm3 (And.intro hr3 (And.intro hf3 (And.intro hfr3 (hfr3.out HQ4.out hn1)))))
       have g0 := cell_blk (j := 0) HQ3.out rfl
       have g1 := cell_blk (j := 1) HQ3.out rfl
       have g2 := cell_blk (j := 2) HQ3.out rfl
       have k0 := frozen_blk (j := 0) HQ3.out
       have k1 := frozen_blk (j := 1) HQ3.out
       have k2 := frozen_blk (j := 2) HQ3.out
       have hszr := lt_blk HQ3.out
       clear hm3 hr3 hf3 hfr3))
  obtain ⟨y1, y2, y3, y4, y5⟩ := HY.out
  exact do_fin HQ3.out (by omega) (fun hf => y5 (.inl hf)) (by omega) y1 y2 y3 ((((Fr.refl _ _).below HB.out).drew.trans (HY4.out.2.2.2.1.wide (· = bm))).trans y4) okO _ rfl rfl _ Hs.out

set_option maxRecDepth 20000 in
set_option maxHeartbeats 2000000 in
theorem do_1e (bm bM base : Nat) (W : World) (F : Nat → Prop) (rs : List Vl) (s : Ovs) (hm : Mach W bm bM 125 rs) (h : MRep bm bM base W F s) (hF : ¬ F bm) (hi : Inv rs s) (hlen : (M.objs s).length ≤ 1000) (hbase : base ≤ W.heap.size) (t f a n : Int) (er : Int) (s1 : Ovs) (hne : ∀ m : Nat, (m : Int) = n → M.new rs s m = (er, s1)) (her : er ≠ 0) (hw : wrongD ⟨1, t, f, a, n⟩ = 0) :
    Calls Try.prog 50 #[.pointer (some ⟨bm, 0, none⟩), .agg #[.int .i64 1, .int .i64 t, .int .i64 f, .int .i64 a, .int .i64 n]] W (DoPost bm bM base W F (M.step (rs, s) ⟨1, t, f, a, n⟩)) := by
  obtain ⟨-, -, z1, z2, z3⟩ := wrongD_zero hw
  obtain ⟨t0, t8⟩ := z1 (by simp)
  obtain ⟨r, rfl⟩ := Int.eq_ofNat_of_zero_le t0
  have Hr : r < 8 := by simp at t8; omega
  obtain ⟨n0, n4⟩ := z3 rfl
  obtain ⟨nn, rfl⟩ := Int.eq_ofNat_of_zero_le n0
  have hn4 : nn ≤ 4 := by simp at n4; omega
  have hnw := hne nn rfl
  have hs : M.step (rs, s) ⟨1, (r : Int), f, a, (nn : Int)⟩ = (⟨er, false, 0⟩, (rs, s1)) := by
    unfold PMem.step PMem.go
    rw [if_neg (by simpa using hw), if_pos rfl]
    dsimp only
    rw [Int.toNat_natCast, hnw]
    dsimp only
    rw [if_pos her]
  have Hs := Lib.hid hs
  have Hn4 := Lib.hid hn4
  have Hne := Lib.hid hnw
  have b1 : (er != 0) = true := by simpa using her
  have her' : ¬ er = 0 := her
  clear her
  have rr8 : (r : Int) < 8 := by omega
  have m1 := nilNew
  have m2 := methNew
  clear hs hne hnw hn4 n0 n4 z1 z2 z3 t0 t8
  have hc := hi.clo
  have HX := Lib.hid (And.intro hm (And.intro h (And.intro hF hi)))
  have Hlen := Lib.hid hlen
  have Hbase := Lib.hid hbase
  have Hc := Lib.hid hc
  have Hx := Lib.hid hw
  clear hw hm h hF hi hlen hc hbase
  go_enter Try.func50, Try.ntmps50
  go_wp2_with (first
    | (go_at_call 87; refine (wrong_any _ _ _ _ _ _).mono ?_; rintro e w2 ⟨rfl, hB⟩; rw [Hx.out]
       have HB := Lib.hid ((((Below.refl W.heap.size W).alloc (Nat.le_refl _) (.cells #[.int .i64 1, .int .i64 (r : Int), .int .i64 f, .int .i64 a, .int .i64 (nn : Int)] 88)).alloc (by simp) (.cells #[.int .i64 0, .bool false, .int .i64 0] 37)).trans (hB.mono (by simp; omega)))
       have HQ := Lib.hid (blk_below hB (at_new _ _ (W.heap.size + 1) (by simp)))
       have q := blk_below hB (blk_alloc (heap_alloc_new W (.cells #[.int .i64 1, .int .i64 (r : Int), .int .i64 f, .int .i64 a, .int .i64 (nn : Int)] 88)))
       have q0 := cell_blk (j := 0) q rfl
       have q1 := cell_blk (j := 1) q rfl
       have q2 := cell_blk (j := 2) q rfl
       have q3 := cell_blk (j := 3) q rfl
       have q4 := cell_blk (j := 4) q rfl
       have HK := Lib.hid q
       have hsz := lt_blk HQ.out
       have hltF : Hid (∀ b, F b → b < W.heap.size) := fun b hb => lt HX.out.2.1 hb
       have hbm := lt_blk HX.out.1.blk
       have HM := Lib.hid (HX.out.1.below HB.out)
       have HR := Lib.hid (same HX.out.2.1 fun b hb => HB.out.block b (hltF.out b hb))
       clear hB q))
  have c9 := HM.out.mem
  have m3 := nilNew
  go_region_held3 (fun w' => w'.cell? ⟨bm, 16, none⟩ = some (.iface 125 (.pointer (some ⟨bM, 0, none⟩))) ∧ w'.cell? ⟨W.heap.size, 4, none⟩ = some (.int .i64 (nn : Int))) (first | go_keep | exact ⟨e1, e2⟩)
    (first
    | (go_at_call 204; refine (new_any bm bM base _ F rs s HM.out.drew (drew HR.out) HX.out.2.2.1 HX.out.2.2.2 (Nat.le_trans Hbase.out HB.out.size) Hlen.out nn Hn4.out).mono ?_; rintro e w4 ⟨rfl, F1, hr4, hf4⟩; rw [Hne.out] at hr4 ⊢; dsimp only at hr4
       have hn0 : ¬ F W.heap.size := fun hf => by have := hltF.out _ hf; omega
       have hn1 : ¬ F (W.heap.size + 1) := fun hf => by have := hltF.out _ hf; omega
       have hm4 := HM.out.drew.fr hf4 HX.out.2.2.1
       have e1 := hm4.mem
       have HK4 := Lib.hid (hf4.blk (blk_drew HK.out) hn0)
       have HQ4 := Lib.hid (hf4.blk (blk_drew HQ.out) hn1)
       have e2 := cell_blk (j := 4) HK4.out rfl
       have e3 := cell_blk (j := 1) HK4.out rfl
       have hs4 := lt_blk HQ4.out
       have HY4 := Lib.hid (And.intro hm4 (And.intro hr4 (And.intro (hf4.keep bm (lt_blk HM.out.drew.blk) HX.out.2.2.1).1 (And.intro hf4 (And.intro (hf4.out (blk_drew HQ.out) hn1) (hf4.out (blk_drew HK.out) hn0))))))
       clear hm4 hr4 hf4))
  have g0 := cell_blk (j := 0) HQ4.out rfl
  have g1 := cell_blk (j := 1) HQ4.out rfl
  have g2 := cell_blk (j := 2) HQ4.out rfl
  have k0 := frozen_blk (j := 0) HQ4.out
  have k1 := frozen_blk (j := 1) HQ4.out
  have k2 := frozen_blk (j := 2) HQ4.out
  have hszr := lt_blk HQ4.out
  clear q0 q1 q2 q3 q4 e1 e2 e3 c9
  go_wp2
  obtain ⟨y1, y2, y3, y4, y5, y6⟩ := HY4.out
  exact do_fin HQ4.out (by omega) y5 (by omega) y1 y2 y3 (((Fr.refl _ _).below HB.out).drew.trans (y4.wide (· = bm))) ⟨er, false, 0⟩ _ rfl rfl _ Hs.out


/-- heap.Machine's Do -/
theorem do_any (bm bM base : Nat) (W : World) (F : Nat → Prop) (rs : List Vl) (s : Ovs) (hm : Mach W bm bM 125 rs) (h : MRep bm bM base W F s) (hF : ¬ F bm) (hi : Inv rs s) (hlen : (M.objs s).length ≤ 1000) (hbase : base ≤ W.heap.size) (k t f a n : Int) :
    Calls Try.prog 50 #[.pointer (some ⟨bm, 0, none⟩), .agg #[.int .i64 k, .int .i64 t, .int .i64 f, .int .i64 a, .int .i64 n]] W (DoPost bm bM base W F (M.step (rs, s) ⟨k, t, f, a, n⟩)) := by
  by_cases hw : wrongD ⟨k, t, f, a, n⟩ = 0
  · have h1 := (wrongD_zero hw).1
    have h7 := (wrongD_zero hw).2.1
    dsimp only at h1 h7
    have hk : k = 1 ∨ k = 2 ∨ k = 3 ∨ k = 4 ∨ k = 5 ∨ k = 6 ∨ k = 7 := by omega
    rcases hk with rfl | rfl | rfl | rfl | rfl | rfl | rfl
    · by_cases her : (M.new rs s n.toNat).1 = 0
      · exact do_1 bm bM base W F rs s hm h hF hi hlen hbase t f a n (M.new rs s n.toNat).1 (M.new rs s n.toNat).2 (fun m hm' => by rw [← hm', Int.toNat_natCast]) her hw
      · exact do_1e bm bM base W F rs s hm h hF hi hlen hbase t f a n (M.new rs s n.toNat).1 (M.new rs s n.toNat).2 (fun m hm' => by rw [← hm', Int.toNat_natCast]) her hw
    · exact do_2 bm bM base W F rs s hm h hF hi hlen hbase t f a n hw
    · exact do_3 bm bM base W F rs s hm h hF hi hlen hbase t f a n hw
    · by_cases hx : fieldE (M.objs s) (regAt rs t) a = 0
      · exact do_4 bm bM base W F rs s hm h hF hi hlen hbase t f a n hx hw
      · exact do_4e bm bM base W F rs s hm h hF hi hlen hbase t f a n _ rfl hx hw
    · by_cases hx : fieldE (M.objs s) (regAt rs f) a = 0
      · exact do_5 bm bM base W F rs s hm h hF hi hlen hbase t f a n hx hw
      · exact do_5e bm bM base W F rs s hm h hF hi hlen hbase t f a n _ rfl hx hw
    · by_cases he : regAt rs t = regAt rs f
      · exact do_6eq bm bM base W F rs s hm h hF hi hlen hbase t f a n he hw
      · exact do_6ne bm bM base W F rs s hm h hF hi hlen hbase t f a n he hw
    · cases he : (regAt rs f).ref
      · exact do_7n bm bM base W F rs s hm h hF hi hlen hbase t f a n he hw
      · exact do_7r bm bM base W F rs s hm h hF hi hlen hbase t f a n he hw
  · exact do_wrong bm bM base W F rs s hm h hF hi hlen hbase k t f a n hw

end Ie
end Go.Proofs.Yteghhajfkdbcdaa
