/- heap.Objects: Len, Get, Put, New. -/
import Derived.Test.YteghhajfkdbcdaaFrm
import Derived.StillTailTactics
namespace Go.Proofs.Yteghhajfkdbcdaa
open Go.RowKit
set_option linter.unusedVariables false
set_option linter.unusedSimpArgs false

set_option maxRecDepth 20000 in
set_option maxHeartbeats 1000000 in
/-- Len: of an object that is there. -/
theorem olen_any (W : World) (base : Nat) (ov : Value) (L : List (Option Ob)) (h : HObj W base ov L) (i : Nat) (o : Ob) (hi : L[i]? = some (some o)) :
    Calls Try.prog 200 #[ov, .int .i64 i] W fun e w' => e = .returned (.int .i64 o.fs.length) ∧ w' = W := by
  obtain ⟨g, cap, cur, rfl, hl, hm, hb, hc⟩ := h.cell hi
  obtain ⟨h1, _, h3⟩ := h.box i o hi
  have hc1 := cell_blk (j := 0) h1 rfl
  obtain ⟨A, c, e, hx, hy⟩ := h3.len
  have hlt := (List.getElem?_eq_some_iff.1 hi).1
  simp only [Ob.ptr] at hc
  rw [e] at hc1
  clear h h1 h3 hi hb e
  go_enter Try.func200, Try.ntmps200
  go_wp2
  go_ret
  exact ⟨rfl, rfl⟩

set_option maxRecDepth 20000 in
set_option maxHeartbeats 1000000 in
/-- Get: a field of it. -/
theorem oget_any (W : World) (base : Nat) (ov : Value) (L : List (Option Ob)) (h : HObj W base ov L) (i : Nat) (o : Ob) (hi : L[i]? = some (some o)) (k : Nat) (hk : k < o.fs.length) :
    Calls Try.prog 198 #[ov, .int .i64 i, .int .i64 k] W fun e w' => e = .returned (.agg #[.bool o.fs[k].ref, .int .i64 o.fs[k].n]) ∧ Below W.heap.size W w' := by
  obtain ⟨g, cap, cur, rfl, hl, hm, hb, hc⟩ := h.cell hi
  obtain ⟨h1, _, h3⟩ := h.box i o hi
  have hc1 := cell_blk (j := 0) h1 rfl
  obtain ⟨g2, cap2, cur2, e, hx, hy, _, hb2, _, hd1, hd2⟩ := h3.cell hk
  have hlt := (List.getElem?_eq_some_iff.1 hi).1
  simp only [Ob.ptr] at hc
  rw [e] at hc1
  have hs1 := lt_blk hb
  have hs2 := lt_blk h1
  have hs3 := lt_blk hb2
  clear h h1 h3 hi hb e hb2
  go_enter Try.func198, Try.ntmps198
  go_wp2
  refine bodyPost_ret (v := .agg #[.bool o.fs[k].ref, .int .i64 o.fs[k].n]) (by simp [results, Try.results198, go_sem]) rfl ⟨rfl, ?_⟩
  exact (Below.refl _ _).alloc (Nat.le_refl _) _

set_option maxRecDepth 20000 in
set_option maxHeartbeats 1000000 in
/-- Put: into a field of it. -/
theorem oput_any (W : World) (base : Nat) (ov : Value) (L : List (Option Ob)) (h : HObj W base ov L) (i : Nat) (o : Ob) (hi : L[i]? = some (some o)) (k : Nat) (hk : k < o.fs.length) (r : Bool) (n : Int) :
    Calls Try.prog 202 #[ov, .int .i64 i, .int .i64 k, .agg #[.bool r, .int .i64 n]] W fun e w' => e = .returned (.tuple #[]) ∧ HObj w' base ov (L.set i (some { o with fs := o.fs.set k ⟨r, n⟩ })) ∧ Fr (HF ov L) W (HF ov (L.set i (some { o with fs := o.fs.set k ⟨r, n⟩ }))) w' := by
  obtain ⟨g, cap, cur, rfl, hl, hm, hb, hc⟩ := h.cell hi
  obtain ⟨h1, _, h3⟩ := h.box i o hi
  have hc1 := cell_blk (j := 0) h1 rfl
  obtain ⟨g2, cap2, cur2, e, hx, hy, _, hb2, _, hd1, hd2⟩ := h3.cell hk
  have hlt := (List.getElem?_eq_some_iff.1 hi).1
  simp only [Ob.ptr] at hc
  rw [e] at hc1
  have hs1 := lt_blk hb
  have hs2 := lt_blk h1
  have hs3 := lt_blk hb2
  have f1 := frozen_blk (j := k * 2) hb2
  have f2 := frozen_blk (j := k * 2 + 1) hb2
  have HH := Lib.hid h
  have Hi := Lib.hid hi
  have He := Lib.hid e
  clear h h1 h3 hi hb e hb2
  go_enter Try.func202, Try.ntmps202
  go_wp2
  go_region
  go_end0
  exact ⟨rfl, ((HH.out.put Hi.out hk He.out ⟨r, n⟩).alloc _).drew, (((((Fr.refl _ W).set (p := ⟨g2, k * 2, none⟩) (.inl (.inr ⟨i, o, Hi.out, .inr (by rw [He.out]; rfl)⟩)) _).set (p := ⟨g2, k * 2 + 1, none⟩) (.inl (.inr ⟨i, o, Hi.out, .inr (by rw [He.out]; rfl)⟩)) _).alloc _).drew).to fun b hb => .inl (hb.put Hi.out)⟩

theorem cell_alloc {w : World} {p : Addr} {v : Value} {o : Obj} (h : w.cell? p = some v) : (w.alloc o).cell? p = some v := later_below ((Below.refl _ w).alloc (Nat.le_refl _) _) _ _ h
theorem blk_alloc {w : World} {b : Nat} {o x : Obj} (h : w.heap[b]? = some o) : (w.alloc x).heap[b]? = some o := by rw [Below.heap_alloc _ _ _ (lt_blk h)]; exact h
theorem blk_drew {w : World} {b : Nat} {o : Obj} (h : w.heap[b]? = some o) : w.drew.heap[b]? = some o := h
theorem blk_set {w : World} {b : Nat} {o : Obj} {p : Addr} {v : Value} (h : w.heap[b]? = some o) (hp : b ≠ p.block) : (w.setCell p v).heap[b]? = some o := by rw [Below.heap_setCell _ _ _ _ hp]; exact h
/-- 'append(v, y)': y's cells lie in a block. -/
theorem run_app {W : World} (t e : TypeId) (size bytes : Nat) (z : Value)
    (ht : Try.prog.underlying t = some (.slice e)) (hinfo : (Try.prog.info? e).map (fun i => (i.zero, i.size, i.bytes)) = some (some z, size, bytes)) (hz : z.cells.size = size) (hsz : 0 < size) (hb0 : 0 < bytes)
    (base : Nat) (v : Value) (n : Nat) (xs : List Value) (ys : List Value) (hys : ys.length = size) (hy1 : ∀ u ∈ ys, u.oneCell' = true) (bx : Nat) (hblk : W.heap[bx]? = some (.cells ys.toArray e (0, 0)))
    (HO : W.ownsRow base e size v n xs) (hbase : base ≤ W.heap.size) (hl : (n + 1) * bytes ≤ 140737488355328) (ty : TypeId) :
    ∃ g cap w1, (Builtin.append_ #[t, t] ty #[v, .slice (some ⟨bx, 0, none⟩) 1 1]).run Try.prog W = .ok (.slice (some ⟨g, 0, none⟩) (n + 1) cap) w1 ∧ w1.ownsRow base e size (.slice (some ⟨g, 0, none⟩) (n + 1) cap) (n + 1) (xs ++ ys) ∧ W.grownBy w1 v.ownBlock ∧ (v.ownBlock = some g ∨ W.heap.size ≤ g) ∧ g < w1.heap.size := by
  obtain ⟨i0, hi, hz0, hz1, hz2⟩ := info_parts hinfo
  have hlen : n + 1 ≤ 140737488355328 := Nat.le_trans (Nat.le_mul_of_pos_right _ hb0) hl
  obtain ⟨g, cap, w1, hr, h2, h3, h4, h5⟩ := run_append_lies (P := Try.prog) W t ty base e i0 z size bytes ht hi hz0 hz1 hz2 hz hsz v n xs HO ⟨bx, 0, none⟩ 1 1 ys (by simpa using hys)
    (World.news_of_block (cs := ys.toArray) (t := e) (fr := (0, 0)) hblk) hy1 (by omega) (by simp only [maxLen]; omega) hl hbase _ rfl
  refine ⟨g, cap, w1, hr, h2, h3, ?_, h5⟩
  rcases h4 with h4 | h4
  · exact .inl h4
  · right; omega
/-- As a step of a region that draws its order. -/
theorem step_app {ops : Array Oper} {o : Oper} {a : Act} {K : Act → World → Prop} {Q : Exit → Act → World → Prop} {E : Prop} {W : World} (hgd : o.guard = none) (s x : Operand) (t e : TypeId) (size bytes : Nat) (z : Value)
    (ho : o.op = .call { callee := .builtin .append, args := #[s, x], argTypes := #[t, t] })
    (ht : Try.prog.underlying t = some (.slice e)) (hinfo : (Try.prog.info? e).map (fun i => (i.zero, i.size, i.bytes)) = some (some z, size, bytes)) (hz : z.cells.size = size) (hsz : 0 < size) (hb0 : 0 < bytes)
    (base : Nat) (v : Value) (n : Nat) (xs : List Value) (ys : List Value) (hys : ys.length = size) (hy1 : ∀ u ∈ ys, u.oneCell' = true) (bx : Nat) (hs : a.eval s = v) (hx : a.eval x = .slice (some ⟨bx, 0, none⟩) 1 1) (hblk : W.heap[bx]? = some (.cells ys.toArray e (0, 0)))
    (HO : W.ownsRow base e size v n xs) (hbase : base ≤ W.heap.size) (hl : (n + 1) * bytes ≤ 140737488355328)
    (h : ∀ g cap w1, w1.ownsRow base e size (.slice (some ⟨g, 0, none⟩) (n + 1) cap) (n + 1) (xs ++ ys) → W.grownBy w1 v.ownBlock → (v.ownBlock = some g ∨ W.heap.size ≤ g) → g < w1.heap.size → K (a.put o.dst (.slice (some ⟨g, 0, none⟩) (n + 1) cap)) w1) :
    if Region.wanted o (yielded ops a.tmps) = true then Oper.wp Try.prog o a W K Q else E := by
  have hw : Region.wanted o (yielded ops a.tmps) = true := by simp [Region.wanted, hgd]
  rw [if_pos hw]
  obtain ⟨g, cap, w1, hr, h2, h3, h4, h5⟩ := run_app t e size bytes z ht hinfo hz hsz hb0 base v n xs ys hys hy1 bx hblk HO hbase hl o.type
  unfold Oper.wp execOp
  simp only [ho, resolve, invoke, builtin, Sem.run_bind, Sem.run_pure, Result.andThen_ok, List.map_toArray, List.map_cons, List.map_nil, hs, hx, hr]
  exact h g cap w1 h2 h3 h4 h5
/-- In a plain region. -/
theorem list_app {ops : Array Oper} {rest : List Oper} {o : Oper} {a : Act} {Q : Exit → Act → World → Prop} {W : World} (hgd : o.guard = none) (s x : Operand) (t e : TypeId) (size bytes : Nat) (z : Value)
    (ho : o.op = .call { callee := .builtin .append, args := #[s, x], argTypes := #[t, t] })
    (ht : Try.prog.underlying t = some (.slice e)) (hinfo : (Try.prog.info? e).map (fun i => (i.zero, i.size, i.bytes)) = some (some z, size, bytes)) (hz : z.cells.size = size) (hsz : 0 < size) (hb0 : 0 < bytes)
    (base : Nat) (v : Value) (n : Nat) (xs : List Value) (ys : List Value) (hys : ys.length = size) (hy1 : ∀ u ∈ ys, u.oneCell' = true) (bx : Nat) (hs : a.eval s = v) (hx : a.eval x = .slice (some ⟨bx, 0, none⟩) 1 1) (hblk : W.heap[bx]? = some (.cells ys.toArray e (0, 0)))
    (HO : W.ownsRow base e size v n xs) (hbase : base ≤ W.heap.size) (hl : (n + 1) * bytes ≤ 140737488355328)
    (h : ∀ g cap w1, w1.ownsRow base e size (.slice (some ⟨g, 0, none⟩) (n + 1) cap) (n + 1) (xs ++ ys) → W.grownBy w1 v.ownBlock → (v.ownBlock = some g ∨ W.heap.size ≤ g) → g < w1.heap.size → wpList Try.prog ops Q rest (a.put o.dst (.slice (some ⟨g, 0, none⟩) (n + 1) cap)) w1) :
    wpList Try.prog ops Q (o :: rest) a W :=
  wpList_plain hgd fun K hK => by
    have := step_app (ops := ops) (E := True) (Q := Q) (K := K) hgd s x t e size bytes z ho ht hinfo hz hsz hb0 base v n xs ys hys hy1 bx hs hx hblk HO hbase hl fun g cap w1 h2 h3 h4 h5 => hK _ _ (h g cap w1 h2 h3 h4 h5)
    rwa [if_pos (by simp [Region.wanted, hgd])] at this

theorem Try.info123 : (Try.prog.info? 123).map (fun i => (i.zero, i.size, i.bytes)) = some (some (.pointer none), 1, 8) := by kernel_rfl
def zeroVs (n : Nat) : List Vl := List.replicate n ⟨false, 0⟩
theorem run_mkV (w : World) (n : Nat) (hn : n ≤ 4) : (Instr.makeSlice 25 (.int .i64 (n : Int)) (.int .i64 (n : Int))).run Try.prog w = .ok (.slice (some ⟨w.heap.size, 0, none⟩) n n) (w.alloc (.cells (flatV (zeroVs n)).toArray 99)) := by
  obtain ⟨i0, hi, hz0, hz1, hz2⟩ := info_parts Try.info99
  have := run_make (P := Try.prog) w 25 99 i0 _ Try.underlying25 hi hz0 .i64 .i64 (n : Int) (n : Int) (by omega) (by omega) (by rw [hz2]; omega) (by omega)
  rw [this, hz1]
  simp only [Int.toNat_natCast]
  have hn' : n = 0 ∨ n = 1 ∨ n = 2 ∨ n = 3 ∨ n = 4 := by omega
  have e : madeCells (Value.agg #[.bool false, .int .i64 0]).cells (n * 2) = (flatV (zeroVs n)).toArray := by
    rcases hn' with rfl | rfl | rfl | rfl | rfl <;> kernel_rfl
  rw [e]
theorem own_zero (w w' : World) (base n g : Nat) (hb : base ≤ g) (hn : n ≤ 4) (h : w'.heap[g]? = some (.cells (flatV (zeroVs n)).toArray 99 (0, 0))) : OwnV w' base (.slice (some ⟨g, 0, none⟩) n n) (zeroVs n) := by
  have e : (zeroVs n).length = n := by simp [zeroVs]
  have e2 : (flatV (zeroVs n)).length = n * 2 := by rw [flatV_length, e]
  refine ⟨flatV_length _, .inr ⟨g, n, _, by rw [e], hb, h, by omega, by unfold maxLen; omega, by simp [e2], ?_⟩⟩
  rw [e, ← e2]
  simp

/-- The footprint of objects and of one block beside them. -/
def HG (b : Nat) (ov : Value) (L : List (Option Ob)) (x : Nat) : Prop := x = b ∨ HF ov L x

theorem onew_end {W w1 : World} {base bM n : Nat} {ov : Value} {cs : Array Value} {t : TypeId} {L : List (Option Ob)} (h : HObj W base ov L) (hM : W.heap[bM]? = some (.cells cs t (0, 0))) (hM2 : ¬ HF ov L bM) (hbase : base ≤ W.heap.size) (hn : n ≤ 4) {g2 cap2 : Nat}
    (hown : w1.ownsRow base 123 1 (.slice (some ⟨g2, 0, none⟩) (L.length + 1) cap2) (L.length + 1) (L.map Ob.ptr ++ [.pointer (some ⟨W.heap.size + 1, 0, none⟩)]))
    (hg : (((W.alloc (.cells (flatV (zeroVs n)).toArray 99)).alloc (.cells #[.slice (some ⟨W.heap.size, 0, none⟩) n n] 48)).alloc (.cells #[.pointer (some ⟨W.heap.size + 1, 0, none⟩)] 123)).drew.grownBy w1 ov.ownBlock)
    (hgb : ov.ownBlock = some g2 ∨ W.heap.size ≤ g2) :
    (w1.setCell ⟨bM, 0, none⟩ (.slice (some ⟨g2, 0, none⟩) (L.length + 1) cap2)).heap[bM]? = some (.cells (cs.setIfInBounds 0 (.slice (some ⟨g2, 0, none⟩) (L.length + 1) cap2)) t (0, 0)) ∧
    HObj (w1.setCell ⟨bM, 0, none⟩ (.slice (some ⟨g2, 0, none⟩) (L.length + 1) cap2)) base (.slice (some ⟨g2, 0, none⟩) (L.length + 1) cap2) (L ++ [some ⟨W.heap.size + 1, .slice (some ⟨W.heap.size, 0, none⟩) n n, zeroVs n⟩]) ∧
    ¬ HF (.slice (some ⟨g2, 0, none⟩) (L.length + 1) cap2) (L ++ [some ⟨W.heap.size + 1, .slice (some ⟨W.heap.size, 0, none⟩) n n, zeroVs n⟩]) bM ∧
    Fr (HG bM ov L) W (HG bM (.slice (some ⟨g2, 0, none⟩) (L.length + 1) cap2) (L ++ [some ⟨W.heap.size + 1, .slice (some ⟨W.heap.size, 0, none⟩) n n, zeroVs n⟩])) (w1.setCell ⟨bM, 0, none⟩ (.slice (some ⟨g2, 0, none⟩) (L.length + 1) cap2)) := by
  have hlt := lt_blk hM
  have hW : HObj (((W.alloc (.cells (flatV (zeroVs n)).toArray 99)).alloc (.cells #[.slice (some ⟨W.heap.size, 0, none⟩) n n] 48)).alloc (.cells #[.pointer (some ⟨W.heap.size + 1, 0, none⟩)] 123)).drew base ov L := (((h.alloc _).alloc _).alloc _).drew
  have hM3 := blk_grown hg (blk_drew (blk_alloc (blk_alloc (blk_alloc hM)))) (fun e => hM2 (.inl e.symm))
  have hoff : ∀ b, W.heap.size ≤ b → ¬ HF ov L b := fun b hb hf => by have := h.lt hf; omega
  have hnf : ¬ HF (.slice (some ⟨g2, 0, none⟩) (L.length + 1) cap2) (L ++ [some ⟨W.heap.size + 1, .slice (some ⟨W.heap.size, 0, none⟩) n n, zeroVs n⟩]) bM := by
    intro hf
    rcases hf.push with e | e | e | e
    · have : g2 = bM := by simpa [Value.ownBlock] using e
      subst this
      rcases hgb with e2 | e2
      · exact hM2 (.inl e2)
      · omega
    · exact hM2 e
    · simp at e; omega
    · simp [Value.ownBlock] at e; omega
  refine ⟨set_blk hM3, ?_, hnf, ?_⟩
  · refine HObj.set (HObj.push hW ⟨W.heap.size + 1, .slice (some ⟨W.heap.size, 0, none⟩) n n, zeroVs n⟩ _ hown hg ?_ (by simp; omega) ?_ (hoff _ (by simp)) ?_) (by exact hnf) _
    · exact blk_drew (blk_alloc (at_new _ _ _ (by simp)))
    · exact own_zero W _ base n W.heap.size (by omega) hn (blk_drew (blk_alloc (blk_alloc (at_new _ _ _ rfl))))
    · intro b hb
      have : W.heap.size = b := by simpa [Value.ownBlock] using hb
      exact hoff b (by omega)
  · refine (((((((Fr.refl (HG bM ov L) W).alloc _).alloc _).alloc _).drew).grown hg (fun k hk => .inl (.inr (.inl hk)))).set (.inl (.inl rfl)) _).to ?_
    rintro b (rfl | hf)
    · exact .inl (.inl rfl)
    · rcases hf.push with e | e | e | e
      · have : g2 = b := by simpa [Value.ownBlock] using e
        subst this
        rcases hgb with e2 | e2
        · exact .inl (.inr (.inl e2))
        · exact .inr e2
      · exact .inl (.inr e)
      · simp at e; exact .inr (by omega)
      · simp [Value.ownBlock] at e; exact .inr (by omega)

set_option maxRecDepth 20000 in
set_option maxHeartbeats 2000000 in
/-- New: one object more. The row's header lies at the head of block bM. -/
theorem onew_any (W : World) (base bM : Nat) (ov : Value) (cs : Array Value) (t : TypeId) (L : List (Option Ob)) (h : HObj W base ov L) (hM : W.heap[bM]? = some (.cells cs t (0, 0))) (h0 : cs[0]? = some ov) (hM2 : ¬ HF ov L bM) (hbase : base ≤ W.heap.size) (hL : L.length ≤ 1000000) (n : Nat) (hn : n ≤ 4) :
    Calls Try.prog 204 #[.pointer (some ⟨bM, 0, none⟩), .int .i64 n] W fun e w' => e = .returned (.tuple #[.int .i64 L.length, .int .i64 0]) ∧ ∃ ov' bx fv, w'.heap[bM]? = some (.cells (cs.setIfInBounds 0 ov') t (0, 0)) ∧ HObj w' base ov' (L ++ [some ⟨bx, fv, zeroVs n⟩]) ∧ ¬ HF ov' (L ++ [some ⟨bx, fv, zeroVs n⟩]) bM ∧ Fr (HG bM ov L) W (HG bM ov' (L ++ [some ⟨bx, fv, zeroVs n⟩])) w' := by
  have hc0 := cell_blk (j := 0) hM h0
  have hf0 := frozen_blk (j := 0) hM
  have hlt := lt_blk hM
  obtain ⟨A, cap, rfl, hlen⟩ := h.len
  have hmk := fun w => run_mkV w n hn
  have k1 := cell_alloc (o := .cells (flatV (zeroVs n)).toArray 99) hc0
  have k2 := cell_alloc (o := .cells #[.slice (some ⟨W.heap.size, 0, none⟩) n n] 48) k1
  have k3 := cell_alloc (o := .cells #[.pointer (some ⟨W.heap.size + 1, 0, none⟩)] 123) k2
  have HH := Lib.hid h
  have HM := Lib.hid hM
  have H0 := Lib.hid h0
  have HM2 := Lib.hid hM2
  have Hm := Lib.hid hbase
  clear h hM h0 hM2 hbase
  go_enter Try.func204, Try.ntmps204
  go_wp2
  go_region_law (refine step_app rfl _ _ 93 123 1 8 _ rfl Try.underlying93 Try.info123 rfl (by omega) (by omega) base _ L.length (L.map Ob.ptr) [.pointer (some ⟨W.heap.size + 1, 0, none⟩)] rfl (by simp [Value.oneCell']) (W.heap.size + 2) (by rfl) (by rfl) (at_new _ _ _ (by simp)) ((((HH.out.alloc _).alloc _).alloc _).drew).row (by simp; have := Hm.out; omega) (by omega) ?_; intro g2 cap2 w1 hown hg hgb hlt1; have q1 := blk_grown hg (blk_alloc (blk_alloc (blk_alloc HM.out))) (fun e => HM2.out (.inl e.symm)); have q2 := cell_blk (j := 0) q1 H0.out; have q3 := frozen_blk (j := 0) q1; have q4 := lt_blk q1)
  all_goals
    have hgb' : (Value.slice A L.length cap).ownBlock = some g2 ∨ W.heap.size ≤ g2 := hgb.imp id fun h => by simp at h; omega
    obtain ⟨x1, x2, x3, x4⟩ := onew_end HH.out HM.out HM2.out Hm.out hn hown hg hgb'
    have X := Lib.hid (And.intro x2 (And.intro x3 x4))
    clear x2 x3 x4 hown hg hgb hgb'
    have e2 := cell_blk (j := 0) x1 (by rw [Array.getElem?_setIfInBounds_self_of_lt]; exact (Array.getElem?_eq_some_iff.1 H0.out).1)
    go_wp2
    go_ret2
    exact ⟨rfl, _, _, _, x1, X.out⟩

end Go.Proofs.Yteghhajfkdbcdaa
