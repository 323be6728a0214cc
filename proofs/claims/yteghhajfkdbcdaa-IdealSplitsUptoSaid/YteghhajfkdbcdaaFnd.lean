/- graph.Found: what it finds; its closure. -/
import Derived.Test.YteghhajfkdbcdaaHot
import Derived.Deep.RegionHeld3
namespace Go.Proofs.Yteghhajfkdbcdaa
open Go.RowKit
set_option linter.unusedVariables false
set_option linter.unusedSimpArgs false

/-- How far, and what was found. -/
abbrev Fst := List Int × List Int
def take1 (s : Fst) (i d : Int) : Fst := if s.1.getD i.toNat 0 < 0 then (s.1.set i.toNat d, s.2 ++ [i]) else s
def takeAll (ts : List Int) (d : Int) (s : Fst) : Fst := ts.foldl (fun s i => take1 s i d) s
def stepF (os : List (List Vl)) (k : Nat) (s : Fst) : Fst :=
  if k < s.2.length then takeAll (tgts (os.getD (s.2.getD k 0).toNat [])) (s.1.getD (s.2.getD k 0).toNat 0 + 1) s else s
def startF (g : G) : Fst := takeAll (tgts g.roots) 0 (List.replicate g.objs.length (-1), [])
def iterF (g : G) : Nat → Fst
  | 0 => startF g
  | k + 1 => stepF g.objs k (iterF g k)
/-- What graph.Found finds, in order. -/
def foundL (g : G) : List Int := (iterF g g.objs.length).2

/-- The state of it in memory: the blocks of 'dist' (a variable and a row) and of 'l' (whose value is lv). -/
structure FSt (base bd gd bl : Nat) (lv : Value) (W : World) (n : Nat) (s : Fst) : Prop where
  d : W.heap[bd]? = some (.cells #[.slice (some ⟨gd, 0, none⟩) n n] 39 (0, 0))
  r : W.heap[gd]? = some (.cells (flatI s.1).toArray 3 (0, 0))
  l : W.heap[bl]? = some (.cells #[lv] 39 (0, 0))
  o : OwnI W base lv s.2
  off : lv.ownBlock ≠ some gd
  len : s.1.length = n
  bb : base ≤ bd ∧ base ≤ gd ∧ base ≤ bl
  ne : bd ≠ bl
/-- What 'take' writes to. -/
def FP (gd bl : Nat) (lv : Value) (b : Nat) : Prop := b = gd ∨ b = bl ∨ lv.ownBlock = some b

theorem flatI_get {xs : List Int} {i : Nat} (h : i < xs.length) : (flatI xs)[i]? = some (.int .i64 xs[i]) := by simp [flatI, h]
theorem flatI_set (xs : List Int) (i : Nat) (x : Int) : flatI (xs.set i x) = (flatI xs).set i (.int .i64 x) := by simp [flatI, List.map_set]
section
variable {base bd gd bl n : Nat} {lv : Value} {W W' : World} {s : Fst}
theorem FSt.keep (h : FSt base bd gd bl lv W n s) (hs : ∀ b, base ≤ b → ∀ c t, W.heap[b]? = some (.cells c t (0, 0)) → W'.heap[b]? = W.heap[b]?) : FSt base bd gd bl lv W' n s := by
  refine ⟨(hs _ h.bb.1 _ _ h.d).trans h.d, (hs _ h.bb.2.1 _ _ h.r).trans h.r, (hs _ h.bb.2.2 _ _ h.l).trans h.l, own_same_blk h.o fun b hb => ?_, h.off, h.len, h.bb, h.ne⟩
  obtain ⟨hb1, cs, hb2⟩ := own_blk h.o hb
  exact hs b hb1 _ _ hb2
theorem FSt.noise {B : Nat} (h : FSt base bd gd bl lv W n s) (hn : Noise B W W') : FSt base bd gd bl lv W' n s := h.keep fun b _ c t hb => by rw [hn.block hb, hb]
theorem FSt.below (h : FSt base bd gd bl lv W n s) (hb : Below W.heap.size W W') : FSt base bd gd bl lv W' n s := h.keep fun b _ c t hc => by rw [blk_below hb hc, hc]
theorem FSt.cell (h : FSt base bd gd bl lv W n s) {i : Nat} (hi : i < n) : W.cell? ⟨gd, i, none⟩ = some (.int .i64 (s.1.getD i 0)) := by
  have hl : i < s.1.length := by rw [h.len]; exact hi
  refine cell_blk h.r ?_
  rw [List.getElem?_toArray, flatI_get hl]
  simp [hl]
theorem FSt.cells (h : FSt base bd gd bl lv W n s) {b : Nat} (hb : FP gd bl lv b) : base ≤ b ∧ ∃ cs t, W.heap[b]? = some (.cells cs t (0, 0)) := by
  rcases hb with rfl | rfl | hb
  · exact ⟨h.bb.2.1, _, _, h.r⟩
  · exact ⟨h.bb.2.2, _, _, h.l⟩
  · obtain ⟨h1, cs, h2⟩ := own_blk h.o hb
    exact ⟨h1, _, _, h2⟩
theorem FSt.from (h : FSt base bd gd bl lv W n s) {F' : Nat → Prop} (hf : Fr (FP gd bl lv) W F' W') (B : Nat) : KeepsFrom B W W' := ⟨hf.size, fun k o _ hk ho => hf.blk hk fun hp => by
  obtain ⟨_, cs, t, h1⟩ := h.cells hp
  rw [hk] at h1
  injection h1 with h1
  subst h1
  cases ho⟩
end
theorem Fr.noise {F F' : Nat → Prop} {W W' W'' : World} (h : Fr F W F' W') (hn : Noise W.heap.size W' W'') : Fr F W F' W'' :=
  ⟨hn.os.trans h.os, hn.tape.trans h.tape, hn.output.trans h.output, Nat.le_trans h.size hn.size, fun b hb hf => by
    obtain ⟨h1, h2⟩ := h.keep b hb hf
    refine ⟨h1, ?_⟩
    rw [Array.getElem?_eq_getElem hb] at h2 ⊢
    exact hn.same b _ h2 (.inl hb)⟩
theorem type_ne {w : World} {a b : Nat} {c c' : Array Value} {t t' : TypeId} {f f' : Nat × Nat} (h : w.heap[a]? = some (.cells c t f)) (h' : w.heap[b]? = some (.cells c' t' f')) (hn : t ≠ t') : a ≠ b := by
  intro e
  subst e
  rw [h] at h'
  injection h' with h'
  injection h' with _ h'
  exact hn h'
theorem own_off {w : World} {base : Nat} {e : TypeId} {size n : Nat} {v : Value} {xs : List Value} (h : w.ownsRow base e size v n xs) {b : Nat} {cs : Array Value} {t : TypeId} {fr : Nat × Nat} (hb : w.heap[b]? = some (.cells cs t fr)) (ht : t ≠ e) : some b ≠ v.ownBlock := by
  intro hk
  obtain ⟨_, c2, h2⟩ := own_blk h hk.symm
  rw [hb] at h2
  injection h2 with h2
  injection h2 with _ h2
  exact ht h2
theorem take_end {base bd gd bl n i : Nat} {W w1 : World} {s : Fst} {d : Int} {lv : Value} {g2 cap2 : Nat} (h : FSt base bd gd bl lv W n s) (hi : i < n) (hbase : base ≤ W.heap.size)
    (hown : w1.ownsRow base 3 1 (.slice (some ⟨g2, 0, none⟩) (s.2.length + 1) cap2) (s.2.length + 1) (flatI s.2 ++ [.int .i64 i])) (hgb : lv.ownBlock = some g2 ∨ W.heap.size ≤ g2)
    (q1 : w1.heap[gd]? = some (.cells (flatI s.1).toArray 3 (0, 0))) (q2 : w1.heap[bl]? = some (.cells #[lv] 39 (0, 0))) (q9 : w1.heap[bd]? = some (.cells #[.slice (some ⟨gd, 0, none⟩) n n] 39 (0, 0))) (hF : Fr (FP gd bl lv) W (FP gd bl lv) w1) :
    FSt base bd gd bl (.slice (some ⟨g2, 0, none⟩) (s.2.length + 1) cap2) ((w1.setCell ⟨gd, i, none⟩ (.int .i64 d)).setCell ⟨bl, 0, none⟩ (.slice (some ⟨g2, 0, none⟩) (s.2.length + 1) cap2)) n (s.1.set i d, s.2 ++ [(i : Int)]) ∧
    Fr (FP gd bl lv) W (FP gd bl (.slice (some ⟨g2, 0, none⟩) (s.2.length + 1) cap2)) ((w1.setCell ⟨gd, i, none⟩ (.int .i64 d)).setCell ⟨bl, 0, none⟩ (.slice (some ⟨g2, 0, none⟩) (s.2.length + 1) cap2)) := by
  have hbg : bl ≠ gd := type_ne q2 q1 (by decide)
  have hdg : bd ≠ gd := type_ne q9 q1 (by decide)
  have hg2 : g2 ≠ gd := fun e => by
    subst e
    rcases hgb with h1 | h1
    · exact h.off h1
    · have := lt_blk h.r; omega
  have hg2l : g2 ≠ bl := fun e => by
    subst e
    obtain ⟨_, cs, h2⟩ := own_blk hown (k := g2) rfl
    exact type_ne h2 q2 (by decide) rfl
  refine ⟨⟨blk_set (blk_set q9 hdg) h.ne, ?_, set_blk (blk_set q2 hbg), ?_, fun e => hg2 (by simpa [Value.ownBlock] using e), by simpa using h.len, h.bb, h.ne⟩, ((hF.set (p := ⟨gd, i, none⟩) (.inl (.inl rfl)) _).set (p := ⟨bl, 0, none⟩) (.inl (.inr (.inl rfl))) _).to ?_⟩
  · rw [blk_set (set_blk q1) (fun e => hbg e.symm), flatI_set]
    congr 2
    simp
  · have h1 : OwnI w1 base (.slice (some ⟨g2, 0, none⟩) (s.2.length + 1) cap2) (s.2 ++ [(i : Int)]) := by
      unfold OwnI
      rw [List.length_append]
      simpa [flatI] using hown
    refine own_same_blk h1 fun b hb => ?_
    have : g2 = b := by simpa [Value.ownBlock] using hb
    subst this
    rw [Below.heap_setCell _ _ _ _ hg2l, Below.heap_setCell _ _ _ _ hg2]
  · rintro b (rfl | rfl | hb)
    · exact .inl (.inl rfl)
    · exact .inl (.inr (.inl rfl))
    · have : g2 = b := by simpa [Value.ownBlock] using hb
      subst this
      exact hgb.imp (fun e => .inr (.inr e)) id

set_option maxRecDepth 20000 in
set_option maxHeartbeats 2000000 in
/-- take(i, d) -/
theorem take_any (base bd gd bl n : Nat) (lv : Value) (W : World) (s : Fst) (h : FSt base bd gd bl lv W n s) (hbase : base ≤ W.heap.size) (i : Nat) (hi : i < n) (d : Int) (hl : s.2.length ≤ 1099511627776) :
    Calls Try.prog 125 #[.int .i64 i, .int .i64 d, .pointer (some ⟨bd, 0, none⟩), .pointer (some ⟨bl, 0, none⟩)] W fun e w' => e = .returned (.tuple #[]) ∧ ∃ lv', FSt base bd gd bl lv' w' n (take1 s i d) ∧ Fr (FP gd bl lv) W (FP gd bl lv') w' := by
  have c1 := cell_blk (j := 0) h.d rfl
  have c2 := h.cell hi
  have hin : (i : Int) < n := by omega
  have f2 := frozen_blk (j := i) h.r
  have hz1 := lt_blk h.d
  have hz2 := lt_blk h.r
  have c3 := cell_blk (j := 0) h.l rfl
  have f3 := frozen_blk (j := 0) h.l
  have hz3 := lt_blk h.l
  generalize hx : s.1.getD i 0 = x at c2
  obtain ⟨A, cp, rfl, -, -⟩ := id h.o.rd
  by_cases hx0 : x < 0
  · have d0 : decide (x < 0) = true := by simpa using hx0
    have ht : take1 s i d = (s.1.set i d, s.2 ++ [(i : Int)]) := by unfold take1; rw [Int.toNat_natCast, hx, if_pos hx0]
    rw [ht]
    have HX := Lib.hid h
    have Hb := Lib.hid hbase
    have HN : Hid (bl ≠ gd) := type_ne h.l h.r (by decide)
    have n1 := World.new_ne _ _ c1
    have n2 := World.new_ne _ _ c2
    have n3 := World.new_ne _ _ c3
    clear h hbase hx ht
    go_enter Try.func125, Try.ntmps125
    go_wp2
    go_region_law (refine step_app rfl _ _ 39 3 1 8 _ rfl Try.underlying39 Try.info3 rfl (by omega) (by omega) base _ s.2.length (flatI s.2) [.int .i64 i] rfl (by simp [Value.oneCell']) W.heap.size (by rfl) (by rfl) (blk_drew (at_new _ _ _ rfl)) (own_below HX.out.o (((Below.refl _ _).alloc (Nat.le_refl _) _).drew)) (by simp; have := Hb.out; omega) (by omega) ?_; intro g2 cap2 w1 hown hg hgb hlt1; have q1 := blk_grown hg (blk_drew (blk_alloc HX.out.r)) (fun e => HX.out.off e.symm); have q2 := blk_grown hg (blk_drew (blk_alloc HX.out.l)) (own_off HX.out.o HX.out.l (by decide)); have q3 := cell_blk (j := i) q1 (by rw [List.getElem?_toArray, flatI_get (by rw [HX.out.len]; exact hi)]); have q4 := frozen_blk (j := i) q1; have q5 := cell_blk (j := 0) q2 rfl; have q6 := frozen_blk (j := 0) q2; have q7 := lt_blk q1; have q8 := lt_blk q2; have r2 := blk_set (p := ⟨gd, i, none⟩) (v := .int .i64 d) q2 HN.out; have r5 := cell_blk (j := 0) r2 rfl; have r6 := frozen_blk (j := 0) r2; have q9 := blk_grown hg (blk_drew (blk_alloc HX.out.d)) (own_off HX.out.o HX.out.d (by decide)); have q10 := cell_blk (j := 0) q9 rfl)
    all_goals
      go_end0
      have hFr := (((Fr.refl (FP gd bl (.slice A s.2.length cp)) W).alloc (.cells #[.int .i64 i] 3)).drew).grown hg (fun k hk => .inl (.inr (.inr hk)))
      obtain ⟨x1, x2⟩ := take_end (d := d) HX.out hi Hb.out hown (hgb.imp id fun h => by simp at h; omega) q1 q2 q9 hFr
      exact ⟨rfl, _, x1, x2⟩
  · have d0 : decide (x < 0) = false := by simpa using hx0
    have ht : take1 s i d = s := by unfold take1; rw [Int.toNat_natCast, hx, if_neg hx0]
    rw [ht]
    have HX := Lib.hid h
    clear h hbase hx ht
    go_enter Try.func125, Try.ntmps125
    go_wp2
    go_end0
    exact ⟨rfl, _, HX.out, Fr.refl _ _⟩

end Go.Proofs.Yteghhajfkdbcdaa
