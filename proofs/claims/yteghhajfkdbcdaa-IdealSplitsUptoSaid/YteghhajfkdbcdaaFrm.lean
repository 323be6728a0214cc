/- Frames by footprints; the row of objects as it lies in memory; what a store or an append makes of it. -/
import Derived.Test.YteghhajfkdbcdaaNum
namespace Go.Proofs.Yteghhajfkdbcdaa
open Go.RowKit
set_option linter.unusedVariables false
set_option linter.unusedSimpArgs false

/-- From W to W' nothing outside a footprint has turned; and nothing old has come into the footprint. -/
structure Fr (F : Nat → Prop) (W : World) (F' : Nat → Prop) (W' : World) : Prop where
  os : W'.os = W.os
  tape : W'.tape = W.tape
  output : W'.output = W.output
  size : W.heap.size ≤ W'.heap.size
  keep : ∀ b, b < W.heap.size → ¬ F b → ¬ F' b ∧ W'.heap[b]? = W.heap[b]?

section
variable {F F' F'' : Nat → Prop} {W W' W'' : World}
theorem Fr.refl (F : Nat → Prop) (W : World) : Fr F W F W := ⟨rfl, rfl, rfl, Nat.le_refl _, fun _ _ h => ⟨h, rfl⟩⟩
theorem Fr.trans (h : Fr F W F' W') (k : Fr F' W' F'' W'') : Fr F W F'' W'' :=
  ⟨k.os.trans h.os, k.tape.trans h.tape, k.output.trans h.output, Nat.le_trans h.size k.size, fun b hb hf => by
    obtain ⟨h1, h2⟩ := h.keep b hb hf
    obtain ⟨h3, h4⟩ := k.keep b (Nat.lt_of_lt_of_le hb h.size) h1
    exact ⟨h3, h4.trans h2⟩⟩
theorem Fr.alloc (h : Fr F W F' W') (o : Obj) : Fr F W F' (W'.alloc o) :=
  ⟨h.os, h.tape, h.output, by rw [World.size_alloc]; have := h.size; omega, fun b hb hf => by
    obtain ⟨h1, h2⟩ := h.keep b hb hf
    exact ⟨h1, (Below.heap_alloc _ _ _ (Nat.lt_of_lt_of_le hb h.size)).trans h2⟩⟩
theorem Fr.drew (h : Fr F W F' W') : Fr F W F' W'.drew := ⟨h.os, h.tape, h.output, h.size, h.keep⟩
theorem Fr.drewN (h : Fr F W F' W') (n : Nat) : Fr F W F' (W'.drewN n) := ⟨h.os, h.tape, h.output, h.size, h.keep⟩
theorem Fr.below (h : Fr F W F' W') (hb : Below W'.heap.size W' W'') : Fr F W F' W'' :=
  ⟨hb.os.trans h.os, hb.tape.trans h.tape, hb.output.trans h.output, Nat.le_trans h.size hb.size, fun b hlt hf => by
    obtain ⟨h1, h2⟩ := h.keep b hlt hf
    exact ⟨h1, (hb.block b (Nat.lt_of_lt_of_le hlt h.size)).trans h2⟩⟩
theorem Fr.grown (h : Fr F W F' W') {row : Option Nat} (hg : W'.grownBy W'' row) (hr : ∀ k, row = some k → F' k ∨ W.heap.size ≤ k) : Fr F W F' W'' :=
  ⟨hg.os.trans h.os, hg.tape.trans h.tape, hg.output.trans h.output, Nat.le_trans h.size hg.size, fun b hlt hf => by
    obtain ⟨h1, h2⟩ := h.keep b hlt hf
    refine ⟨h1, (hg.block b (Nat.lt_of_lt_of_le hlt h.size) fun e => ?_).trans h2⟩
    rcases hr b e.symm with h3 | h3
    · exact h1 h3
    · omega⟩
theorem Fr.set (h : Fr F W F' W') {p : Addr} (hp : F' p.block ∨ W.heap.size ≤ p.block) (v : Value) : Fr F W F' (W'.setCell p v) :=
  ⟨h.os, h.tape, h.output, by simp [World.setCell]; exact h.size, fun b hlt hf => by
    obtain ⟨h1, h2⟩ := h.keep b hlt hf
    refine ⟨h1, (Below.heap_setCell _ _ _ _ fun e => ?_).trans h2⟩
    subst e
    rcases hp with h3 | h3
    · exact h1 h3
    · omega⟩
/-- A store into a map of the footprint. -/
theorem Fr.same (h : Fr F W F' W') (h1 : W''.os = W'.os) (h2 : W''.tape = W'.tape) (h3 : W''.output = W'.output) (h4 : W'.heap.size ≤ W''.heap.size) (h5 : ∀ b, b < W'.heap.size → ¬ F' b → b < W.heap.size → W''.heap[b]? = W'.heap[b]?) : Fr F W F' W'' :=
  ⟨h1.trans h.os, h2.trans h.tape, h3.trans h.output, Nat.le_trans h.size h4, fun b hlt hf => by
    obtain ⟨h6, h7⟩ := h.keep b hlt hf
    exact ⟨h6, (h5 b (Nat.lt_of_lt_of_le hlt h.size) h6 hlt).trans h7⟩⟩
theorem Fr.to (h : Fr F W F' W') (hf : ∀ b, F'' b → F' b ∨ W.heap.size ≤ b) : Fr F W F'' W' :=
  ⟨h.os, h.tape, h.output, h.size, fun b hlt hn => by
    obtain ⟨h1, h2⟩ := h.keep b hlt hn
    exact ⟨fun h3 => by rcases hf b h3 with h4 | h4; exact h1 h4; omega, h2⟩⟩
theorem Fr.from_ (h : Fr F W F' W') (hf : ∀ b, F b → F'' b) (hk : ∀ b, F'' b → ¬ F b → b < W.heap.size → False) : Fr F'' W F' W' :=
  ⟨h.os, h.tape, h.output, h.size, fun b hlt hn => h.keep b hlt fun h1 => hn (hf b h1)⟩
/-- A greater footprint. -/
theorem Fr.wide (h : Fr F W F' W') (G : Nat → Prop) : Fr (fun b => F b ∨ G b) W (fun b => F' b ∨ G b) W' :=
  ⟨h.os, h.tape, h.output, h.size, fun b hlt hn => by
    obtain ⟨h1, h2⟩ := h.keep b hlt fun h3 => hn (.inl h3)
    exact ⟨fun h3 => by rcases h3 with h3 | h3; exact h1 h3; exact hn (.inr h3), h2⟩⟩
theorem Fr.toBelow (h : Fr F W F' W') {B : Nat} (hB : B ≤ W.heap.size) (hf : ∀ b, b < B → ¬ F b) : Below B W W' :=
  ⟨h.os, h.tape, h.output, h.size, fun b hb => (h.keep b (by omega) (hf b hb)).2⟩
theorem Fr.blk (h : Fr F W F' W') {b : Nat} {o : Obj} (hb : W.heap[b]? = some o) (hf : ¬ F b) : W'.heap[b]? = some o := (h.keep b (lt_blk hb) hf).2.trans hb
theorem Fr.out (h : Fr F W F' W') {b : Nat} {o : Obj} (hb : W.heap[b]? = some o) (hf : ¬ F b) : ¬ F' b := (h.keep b (lt_blk hb) hf).1
end

/-- An object that is there: its box, its fields as a slice, and what they hold. -/
structure Ob where
  bx : Nat
  fv : Value
  fs : List Vl
def Ob.ptr : Option Ob → Value
  | none => .pointer none
  | some o => .pointer (some ⟨o.bx, 0, none⟩)
/-- What there is, by number. -/
def obs (L : List (Option Ob)) : List (Option (List Vl)) := L.map (Option.map Ob.fs)
structure HObj (W : World) (base : Nat) (ov : Value) (L : List (Option Ob)) : Prop where
  row : W.ownsRow base 123 1 ov L.length (L.map Ob.ptr)
  box : ∀ (i : Nat) (o : Ob), L[i]? = some (some o) → W.heap[o.bx]? = some (.cells #[o.fv] 48 (0, 0)) ∧ base ≤ o.bx ∧ OwnV W base o.fv o.fs
  nbx : ∀ (i j : Nat) (o p : Ob), L[i]? = some (some o) → L[j]? = some (some p) → o.bx = p.bx → i = j
  nfv : ∀ (i j : Nat) (o p : Ob) (b : Nat), L[i]? = some (some o) → L[j]? = some (some p) → o.fv.ownBlock = some b → p.fv.ownBlock = some b → i = j
/-- The blocks of it. -/
def HF (ov : Value) (L : List (Option Ob)) (b : Nat) : Prop := ov.ownBlock = some b ∨ ∃ (i : Nat) (o : Ob), L[i]? = some (some o) ∧ (b = o.bx ∨ o.fv.ownBlock = some b)

theorem own_blk {w : World} {base : Nat} {e : TypeId} {size n : Nat} {v : Value} {xs : List Value} (h : w.ownsRow base e size v n xs) {k : Nat} (hk : v.ownBlock = some k) : base ≤ k ∧ ∃ cs, w.heap[k]? = some (.cells cs e (0, 0)) := by
  rcases h.2 with ⟨rfl, _⟩ | ⟨g, cap, cur, rfl, hb, hh, _⟩
  · simp [Value.ownBlock] at hk
  · have : g = k := by simpa [Value.ownBlock] using hk
    subst this
    exact ⟨hb, _, hh⟩
theorem own_same_blk {w W : World} {base n size : Nat} {e : TypeId} {v : Value} {xs : List Value} (h : w.ownsRow base e size v n xs) (hs : ∀ b, v.ownBlock = some b → W.heap[b]? = w.heap[b]?) : W.ownsRow base e size v n xs := by
  refine ⟨h.1, ?_⟩
  rcases h.2 with h0 | ⟨g, cap, cur, rfl, h2, h3, h4⟩
  · exact .inl h0
  · exact .inr ⟨g, cap, cur, rfl, h2, (hs g rfl).trans h3, h4⟩

section
variable {W W' : World} {base : Nat} {ov : Value} {L : List (Option Ob)}
theorem HObj.same (h : HObj W base ov L) (hs : ∀ b, HF ov L b → W'.heap[b]? = W.heap[b]?) : HObj W' base ov L :=
  ⟨own_same_blk h.row fun b hb => hs b (.inl hb), fun i o hi => by
    obtain ⟨h1, h2, h3⟩ := h.box i o hi
    exact ⟨(hs _ (.inr ⟨i, o, hi, .inl rfl⟩)).trans h1, h2, own_same_blk h3 fun b hb => hs b (.inr ⟨i, o, hi, .inr hb⟩)⟩, h.nbx, h.nfv⟩
/-- Each block of it is one of three types. -/
theorem HObj.types (h : HObj W base ov L) {b : Nat} (hb : HF ov L b) : base ≤ b ∧ ∃ cs t, W.heap[b]? = some (.cells cs t (0, 0)) ∧ (t = 123 ∨ t = 48 ∨ t = 99) := by
  rcases hb with hb | ⟨i, o, hi, rfl | hb⟩
  · obtain ⟨h1, cs, h2⟩ := own_blk h.row hb; exact ⟨h1, cs, _, h2, .inl rfl⟩
  · obtain ⟨h1, h2, _⟩ := h.box i o hi; exact ⟨h2, _, _, h1, .inr (.inl rfl)⟩
  · obtain ⟨h1, cs, h2⟩ := own_blk (h.box i o hi).2.2 hb; exact ⟨h1, cs, _, h2, .inr (.inr rfl)⟩
theorem HObj.lt (h : HObj W base ov L) {b : Nat} (hb : HF ov L b) : b < W.heap.size := by
  obtain ⟨_, _, _, h1, _⟩ := h.types hb; exact lt_blk h1
theorem HObj.off (h : HObj W base ov L) {b : Nat} {cs : Array Value} {t : TypeId} {fr : Nat × Nat} (hb : W.heap[b]? = some (.cells cs t fr)) (ht : (t == 123 || t == 48 || t == 99) = false) : ¬ HF ov L b := by
  intro hh
  obtain ⟨_, cs', t', h1, h2⟩ := h.types hh
  rw [hb] at h1
  injection h1 with h1
  injection h1 with _ h1
  subst h1
  rcases h2 with rfl | rfl | rfl <;> simp at ht
theorem HObj.offMap (h : HObj W base ov L) {b : Nat} {o : Obj} (hb : W.heap[b]? = some o) (ht : o.isCells = false) : ¬ HF ov L b := by
  intro hh
  obtain ⟨_, cs', t', h1, h2⟩ := h.types hh
  rw [hb] at h1
  injection h1 with h1
  subst h1
  simp [Obj.isCells] at ht
theorem HObj.below (h : HObj W base ov L) (hb : Below W.heap.size W W') : HObj W' base ov L := h.same fun b hf => hb.block b (h.lt hf)
theorem HObj.fr {F F' : Nat → Prop} (h : HObj W base ov L) (hb : Fr F W F' W') (hn : ∀ b, HF ov L b → ¬ F b) : HObj W' base ov L := h.same fun b hf => (hb.keep b (h.lt hf) (hn b hf)).2
theorem HObj.alloc (h : HObj W base ov L) (o : Obj) : HObj (W.alloc o) base ov L := h.below ((Below.refl _ _).alloc (Nat.le_refl _) _)
theorem HObj.set (h : HObj W base ov L) {p : Addr} (hp : ¬ HF ov L p.block) (v : Value) : HObj (W.setCell p v) base ov L := h.same fun b hf => Below.heap_setCell _ _ _ _ fun e => hp (e ▸ hf)
theorem HObj.drew (h : HObj W base ov L) : HObj W.drew base ov L := h.same fun b hf => rfl
theorem HObj.drewN (h : HObj W base ov L) (n : Nat) : HObj (W.drewN n) base ov L := h.same fun b hf => rfl

/-- The pointer of an object. -/
theorem HObj.cell (h : HObj W base ov L) {i : Nat} {e : Option Ob} (hi : L[i]? = some e) : ∃ g cap cur, ov = .slice (some ⟨g, 0, none⟩) L.length cap ∧ L.length ≤ cap ∧ cap ≤ 9223372036854775807 ∧ W.heap[g]? = some (.cells cur 123 (0, 0)) ∧ W.cell? ⟨g, i, none⟩ = some (Ob.ptr e) := by
  have hlt := (List.getElem?_eq_some_iff.1 hi).1
  rcases h.row.2 with ⟨_, h0⟩ | ⟨g, cap, cur, rfl, hb, hh, h1, h3, h4, h5⟩
  · omega
  · refine ⟨g, cap, cur, rfl, h1, by unfold maxLen at h3; omega, hh, ?_⟩
    have h6 : (L.map Ob.ptr)[i]? = some (Ob.ptr e) := by rw [List.getElem?_map, hi]; rfl
    rw [← h5] at h6
    simp only [List.getElem?_take, Array.getElem?_toList] at h6
    rw [if_pos (by omega)] at h6
    simp [World.cell?, hh, h6]
theorem HObj.len (h : HObj W base ov L) : ∃ A cap, ov = .slice A L.length cap ∧ L.length ≤ 9223372036854775807 := by
  rcases h.row.2 with ⟨rfl, h0⟩ | ⟨g, cap, cur, rfl, hb, hh, h1, h3, h4, h5⟩
  · exact ⟨none, 0, by rw [h0], by omega⟩
  · exact ⟨_, _, rfl, by unfold maxLen at h3; omega⟩
/-- The fields of an object. -/
theorem OwnV.cell {v : Value} {xs : List Vl} (h : OwnV W base v xs) {k : Nat} (hk : k < xs.length) : ∃ g cap cur, v = .slice (some ⟨g, 0, none⟩) xs.length cap ∧ xs.length ≤ cap ∧ cap ≤ 9223372036854775807 ∧ base ≤ g ∧ W.heap[g]? = some (.cells cur 99 (0, 0)) ∧ cur.size = cap * 2 ∧ W.cell? ⟨g, k * 2, none⟩ = some (.bool xs[k].ref) ∧ W.cell? ⟨g, k * 2 + 1, none⟩ = some (.int .i64 xs[k].n) := by
  rcases h.2 with ⟨_, h0⟩ | ⟨g, cap, cur, rfl, hb, hh, h1, h3, h4, h5⟩
  · omega
  · refine ⟨g, cap, cur, rfl, h1, by unfold maxLen at h3; omega, hb, hh, h4, ?_⟩
    have h6 := flatV_get xs k hk
    rw [← h5] at h6
    simp only [List.getElem?_take, Array.getElem?_toList] at h6
    rw [if_pos (by omega), if_pos (by omega)] at h6
    exact ⟨by simp [World.cell?, hh, h6.1], by simp [World.cell?, hh, h6.2]⟩
theorem OwnV.len {v : Value} {xs : List Vl} (h : OwnV W base v xs) : ∃ A cap, v = .slice A xs.length cap ∧ xs.length ≤ 9223372036854775807 ∧ xs.length ≤ cap := by
  rcases h.2 with ⟨rfl, h0⟩ | ⟨g, cap, cur, rfl, hb, hh, h1, h3, h4, h5⟩
  · exact ⟨none, 0, by rw [h0], by omega, by omega⟩
  · exact ⟨_, _, rfl, by unfold maxLen at h3; omega, h1⟩

theorem set_blk2 {b j : Nat} {cs : Array Value} {t : TypeId} {fr : Nat × Nat} {u u' : Value} (h : W.heap[b]? = some (.cells cs t fr)) (j' : Nat) : ((W.setCell ⟨b, j, none⟩ u).setCell ⟨b, j', none⟩ u').heap[b]? = some (.cells ((cs.setIfInBounds j u).setIfInBounds j' u') t fr) := set_blk (set_blk h)
/-- A row of cells, one of them set. -/
theorem own_set1 {e : TypeId} {v : Value} {n g cap : Nat} {xs : List Value} (h : W.ownsRow base e 1 v n xs) (hv : v = .slice (some ⟨g, 0, none⟩) n cap) {i : Nat} (hi : i < n) (u : Value) : (W.setCell ⟨g, i, none⟩ u).ownsRow base e 1 v n (xs.set i u) := by
  refine ⟨by simpa using h.1, ?_⟩
  rcases h.2 with ⟨rfl, h0⟩ | ⟨g', cap', cur, rfl, hb, hh, h1, h3, h4, h5⟩
  · omega
  · injection hv with hv1 hv2 hv3
    injection hv1 with hv1
    injection hv1 with hv1
    subst hv1 hv3
    refine .inr ⟨g', cap', cur.setIfInBounds i u, rfl, hb, set_blk hh, h1, h3, by simpa using h4, ?_⟩
    rw [← h5]
    simp [List.take_set]
theorem flatV_set (xs : List Vl) (k : Nat) (v : Vl) : flatV (xs.set k v) = ((flatV xs).set (k * 2) (.bool v.ref)).set (k * 2 + 1) (.int .i64 v.n) := by
  induction xs generalizing k with
  | nil => simp [flatV]
  | cons x xs ih =>
    cases k with
    | zero => simp [flatV, Vl.cells]
    | succ k =>
      have := ih k
      simp only [flatV, List.set_cons_succ, List.flatMap_cons, Vl.cells] at this ⊢
      rw [this, show (k + 1) * 2 = k * 2 + 2 by omega]
      simp [Nat.add_right_comm]
theorem OwnV.put {v : Value} {g cap : Nat} {xs : List Vl} (h : OwnV W base v xs) (hv : v = .slice (some ⟨g, 0, none⟩) xs.length cap) {k : Nat} (hk : k < xs.length) (u : Vl) : OwnV ((W.setCell ⟨g, k * 2, none⟩ (.bool u.ref)).setCell ⟨g, k * 2 + 1, none⟩ (.int .i64 u.n)) base v (xs.set k u) := by
  refine ⟨by rw [flatV_length], ?_⟩
  rcases h.2 with ⟨rfl, h0⟩ | ⟨g', cap', cur, rfl, hb, hh, h1, h3, h4, h5⟩
  · omega
  · injection hv with hv1 hv2 hv3
    injection hv1 with hv1
    injection hv1 with hv1
    subst hv1 hv3
    refine .inr ⟨g', cap', _, by rw [List.length_set], hb, set_blk2 hh _, by rw [List.length_set]; exact h1, h3, by simpa using h4, ?_⟩
    rw [flatV_set, ← h5, List.length_set]
    simp [List.take_set]

/-- A field is put. -/
theorem HObj.put (h : HObj W base ov L) {i : Nat} {o : Ob} (hi : L[i]? = some (some o)) {k : Nat} (hk : k < o.fs.length) {g cap : Nat} (hg : o.fv = .slice (some ⟨g, 0, none⟩) o.fs.length cap) (u : Vl) :
    HObj ((W.setCell ⟨g, k * 2, none⟩ (.bool u.ref)).setCell ⟨g, k * 2 + 1, none⟩ (.int .i64 u.n)) base ov (L.set i (some { o with fs := o.fs.set k u })) := by
  obtain ⟨hb1, hb2, hb3⟩ := h.box i o hi
  have hlt := (List.getElem?_eq_some_iff.1 hi).1
  have hob : o.fv.ownBlock = some g := by rw [hg]; rfl
  obtain ⟨_, cs, hgb⟩ := own_blk hb3 hob
  have hoth : ∀ b, b ≠ g → ((W.setCell ⟨g, k * 2, none⟩ (.bool u.ref)).setCell ⟨g, k * 2 + 1, none⟩ (.int .i64 u.n)).heap[b]? = W.heap[b]? := fun b hb => by
    rw [Below.heap_setCell _ _ _ _ hb, Below.heap_setCell _ _ _ _ hb]
  have get : ∀ (j : Nat) (p : Ob), (L.set i (some { o with fs := o.fs.set k u }))[j]? = some (some p) → (j = i ∧ p = { o with fs := o.fs.set k u }) ∨ (j ≠ i ∧ L[j]? = some (some p)) := by
    intro j p hj
    rw [List.getElem?_set] at hj
    by_cases hji : i = j
    · rw [if_pos hji, if_pos hlt] at hj
      injection hj with hj; injection hj with hj
      exact .inl ⟨hji.symm, hj.symm⟩
    · rw [if_neg hji] at hj
      exact .inr ⟨fun e => hji e.symm, hj⟩
  have orig : ∀ (j : Nat) (p : Ob), (L.set i (some { o with fs := o.fs.set k u }))[j]? = some (some p) → ∃ q : Ob, L[j]? = some (some q) ∧ q.bx = p.bx ∧ q.fv = p.fv := by
    intro j p hj
    rcases get j p hj with ⟨rfl, rfl⟩ | ⟨_, hj⟩
    · exact ⟨o, hi, rfl, rfl⟩
    · exact ⟨p, hj, rfl, rfl⟩
  refine ⟨?_, ?_, ?_, ?_⟩
  · have e : (L.set i (some { o with fs := o.fs.set k u })).map Ob.ptr = L.map Ob.ptr := by
      rw [List.map_set]
      apply List.ext_getElem?
      intro j
      rw [List.getElem?_set]
      split
      · rename_i e; subst e
        have e2 := (List.getElem?_eq_some_iff.1 hi).2
        simp [hlt, Ob.ptr, e2]
      · rfl
    rw [e, List.length_set]
    refine own_same_blk h.row fun b hb => hoth b fun e => ?_
    subst e
    obtain ⟨_, cs2, hgb2⟩ := own_blk h.row hb
    rw [hgb] at hgb2
    injection hgb2 with hgb2
    injection hgb2 with _ hgb2
    cases hgb2
  · intro j p hj
    rcases get j p hj with ⟨rfl, rfl⟩ | ⟨hne, hj⟩
    · refine ⟨?_, hb2, OwnV.put hb3 hg hk u⟩
      rw [hoth _ fun e => ?_]
      · exact hb1
      · subst e; simp only at hgb; rw [hb1] at hgb; cases hgb
    · obtain ⟨h1, h2, h3⟩ := h.box j p hj
      refine ⟨?_, h2, own_same_blk h3 fun b hb => hoth b fun e => ?_⟩
      · rw [hoth _ fun e => ?_]
        · exact h1
        · rw [e, hgb] at h1; cases h1
      · subst e; exact hne (h.nfv j i p o b hj hi hb hob)
  · intro a b p q ha hb e
    obtain ⟨p', hp, e1, _⟩ := orig a p ha
    obtain ⟨q', hq, e2, _⟩ := orig b q hb
    exact h.nbx a b p' q' hp hq (by rw [e1, e2, e])
  · intro a b p q x ha hb e1 e2
    obtain ⟨p', hp, _, e3⟩ := orig a p ha
    obtain ⟨q', hq, _, e4⟩ := orig b q hb
    exact h.nfv a b p' q' x hp hq (by rw [e3]; exact e1) (by rw [e4]; exact e2)

/-- An object goes. -/
theorem HObj.gone (h : HObj W base ov L) {i : Nat} (hi : i < L.length) {g cap : Nat} (hg : ov = .slice (some ⟨g, 0, none⟩) L.length cap) :
    HObj (W.setCell ⟨g, i, none⟩ (.pointer none)) base ov (L.set i none) := by
  have hob : ov.ownBlock = some g := by rw [hg]; rfl
  obtain ⟨_, cs, hgb⟩ := own_blk h.row hob
  have hoth : ∀ b, b ≠ g → (W.setCell ⟨g, i, none⟩ (.pointer none)).heap[b]? = W.heap[b]? := fun b hb => Below.heap_setCell _ _ _ _ hb
  have orig : ∀ (j : Nat) (p : Ob), (L.set i none)[j]? = some (some p) → L[j]? = some (some p) := by
    intro j p hj
    rw [List.getElem?_set] at hj
    by_cases hji : i = j
    · rw [if_pos hji, if_pos hi] at hj; injection hj with hj; cases hj
    · rwa [if_neg hji] at hj
  refine ⟨?_, ?_, ?_, ?_⟩
  · rw [List.map_set, List.length_set]
    exact own_set1 h.row hg hi _
  · intro j p hj
    obtain ⟨h1, h2, h3⟩ := h.box j p (orig j p hj)
    refine ⟨?_, h2, own_same_blk h3 fun b hb => hoth b fun e => ?_⟩
    · rw [hoth _ fun e => ?_]
      · exact h1
      · rw [e, hgb] at h1; cases h1
    · subst e
      obtain ⟨_, cs2, h4⟩ := own_blk h3 hb
      rw [hgb] at h4
      injection h4 with h4
      injection h4 with _ h4
      cases h4
  · intro a b p q ha hb e
    exact h.nbx a b p q (orig a p ha) (orig b q hb) e
  · intro a b p q x ha hb e1 e2
    exact h.nfv a b p q x (orig a p ha) (orig b q hb) e1 e2
theorem HF.gone {ov : Value} {L : List (Option Ob)} {i b : Nat} (h : HF ov (L.set i none) b) : HF ov L b := by
  rcases h with h | ⟨j, o, hj, h⟩
  · exact .inl h
  · refine .inr ⟨j, o, ?_, h⟩
    rw [List.getElem?_set] at hj
    by_cases hji : i = j
    · rw [if_pos hji] at hj; split at hj <;> (try injection hj with hj) <;> cases hj
    · rwa [if_neg hji] at hj
theorem HF.put {ov : Value} {L : List (Option Ob)} {i k b : Nat} {o : Ob} {u : Vl} (hi : L[i]? = some (some o)) (h : HF ov (L.set i (some { o with fs := o.fs.set k u })) b) : HF ov L b := by
  rcases h with h | ⟨j, p, hj, h⟩
  · exact .inl h
  · rw [List.getElem?_set] at hj
    by_cases hji : i = j
    · subst hji
      rw [if_pos rfl, if_pos (List.getElem?_eq_some_iff.1 hi).1] at hj
      injection hj with hj; injection hj with hj
      subst hj
      exact .inr ⟨i, o, hi, h⟩
    · rw [if_neg hji] at hj
      exact .inr ⟨j, p, hj, h⟩

/-- An object more. -/
theorem HObj.push (h : HObj W base ov L) (o : Ob) (ov' : Value) (hr : W'.ownsRow base 123 1 ov' (L.length + 1) (L.map Ob.ptr ++ [Ob.ptr (some o)])) (hg : W.grownBy W' ov.ownBlock)
    (hb : W.heap[o.bx]? = some (.cells #[o.fv] 48 (0, 0))) (hbb : base ≤ o.bx) (ho : OwnV W base o.fv o.fs) (hn1 : ¬ HF ov L o.bx) (hn2 : ∀ b, o.fv.ownBlock = some b → ¬ HF ov L b) : HObj W' base ov' (L ++ [some o]) := by
  have off : ∀ (b : Nat) (cs : Array Value) (t : TypeId), W.heap[b]? = some (.cells cs t (0, 0)) → t ≠ 123 → some b ≠ ov.ownBlock := by
    intro b cs t h1 h2 e
    obtain ⟨_, cs2, h3⟩ := own_blk h.row e.symm
    rw [h1] at h3
    injection h3 with h3
    injection h3 with _ h3
    exact h2 h3
  have keepO : ∀ p : Ob, W.heap[p.bx]? = some (.cells #[p.fv] 48 (0, 0)) → OwnV W base p.fv p.fs → W'.heap[p.bx]? = some (.cells #[p.fv] 48 (0, 0)) ∧ OwnV W' base p.fv p.fs := by
    intro p h1 h2
    refine ⟨(hg.block _ (lt_blk h1) (off _ _ _ h1 (by decide))).trans h1, own_same_blk h2 fun b hb => ?_⟩
    obtain ⟨_, cs, h3⟩ := own_blk h2 hb
    exact hg.block _ (lt_blk h3) (off _ _ _ h3 (by decide))
  have get : ∀ (j : Nat) (p : Ob), (L ++ [some o])[j]? = some (some p) → L[j]? = some (some p) ∨ (j = L.length ∧ p = o) := by
    intro j p hj
    rw [List.getElem?_append] at hj
    split at hj
    · exact .inl hj
    · rename_i hlt
      have : j - L.length = 0 := by
        rcases Nat.eq_zero_or_pos (j - L.length) with h0 | h0
        · exact h0
        · rw [List.getElem?_eq_none (by simp; omega)] at hj; cases hj
      rw [this] at hj
      simp at hj
      exact .inr ⟨by omega, hj.symm⟩
  refine ⟨by simpa using hr, ?_, ?_, ?_⟩
  · intro j p hj
    rcases get j p hj with hj | ⟨rfl, rfl⟩
    · obtain ⟨h1, h2, h3⟩ := h.box j p hj
      obtain ⟨h4, h5⟩ := keepO p h1 h3
      exact ⟨h4, h2, h5⟩
    · obtain ⟨h4, h5⟩ := keepO _ hb ho
      exact ⟨h4, hbb, h5⟩
  · intro a b p q ha hb' e
    rcases get a p ha with ha1 | ⟨rfl, rfl⟩ <;> rcases get b q hb' with hb1 | ⟨rfl, rfl⟩
    · exact h.nbx a b p q ha1 hb1 e
    · exact absurd (.inr ⟨a, p, ha1, .inl e.symm⟩) hn1
    · exact absurd (.inr ⟨b, q, hb1, .inl e⟩) hn1
    · rfl
  · intro a b p q x ha hb' e1 e2
    rcases get a p ha with ha1 | ⟨rfl, rfl⟩ <;> rcases get b q hb' with hb1 | ⟨rfl, rfl⟩
    · exact h.nfv a b p q x ha1 hb1 e1 e2
    · exact absurd (.inr ⟨a, p, ha1, .inr e1⟩) (hn2 x e2)
    · exact absurd (.inr ⟨b, q, hb1, .inr e2⟩) (hn2 x e1)
    · rfl
theorem HF.push {ov ov' : Value} {L : List (Option Ob)} {o : Ob} {b : Nat} (h : HF ov' (L ++ [some o]) b) : ov'.ownBlock = some b ∨ HF ov L b ∨ b = o.bx ∨ o.fv.ownBlock = some b := by
  rcases h with h | ⟨j, p, hj, h⟩
  · exact .inl h
  · rw [List.getElem?_append] at hj
    split at hj
    · exact .inr (.inl (.inr ⟨j, p, hj, h⟩))
    · rename_i hlt
      have : j - L.length = 0 := by
        rcases Nat.eq_zero_or_pos (j - L.length) with h0 | h0
        · exact h0
        · rw [List.getElem?_eq_none (by simp; omega)] at hj; cases hj
      rw [this] at hj
      simp at hj
      subst hj
      exact .inr (.inr h)
end

end Go.Proofs.Yteghhajfkdbcdaa
