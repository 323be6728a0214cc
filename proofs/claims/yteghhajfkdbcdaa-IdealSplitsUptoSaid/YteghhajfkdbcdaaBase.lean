/- The words of all the proofs of this seat: how values, graphs, lists of the program read in memory; small laws. -/
import Derived.Test.YteghhajfkdbcdaaProg
import Derived.WalkKit
import Derived.Lib.Hide
import Derived.Deep.QuietTactic
import Derived.BigQuiet
import Derived.Deep.Draws
import Derived.Maps.AppendAt
import Derived.OwnWalk
import Derived.OwnWalkIn
import Derived.Deep.DeepCutAuto
import Derived.Deep.RegionHeld3
import Derived.Laws.StructEq
import Derived.WalkSpells
import Derived.WalkLawsBesides
namespace Go.Proofs.Yteghhajfkdbcdaa
open Go.RowKit
set_option linter.unusedVariables false
set_option linter.unusedSimpArgs false

/-- api.Value -/
structure Vl where
  ref : Bool
  n : Int
  deriving DecidableEq, Inhabited

/-- api.Out -/
structure Ol where
  code : Int
  ref : Bool
  n : Int
  deriving DecidableEq, Inhabited

/-- api.Do -/
structure Dl where
  kind : Int
  tgt : Int
  src : Int
  fld : Int
  n : Int
  deriving DecidableEq, Inhabited

/-- api.Count -/
structure Cl where
  obj : Int
  n : Int
  deriving DecidableEq, Inhabited

/-- api.Graph -/
structure G where
  objs : List (List Vl)
  roots : List Vl
  deriving DecidableEq, Inhabited

def Vl.cells (x : Vl) : List Value := [.bool x.ref, .int .i64 x.n]
def Ol.cells (x : Ol) : List Value := [.int .i64 x.code, .bool x.ref, .int .i64 x.n]
def Dl.cells (x : Dl) : List Value := [.int .i64 x.kind, .int .i64 x.tgt, .int .i64 x.src, .int .i64 x.fld, .int .i64 x.n]
def Cl.cells (x : Cl) : List Value := [.int .i64 x.obj, .int .i64 x.n]

/-- A slice of ints reads. -/
def RdI (w : World) (v : Value) (xs : List Int) : Prop :=
  ∃ A c, v = .slice A xs.length c ∧ xs.length ≤ 9223372036854775807 ∧ ∀ i, (h : i < xs.length) → ∃ b off, A = some ⟨b, off, none⟩ ∧ w.cell? ⟨b, off + i, none⟩ = some (.int .i64 xs[i])
/-- A slice of bools reads. -/
def RdB (w : World) (v : Value) (xs : List Bool) : Prop :=
  ∃ A c, v = .slice A xs.length c ∧ xs.length ≤ 9223372036854775807 ∧ ∀ i, (h : i < xs.length) → ∃ b off, A = some ⟨b, off, none⟩ ∧ w.cell? ⟨b, off + i, none⟩ = some (.bool xs[i])
/-- A slice of values reads. -/
def RdV (w : World) (v : Value) (xs : List Vl) : Prop :=
  ∃ A c, v = .slice A xs.length c ∧ (xs.length ≤ c ∧ xs.length ≤ 9223372036854775807) ∧ ∀ i, (h : i < xs.length) → ∃ b off, A = some ⟨b, off, none⟩ ∧ w.cell? ⟨b, off + i * 2, none⟩ = some (.bool xs[i].ref) ∧ w.cell? ⟨b, off + i * 2 + 1, none⟩ = some (.int .i64 xs[i].n)
/-- A slice of api.Out reads. -/
def RdU (w : World) (v : Value) (xs : List Ol) : Prop :=
  ∃ A c, v = .slice A xs.length c ∧ xs.length ≤ 9223372036854775807 ∧ ∀ i, (h : i < xs.length) → ∃ b off, A = some ⟨b, off, none⟩ ∧ w.cell? ⟨b, off + i * 3, none⟩ = some (.int .i64 xs[i].code) ∧ w.cell? ⟨b, off + i * 3 + 1, none⟩ = some (.bool xs[i].ref) ∧ w.cell? ⟨b, off + i * 3 + 2, none⟩ = some (.int .i64 xs[i].n)
/-- A slice of api.Count reads. -/
def RdC (w : World) (v : Value) (xs : List Cl) : Prop :=
  ∃ A c, v = .slice A xs.length c ∧ xs.length ≤ 9223372036854775807 ∧ ∀ i, (h : i < xs.length) → ∃ b off, A = some ⟨b, off, none⟩ ∧ w.cell? ⟨b, off + i * 2, none⟩ = some (.int .i64 xs[i].obj) ∧ w.cell? ⟨b, off + i * 2 + 1, none⟩ = some (.int .i64 xs[i].n)
/-- A slice of api.Do reads. -/
def RdD (w : World) (v : Value) (xs : List Dl) : Prop :=
  ∃ A c, v = .slice A xs.length c ∧ xs.length ≤ 9223372036854775807 ∧ ∀ i, (h : i < xs.length) → ∃ b off, A = some ⟨b, off, none⟩ ∧ w.cell? ⟨b, off + i * 5, none⟩ = some (.int .i64 xs[i].kind) ∧ w.cell? ⟨b, off + i * 5 + 1, none⟩ = some (.int .i64 xs[i].tgt)
    ∧ w.cell? ⟨b, off + i * 5 + 2, none⟩ = some (.int .i64 xs[i].src) ∧ w.cell? ⟨b, off + i * 5 + 3, none⟩ = some (.int .i64 xs[i].fld) ∧ w.cell? ⟨b, off + i * 5 + 4, none⟩ = some (.int .i64 xs[i].n)
/-- A slice of api.Object reads. -/
def RdO (w : World) (v : Value) (os : List (List Vl)) : Prop :=
  ∃ A c, v = .slice A os.length c ∧ os.length ≤ 9223372036854775807 ∧ ∀ i, (h : i < os.length) → ∃ b off fv, A = some ⟨b, off, none⟩ ∧ w.cell? ⟨b, off + i, none⟩ = some fv ∧ RdV w fv os[i]
/-- A graph reads. -/
def RdG (w : World) (v : Value) (g : G) : Prop := ∃ vo vr, v = .agg #[vo, vr] ∧ RdO w vo g.objs ∧ RdV w vr g.roots

theorem ret_bool {a b : Bool} (h : a = b) : Ending.returned (.bool a) = .returned (.bool b) := by rw [h]
theorem ret_int {k : IntKind} {a b : Int} (h : a = b) : Ending.returned (.int k a) = .returned (.int k b) := by rw [h]

/-- Cells that are there are there later. -/
def Later (w w' : World) : Prop := ∀ p v, w.cell? p = some v → w'.cell? p = some v
theorem Later.refl (w : World) : Later w w := fun _ _ h => h
theorem Later.trans {a b c : World} (h : Later a b) (k : Later b c) : Later a c := fun p v hp => k p v (h p v hp)
theorem later_below {w w' : World} (h : Below w.heap.size w w') : Later w w' := fun p v hp => (h.cell (World.block_lt_of_cell? w p hp)).trans hp
theorem later_drewN (w : World) (n : Nat) : Later w (w.drewN n) := fun p v hp => by simpa using hp

theorem RdI.later {w w' : World} {v : Value} {xs : List Int} (h : RdI w v xs) (hl : Later w w') : RdI w' v xs := by
  obtain ⟨A, c, e, hm, hc⟩ := h
  exact ⟨A, c, e, hm, fun i hi => by obtain ⟨b, off, ha, h1⟩ := hc i hi; exact ⟨b, off, ha, hl _ _ h1⟩⟩
theorem RdB.later {w w' : World} {v : Value} {xs : List Bool} (h : RdB w v xs) (hl : Later w w') : RdB w' v xs := by
  obtain ⟨A, c, e, hm, hc⟩ := h
  exact ⟨A, c, e, hm, fun i hi => by obtain ⟨b, off, ha, h1⟩ := hc i hi; exact ⟨b, off, ha, hl _ _ h1⟩⟩
theorem RdV.later {w w' : World} {v : Value} {xs : List Vl} (h : RdV w v xs) (hl : Later w w') : RdV w' v xs := by
  obtain ⟨A, c, e, hm, hc⟩ := h
  exact ⟨A, c, e, hm, fun i hi => by obtain ⟨b, off, ha, h1, h2⟩ := hc i hi; exact ⟨b, off, ha, hl _ _ h1, hl _ _ h2⟩⟩
theorem RdU.later {w w' : World} {v : Value} {xs : List Ol} (h : RdU w v xs) (hl : Later w w') : RdU w' v xs := by
  obtain ⟨A, c, e, hm, hc⟩ := h
  exact ⟨A, c, e, hm, fun i hi => by obtain ⟨b, off, ha, h1, h2, h3⟩ := hc i hi; exact ⟨b, off, ha, hl _ _ h1, hl _ _ h2, hl _ _ h3⟩⟩
theorem RdC.later {w w' : World} {v : Value} {xs : List Cl} (h : RdC w v xs) (hl : Later w w') : RdC w' v xs := by
  obtain ⟨A, c, e, hm, hc⟩ := h
  exact ⟨A, c, e, hm, fun i hi => by obtain ⟨b, off, ha, h1, h2⟩ := hc i hi; exact ⟨b, off, ha, hl _ _ h1, hl _ _ h2⟩⟩
theorem RdD.later {w w' : World} {v : Value} {xs : List Dl} (h : RdD w v xs) (hl : Later w w') : RdD w' v xs := by
  obtain ⟨A, c, e, hm, hc⟩ := h
  exact ⟨A, c, e, hm, fun i hi => by obtain ⟨b, off, ha, h1, h2, h3, h4, h5⟩ := hc i hi; exact ⟨b, off, ha, hl _ _ h1, hl _ _ h2, hl _ _ h3, hl _ _ h4, hl _ _ h5⟩⟩
theorem RdO.later {w w' : World} {v : Value} {xs : List (List Vl)} (h : RdO w v xs) (hl : Later w w') : RdO w' v xs := by
  obtain ⟨A, c, e, hm, hc⟩ := h
  exact ⟨A, c, e, hm, fun i hi => by obtain ⟨b, off, fv, ha, h1, h2⟩ := hc i hi; exact ⟨b, off, fv, ha, hl _ _ h1, h2.later hl⟩⟩
theorem RdG.later {w w' : World} {v : Value} {g : G} (h : RdG w v g) (hl : Later w w') : RdG w' v g := by
  obtain ⟨vo, vr, e, h1, h2⟩ := h
  exact ⟨vo, vr, e, h1.later hl, h2.later hl⟩

/-! ### Equality of the program's structs -/
def eqVl (a : Bool) (x : Int) (b : Bool) (y : Int) : Bool := (a == b) && (x == y)
theorem eqVl_iff (a b : Vl) : eqVl a.ref a.n b.ref b.n = true ↔ a = b := by
  obtain ⟨a, x⟩ := a; obtain ⟨b, y⟩ := b; simp [eqVl]
def eqOl (c : Int) (a : Bool) (x : Int) (d : Int) (b : Bool) (y : Int) : Bool := (c == d) && (a == b) && (x == y)
theorem eqOl_iff (a b : Ol) : eqOl a.code a.ref a.n b.code b.ref b.n = true ↔ a = b := by
  obtain ⟨c, a, x⟩ := a; obtain ⟨d, b, y⟩ := b; simp [eqOl, and_assoc]
def eqCl (x a y b : Int) : Bool := (x == y) && (a == b)
theorem eqCl_iff (a b : Cl) : eqCl a.obj a.n b.obj b.n = true ↔ a = b := by
  obtain ⟨a, x⟩ := a; obtain ⟨b, y⟩ := b; simp [eqCl]
@[go_sem] theorem eqg99 : Try.prog.eqGuardType Try.prog.depth 99 = false := by kernel_rfl
@[go_sem] theorem eqg37 : Try.prog.eqGuardType Try.prog.depth 37 = false := by kernel_rfl
@[go_sem] theorem eqg74 : Try.prog.eqGuardType Try.prog.depth 74 = false := by kernel_rfl
@[go_sem ↓] theorem eql_vl (w : World) (a b : Bool) (x y : Int) : (Op.equalIn 10000 99 (.agg #[.bool a, .int .i64 x]) (.agg #[.bool b, .int .i64 y])).run Try.prog w = .ok (eqVl a x b y) w := by
  have := run_equalIn_agg (P := Try.prog) w 9999 99 #[.bool a, .int .i64 x] #[.bool b, .int .i64 y] (by kernel_rfl) (by kernel_rfl)
  rw [this]
  have hf : (Try.prog.fieldsOf 99).toList = [{ name := "Ref", type := 4, offset := 0, embedded := false, tag := "", pkgPath := "", byteOffset := 0 }, { name := "N", type := 2, offset := 1, embedded := false, tag := "", pkgPath := "", byteOffset := 8 }] := by kernel_rfl
  rw [hf]
  have h1 := run_equalIn_bool' (P := Try.prog) w 9998 4 a b Try.underlying4
  have h2 := run_equalIn_int (P := Try.prog) w 9998 2 .i64 .i64 x y Try.underlying2
  unfold eqVl
  cases h : a == b <;> by_cases hx : x = y <;> simp [Op.eqFields, go_sem, h1, h2, h, hx]
@[go_sem ↓] theorem eql_cl (w : World) (a b : Int) (x y : Int) : (Op.equalIn 10000 74 (.agg #[.int .i64 a, .int .i64 x]) (.agg #[.int .i64 b, .int .i64 y])).run Try.prog w = .ok (eqCl a x b y) w := by
  have := run_equalIn_agg (P := Try.prog) w 9999 74 #[.int .i64 a, .int .i64 x] #[.int .i64 b, .int .i64 y] (by kernel_rfl) (by kernel_rfl)
  rw [this]
  have hf : (Try.prog.fieldsOf 74).toList = [{ name := "Object", type := 3, offset := 0, embedded := false, tag := "", pkgPath := "", byteOffset := 0 }, { name := "N", type := 3, offset := 1, embedded := false, tag := "", pkgPath := "", byteOffset := 8 }] := by kernel_rfl
  rw [hf]
  have h1 := run_equalIn_int (P := Try.prog) w 9998 3 .i64 .i64 a b Try.underlying3
  have h2 := run_equalIn_int (P := Try.prog) w 9998 3 .i64 .i64 x y Try.underlying3
  unfold eqCl
  by_cases h : a = b <;> by_cases hx : x = y <;> simp [Op.eqFields, go_sem, h1, h2, h, hx]
@[go_sem ↓] theorem eql_ol (w : World) (c d : Int) (a b : Bool) (x y : Int) : (Op.equalIn 10000 37 (.agg #[.int .i64 c, .bool a, .int .i64 x]) (.agg #[.int .i64 d, .bool b, .int .i64 y])).run Try.prog w = .ok (eqOl c a x d b y) w := by
  have := run_equalIn_agg (P := Try.prog) w 9999 37 #[.int .i64 c, .bool a, .int .i64 x] #[.int .i64 d, .bool b, .int .i64 y] (by kernel_rfl) (by kernel_rfl)
  rw [this]
  have hf : (Try.prog.fieldsOf 37).toList = [{ name := "Code", type := 30, offset := 0, embedded := false, tag := "", pkgPath := "", byteOffset := 0 }, { name := "Ref", type := 4, offset := 1, embedded := false, tag := "", pkgPath := "", byteOffset := 8 }, { name := "N", type := 2, offset := 2, embedded := false, tag := "", pkgPath := "", byteOffset := 16 }] := by kernel_rfl
  rw [hf]
  have h0 := run_equalIn_int (P := Try.prog) w 9998 30 .i64 .i64 c d Try.underlying30
  have h1 := run_equalIn_bool' (P := Try.prog) w 9998 4 a b Try.underlying4
  have h2 := run_equalIn_int (P := Try.prog) w 9998 2 .i64 .i64 x y Try.underlying2
  unfold eqOl
  cases h' : c == d <;> cases h : a == b <;> by_cases hx : x = y <;> simp [Op.eqFields, go_sem, h0, h1, h2, h, h', hx]

/-! ### Rows of the call's own -/
theorem add_plain (g j : Nat) : (⟨g, 0, none⟩ : Addr).add j = ⟨g, j, none⟩ := by unfold Addr.add; split <;> simp_all
theorem own_base {w : World} {base : Nat} {e : TypeId} {size n : Nat} {v : Value} {xs : List Value} (h : w.ownsRow base e size v n xs) (k : Nat) (hk : v.ownBlock = some k) : base ≤ k := by
  rcases h.2 with ⟨rfl, _⟩ | ⟨g, cap, cur, rfl, hb, _⟩
  · simp [Value.ownBlock] at hk
  · have : g = k := by simpa [Value.ownBlock] using hk
    omega
theorem grown_of_below {w w1 : World} (h : Below w.heap.size w w1) (row : Option Nat) : w.grownBy w1 row := ⟨h.os, h.tape, h.output, h.size, fun i hi _ => h.block i hi⟩
/-- What the call owns it owns later, if nothing that was there is turned. -/
theorem own_below {w w1 : World} {base : Nat} {e : TypeId} {size n : Nat} {v : Value} {xs : List Value} (h : w.ownsRow base e size v n xs) (hb : Below w.heap.size w w1) : w1.ownsRow base e size v n xs :=
  h.kept (grown_of_below hb none) (by cases v.ownBlock <;> simp)

/-- 'append(v, y)', y's box laid just ahead. -/
theorem app_one {P : Program} {ops : Array Oper} {rest : List Oper} {o : Oper} {a : Act} {Q : Exit → Act → World → Prop} {w0 W : World} (base : Nat) (hgd : o.guard = none) (s x : Operand) (t e : TypeId) (size bytes : Nat) (z : Value)
    (ho : o.op = .call { callee := .builtin .append, args := #[s, x], argTypes := #[t, t] })
    (ht : P.underlying t = some (.slice e)) (hinfo : (P.info? e).map (fun i => (i.zero, i.size, i.bytes)) = some (some z, size, bytes)) (hz : z.cells.size = size) (hsz : 0 < size) (hb0 : 0 < bytes)
    (v : Value) (n : Nat) (xs : List Value) (ys : List Value) (hys : ys.length = size) (hy1 : ∀ u ∈ ys, u.oneCell' = true) (cs : Array Value) (hcs : cs = ys.toArray) (hs : a.eval s = v) (bx : Nat) (hx : a.eval x = .slice (some ⟨bx, 0, none⟩) 1 1) (hbx : W.heap.size = bx)
    (HO : W.ownsRow base e size v n xs) (HB : Below base w0 W) (hbase : base ≤ W.heap.size) (hl : (n + 1) * bytes ≤ 140737488355328)
    (h : ∀ v1 w1, w1.ownsRow base e size v1 (n + 1) (xs ++ ys) → Below base w0 w1 → W.grownBy w1 v.ownBlock → (v1.ownBlock = v.ownBlock ∨ ∃ b, v1.ownBlock = some b ∧ W.heap.size ≤ b) → wpList P ops Q rest (a.put o.dst v1) w1) :
    wpList P ops Q (o :: rest) a (W.alloc (.cells cs e)) := by
  subst hcs
  subst hbx
  obtain ⟨i0, hi, hz0, hz1, hz2⟩ := info_parts hinfo
  have hlen : n + 1 ≤ 140737488355328 := Nat.le_trans (Nat.le_mul_of_pos_right _ hb0) hl
  refine wpList_append_own_at (W.alloc (.cells ys.toArray e)) hgd s x t ho base e i0 z size bytes ht hi hz0 hz1 hz2 hz hsz v n xs hs (HO.alloc _) ⟨W.heap.size, 0, none⟩ 1 1 ys hx (by simpa using hys) ?_ hy1 (by simp only [maxLen]; omega) hl (by simp; omega) ?_
  · intro j u hu
    rw [add_plain]
    have := heap_alloc_new W (.cells ys.toArray e)
    rw [World.cell?, this]
    simpa using hu
  · intro v1 w1 hown hg _ hat
    refine h v1 w1 hown ((HB.alloc hbase _).grown hg (by simp; omega) (own_base HO)) (World.grownBy.trans (World.grownBy_alloc W _ _) hg) ?_
    rcases hat with hat | hat
    · exact .inl hat
    · exact .inr ⟨_, hat, by simp⟩

def flatV (xs : List Vl) : List Value := xs.flatMap Vl.cells
def flatI (xs : List Int) : List Value := xs.map fun x => .int .i64 x
def OwnV (W : World) (base : Nat) (v : Value) (xs : List Vl) : Prop := W.ownsRow base 99 2 v xs.length (flatV xs)
def OwnI (W : World) (base : Nat) (v : Value) (xs : List Int) : Prop := W.ownsRow base 3 1 v xs.length (flatI xs)
theorem Try.info99 : (Try.prog.info? 99).map (fun i => (i.zero, i.size, i.bytes)) = some (some (.agg #[.bool false, .int .i64 0]), 2, 16) := by kernel_rfl
theorem Try.info3 : (Try.prog.info? 3).map (fun i => (i.zero, i.size, i.bytes)) = some (some (.int .i64 0), 1, 8) := by kernel_rfl
theorem flatV_length (xs : List Vl) : (flatV xs).length = xs.length * 2 := by
  induction xs with
  | nil => rfl
  | cons x xs ih => simp [flatV, Vl.cells] at ih ⊢; omega
theorem flatV_snoc (xs : List Vl) (y : Vl) : flatV (xs ++ [y]) = flatV xs ++ y.cells := by simp [flatV]
theorem flatV_get (xs : List Vl) (i : Nat) (h : i < xs.length) : (flatV xs)[i * 2]? = some (.bool xs[i].ref) ∧ (flatV xs)[i * 2 + 1]? = some (.int .i64 xs[i].n) := by
  induction xs generalizing i with
  | nil => simp at h
  | cons x xs ih =>
    cases i with
    | zero => simp [flatV, Vl.cells]
    | succ i =>
      have := ih i (by simpa using h)
      rw [show (i + 1) * 2 = i * 2 + 2 from by omega]
      simpa [flatV, Vl.cells, Nat.add_right_comm] using this
theorem OwnV.nil (W : World) (base : Nat) : OwnV W base (.slice none 0 0) [] := ⟨by simp [flatV], .inl ⟨rfl, rfl⟩⟩
theorem OwnI.nil (W : World) (base : Nat) : OwnI W base (.slice none 0 0) [] := ⟨by simp [flatI], .inl ⟨rfl, rfl⟩⟩
theorem OwnV.below {w w1 : World} {base : Nat} {v : Value} {xs : List Vl} (h : OwnV w base v xs) (hb : Below w.heap.size w w1) : OwnV w1 base v xs := own_below h hb
theorem OwnI.below {w w1 : World} {base : Nat} {v : Value} {xs : List Int} (h : OwnI w base v xs) (hb : Below w.heap.size w w1) : OwnI w1 base v xs := own_below h hb
theorem OwnV.rd {W : World} {base : Nat} {v : Value} {xs : List Vl} (h : OwnV W base v xs) : RdV W v xs := by
  rcases h.2 with ⟨rfl, h0⟩ | ⟨g, cap, cur, rfl, hb, hh, h1, h2, h3, h4⟩
  · have : xs = [] := List.eq_nil_of_length_eq_zero h0
    subst this
    exact ⟨none, 0, rfl, by simp, fun i hi => by simp at hi⟩
  · refine ⟨_, cap, rfl, by unfold maxLen at h2; omega, fun i hi => ⟨g, 0, rfl, ?_⟩⟩
    have h5 := flatV_get xs i hi
    rw [← h4] at h5
    simp only [List.getElem?_take, Array.getElem?_toList] at h5
    rw [if_pos (by omega), if_pos (by omega)] at h5
    simp only [Nat.zero_add]
    exact ⟨by simp [World.cell?, hh, h5.1], by simp [World.cell?, hh, h5.2]⟩
theorem OwnI.rd {W : World} {base : Nat} {v : Value} {xs : List Int} (h : OwnI W base v xs) : RdI W v xs := by
  rcases h.2 with ⟨rfl, h0⟩ | ⟨g, cap, cur, rfl, hb, hh, h1, h2, h3, h4⟩
  · have : xs = [] := List.eq_nil_of_length_eq_zero h0
    subst this
    exact ⟨none, 0, rfl, by simp, fun i hi => by simp at hi⟩
  · refine ⟨_, cap, rfl, by unfold maxLen at h2; omega, fun i hi => ⟨g, 0, rfl, ?_⟩⟩
    have h5 : (flatI xs)[i]? = some (.int .i64 xs[i]) := by simp [flatI, hi]
    rw [← h4] at h5
    simp only [List.getElem?_take, Array.getElem?_toList] at h5
    rw [if_pos (by omega)] at h5
    simp only [Nat.zero_add]
    simp [World.cell?, hh, h5]

/-- 'append(l, v)' on a row of values. -/
theorem app_v {ops : Array Oper} {rest : List Oper} {o : Oper} {a : Act} {Q : Exit → Act → World → Prop} {w0 W : World} (base : Nat) (hgd : o.guard = none) (s x : Operand)
    (ho : o.op = .call { callee := .builtin .append, args := #[s, x], argTypes := #[25, 25] })
    (v : Value) (xs : List Vl) (y : Vl) (hs : a.eval s = v) (bx : Nat) (hx : a.eval x = .slice (some ⟨bx, 0, none⟩) 1 1) (hbx : W.heap.size = bx)
    (HO : OwnV W base v xs) (HB : Below base w0 W) (hbase : base ≤ W.heap.size) (hl : xs.length ≤ 1099511627776)
    (h : ∀ v1 w1, OwnV w1 base v1 (xs ++ [y]) → Below base w0 w1 → W.grownBy w1 v.ownBlock → (v1.ownBlock = v.ownBlock ∨ ∃ b, v1.ownBlock = some b ∧ W.heap.size ≤ b) → wpList Try.prog ops Q rest (a.put o.dst v1) w1) :
    wpList Try.prog ops Q (o :: rest) a (W.alloc (.cells #[.bool y.ref, .int .i64 y.n] 99)) :=
  app_one base hgd s x 25 99 2 16 _ ho Try.underlying25 Try.info99 rfl (by omega) (by omega) v xs.length (flatV xs) y.cells rfl (by simp [Vl.cells, Value.oneCell']) _ rfl hs bx hx hbx HO HB hbase (by omega)
    fun v1 w1 h1 h2 h3 h4 => h v1 w1 (by unfold OwnV; rw [flatV_snoc, List.length_append]; exact h1) h2 h3 h4
/-- 'append(l, n)' on a row of ints. -/
theorem app_i {ops : Array Oper} {rest : List Oper} {o : Oper} {a : Act} {Q : Exit → Act → World → Prop} {w0 W : World} (base : Nat) (hgd : o.guard = none) (s x : Operand)
    (ho : o.op = .call { callee := .builtin .append, args := #[s, x], argTypes := #[39, 39] })
    (v : Value) (xs : List Int) (y : Int) (hs : a.eval s = v) (bx : Nat) (hx : a.eval x = .slice (some ⟨bx, 0, none⟩) 1 1) (hbx : W.heap.size = bx)
    (HO : OwnI W base v xs) (HB : Below base w0 W) (hbase : base ≤ W.heap.size) (hl : xs.length ≤ 1099511627776)
    (h : ∀ v1 w1, OwnI w1 base v1 (xs ++ [y]) → Below base w0 w1 → W.grownBy w1 v.ownBlock → (v1.ownBlock = v.ownBlock ∨ ∃ b, v1.ownBlock = some b ∧ W.heap.size ≤ b) → wpList Try.prog ops Q rest (a.put o.dst v1) w1) :
    wpList Try.prog ops Q (o :: rest) a (W.alloc (.cells #[.int .i64 y] 3)) :=
  app_one base hgd s x 39 3 1 8 _ ho Try.underlying39 Try.info3 rfl (by omega) (by omega) v xs.length (flatI xs) [.int .i64 y] rfl (by simp [Value.oneCell']) _ rfl hs bx hx hbx HO HB hbase (by omega)
    fun v1 w1 h1 h2 h3 h4 => h v1 w1 (by unfold OwnI; rw [List.length_append]; simpa [flatI] using h1) h2 h3 h4

end Go.Proofs.Yteghhajfkdbcdaa
