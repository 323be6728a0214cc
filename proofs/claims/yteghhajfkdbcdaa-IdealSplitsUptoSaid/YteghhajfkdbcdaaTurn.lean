/- graph.Renumber: its closure; maps from int64 to int64. -/
import Derived.Test.YteghhajfkdbcdaaClone
import Derived.Maps.OwnOps
namespace Go.Proofs.Yteghhajfkdbcdaa
open Go.RowKit
set_option linter.unusedVariables false
set_option linter.unusedSimpArgs false

/-- Block b is a map from int64 to int64 of at most n entries, which answers f. -/
def MapI (W : World) (b n : Nat) (f : Int → Int) : Prop :=
  ∃ D : DataW Unit, W.ownsMap Try.prog 2 (plainElem Try.prog 2) b n D ∧ Maps.IsMap D ∧ ∀ k, (Lit.int .i64 k).wf = true → D.atKey (.int .i64 k) (.lit (.int .i64 0)) = .lit (.int .i64 (f k))
theorem MapI.made (w : World) : MapI (w.alloc (.map #[] 0)) w.heap.size 0 (fun _ => 0) :=
  ⟨_, World.ownsMap_made _ _ _ _, Maps.isMap_empty, fun k _ => rfl⟩
theorem MapI.kept {w w' : World} {b n : Nat} {f : Int → Int} {row : Option Nat} (h : MapI w b n f) (hg : w.grownBy w' row) (hne : some b ≠ row) : MapI w' b n f := by
  obtain ⟨D, h1, h2, h3⟩ := h
  exact ⟨D, h1.kept hg hne, h2, h3⟩
theorem MapI.below {w w' : World} {b n : Nat} {f : Int → Int} (h : MapI w b n f) (hb : Below w.heap.size w w') : MapI w' b n f := h.kept (grown_of_below hb none) (by simp)
theorem MapI.lt {w : World} {b n : Nat} {f : Int → Int} (h : MapI w b n f) : b < w.heap.size := by
  obtain ⟨D, h1, _⟩ := h; exact h1.lt

theorem zeroV2 (w : World) : (zeroValue 2).run Try.prog w = .ok (.int .i64 0) w := by kernel_rfl

/-- 'm[k] = v' -/
theorem upd_i {ops : Array Oper} {rest : List Oper} {o : Oper} {a : Act} {Q : Exit → Act → World → Prop} {w : World} (hg : o.guard = none) (m x v : Operand) (hop : o.op = Op.mapUpdate 177 m x v)
    (b n : Nat) (f : Int → Int) (hm : a.eval m = .map (some b)) (h : MapI w b n f) (hn : n < 1099511627776) (key val : Int) (hx : a.eval x = .int .i64 key) (hv : a.eval v = .int .i64 val)
    (wk : (Lit.int .i64 key).wf = true) (wv : (Lit.int .i64 val).wf = true)
    (hK : ∀ w', MapI w' b (n + 1) (fun k => if k = key then val else f k) → w.grownBy w' (some b) → wpList Try.prog ops Q rest (a.put o.dst undef) w') : wpList Try.prog ops Q (o :: rest) a w := by
  obtain ⟨D, h1, h2, h3⟩ := h
  refine wpList_mapUpdate_own w hg m x v 177 hop 2 2 (Maps.int_keyed Try.underlying2) Try.underlying177 _ b n D hm h1 (by unfold maxLen; omega) _ _ _ hx hv (Maps.keyOf_int_mk Try.underlying2 wk) _ _ (plainElem_int Try.underlying2 wv) ?_
  intro w' hown hgr
  refine hK w' ⟨_, hown, h2.put _ _, fun k wk' => ?_⟩ hgr
  by_cases e : k = key
  · subst e; rw [Maps.atKey_put_same h2 (by trivial)]; simp
  · rw [Maps.atKey_put_other (by intro h; injection h with h1 h2; exact e h2), h3 k wk']
    show _ = DataW.lit (Lit.int .i64 (if k = key then val else f k))
    rw [if_neg e]
/-- 'm[k]' -/
theorem look_i {ops : Array Oper} {rest : List Oper} {o : Oper} {a : Act} {Q : Exit → Act → World → Prop} {w : World} (hg : o.guard = none) (m x : Operand) (hop : o.op = Op.lookup 177 m x false)
    (b n : Nat) (f : Int → Int) (hm : a.eval m = .map (some b)) (h : MapI w b n f) (key : Int) (hx : a.eval x = .int .i64 key)
    (wk : (Lit.int .i64 key).wf = true)
    (hK : wpList Try.prog ops Q rest (a.put o.dst (.int .i64 (f key))) w) : wpList Try.prog ops Q (o :: rest) a w := by
  obtain ⟨D, h1, h2, h3⟩ := h
  refine wpList_lookup_own_int w hg m x 177 hop 2 2 .i64 (Maps.int_keyed Try.underlying2) Try.underlying177 Try.underlying2 (zeroV2 _) b n D hm h1 _ _ hx (Maps.keyOf_int_mk Try.underlying2 wk) ?_
  intro c hat _
  rw [h3 key wk] at hat
  injection hat with hat
  injection hat with _ hat
  subst hat
  exact hK

/-- The place of a number in a list, the last one; 0, if it isn't there. -/
def numIn (l : List Int) (x : Int) : Int := (l.foldl (fun (p : Int × Int) y => (p.1 + 1, if x = y then p.1 else p.2)) (0, 0)).2
theorem numIn_fold (l : List Int) (x : Int) : ∀ (a b : Int), (l.foldl (fun (p : Int × Int) y => (p.1 + 1, if x = y then p.1 else p.2)) (a, b)).1 = a + l.length := by
  induction l with
  | nil => simp
  | cons y l ih => intro a b; rw [List.foldl_cons, ih]; simp; omega
theorem numIn_snoc (l : List Int) (y x : Int) : numIn (l ++ [y]) x = if x = y then (l.length : Int) else numIn l x := by
  unfold numIn
  rw [List.foldl_append, List.foldl_cons, List.foldl_nil, numIn_fold]
  simp

def turnV (l : List Int) (vs : List Vl) : List Vl := vs.map fun v => if v.ref then ⟨true, numIn l v.n⟩ else v
theorem turnV_snoc (l : List Int) (vs : List Vl) (v : Vl) : turnV l (vs ++ [v]) = turnV l vs ++ [if v.ref then ⟨true, numIn l v.n⟩ else v] := by simp [turnV]

set_option maxRecDepth 20000 in
set_option maxHeartbeats 1000000 in
/-- graph.Renumber's closure -/
theorem turn_any (w : World) (bx M n : Nat) (l : List Int) (v : Value) (vs : List Vl) (hbx : w.cell? ⟨bx, 0, none⟩ = some (.map (some M))) (hM : MapI w M n (numIn l)) (h : RdV w v vs) (hz : vs.length ≤ 1099511627776)
    (hwf : ∀ x ∈ vs, x.ref = true → (Lit.int .i64 x.n).wf = true) :
    Calls Try.prog 95 #[v, .pointer (some ⟨bx, 0, none⟩)] w fun e w' => ∃ v', e = .returned v' ∧ OwnV w' w.heap.size v' (turnV l vs) ∧ Below w.heap.size w w' := by
  obtain ⟨A, c, rfl, hm, hc⟩ := h
  go_enter Try.func95, Try.ntmps95
  go_wp2
  go_loopw [4, 9] (fun l' i wr => ∃ k : Nat, k ≤ vs.length ∧ i = .int .i64 k ∧ OwnV wr w.heap.size l' (turnV l (vs.take k)) ∧ Below w.heap.size w wr) (fun _ i _ => vs.length - (intOf i).toNat)
  case atStart => exact ⟨0, Nat.zero_le _, rfl, OwnV.nil _ _, Below.refl _ _⟩
  case round =>
    obtain ⟨k, hk, rfl, hn, hB⟩ := hrel
    by_cases hlt : k < vs.length
    · obtain ⟨b, off, rfl, hcell, hcell'⟩ := hc k hlt
      have hc1 := later_below hB _ _ hcell
      have hc2 := later_below hB _ _ hcell'
      have hb1 := later_below hB _ _ hbx
      have hz1 := World.block_lt_of_cell? _ _ hb1
      dsimp only at hz1
      have hM1 := hM.below hB
      have hwk := hwf vs[k] (List.getElem_mem hlt)
      obtain ⟨r5, n5, hv5⟩ : ∃ r5 n5, vs[k] = ⟨r5, n5⟩ := ⟨_, _, rfl⟩
      rw [hv5] at hc1 hc2 hwk
      have Hsn : Hid (turnV l (vs.take (k + 1)) = turnV l (vs.take k) ++ [if r5 then ⟨true, numIn l n5⟩ else ⟨r5, n5⟩]) := by
        rw [List.take_succ_eq_append_getElem hlt, hv5, turnV_snoc]; exact rfl
      have Hwk := Lib.hid hwk
      have HM1 := Lib.hid hM1
      clear hv5 hcell hcell' hc hbx hM hM1 hwk hwf
      cases r5
      · go_wp2_with (at_builtin; go_loud (refine app_v (w0 := w) w.heap.size rfl _ _ rfl _ (turnV l (vs.take k)) ⟨false, n5⟩ rfl _ rfl (World.size_alloc _ _) ?h1 ?h2 ?h3 ?h4 ?_))
        case h1 => exact hn.below ((Below.refl _ _).alloc (Nat.le_refl _) _)
        case h2 => exact hB.alloc hB.size _
        case h3 => have := hB.size; first | omega | (simp; omega)
        case h4 => unfold turnV; rw [List.length_map, List.length_take]; omega
        intro v1 w2 hown hB2 hg hat
        go_wp2
        go_roundw
        case rel => exact ⟨k + 1, by omega, by go_num, by rw [Hsn.out]; exact hown, hB2⟩
        case measure => simp [intOf]; omega
      · go_wp2_with (first | (at_lookup; refine look_i rfl _ _ rfl M n (numIn l) rfl (HM1.out.below ((Below.refl _ _).alloc (Nat.le_refl _) _)) n5 rfl (Hwk.out rfl) ?_) | (at_builtin; go_loud (refine app_v (w0 := w) w.heap.size rfl _ _ rfl _ (turnV l (vs.take k)) ⟨true, numIn l n5⟩ rfl _ rfl (World.size_alloc _ _) ?g1 ?g2 ?g3 ?g4 ?_)))
        case g1 => exact hn.below ((Below.refl _ _).alloc (Nat.le_refl _) _)
        case g2 => exact hB.alloc hB.size _
        case g3 => have := hB.size; first | omega | (simp; omega)
        case g4 => unfold turnV; rw [List.length_map, List.length_take]; omega
        intro v1 w2 hown hB2 hg hat
        go_wp2
        go_roundw
        case rel => exact ⟨k + 1, by omega, by go_num, by rw [Hsn.out]; exact hown, hB2⟩
        case measure => simp [intOf]; omega
    · go_wp2
      go_ret
      have e : vs.take k = vs := List.take_of_length_le (by omega)
      rw [e] at hn
      exact ⟨_, rfl, hn, hB⟩

end Go.Proofs.Yteghhajfkdbcdaa
