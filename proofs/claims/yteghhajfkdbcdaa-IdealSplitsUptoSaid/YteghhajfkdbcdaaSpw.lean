/- Scripts one behind the other; two graphs compared. -/
import Derived.Test.YteghhajfkdbcdaaRun
import Derived.Test.YteghhajfkdbcdaaRefB
namespace Go.Proofs.Yteghhajfkdbcdaa
open Go.RowKit
set_option linter.unusedVariables false
set_option linter.unusedSimpArgs false

def flatD (xs : List Dl) : List Value := xs.flatMap Dl.cells
theorem flatD_length (xs : List Dl) : (flatD xs).length = xs.length * 5 := by
  induction xs with
  | nil => rfl
  | cons x xs ih => simp [flatD, Dl.cells] at ih ⊢; omega
theorem flatD_snoc (xs : List Dl) (y : Dl) : flatD (xs ++ [y]) = flatD xs ++ y.cells := by simp [flatD]
theorem flatD_get (xs : List Dl) (i : Nat) (h : i < xs.length) : (flatD xs)[i * 5]? = some (.int .i64 xs[i].kind) ∧ (flatD xs)[i * 5 + 1]? = some (.int .i64 xs[i].tgt) ∧ (flatD xs)[i * 5 + 2]? = some (.int .i64 xs[i].src) ∧ (flatD xs)[i * 5 + 3]? = some (.int .i64 xs[i].fld) ∧ (flatD xs)[i * 5 + 4]? = some (.int .i64 xs[i].n) := by
  induction xs generalizing i with
  | nil => simp at h
  | cons x xs ih =>
    cases i with
    | zero => simp [flatD, Dl.cells]
    | succ i =>
      have := ih i (by simpa using h)
      rw [show (i + 1) * 5 = i * 5 + 5 from by omega]
      simpa [flatD, Dl.cells, Nat.add_right_comm] using this
def OwnD (W : World) (base : Nat) (v : Value) (xs : List Dl) : Prop := W.ownsRow base 88 5 v xs.length (flatD xs)
theorem Try.info88 : (Try.prog.info? 88).map (fun i => (i.zero, i.size, i.bytes)) = some (some (.agg #[.int .i64 0, .int .i64 0, .int .i64 0, .int .i64 0, .int .i64 0]), 5, 40) := by kernel_rfl
theorem OwnD.nil (W : World) (base : Nat) : OwnD W base (.slice none 0 0) [] := ⟨by simp [flatD], .inl ⟨rfl, rfl⟩⟩
theorem OwnD.below {w w1 : World} {base : Nat} {v : Value} {xs : List Dl} (h : OwnD w base v xs) (hb : Below w.heap.size w w1) : OwnD w1 base v xs := own_below h hb
theorem OwnD.rd {W : World} {base : Nat} {v : Value} {xs : List Dl} (h : OwnD W base v xs) : RdD W v xs := by
  rcases h.2 with ⟨rfl, h0⟩ | ⟨g, cap, cur, rfl, hb, hh, h1, h2, h3, h4⟩
  · have : xs = [] := List.eq_nil_of_length_eq_zero h0
    subst this
    exact ⟨none, 0, rfl, by simp, fun i hi => by simp at hi⟩
  · refine ⟨_, cap, rfl, by unfold maxLen at h2; omega, fun i hi => ⟨g, 0, rfl, ?_⟩⟩
    have h5 := flatD_get xs i hi
    rw [← h4] at h5
    simp only [List.getElem?_take, Array.getElem?_toList] at h5
    rw [if_pos (by omega), if_pos (by omega), if_pos (by omega), if_pos (by omega), if_pos (by omega)] at h5
    simp only [Nat.zero_add]
    exact ⟨by simp [World.cell?, hh, h5.1], by simp [World.cell?, hh, h5.2.1], by simp [World.cell?, hh, h5.2.2.1], by simp [World.cell?, hh, h5.2.2.2.1], by simp [World.cell?, hh, h5.2.2.2.2]⟩
/-- 'append(l, d)' on a row of things to do. -/
theorem app_d {ops : Array Oper} {rest : List Oper} {o : Oper} {a : Act} {Q : Exit → Act → World → Prop} {w0 W : World} (base : Nat) (hgd : o.guard = none) (s x : Operand)
    (ho : o.op = .call { callee := .builtin .append, args := #[s, x], argTypes := #[22, 22] })
    (v : Value) (xs : List Dl) (y : Dl) (hs : a.eval s = v) (bx : Nat) (hx : a.eval x = .slice (some ⟨bx, 0, none⟩) 1 1) (hbx : W.heap.size = bx)
    (HO : OwnD W base v xs) (HB : Below base w0 W) (hbase : base ≤ W.heap.size) (hl : xs.length ≤ 1099511627776)
    (h : ∀ v1 w1, OwnD w1 base v1 (xs ++ [y]) → Below base w0 w1 → W.grownBy w1 v.ownBlock → (v1.ownBlock = v.ownBlock ∨ ∃ b, v1.ownBlock = some b ∧ W.heap.size ≤ b) → wpList Try.prog ops Q rest (a.put o.dst v1) w1) :
    wpList Try.prog ops Q (o :: rest) a (W.alloc (.cells #[.int .i64 y.kind, .int .i64 y.tgt, .int .i64 y.src, .int .i64 y.fld, .int .i64 y.n] 88)) :=
  app_one base hgd s x 22 88 5 40 _ ho Try.underlying22 Try.info88 rfl (by omega) (by omega) v xs.length (flatD xs) y.cells rfl (by simp [Dl.cells, Value.oneCell']) _ rfl hs bx hx hbx HO HB hbase (by omega)
    fun v1 w1 h1 h2 h3 h4 => h v1 w1 (by unfold OwnD; rw [flatD_snoc, List.length_append]; exact h1) h2 h3 h4

set_option maxRecDepth 20000 in
set_option maxHeartbeats 1000000 in
/-- ragpickerkeep.behind -/
theorem behind_any (w : World) (v1 v2 : Value) (xs ys : List Dl) (h : RdD w v1 xs) (h2 : RdD w v2 ys) (hz : xs.length ≤ 1048576) (hz2 : ys.length ≤ 1048576) :
    Calls Try.prog 34 #[v1, v2] w fun e w' => ∃ v', e = .returned v' ∧ RdD w' v' (xs ++ ys) ∧ Below w.heap.size w w' := by
  obtain ⟨A, c, rfl, hm, hc⟩ := h
  obtain ⟨A2, c2, rfl, hm2, hc2⟩ := h2
  go_enter Try.func34, Try.ntmps34
  go_wp2
  obtain ⟨w1, rfl⟩ : ∃ w1 : World, w1 = w := ⟨_, rfl⟩
  go_loopw [5, 12] (fun l i wr => ∃ k : Nat, k ≤ xs.length ∧ i = .int .i64 k ∧ OwnD wr w1.heap.size l (xs.take k) ∧ Below w1.heap.size w1 wr) (fun _ i _ => xs.length - (intOf i).toNat)
  case atStart => exact ⟨0, Nat.zero_le _, rfl, OwnD.nil _ _, Below.refl _ _⟩
  case round =>
    obtain ⟨k, hk, rfl, hn, hB⟩ := hrel
    by_cases hlt : k < xs.length
    · obtain ⟨b, off, rfl, e1, e2, e3, e4, e5⟩ := hc k hlt
      have hc1 := later_below hB _ _ e1
      have hd2 := later_below hB _ _ e2
      have hc3 := later_below hB _ _ e3
      have hc4 := later_below hB _ _ e4
      have hc5 := later_below hB _ _ e5
      clear e1 e2 e3 e4 e5 hc hc2
      go_wp2_with (at_builtin; go_loud (refine app_d (w0 := w1) w1.heap.size rfl _ _ rfl _ (xs.take k) xs[k] rfl _ rfl ?h0 ?h1 ?h2 ?h3 ?h4 ?_))
      case h0 => simp
      case h1 => exact hn.below (((Below.refl _ _).alloc (Nat.le_refl _) _))
      case h2 => exact hB.alloc hB.size _
      case h3 => simp; have := hB.size; omega
      case h4 => simp; omega
      intro v1 w2 hown hB2 hg hat
      go_wp2
      go_roundw
      case rel => exact ⟨k + 1, by omega, by go_num, hown, hB2⟩
      case measure => simp [intOf]; omega
    · have hn' : OwnD wr w1.heap.size u5 xs := by rw [List.take_of_length_le (by omega)] at hn; exact hn
      clear hn hc
      go_wp2_with fail
      obtain ⟨wo, rfl⟩ : ∃ wo : World, wo = wr := ⟨_, rfl⟩
      go_loopw [5, 23] (fun l i wr => ∃ k : Nat, k ≤ ys.length ∧ i = .int .i64 k ∧ OwnD wr w1.heap.size l (xs ++ ys.take k) ∧ Below w1.heap.size w1 wr) (fun _ i _ => ys.length - (intOf i).toNat)
      case atStart => exact ⟨0, Nat.zero_le _, rfl, by simpa using hn', hB⟩
      case round =>
        obtain ⟨k2, hk2, rfl, hn2, hB2⟩ := hrel
        clear hn' hB
        by_cases hlt2 : k2 < ys.length
        · obtain ⟨b, off, rfl, e1, e2, e3, e4, e5⟩ := hc2 k2 hlt2
          have hc1 := later_below hB2 _ _ e1
          have hd2 := later_below hB2 _ _ e2
          have hc3 := later_below hB2 _ _ e3
          have hc4 := later_below hB2 _ _ e4
          have hc5 := later_below hB2 _ _ e5
          clear e1 e2 e3 e4 e5 hc2
          go_wp2_with (at_builtin; go_loud (refine app_d (w0 := w1) w1.heap.size rfl _ _ rfl _ (xs ++ ys.take k2) ys[k2] rfl _ rfl ?g0 ?g1 ?g2 ?g3 ?g4 ?_))
          case g0 => simp
          case g1 => exact hn2.below (((Below.refl _ _).alloc (Nat.le_refl _) _))
          case g2 => exact hB2.alloc hB2.size _
          case g3 => simp; have := hB2.size; omega
          case g4 => simp; omega
          intro v1 w2 hown hB3 hg hat
          go_wp2
          go_roundw
          case rel => exact ⟨k2 + 1, by omega, by go_num, by simpa using hown, hB3⟩
          case measure => simp [intOf]; omega
        · have e : ys.take k2 = ys := List.take_of_length_le (by omega)
          rw [e] at hn2
          go_wp2
          go_ret
          exact ⟨_, rfl, hn2.rd, hB2⟩
end Go.Proofs.Yteghhajfkdbcdaa
