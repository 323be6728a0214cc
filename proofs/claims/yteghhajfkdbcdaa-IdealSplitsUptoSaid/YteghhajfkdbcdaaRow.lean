/- Small laws on blocks and rows. -/
import Derived.Test.YteghhajfkdbcdaaTurn
import Derived.Deep.AppendLies
import Derived.Deep.RegionLaw
namespace Go.Proofs.Yteghhajfkdbcdaa
open Go.RowKit
set_option linter.unusedVariables false
set_option linter.unusedSimpArgs false

theorem Try.info48 : (Try.prog.info? 48).map (fun i => (i.zero, i.size, i.bytes)) = some (some (.agg #[.slice none 0 0]), 1, 24) := by kernel_rfl

theorem wf_i64 (x : Int) (h1 : -9223372036854775808 ≤ x) (h2 : x ≤ 9223372036854775807) : (Lit.int .i64 x).wf = true := by
  have e1 : IntKind.i64.min = -9223372036854775808 := by rfl
  have e2 : IntKind.i64.max = 9223372036854775807 := by rfl
  simp [Lit.wf, e1, e2, h1, h2]
theorem heap_alloc_at (w : World) (o : Obj) (k : Nat) : (w.alloc o).heap[k]? = if k = w.heap.size then some o else w.heap[k]? := by
  by_cases h : k = w.heap.size
  · rw [if_pos h, h]; exact heap_alloc_new w o
  · rw [if_neg h]
    rcases Nat.lt_or_ge k w.heap.size with h1 | h1
    · exact Below.heap_alloc w o k h1
    · rw [Array.getElem?_eq_none h1, Array.getElem?_eq_none (by rw [World.size_alloc]; omega)]
theorem at_new (w : World) (o : Obj) (k : Nat) (h : k = w.heap.size) : (w.alloc o).heap[k]? = some o := by rw [h]; exact heap_alloc_new w o
theorem at_old (w : World) (o : Obj) (k : Nat) (r : Option Obj) (h : k < w.heap.size) (hr : w.heap[k]? = r) : (w.alloc o).heap[k]? = r := by rw [Below.heap_alloc w o k h]; exact hr
theorem cell_blk {w : World} {b j : Nat} {cs : Array Value} {t : TypeId} {fr : Nat × Nat} {v : Value} (hb : w.heap[b]? = some (.cells cs t fr)) (hv : cs[j]? = some v) : w.cell? ⟨b, j, none⟩ = some v := by rw [cell_of_row w b j cs t fr hb, hv]
theorem set_blk {w : World} {b j : Nat} {cs : Array Value} {t : TypeId} {fr : Nat × Nat} {u : Value} (h : w.heap[b]? = some (.cells cs t fr)) : (w.setCell ⟨b, j, none⟩ u).heap[b]? = some (.cells (cs.setIfInBounds j u) t fr) := by
  have hlt : b < w.heap.size := by
    rcases Nat.lt_or_ge b w.heap.size with hh | hh
    · exact hh
    · rw [Array.getElem?_eq_none hh] at h; cases h
  simp only [World.setCell, Array.getElem?_modify, if_true, h, Option.map_some]
  rfl
theorem frozen_blk {w : World} {b j : Nat} {cs : Array Value} {t : TypeId} (hb : w.heap[b]? = some (.cells cs t (0, 0))) : w.frozen? ⟨b, j, none⟩ = false := by simp [World.frozen?, hb]
theorem lt_blk {w : World} {b : Nat} {o : Obj} (hb : w.heap[b]? = some o) : b < w.heap.size := by
  rcases Nat.lt_or_ge b w.heap.size with h | h
  · exact h
  · rw [Array.getElem?_eq_none h] at hb; cases hb
theorem blk_below {w w1 : World} {b : Nat} {o : Obj} (h : Below w.heap.size w w1) (hb : w.heap[b]? = some o) : w1.heap[b]? = some o := by rw [h.block b (lt_blk hb)]; exact hb
/-- Rows of two types are two rows. -/
theorem own_type_ne {w : World} {b b' : Nat} {e e' : TypeId} {s s' n n' : Nat} {v v' : Value} {xs xs' : List Value} (h : w.ownsRow b e s v n xs) (h' : w.ownsRow b' e' s' v' n' xs') (hne : e ≠ e') : v.ownBlock = none ∨ v.ownBlock ≠ v'.ownBlock := by
  rcases h.2 with ⟨rfl, _⟩ | ⟨g, cap, cur, rfl, _, hh, _⟩
  · exact .inl rfl
  · refine .inr fun hk => ?_
    rcases h'.2 with ⟨rfl, _⟩ | ⟨g', cap', cur', rfl, _, hh', _⟩
    · simp [Value.ownBlock] at hk
    · have : g = g' := by simpa [Value.ownBlock] using hk
      subst this
      rw [hh] at hh'
      injection hh' with hh'
      injection hh' with _ ht
      exact hne ht

/-- A row of objects of the call's own, their fields too. -/
def OwnO (W : World) (base : Nat) (v : Value) (os : List (List Vl)) : Prop :=
  ∃ fvs : List Value, W.ownsRow base 48 1 v os.length fvs ∧ ∀ i, (h : i < os.length) → ∃ fv, fvs[i]? = some fv ∧ OwnV W base fv os[i]
theorem OwnO.nil (W : World) (base : Nat) : OwnO W base (.slice none 0 0) [] := ⟨[], ⟨by simp, .inl ⟨rfl, rfl⟩⟩, fun i h => by simp at h⟩
theorem OwnO.below {w w1 : World} {base : Nat} {v : Value} {os : List (List Vl)} (h : OwnO w base v os) (hb : Below w.heap.size w w1) : OwnO w1 base v os := by
  obtain ⟨fvs, h1, h2⟩ := h
  exact ⟨fvs, own_below h1 hb, fun i hi => by obtain ⟨fv, e, h3⟩ := h2 i hi; exact ⟨fv, e, h3.below hb⟩⟩
theorem OwnO.rd {W : World} {base : Nat} {v : Value} {os : List (List Vl)} (h : OwnO W base v os) : RdO W v os := by
  obtain ⟨fvs, h, h2⟩ := h
  rcases h.2 with ⟨rfl, h0⟩ | ⟨g, cap, cur, rfl, hb, hh, h1, h3, h4, h5⟩
  · have : os = [] := List.eq_nil_of_length_eq_zero h0
    subst this
    exact ⟨none, 0, rfl, by simp, fun i hi => by simp at hi⟩
  · refine ⟨_, cap, rfl, by unfold maxLen at h3; omega, fun i hi => ?_⟩
    obtain ⟨fv, e, h6⟩ := h2 i hi
    refine ⟨g, 0, fv, rfl, ?_, h6.rd⟩
    rw [← h5] at e
    simp only [List.getElem?_take, Array.getElem?_toList] at e
    rw [if_pos (by omega)] at e
    simp only [Nat.zero_add]
    simp [World.cell?, hh, e]

/-- 'append(o, Object{fv})'. -/
theorem run_app_o {w0 W3 : World} (base : Nat) (v : Value) (os : List (List Vl)) (y : List Vl) (fv : Value) (bx : Nat) (hbx : W3.heap.size = bx)
    (HO : OwnO W3 base v os) (hyv : OwnV W3 base fv y) (HB : Below base w0 W3) (hbase : base ≤ W3.heap.size) (hl : os.length ≤ 1099511627776) (ty : TypeId) :
    ∃ g cap w1, (Builtin.append_ #[24, 24] ty #[v, .slice (some ⟨bx, 0, none⟩) 1 1]).run Try.prog (W3.alloc (.cells #[fv] 48)) = .ok (.slice (some ⟨g, 0, none⟩) (os.length + 1) cap) w1 ∧
      OwnO w1 base (.slice (some ⟨g, 0, none⟩) (os.length + 1) cap) (os ++ [y]) ∧ Below base w0 w1 ∧ W3.grownBy w1 v.ownBlock := by
  subst hbx
  obtain ⟨i0, hi, hz0, hz1, hz2⟩ := info_parts Try.info48
  obtain ⟨fvs, hown, hfs⟩ := HO
  have h1c : fv.oneCell' = true := by
    obtain ⟨A, c, rfl, _⟩ := hyv.rd
    rfl
  obtain ⟨g, cap, w1, hr, ho, hg, hat, hlt⟩ := run_append_lies (P := Try.prog) (W3.alloc (.cells #[fv] 48)) 24 ty base 48 i0 _ 1 24 Try.underlying24 hi hz0 hz1 hz2 rfl (by omega) v os.length fvs (hown.alloc _) ⟨W3.heap.size, 0, none⟩ 1 1 [fv] rfl (World.news_of_block (cs := #[fv]) (t := 48) (fr := (0, 0)) (heap_alloc_new W3 _)) (by simpa using h1c) (by omega) (by unfold maxLen; omega) (by omega) (by simp; omega) _ rfl
  have hg' : W3.grownBy w1 v.ownBlock := World.grownBy.trans (World.grownBy_alloc W3 _ _) hg
  have keepV : ∀ fv' o', OwnV W3 base fv' o' → OwnV w1 base fv' o' := fun fv' o' h => h.kept hg' (own_type_ne h hown (by decide))
  refine ⟨g, cap, w1, hr, ⟨fvs ++ [fv], by simpa using ho, fun i hi => ?_⟩, HB.grown hg' hbase (own_base hown), hg'⟩
  rw [List.length_append] at hi
  by_cases hlt : i < os.length
  · obtain ⟨fv', e, h'⟩ := hfs i hlt
    exact ⟨fv', by rw [List.getElem?_append_left (List.getElem?_eq_some_iff.1 e).1]; exact e, by rw [List.getElem_append_left hlt]; exact keepV _ _ h'⟩
  · have hlen : fvs.length = os.length := by have := hown.1; omega
    have : i = os.length := by simp at hi; omega
    subst this
    exact ⟨fv, by rw [← hlen]; simp, by simpa using keepV _ _ hyv⟩

theorem step_app_o {ops : Array Oper} {o : Oper} {a : Act} {K : Act → World → Prop} {Q : Exit → Act → World → Prop} {E : Prop} {w0 W3 : World} (hgd : o.guard = none) (s x : Operand)
    (ho : o.op = .call { callee := .builtin .append, args := #[s, x], argTypes := #[24, 24] })
    (base : Nat) (v : Value) (os : List (List Vl)) (y : List Vl) (fv : Value) (bx : Nat) (hbx : W3.heap.size = bx) (hs : a.eval s = v) (hx : a.eval x = .slice (some ⟨bx, 0, none⟩) 1 1)
    (HO : OwnO W3 base v os) (hyv : OwnV W3 base fv y) (HB : Below base w0 W3) (hbase : base ≤ W3.heap.size) (hl : os.length ≤ 1099511627776)
    (h : ∀ g cap w1, OwnO w1 base (.slice (some ⟨g, 0, none⟩) (os.length + 1) cap) (os ++ [y]) → Below base w0 w1 → W3.grownBy w1 v.ownBlock → K (a.put o.dst (.slice (some ⟨g, 0, none⟩) (os.length + 1) cap)) w1) :
    if Region.wanted o (yielded ops a.tmps) = true then Oper.wp Try.prog o a (W3.alloc (.cells #[fv] 48)) K Q else E := by
  have hw : Region.wanted o (yielded ops a.tmps) = true := by simp [Region.wanted, hgd]
  rw [if_pos hw]
  obtain ⟨g, cap, w1, hr, h2, h3, h4⟩ := run_app_o base v os y fv bx hbx HO hyv HB hbase hl o.type
  unfold Oper.wp execOp
  simp only [ho, resolve, invoke, builtin, Sem.run_bind, Sem.run_pure, Result.andThen_ok, List.map_toArray, List.map_cons, List.map_nil, hs, hx, hr]
  exact h g cap w1 h2 h3 h4

theorem results_g {fn : Func} {t : Tmp} (h : fn.results = #[.cell t 27]) (tmps : Array Value) (w : World) (b : Nat) (x y : Value) (hp : tmps.getD t undef = .pointer (some ⟨b, 0, none⟩)) (h0 : w.cell? ⟨b, 0, none⟩ = some x) (h1 : w.cell? ⟨b, 1, none⟩ = some y) :
    (results fn tmps).run Try.prog w = .ok (.agg #[x, y]) w := by
  have hp' : tmps[t]?.getD undef = .pointer (some ⟨b, 0, none⟩) := by simpa using hp
  simp [results, h, go_sem, hp', asAddr, loadVar, h0, h1, Result.andThen]
theorem setCell_new {w : World} {b i : Nat} {u v : Value} (h : w.cell? ⟨b, i, none⟩ = some v) : (w.setCell ⟨b, i, none⟩ u).cell? ⟨b, i, none⟩ = some u := by
  simp [go_sem, h]
theorem later_setCell {w w' : World} {p : Addr} {u : Value} (h : Later w w') (hp : ∀ q v, w.cell? q = some v → q.block ≠ p.block) : Later w (w'.setCell p u) := fun q v hq => by
  rw [World.cell?_of_block (Below.heap_setCell w' p u q.block (hp q v hq))]
  exact h q v hq

theorem grown_setCell (w : World) (p : Addr) (u : Value) : w.grownBy (w.setCell p u) (some p.block) :=
  have h := (Below.refl p.block w).setCell (Nat.le_refl _) u
  ⟨h.os, h.tape, h.output, h.size, fun k _ hk => Below.heap_setCell w p u k (by simpa using hk)⟩
theorem kept_low {w w' : World} {b base : Nat} {e : TypeId} {size n : Nat} {v : Value} {xs : List Value} (h : w.ownsRow base e size v n xs) (hg : w.grownBy w' (some b)) (hb : b < base) : w'.ownsRow base e size v n xs :=
  h.kept hg (by
    cases hk : v.ownBlock with
    | none => exact .inl rfl
    | some k => exact .inr fun he => by injection he with he; have := own_base h k hk; omega)
theorem OwnV.low {w w' : World} {b base : Nat} {v : Value} {xs : List Vl} (h : OwnV w base v xs) (hg : w.grownBy w' (some b)) (hb : b < base) : OwnV w' base v xs := kept_low h hg hb
theorem own_mono {w : World} {base b2 : Nat} {v : Value} {xs : List Vl} (h : OwnV w base v xs) (hb : b2 ≤ base) : OwnV w b2 v xs := by
  refine ⟨h.1, ?_⟩
  rcases h.2 with h0 | ⟨g, cap, cur, h1, h2, h3⟩
  · exact .inl h0
  · exact .inr ⟨g, cap, cur, h1, by omega, h3⟩
theorem own_base' {w : World} {base : Nat} {v : Value} {os : List (List Vl)} (h : OwnO w base v os) (k : Nat) (hk : v.ownBlock = some k) : base ≤ k := by
  obtain ⟨_, h, _⟩ := h
  exact own_base h k hk
theorem blk_grown {w w1 : World} {b : Nat} {o : Obj} {row : Option Nat} (h : w.grownBy w1 row) (hb : w.heap[b]? = some o) (hne : some b ≠ row) : w1.heap[b]? = some o := by rw [h.block b (lt_blk hb) hne]; exact hb
theorem OwnO.low {w w' : World} {b base : Nat} {v : Value} {os : List (List Vl)} (h : OwnO w base v os) (hg : w.grownBy w' (some b)) (hb : b < base) : OwnO w' base v os := by
  obtain ⟨fvs, h1, h2⟩ := h
  exact ⟨fvs, kept_low h1 hg hb, fun i hi => by obtain ⟨fv, e, h3⟩ := h2 i hi; exact ⟨fv, e, kept_low h3 hg hb⟩⟩

end Go.Proofs.Yteghhajfkdbcdaa
