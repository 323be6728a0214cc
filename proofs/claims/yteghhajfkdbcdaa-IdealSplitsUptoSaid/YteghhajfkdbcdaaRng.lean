/- Ranges over the program's own iterators: graph.Targets, graph.values; one law for the caller. -/
import Derived.Test.YteghhajfkdbcdaaRefB
import Derived.RangeFuncNested
import Derived.RangeFuncBound
import Derived.RangeFuncCalls
import Derived.RangeFuncLeaves
import Derived.RangeFuncBox
import Derived.Shelf.Abstract
import Derived.Shelf.RegionOpen
import Derived.TacticsInMore
import Derived.LoopNIn
import Derived.LoopIn
namespace Go.Proofs.Yteghhajfkdbcdaa
open Go.RowKit Go.Shelf
set_option linter.unusedVariables false
set_option linter.unusedSimpArgs false
attribute [local go_sem] Oper.semAt_some

/-- Some blocks lie as they lay. -/
def SameP (K : Nat → Prop) (W W' : World) : Prop := ∀ k, K k → W'.heap[k]? = W.heap[k]?
theorem SameP.refl (K : Nat → Prop) (W : World) : SameP K W W := fun _ _ => rfl
theorem SameP.trans {K : Nat → Prop} {A B C : World} (h : SameP K A B) (k : SameP K B C) : SameP K A C := fun i hi => (k i hi).trans (h i hi)
theorem SameP.cell {K : Nat → Prop} {A B : World} (h : SameP K A B) {p : Addr} (hp : K p.block) : B.cell? p = A.cell? p := World.cell?_of_block (h _ hp)
theorem SameP.below {K : Nat → Prop} {A B : World} {n : Nat} (h : Below n A B) (hk : ∀ k, K k → k < n) : SameP K A B := fun k hi => h.block k (hk k hi)
theorem SameP.mono {K K' : Nat → Prop} {A B : World} (h : SameP K A B) (hk : ∀ k, K' k → K k) : SameP K' A B := fun k hi => h k (hk k hi)
/-- The blocks of a list. -/
abbrev SameB (Ks : List Nat) (W W' : World) : Prop := SameP (· ∈ Ks) W W'
theorem SameB.refl (Ks : List Nat) (W : World) : SameB Ks W W := SameP.refl _ _
theorem SameB.below {Ks : List Nat} {A B : World} {n : Nat} (h : Below n A B) (hk : ∀ k ∈ Ks, k < n) : SameB Ks A B := SameP.below h hk

/-- The blocks in which a slice value lies. -/
def blk : Value → List Nat
  | .slice (some a) _ _ => [a.block]
  | _ => []

/-- What only adds blocks, or turns blocks from B on that are no cells. -/
structure Noise (B : Nat) (W W' : World) : Prop where
  os : W'.os = W.os
  tape : W'.tape = W.tape
  output : W'.output = W.output
  size : W.heap.size ≤ W'.heap.size
  same : ∀ (k : Nat) (o : Obj), W.heap[k]? = some o → (k < B ∨ o.isCells = true) → W'.heap[k]? = some o

theorem Noise.cell {B : Nat} {W W' : World} (h : Noise B W W') {p : Addr} {v : Value} (hc : W.cell? p = some v) : W'.cell? p = some v := by
  obtain ⟨o, ho, hk⟩ := cells_of_cell hc
  exact (World.cell?_of_block ((h.same _ _ ho (.inr hk)).trans ho.symm)).trans hc
theorem Noise.later {B : Nat} {W W' : World} (h : Noise B W W') : Later W W' := fun p v hc => h.cell hc
theorem Noise.below {B n : Nat} {w W W' : World} (h : Noise B W W') (hb : Below n w W) (hn : n ≤ B) (hw : n ≤ w.heap.size) : Below n w W' :=
  ⟨h.os.trans hb.os, h.tape.trans hb.tape, h.output.trans hb.output, Nat.le_trans hb.size h.size, fun k hk => by
    have hk2 := hb.block k hk
    have : k < w.heap.size := by omega
    rw [Array.getElem?_eq_getElem this] at hk2
    rw [h.same k _ hk2 (.inl (by omega)), Array.getElem?_eq_getElem this]⟩
theorem Noise.boxed {B b : Nat} {W W' : World} {t : TypeId} {v : Value} (h : Noise B W W') (hb : Boxed W b t v) : Boxed W' b t v := h.same b _ hb (.inr rfl)
theorem Noise.block {B b : Nat} {W W' : World} {cs : Array Value} {t : TypeId} {fr : Nat × Nat} (h : Noise B W W') (hb : W.heap[b]? = some (.cells cs t fr)) : W'.heap[b]? = some (.cells cs t fr) := h.same b _ hb (.inr rfl)
theorem Noise.own {B base : Nat} {W W' : World} {e : TypeId} {size n : Nat} {v : Value} {xs : List Value} (h : Noise B W W') (hb : W.ownsRow base e size v n xs) : W'.ownsRow base e size v n xs := by
  refine ⟨hb.1, ?_⟩
  rcases hb.2 with hn | ⟨g, cap, cur, rfl, hbb, hg, rest⟩
  · exact .inl hn
  · exact .inr ⟨g, cap, cur, rfl, hbb, h.same _ _ hg (.inr rfl), rest⟩
theorem Noise.ownI {B base : Nat} {W W' : World} {v : Value} {xs : List Int} (h : Noise B W W') (hb : OwnI W base v xs) : OwnI W' base v xs := Noise.own h hb
theorem Noise.ownV {B base : Nat} {W W' : World} {v : Value} {xs : List Vl} (h : Noise B W W') (hb : OwnV W base v xs) : OwnV W' base v xs := Noise.own h hb
theorem ownFrom_of_noise {β : Type} {B : Nat} {I : β → World → Prop} (h : ∀ s W W', I s W → Noise B W W' → I s W') : OwnFrom B I := fun s W W' row hs hg hr =>
  h s W W' hs ⟨hg.os, hg.tape, hg.output, hg.size, fun k o hk hko => (hg.block k (Array.getElem?_eq_some_iff.1 hk).1 (fun e => by
    obtain ⟨hB, o', ho', hc'⟩ := hr k e.symm
    rw [hk] at ho'; cases ho'
    rcases hko with hko | hko
    · omega
    · rw [hko] at hc'; cases hc')).trans hk⟩

/-- An object's number. -/
abbrev Bd (N : Nat) := {x : Int // 0 ≤ x ∧ x < (N : Int)}
/-- graph.Targets, as a list. -/
def tgts (vs : List Vl) : List Int := vs.filterMap fun v => if v.ref then some v.n else none
theorem tgts_snoc (vs : List Vl) (v : Vl) : tgts (vs ++ [v]) = tgts vs ++ (if v.ref then [v.n] else []) := by
  unfold tgts; rw [List.filterMap_append]; cases h : v.ref <;> simp [h]

theorem tgt_next {N : Nat} (vs : List Vl) (xs : List (Bd N)) (hx : xs.map (·.1) = tgts vs) (k : Nat) (hk : k < vs.length) (n5 : Int) (hv : vs[k] = ⟨true, n5⟩) (j : Nat) (hj : j ≤ xs.length)
    (hm : (xs.take j).map (·.1) = tgts (vs.take k)) : ∃ h : j < xs.length, (xs[j]).1 = n5 := by
  have e : tgts vs = tgts (vs.take k) ++ n5 :: tgts (vs.drop (k + 1)) := by
    conv => lhs; rw [← List.take_append_drop k vs, List.drop_eq_getElem_cons hk, hv]
    simp [tgts, List.filterMap_append]
  rw [← hm, ← hx] at e
  have hd : (xs.map (·.1)).drop j = n5 :: tgts (vs.drop (k + 1)) := by
    rw [e, List.drop_append_of_le_length (by simp; omega)]
    simp
  have hlt : j < xs.length := by
    rcases Nat.lt_or_ge j xs.length with h | h
    · exact h
    · rw [List.drop_eq_nil_of_le (by simpa using h)] at hd; cases hd
  refine ⟨hlt, ?_⟩
  rw [List.drop_eq_getElem_cons (by simpa using hlt)] at hd
  injection hd with h1 h2
  simpa using h1

set_option maxRecDepth 100000 in
set_option maxHeartbeats 2000000 in
/-- graph.Targets's closure: its contract. -/
theorem targets_iter (m N B : Nat) (v : Value) (vs : List Vl) (w : World) (xs : List (Bd N)) (hx : xs.map (·.1) = tgts vs) (hb : w.cell? ⟨B, 0, none⟩ = some v) (hr : RdV w v vs) :
    SeqStopsK Fence.wide m Try.prog 143 #[.pointer (some ⟨B, 0, none⟩)] (fun x : Bd N => #[.int .i64 x.1]) (SameP (· ∈ B :: blk v)) (fun ys => ys = xs) (fun _ => True) xs.length w := by
  intro l J Jx W hW hJ hJx hY h0
  have hb' := later_below hW _ _ hb
  have hr' := hr.later (later_below hW)
  clear hb hr hW
  obtain ⟨A, c, rfl, hm, hc⟩ := hr'
  have hWB := World.block_lt_of_cell? _ _ hb'
  dsimp only at hWB
  refine callsIn_of_wp Try.func143 rfl trivial ?_ rfl
  simp only [Try.ntmps143, List.size_toArray, List.length_cons, List.length_nil, Nat.reduceAdd, Nat.reduceSub, Array.replicate_succ, Array.replicate_zero, List.push_toArray, List.append_toArray, List.nil_append, List.cons_append]
  gi_wp2
  gi_loopw [7] (fun i wr => ∃ k j : Nat, k ≤ vs.length ∧ i = .int .i64 k ∧ j ≤ xs.length ∧ (xs.take j).map (·.1) = tgts (vs.take k) ∧ J (xs.take j) wr ∧ SameB (B :: blk (.slice A vs.length c)) W wr)
    (fun i _ => vs.length - (intOf i).toNat)
  case atStart => exact ⟨0, 0, Nat.zero_le _, rfl, Nat.zero_le _, rfl, h0, SameB.refl _ _⟩
  case round =>
    obtain ⟨k, j, hk, rfl, hj, hmap, hJs, hS⟩ := hrel
    have Hmap := Lib.hid hmap
    have Hx := Lib.hid hx
    clear hmap hx
    by_cases hlt : k < vs.length
    · obtain ⟨b, off, rfl, hcell, hcell'⟩ := hc k hlt
      have hc1 := (hS.cell (p := ⟨b, off + k * 2, none⟩) (by simp [blk])).trans hcell
      have hc2 := (hS.cell (p := ⟨b, off + k * 2 + 1, none⟩) (by simp [blk])).trans hcell'
      obtain ⟨r5, n5, hv5⟩ : ∃ r5 n5, vs[k] = ⟨r5, n5⟩ := ⟨_, _, rfl⟩
      rw [hv5] at hc1 hc2
      have Hv5 := Lib.hid hv5
      have Hb := Lib.hid hb'
      clear hv5 hcell hcell' hc hb'
      have Hsn : Hid (tgts (vs.take (k + 1)) = tgts (vs.take k) ++ (if r5 then [n5] else [])) := by
        rw [List.take_succ_eq_append_getElem hlt, Hv5.out, tgts_snoc]; exact rfl
      have hKs : ∀ i ∈ (B :: blk (.slice (some ⟨b, off, none⟩) vs.length c)), i < wr.heap.size := by
        intro i hi
        simp only [blk, List.mem_cons, List.mem_nil_iff, or_false] at hi
        rcases hi with rfl | rfl
        · exact World.block_lt_of_cell? _ ⟨i, 0, none⟩ ((hS.cell (p := ⟨i, 0, none⟩) (by simp)).trans Hb.out)
        · exact World.block_lt_of_cell? _ _ hc1
      cases r5
      · gi_wp2
        refine ⟨fun _ h => (by cases h), ?_⟩
        gi_wp2
        go_roundw
        case rel => exact ⟨k + 1, j, by omega, by go_num, hj, by rw [Hsn.out, Hmap.out]; simp, hJ _ _ _ none hJs (World.grownBy_alloc _ _ none) (by simp), hS.trans (SameB.below ((Below.refl wr.heap.size wr).alloc (Nat.le_refl _) _) hKs)⟩
        case measure => simp [intOf]; omega
      · obtain ⟨hlj, hxj⟩ := tgt_next vs xs Hx.out k hlt n5 Hv5.out j hj Hmap.out
        have hJa := hJ _ _ _ none hJs (World.grownBy_alloc wr (.cells #[.bool true, .int .i64 n5] 99) none) (by simp)
        obtain ⟨fn, tmps, assign, body, hy, hR⟩ := hY (xs.take j) xs[j] (wr.alloc (.cells #[.bool true, .int .i64 n5] 99)) hJa (by simp; omega)
        rw [hxj] at hy
        have Hxj := Lib.hid hxj
        clear hxj hY
        gi_wp2
        refine ⟨fun h => by simp [Fence.wide] at h, hR.mono ?_⟩
        rintro e W3 (⟨rfl, hJ3, hk3⟩ | ⟨rfl, hJx3⟩)
        · gi_wp2
          go_roundw
          case rel =>
            refine ⟨k + 1, j + 1, by omega, by go_num, hlj, ?_, ?_, (hS.trans (SameB.below ((Below.refl wr.heap.size wr).alloc (Nat.le_refl _) _) hKs)).trans hk3⟩
            · rw [List.take_succ_eq_append_getElem hlj, List.map_append, Hmap.out, Hsn.out]
              simp [Hxj.out]
            · rw [List.take_succ_eq_append_getElem hlj]; exact hJ3
          case measure => simp [intOf]; omega
        · gi_wp2
          refine bodyPost_ret (results_none rfl _ _ _) rfl ?_
          exact ⟨⟨_, rfl⟩, .inr ⟨_, trivial, hJx3⟩⟩
    · gi_wp2
      go_end0
      refine ⟨⟨_, rfl⟩, .inl ⟨_, rfl, ?_⟩⟩
      have e : xs.take j = xs := by
        have h1 := Hmap.out
        rw [List.take_of_length_le (l := vs) (i := k) (by omega), ← Hx.out] at h1
        have h2 := congrArg List.length h1
        simp at h2
        exact List.take_of_length_le (by omega)
      rw [← e]; exact hJs

theorem eg143 : ∀ (args : Array Value) (w : World), (callFunc 143 args).run Try.prog w = .ok (.enter 143 args) w := enters_of Try.func143 (by kernel_rfl) rfl
theorem eg128 : ∀ (args : Array Value) (w : World), (callFunc 128 args).run Try.prog w = .ok (.enter 128 args) w := enters_of Try.func128 (by kernel_rfl) rfl

/-- **A RANGE OVER AN ITERATOR: what the caller owes.** -/
theorem range_wp {α : Type} {g : Operand} {ps : Array Tmp} {assign body : Code} {Q : Exit → Act → World → Prop} {a : Act} {w : World} {gf : Nat} {lb : Array Value}
    (hg : a.eval g = .func (.func gf) #[] lb) (eg : ∀ (args : Array Value) (w : World), (callFunc gf args).run Try.prog w = .ok (.enter gf args) w)
    {encs : α → Array Value} {Kp : Nat → Prop} {xs : List α} {Sp : List α → Prop}
    (hseq : SeqStopsK Fence.wide 8 Try.prog gf lb encs (SameP Kp) (fun ys => ys = xs) Sp xs.length w)
    (hKs : ∀ k, Kp k → k < w.heap.size) (hps : ∀ x, (encs x).size = ps.size)
    (I : List α → World → Prop) (Ix : Code → List α → World → Prop)
    (hI : ∀ s W W', I s W → Noise w.heap.size W W' → I s W') (hIx : ∀ c s W W', Ix c s W → Noise w.heap.size W W' → Ix c s W') (h0 : I [] w)
    (Ax : α → Act → World → Prop) (hAx : ∀ x a' W W', Ax x a' W → Noise w.heap.size W W' → Ax x a' W')
    (hassign : ∀ (l : Nat) (pre : List α) (x : α) (W : World) (K : Act → World → Prop), I pre W → (∀ a' W', KeepsFrom w.heap.size W W' → SameP Kp W W' → I pre W' → Ax x a' W' → K a' W') →
      assign.wpIn (Fence.wide.inRound l) 7 Try.prog (Exit.then K (fun _ _ _ => False)) { tmps := (ps.zip (encs x)).foldl (fun t (p, v) => t.setIfInBounds p v) a.tmps, defers := [] } W)
    (hbody : ∀ (l : Nat) (pre : List α) (x : α) (a' : Act) (W : World), I pre W → Ax x a' W → pre.length < xs.length → body.wpIn (Fence.wide.inRound l) 7 Try.prog (ownPostG w.heap.size (SameP Kp) I Ix (pre ++ [x]) W) a' W)
    (hdone : ∀ (D : Nat) (W : World), w.heap.size ≤ D → I xs W → W.heap[D]? = some (.deferred (some [])) → Q .normal { a with defers := { target := .collected D, args := #[] } :: a.defers } W)
    (hstop : ∀ (D : Nat) (c : Code) (pre : List α) (W : World), w.heap.size ≤ D → Sp pre → Ix c pre W → W.heap[D]? = some (.deferred (some [])) → c.wp Try.prog Q { a with defers := { target := .collected D, args := #[] } :: a.defers } W) :
    (Code.rangeFunc g ps assign body).wp Try.prog Q a w := by
  refine (wpIn_wide (n := 9)).1 ?_
  refine wpIn_rangeFunc_ownH (F := Fence.wide) (n := 9) rfl (by omega) hg trivial eg hseq (fun h k => SameP.trans h k) ?_ (Below.refl _ _) hps I Ix (ownFrom_of_noise hI) (fun c => ownFrom_of_noise (hIx c)) h0 Ax
    (fun x a' => ownFrom_of_noise fun s W W' h hn => hAx x a' W W' h hn) hassign ?_ ?_ ?_
  · intro W l o o' hl ho hc _ k hk
    have := hKs k hk
    exact World.putObj_heap_other (by omega)
  · intro l pre x a' W _ _ hi hax hlen
    exact hbody l pre x a' W hi hax hlen
  · rintro D ys W hD rfl hi hk
    exact hdone D W hD hi hk
  · intro D c pre W hD hp hi hk
    exact wpIn_wide.2 (hstop D c pre W hD hp hi hk)

/-- Some slots set. -/
def setS (us : List (Nat × Value)) (t : Array Value) : Array Value := us.foldl (fun t p => t.setIfInBounds p.1 p.2) t

/-- The same law, the round's slots told by what the loop's variable turns: 'upd x b', b the variable's box (if it has one). -/
theorem range_wp' {α : Type} {g : Operand} {ps : Array Tmp} {assign body : Code} {Q : Exit → Act → World → Prop} {a : Act} {w : World} {gf : Nat} {lb : Array Value}
    (hg : a.eval g = .func (.func gf) #[] lb) (eg : ∀ (args : Array Value) (w : World), (callFunc gf args).run Try.prog w = .ok (.enter gf args) w)
    {encs : α → Array Value} {Kp : Nat → Prop} {xs : List α} {Sp : List α → Prop}
    (hseq : SeqStopsK Fence.wide 8 Try.prog gf lb encs (SameP Kp) (fun ys => ys = xs) Sp xs.length w)
    (hKs : ∀ k, Kp k → k < w.heap.size) (hps : ∀ x, (encs x).size = ps.size)
    (I : List α → World → Prop) (Ix : Code → List α → World → Prop)
    (hI : ∀ s W W', I s W → Noise w.heap.size W W' → I s W') (hIx : ∀ c s W W', Ix c s W → Noise w.heap.size W W' → Ix c s W') (h0 : I [] w)
    (upd : α → Nat → List (Nat × Value)) (Bk : α → Nat → World → Prop) (hBk : ∀ x b W W', Bk x b W → Noise w.heap.size W W' → Bk x b W')
    (hassign : ∀ (l : Nat) (pre : List α) (x : α) (W : World) (K : Act → World → Prop), I pre W → (∀ b W', KeepsFrom w.heap.size W W' → SameP Kp W W' → I pre W' → Bk x b W' → K { tmps := setS (upd x b) a.tmps, defers := [] } W') →
      assign.wpIn (Fence.wide.inRound l) 7 Try.prog (Exit.then K (fun _ _ _ => False)) { tmps := (ps.zip (encs x)).foldl (fun t (p, v) => t.setIfInBounds p v) a.tmps, defers := [] } W)
    (hbody : ∀ (l : Nat) (pre : List α) (x : α) (b : Nat) (W : World), I pre W → Bk x b W → pre.length < xs.length → body.wpIn (Fence.wide.inRound l) 7 Try.prog (ownPostG w.heap.size (SameP Kp) I Ix (pre ++ [x]) W) { tmps := setS (upd x b) a.tmps, defers := [] } W)
    (hdone : ∀ (D : Nat) (W : World), w.heap.size ≤ D → I xs W → W.heap[D]? = some (.deferred (some [])) → Q .normal { a with defers := { target := .collected D, args := #[] } :: a.defers } W)
    (hstop : ∀ (D : Nat) (c : Code) (pre : List α) (W : World), w.heap.size ≤ D → Sp pre → Ix c pre W → W.heap[D]? = some (.deferred (some [])) → c.wp Try.prog Q { a with defers := { target := .collected D, args := #[] } :: a.defers } W) :
    (Code.rangeFunc g ps assign body).wp Try.prog Q a w := by
  refine range_wp hg eg hseq hKs hps I Ix hI hIx h0 (fun x a' W => ∃ b, Bk x b W ∧ a' = { tmps := setS (upd x b) a.tmps, defers := [] }) ?_ ?_ ?_ hdone hstop
  · rintro x a' W W' ⟨b, hb, rfl⟩ hn
    exact ⟨b, hBk _ _ _ _ hb hn, rfl⟩
  · intro l pre x W K hi hK
    exact hassign l pre x W K hi (fun b W' h1 h2 h3 h4 => hK _ _ h1 h2 h3 ⟨b, h4, rfl⟩)
  · rintro l pre x a' W hi ⟨b, hb, rfl⟩ hlen
    exact hbody l pre x b W hi hb hlen

theorem noise_putObj {B D : Nat} {W : World} {o : Obj} (h : W.heap[D]? = some (.deferred (some []))) (hD : B ≤ D) : Noise B W (W.putObj D o) :=
  ⟨rfl, rfl, rfl, by simp, fun k o' hk hko => by
    by_cases e : k = D
    · subst e
      rw [h] at hk; cases hk
      rcases hko with hko | hko
      · omega
      · cases hko
    · exact (World.putObj_heap_other e).trans hk⟩
theorem Noise.refl (B : Nat) (W : World) : Noise B W W := ⟨rfl, rfl, rfl, Nat.le_refl _, fun _ _ h _ => h⟩
theorem Noise.trans {B : Nat} {A C D : World} (h : Noise B A C) (k : Noise B C D) : Noise B A D :=
  ⟨k.os.trans h.os, k.tape.trans h.tape, k.output.trans h.output, Nat.le_trans h.size k.size, fun i o hi hio => k.same i o (h.same i o hi hio) hio⟩

/-- The marks of the loops, at the function's return. -/
theorem leaves_marks {fn : Func} {tmps : Array Value} {R : Ending → World → Prop} {B : Nat} (Ds : List Nat) : ∀ (W : World), Ds.Nodup → (∀ D ∈ Ds, B ≤ D ∧ W.heap[D]? = some (.deferred (some []))) →
    (∀ W', Noise B W W' → ∃ v, (results fn tmps).run Try.prog W' = .ok v W' ∧ R (.returned v) W') →
    LeavesInM Fence.wide 9 Try.prog fn tmps R (Ds.map fun D => { target := .collected D, args := #[] }) .returning W := by
  induction Ds with
  | nil =>
    intro W _ _ h
    obtain ⟨v, h1, h2⟩ := h W (Noise.refl _ _)
    exact ⟨v, h1, h2⟩
  | cons D Ds ih =>
    intro W hnd hD h
    obtain ⟨hB, hk⟩ := hD D (by simp)
    have hno := noise_putObj (o := .deferred none) hk hB
    refine ⟨by simp, .inl ⟨D, _, rfl, run_takeDeferred hk, ?_⟩⟩
    refine ih _ (List.nodup_cons.1 hnd).2 (fun D' hD' => ?_) (fun W' hn => h W' (hno.trans hn))
    obtain ⟨hB', hk'⟩ := hD D' (by simp [hD'])
    refine ⟨hB', ?_⟩
    have hne : D' ≠ D := fun e => (List.nodup_cons.1 hnd).1 (e ▸ hD')
    exact (World.putObj_heap_other hne).trans hk'

/-- A function that holds ranges over iterators. -/
theorem calls_marks {f : FuncId} {fn : Func} {c : Code} {args : Array Value} {w : World} {R : Ending → World → Prop}
    (hf : Try.prog.funcs[f]? = some fn) (hb : fn.body = some c)
    (h : c.wp Try.prog (bodyPostM Fence.wide 9 Try.prog fn R) { tmps := args ++ Array.replicate (fn.ntmps - args.size) undef, defers := [] } w) : Calls Try.prog f args w R :=
  (callsIn_wide (n := 9)).1 (callsIn_of_wp_marks hf hb trivial (wpIn_wide.2 h) rfl)

set_option maxRecDepth 20000 in
/-- graph.Targets -/
theorem targets_any (w : World) (v : Value) (vs : List Vl) (h : RdV w v vs) :
    Calls Try.prog 113 #[v] w fun e w' => e = .returned (.func (.func 143) #[] #[.pointer (some ⟨w.heap.size, 0, none⟩)]) ∧ w' = w.alloc (.cells #[v] 25) := by
  obtain ⟨A, c, rfl, _, _⟩ := h
  go_enter Try.func113, Try.ntmps113
  go_wp2
  go_ret
  exact ⟨rfl, rfl⟩

end Go.Proofs.Yteghhajfkdbcdaa
