/- The memory without end: what it is in memory; a register set. -/
import Derived.Test.YteghhajfkdbcdaaMch
import Derived.Outline
namespace Go.Proofs.Yteghhajfkdbcdaa
open Go.RowKit
set_option linter.unusedVariables false
set_option linter.unusedSimpArgs false

namespace Ie
def M : PMem Ovs where
  objs s := s
  new _ s n := (0, s ++ [some (zeroVs n)])
  put _ s o k v := s.set o (some ((fldsAt s o).set k v))
  hold _ s _ _ := s
def Inv (rs : List Vl) (s : Ovs) : Prop := Clo s rs ∧ Small s
theorem Inv.clo {rs : List Vl} {s : Ovs} (h : Inv rs s) : Clo (M.objs s) rs := h.1
def MRep (bm bM base : Nat) (W : World) (F : Nat → Prop) (s : Ovs) : Prop :=
  ∃ ov L, HObj W base ov L ∧ obs L = s ∧ W.heap[bM]? = some (.cells #[ov] 127 (0, 0)) ∧ F = HG bM ov L
section
variable {bm bM base : Nat} {W W' : World} {F : Nat → Prop} {s : Ovs}
theorem lt (h : MRep bm bM base W F s) {b : Nat} (hb : F b) : b < W.heap.size := by
  obtain ⟨ov, L, h1, h2, h3, rfl⟩ := h
  rcases hb with rfl | hb
  · exact lt_blk h3
  · exact h1.lt hb
theorem same (h : MRep bm bM base W F s) (hs : ∀ b, F b → W'.heap[b]? = W.heap[b]?) : MRep bm bM base W' F s := by
  obtain ⟨ov, L, h1, h2, h3, rfl⟩ := h
  exact ⟨ov, L, h1.same fun b hb => hs b (.inr hb), h2, (hs _ (.inl rfl)).trans h3, rfl⟩
theorem alloc (h : MRep bm bM base W F s) (o : Obj) : MRep bm bM base (W.alloc o) F s := same h fun b hb => Below.heap_alloc _ _ _ (lt h hb)
theorem drew (h : MRep bm bM base W F s) : MRep bm bM base W.drew F s := same h fun b hb => rfl
theorem objs (h : MRep bm bM base W F s) : ∃ ov L cs t, HObj W base ov L ∧ obs L = M.objs s ∧ W.heap[bM]? = some (.cells cs t (0, 0)) ∧ cs[0]? = some ov := by
  obtain ⟨ov, L, h1, h2, h3, _⟩ := h
  exact ⟨ov, L, _, _, h1, h2, h3, rfl⟩
end

set_option maxRecDepth 20000 in
theorem hold_any (bm bM base : Nat) (W : World) (F : Nat → Prop) (rs : List Vl) (s : Ovs) (hm : Mach W bm bM 125 rs) (h : MRep bm bM base W F s) (hF : ¬ F bm) (hc : Inv rs s) (r : Nat) (hr : r < 8) (b : Bool) (n : Int) (hv : okR (M.objs s) ⟨b, n⟩) :
    Calls Try.prog 208 #[.pointer (some ⟨bM, 0, none⟩), .int .i64 r, .agg #[.bool b, .int .i64 n]] W fun e w' => e = .returned (.tuple #[]) ∧ ∃ F', MRep bm bM base w' F' (M.hold rs s r ⟨b, n⟩) ∧ Fr F W F' w' := by
  go_enter Try.func208, Try.ntmps208
  go_wp2
  go_end0
  exact ⟨rfl, F, alloc h _, (Fr.refl _ _).alloc _⟩

theorem nilHold (a : Addr) (w : World) : (nilAhead 379 125 (.pointer (some a)) "Hold").run Try.prog w = .ok (some false) w := by kernel_rfl
theorem methHold (a : Addr) (w : World) : (method 379 125 (.pointer (some a)) "Hold").run Try.prog w = .ok (208, .pointer (some a)) w := by kernel_rfl

set_option maxRecDepth 20000 in
set_option maxHeartbeats 1000000 in
theorem set_any (bm bM base : Nat) (W : World) (F : Nat → Prop) (rs : List Vl) (s : Ovs) (hm : Mach W bm bM 125 rs) (h : MRep bm bM base W F s) (hF : ¬ F bm) (hc : Inv rs s) (r : Nat) (hr : r < 8) (b : Bool) (n : Int) (hv : okR (M.objs s) ⟨b, n⟩) :
    Calls Try.prog 88 #[.pointer (some ⟨bm, 0, none⟩), .int .i64 r, .agg #[.bool b, .int .i64 n]] W fun e w' => e = .returned (.tuple #[]) ∧ ∃ F', Mach w' bm bM 125 (rs.set r ⟨b, n⟩) ∧ MRep bm bM base w' F' (M.hold rs s r ⟨b, n⟩) ∧ ¬ F' bm ∧ Fr (fun x => F x ∨ x = bm) W (fun x => F' x ∨ x = bm) w' := by
  have c1 := hm.mem
  have m1 := nilHold
  have m2 := methHold
  have hm1 := (hm.alloc (.cells #[.bool b, .int .i64 n] 99)).drew
  have h1 := drew (alloc h (.cells #[.bool b, .int .i64 n] 99))
  have hnb : ¬ F W.heap.size := fun hf => by have := lt h hf; omega
  have HX := Lib.hid (And.intro hm1 (And.intro h1 (And.intro hF (And.intro hc hv))))
  have hbm := lt_blk hm.blk
  clear hm1 h1 hF hc hv hm h
  go_enter Try.func88, Try.ntmps88
  go_wp2
  go_region_held3 (fun w' => w'.cell? ⟨bm, 16, none⟩ = some (.iface 125 (.pointer (some ⟨bM, 0, none⟩))) ∧ w'.cell? ⟨W.heap.size, 0, none⟩ = some (.bool b) ∧ w'.cell? ⟨W.heap.size, 1, none⟩ = some (.int .i64 n)) (first | go_keep | exact ⟨e1, e2, e3⟩)
    (first | (go_at_call 208; refine (hold_any bm bM base _ F rs s HX.out.1 HX.out.2.1 HX.out.2.2.1 HX.out.2.2.2.1 r hr b n HX.out.2.2.2.2).mono ?_; rintro e w2 ⟨rfl, F', hR, hFr⟩; have hmm := HX.out.1.fr hFr HX.out.2.2.1; have e1 := hmm.mem; have eb := hFr.blk (blk_drew (heap_alloc_new W (.cells #[.bool b, .int .i64 n] 99))) hnb; have e2 := cell_blk (j := 0) eb rfl; have e3 := cell_blk (j := 1) eb rfl))
  have hFb := (hFr.keep bm (by simp; omega) HX.out.2.2.1).1
  obtain ⟨f1, f2⟩ : w2.frozen? ⟨bm, r * 2, none⟩ = false ∧ w2.frozen? ⟨bm, r * 2 + 1, none⟩ = false := ⟨frozen_blk hmm.blk, frozen_blk hmm.blk⟩
  obtain ⟨v1, g1⟩ : ∃ v, w2.cell? ⟨bm, r * 2, none⟩ = some v := ⟨_, (hmm.reg r (by rw [hmm.len]; exact hr)).1⟩
  obtain ⟨v2, g2⟩ : ∃ v, w2.cell? ⟨bm, r * 2 + 1, none⟩ = some v := ⟨_, (hmm.reg r (by rw [hmm.len]; exact hr)).2⟩
  have hput := hmm.put r hr ⟨b, n⟩
  have hR2 : MRep bm bM base ((w2.setCell ⟨bm, r * 2, none⟩ (.bool b)).setCell ⟨bm, r * 2 + 1, none⟩ (.int .i64 n)) F' (M.hold rs s r ⟨b, n⟩) := same hR fun x hx => by
    have : x ≠ bm := fun e => hFb (e ▸ hx)
    rw [Below.heap_setCell _ _ _ _ this, Below.heap_setCell _ _ _ _ this]
  have HY := Lib.hid (And.intro hput (And.intro hR2 (And.intro hFb hFr)))
  clear hput hR2 hFb hFr hR hmm eb
  go_wp2
  go_region
  go_end0
  obtain ⟨y1, y2, y3, y4⟩ := HY.out
  have z := (Fr.refl F W).alloc (.cells #[.bool b, .int .i64 n] 99)
  exact ⟨rfl, F', y1.drew, drew y2, y3, (((((z.drew).trans y4).wide (· = bm)).set (p := ⟨bm, r * 2, none⟩) (.inl (.inr rfl)) _).set (p := ⟨bm, r * 2 + 1, none⟩) (.inl (.inr rfl)) _).drew⟩
theorem methLen0 (bM : Nat) (W : World) : (method 379 125 (.pointer (some ⟨bM, 0, none⟩)) "Len").run Try.prog W = (do let v ← loadVar 93 ⟨bM, 0, none⟩; pure (200, v) : Sem (FuncId × Value)).run Try.prog W := by kernel_rfl
theorem methLen (bM : Nat) (A : Option Addr) (n c : Nat) (W : World) (h : W.cell? ⟨bM, 0, none⟩ = some (.slice A n c)) : (method 379 125 (.pointer (some ⟨bM, 0, none⟩)) "Len").run Try.prog W = .ok (200, .slice A n c) W := by
  rw [methLen0]
  simp [loadVar, go_sem, h, Result.andThen]
theorem nilLen (a : Addr) (w : World) : (nilAhead 379 125 (.pointer (some a)) "Len").run Try.prog w = .ok (some false) w := by kernel_rfl

set_option maxRecDepth 20000 in
set_option maxHeartbeats 1000000 in
theorem field_any (bm bM base : Nat) (W : World) (F : Nat → Prop) (rs : List Vl) (s : Ovs) (hm : Mach W bm bM 125 rs) (h : MRep bm bM base W F s) (b : Bool) (n : Int) (hv : okR (M.objs s) ⟨b, n⟩) (k : Int) :
    Calls Try.prog 89 #[.pointer (some ⟨bm, 0, none⟩), .agg #[.bool b, .int .i64 n], .int .i64 k] W fun e w' => e = .returned (.int .i64 (fieldE (M.objs s) ⟨b, n⟩ k)) ∧ Below W.heap.size W w' := by
  cases b
  · go_enter Try.func89, Try.ntmps89
    go_wp2
    go_ret
    exact ⟨rfl, (Below.refl _ _).alloc (Nat.le_refl _) _⟩
  · obtain ⟨hn0, hat⟩ := hv rfl
    obtain ⟨i, rfl⟩ := Int.eq_ofNat_of_zero_le hn0
    obtain ⟨f, hf⟩ := isAt_iff.1 hat
    obtain ⟨ov, L, cs, t, hO, hob, hbM, h0⟩ := objs h
    have hcM := cell_blk (j := 0) hbM h0
    have c1 := hm.mem
    have hL := obs_some hob (show (M.objs s)[i]? = some (some f) by simpa using hf)
    obtain ⟨o, hLi, rfl⟩ := hL
    have hfe : fieldE (M.objs s) ⟨true, (i : Int)⟩ k = if k < 0 ∨ (o.fs.length : Int) ≤ k then 3 else 0 := by
      unfold fieldE
      rw [if_neg (by simp), fldsAt_of (by simpa using hf)]
    obtain ⟨A, cap, rfl, -⟩ := hO.len
    have HO := Lib.hid hO
    have HL := Lib.hid hLi
    have hlt1 := lt_blk hm.blk
    have hlt2 := lt_blk hbM
    rw [hfe]
    have m1 := nilLen
    have m2 := methLen bM A L.length cap
    clear hfe hO hLi hf hat hob hbM h0 h hm hv hn0
    by_cases k0 : k < 0
    · have d0 : decide (k < 0) = true := by simpa using k0
      rw [if_pos (.inl k0)]
      go_enter Try.func89, Try.ntmps89
      go_wp2
      go_quiet (fail)
      go_wp2
      go_ret
      exact ⟨rfl, below_drewN ((Below.refl _ _).alloc (Nat.le_refl _) _) _⟩
    · have d0 : decide (k < 0) = false := by simpa using k0
      by_cases k1 : (o.fs.length : Int) ≤ k
      · have d1 : decide ((o.fs.length : Int) ≤ k) = true := by simpa using k1
        rw [if_pos (.inr k1)]
        go_enter Try.func89, Try.ntmps89
        go_wp2
        go_quiet ((go_at_call 200; exact Calls.quiet_of_same (olen_any _ base _ L ((HO.out.alloc _).drewN _) i o HL.out)))
        go_wp2
        go_ret
        exact ⟨rfl, below_drewN ((Below.refl _ _).alloc (Nat.le_refl _) _) _⟩
      · have d1 : decide ((o.fs.length : Int) ≤ k) = false := by simpa using k1
        rw [if_neg (by omega)]
        go_enter Try.func89, Try.ntmps89
        go_wp2
        go_quiet ((go_at_call 200; exact Calls.quiet_of_same (olen_any _ base _ L ((HO.out.alloc _).drewN _) i o HL.out)))
        go_wp2
        go_ret
        exact ⟨rfl, below_drewN ((Below.refl _ _).alloc (Nat.le_refl _) _) _⟩


theorem methGet0 (bM : Nat) (W : World) : (method 379 125 (.pointer (some ⟨bM, 0, none⟩)) "Get").run Try.prog W = (do let v ← loadVar 93 ⟨bM, 0, none⟩; pure (198, v) : Sem (FuncId × Value)).run Try.prog W := by kernel_rfl
theorem methGet (bM : Nat) (A : Option Addr) (n c : Nat) (W : World) (h : W.cell? ⟨bM, 0, none⟩ = some (.slice A n c)) : (method 379 125 (.pointer (some ⟨bM, 0, none⟩)) "Get").run Try.prog W = .ok (198, .slice A n c) W := by
  rw [methGet0]
  simp [loadVar, go_sem, h, Result.andThen]
theorem nilGet (a : Addr) (w : World) : (nilAhead 379 125 (.pointer (some a)) "Get").run Try.prog w = .ok (some false) w := by kernel_rfl
theorem methPut0 (bM : Nat) (W : World) : (method 379 125 (.pointer (some ⟨bM, 0, none⟩)) "Put").run Try.prog W = (do let v ← loadVar 93 ⟨bM, 0, none⟩; pure (202, v) : Sem (FuncId × Value)).run Try.prog W := by kernel_rfl
theorem methPut (bM : Nat) (A : Option Addr) (n c : Nat) (W : World) (h : W.cell? ⟨bM, 0, none⟩ = some (.slice A n c)) : (method 379 125 (.pointer (some ⟨bM, 0, none⟩)) "Put").run Try.prog W = .ok (202, .slice A n c) W := by
  rw [methPut0]
  simp [loadVar, go_sem, h, Result.andThen]
theorem nilPut (a : Addr) (w : World) : (nilAhead 379 125 (.pointer (some a)) "Put").run Try.prog w = .ok (some false) w := by kernel_rfl
theorem methNew (a : Addr) (W : World) : (method 379 125 (.pointer (some a)) "New").run Try.prog W = .ok (204, .pointer (some a)) W := by kernel_rfl
theorem nilNew (a : Addr) (w : World) : (nilAhead 379 125 (.pointer (some a)) "New").run Try.prog w = .ok (some false) w := by kernel_rfl

theorem put_any (bm bM base : Nat) (W : World) (F : Nat → Prop) (rs : List Vl) (s : Ovs) (hm : Mach W bm bM 125 rs) (h : MRep bm bM base W F s) (hF : ¬ F bm) (hi : Inv rs s) (ov : Value) (hov : W.cell? ⟨bM, 0, none⟩ = some ov) (i k : Nat) (fs : List Vl) (hfs : (M.objs s)[i]? = some (some fs)) (hk : k < fs.length) (b : Bool) (n : Int) (hv : okR (M.objs s) ⟨b, n⟩) :
    Calls Try.prog 202 #[ov, .int .i64 i, .int .i64 k, .agg #[.bool b, .int .i64 n]] W fun e w' => e = .returned (.tuple #[]) ∧ ∃ F', MRep bm bM base w' F' (M.put rs s i k ⟨b, n⟩) ∧ Fr F W F' w' := by
  obtain ⟨ov', L, h1, h2, h3, rfl⟩ := h
  have e := cell_blk (j := 0) h3 rfl
  rw [hov] at e
  injection e with e
  subst e
  obtain ⟨o, ho, rfl⟩ := obs_some h2 hfs
  refine (oput_any W base ov L h1 i o ho k hk b n).mono ?_
  rintro e w' ⟨rfl, g1, g2⟩
  have hbM := h1.off h3 rfl
  refine ⟨rfl, HG bM ov (L.set i (some { o with fs := o.fs.set k ⟨b, n⟩ })), ⟨ov, _, g1, ?_, g2.blk h3 hbM, rfl⟩, ?_⟩
  · show obs _ = s.set i (some ((fldsAt s i).set k ⟨b, n⟩))
    rw [fldsAt_of (show s[i]? = _ from hfs), ← h2]
    simp [obs, List.map_set]
  · refine ((g2.wide (· = bM)).to (F'' := HG bM ov (L.set i (some { o with fs := o.fs.set k ⟨b, n⟩ }))) fun b hb => .inl (hb.symm)).from_ (fun b hb => hb.symm) fun b hb hn _ => hn hb.symm

theorem new_any (bm bM base : Nat) (W : World) (F : Nat → Prop) (rs : List Vl) (s : Ovs) (hm : Mach W bm bM 125 rs) (h : MRep bm bM base W F s) (hF : ¬ F bm) (hi : Inv rs s) (hbase : base ≤ W.heap.size) (hlen : (M.objs s).length ≤ 1000) (n : Nat) (hn : n ≤ 4) :
    Calls Try.prog 204 #[.pointer (some ⟨bM, 0, none⟩), .int .i64 n] W fun e w' => e = .returned (.tuple #[.int .i64 (if (M.new rs s n).1 = 0 then ((M.objs s).length : Int) else 0), .int .i64 (M.new rs s n).1]) ∧ ∃ F', MRep bm bM base w' F' (M.new rs s n).2 ∧ Fr F W F' w' := by
  obtain ⟨ov, L, h1, h2, h3, rfl⟩ := h
  have hl : L.length = s.length := by rw [← h2]; simp [obs]
  refine (onew_any W base bM ov #[ov] 127 L h1 h3 rfl (h1.off h3 rfl) hbase (by rw [hl]; exact Nat.le_trans hlen (by omega)) n hn).mono ?_
  rintro e w' ⟨rfl, ov', bx, fv, g1, g2, g3, g4⟩
  refine ⟨by rw [hl]; rfl, _, ⟨ov', _, g2, ?_, g1, rfl⟩, g4⟩
  show obs _ = s ++ [some (zeroVs n)]
  rw [← h2]
  simp [obs]

theorem isAt_append {os : Ovs} {e : Option (List Vl)} {i : Nat} (h : isAt os i = true) : isAt (os ++ [e]) i = true := by
  obtain ⟨f, hf⟩ := isAt_iff.1 h
  refine isAt_iff.2 ⟨f, ?_⟩
  rw [List.getElem?_append_left (List.getElem?_eq_some_iff.1 hf).1]; exact hf
theorem new_ok {rs : List Vl} {s : Ovs} (h : Inv rs s) (n : Nat) (hn : n ≤ 4) (he : (M.new rs s n).1 = 0) : Inv rs (M.new rs s n).2 ∧ isAt (M.objs (M.new rs s n).2) (M.objs s).length = true := by
  refine ⟨⟨⟨fun v hv hr => ?_, ?_, h.1.len⟩, ?_⟩, ?_⟩
  · obtain ⟨h1, h2⟩ := h.1.regs v hv hr
    exact ⟨h1, isAt_append h2⟩
  · intro i f hf v hv hr
    rw [show (M.new rs s n).2 = s ++ [some (zeroVs n)] from rfl, List.getElem?_append] at hf
    split at hf
    · obtain ⟨h1, h2⟩ := h.1.objs i f hf v hv hr
      exact ⟨h1, isAt_append h2⟩
    · have : f = zeroVs n := by
        cases hi : i - s.length with
        | zero => rw [hi] at hf; simpa using hf.symm
        | succ m => rw [hi] at hf; simp at hf
      subst this
      rw [List.eq_of_mem_replicate hv] at hr
      cases hr
  · intro o ho
    rcases List.mem_append.1 ho with ho | ho
    · exact h.2 o ho
    · have : o = some (zeroVs n) := by simpa using ho
      subst this
      simpa [zeroVs] using hn
  · exact isAt_iff.2 ⟨zeroVs n, by show (s ++ [some (zeroVs n)])[s.length]? = _; simp⟩

end Ie
end Go.Proofs.Yteghhajfkdbcdaa
