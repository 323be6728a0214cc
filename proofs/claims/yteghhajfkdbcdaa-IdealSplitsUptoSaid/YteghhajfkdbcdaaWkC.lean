/- weak: Clear. -/
import Derived.Test.YteghhajfkdbcdaaWkL
namespace Go.Proofs.Yteghhajfkdbcdaa
open Go.RowKit
set_option linter.unusedVariables false
set_option linter.unusedSimpArgs false

def deadO (K : Nat → Bool) (kind : Int) (f : List Vl) : Bool := decide (kind = 2) && (match f with | [] => false | v :: _ => !aliveV K v)
def clrV (K : Nat → Bool) (kind : Int) (d : Bool) (v : Vl) : Vl := if d || (decide (kind = 1) && !aliveV K v) then ⟨false, 0⟩ else v
def clrO (K : Nat → Bool) (kind : Int) (f : List Vl) : List Vl := f.map (clrV K kind (deadO K kind f))
def clrOs (g : G) (ks : List Int) (K : Nat → Bool) (k : Nat) : List (List Vl) := (List.range k).map fun i => clrO K (ks.getD i 0) (g.objs.getD i [])
def clrG (g : G) (ks : List Int) (K : Nat → Bool) : G := ⟨clrOs g ks K g.objs.length, g.roots⟩
def clearG (g : G) (ks : List Int) (kept : List Bool) : G := renumG (clrG g ks (atB kept)) (lst kept kept.length)
theorem clrOs_succ (g : G) (ks : List Int) (K : Nat → Bool) (k : Nat) : clrOs g ks K (k + 1) = clrOs g ks K k ++ [clrO K (ks.getD k 0) (g.objs.getD k [])] := by simp [clrOs, List.range_succ]
theorem clrOs_len (g : G) (ks : List Int) (K : Nat → Bool) (k : Nat) : (clrOs g ks K k).length = k := by simp [clrOs]

/-- A row's element is turned. -/
theorem own_setV {w : World} {base gb cap n : Nat} {xs : List Vl} (h : OwnV w base (.slice (some ⟨gb, 0, none⟩) n cap) xs) (j : Nat) (hj : j < xs.length) (y : Vl) :
    OwnV ((w.setCell ⟨gb, j * 2, none⟩ (.bool y.ref)).setCell ⟨gb, j * 2 + 1, none⟩ (.int .i64 y.n)) base (.slice (some ⟨gb, 0, none⟩) n cap) (xs.set j y) := by
  obtain ⟨h0, h⟩ := h
  rcases h with ⟨hv, _⟩ | ⟨g', cap', cur, hv, hb, hh, h1, h2, h3, h4⟩
  · cases hv
  · injection hv with hv hn hc
    injection hv with hv
    injection hv with hv
    subst hv hc
    refine ⟨by rw [flatV_length, List.length_set], .inr ⟨gb, cap, _, by rw [List.length_set]; rw [hn], hb, set_blk (set_blk hh), by rw [List.length_set]; exact h1, h2, by simpa using h3, ?_⟩⟩
    have hlen := flatV_length xs
    apply List.ext_getElem?
    intro i
    simp only [List.length_set, List.getElem?_take, Array.toList_setIfInBounds]
    by_cases hi : i < xs.length * 2
    · rw [if_pos hi]
      have hcur : cur.toList[i]? = (flatV xs)[i]? := by rw [← h4, List.getElem?_take, if_pos hi]
      have hd : i / 2 < xs.length := by omega
      obtain ⟨e1, e2⟩ := flatV_get (xs.set j y) (i / 2) (by simpa using hd)
      obtain ⟨e3, e4⟩ := flatV_get xs (i / 2) hd
      have hcs : i < cur.toList.length := by simp; omega
      rcases Nat.mod_two_eq_zero_or_one i with hm | hm
      · have ei : i = i / 2 * 2 := by omega
        rw [← ei] at e1 e3
        rw [e1, List.getElem?_set_ne (by omega)]
        by_cases hij : i / 2 = j
        · rw [show j * 2 = i by omega, List.getElem?_set_self hcs]
          subst hij; simp
        · rw [List.getElem?_set_ne (by omega), hcur, e3, List.getElem_set_ne (by omega)]
      · have ei : i = i / 2 * 2 + 1 := by omega
        rw [← ei] at e2 e4
        rw [e2]
        by_cases hij : i / 2 = j
        · rw [show j * 2 + 1 = i by omega, List.getElem?_set_self (by simpa using hcs)]
          subst hij; simp
        · rw [List.getElem?_set_ne (by omega), List.getElem?_set_ne (by omega), hcur, e4, List.getElem_set_ne (by omega)]
    · rw [if_neg hi, List.getElem?_eq_none (by rw [flatV_length]; simp; omega)]
theorem own_blkV {w : World} {base gb cap n : Nat} {xs : List Vl} (h : OwnV w base (.slice (some ⟨gb, 0, none⟩) n cap) xs) : base ≤ gb ∧ ∃ cur, w.heap[gb]? = some (.cells cur 99 (0, 0)) := by
  rcases h.2 with ⟨hv, _⟩ | ⟨g', cap', cur, hv, hb, hh, h1, h2, h3, h4⟩
  · cases hv
  · injection hv with hv hn hc
    injection hv with hv
    injection hv with hv
    subst hv
    exact ⟨hb, cur, hh⟩
theorem own_form {w : World} {base n cap : Nat} {A : Option Addr} {xs : List Vl} (h : OwnV w base (.slice A n cap) xs) (hx : 0 < xs.length) : ∃ gf, A = some ⟨gf, 0, none⟩ ∧ base ≤ gf := by
  rcases h.2 with ⟨hv, h0⟩ | ⟨g', cap', cur, hv, hb, _⟩
  · omega
  · injection hv with hv
    exact ⟨g', hv, hb⟩
theorem own_cells {w : World} {base gf n cap : Nat} {xs : List Vl} (h : OwnV w base (.slice (some ⟨gf, 0, none⟩) n cap) xs) (j : Nat) (hj : j < xs.length) : w.cell? ⟨gf, j * 2, none⟩ = some (.bool xs[j].ref) ∧ w.cell? ⟨gf, j * 2 + 1, none⟩ = some (.int .i64 xs[j].n) := by
  obtain ⟨A, c, e, _, hr⟩ := h.rd
  injection e with e
  subst e
  obtain ⟨b, off, e, h1, h2⟩ := hr j hj
  injection e with e; injection e with e1 e2
  subst e1 e2
  simpa only [Nat.zero_add] using And.intro h1 h2
theorem clr_mid (F : Vl → Vl) (f : List Vl) (j : Nat) (hj : j < f.length) : ((f.take j).map F ++ f.drop j).set j (F f[j]) = (f.take (j + 1)).map F ++ f.drop (j + 1) := by
  rw [List.set_append_right _ _ (by simp; omega), List.take_succ_eq_append_getElem hj, List.map_append, List.append_assoc]
  congr 1
  rw [List.length_map, List.length_take, Nat.min_eq_left (Nat.le_of_lt hj), Nat.sub_self, List.drop_eq_getElem_cons hj]
  rfl
theorem clr_get (F : Vl → Vl) (f : List Vl) (j : Nat) (hj : j < f.length) (h : j < ((f.take j).map F ++ f.drop j).length) : ((f.take j).map F ++ f.drop j)[j] = f[j] := by
  rw [List.getElem_append_right (by simp; omega)]
  simp [Nat.min_eq_left (Nat.le_of_lt hj)]
theorem clr_same (F : Vl → Vl) (f : List Vl) (j : Nat) (hj : j < f.length) (h : F f[j] = f[j]) : (f.take (j + 1)).map F ++ f.drop (j + 1) = (f.take j).map F ++ f.drop j := by
  rw [← clr_mid F f j hj, h]
  have hl : j < ((f.take j).map F ++ f.drop j).length := by simp; omega
  have := List.set_getElem_self hl
  rw [clr_get F f j hj hl] at this
  exact this
/-- 'append(o, Object{fv})', in a region that draws nothing. -/
theorem app_o {ops : Array Oper} {rest : List Oper} {o : Oper} {a : Act} {Q : Exit → Act → World → Prop} {w0 W3 : World} (base : Nat) (hgd : o.guard = none) (s x : Operand)
    (ho : o.op = .call { callee := .builtin .append, args := #[s, x], argTypes := #[24, 24] })
    (v : Value) (os : List (List Vl)) (y : List Vl) (fv : Value) (bx : Nat) (hbx : W3.heap.size = bx) (hs : a.eval s = v) (hx : a.eval x = .slice (some ⟨bx, 0, none⟩) 1 1)
    (HO : OwnO W3 base v os) (hyv : OwnV W3 base fv y) (HB : Below base w0 W3) (hbase : base ≤ W3.heap.size) (hl : os.length ≤ 1099511627776)
    (h : ∀ g cap w1, OwnO w1 base (.slice (some ⟨g, 0, none⟩) (os.length + 1) cap) (os ++ [y]) → Below base w0 w1 → W3.grownBy w1 v.ownBlock → wpList Try.prog ops Q rest (a.put o.dst (.slice (some ⟨g, 0, none⟩) (os.length + 1) cap)) w1) :
    wpList Try.prog ops Q (o :: rest) a (W3.alloc (.cells #[fv] 48)) := by
  refine wpList_plain hgd fun K hK => ?_
  obtain ⟨g, cap, w1, hr, h2, h3, h4⟩ := run_app_o base v os y fv bx hbx HO hyv HB hbase hl o.type
  unfold Oper.wp execOp
  simp only [ho, resolve, invoke, builtin, Sem.run_bind, Sem.run_pure, Result.andThen_ok, List.map_toArray, List.map_cons, List.map_nil, hs, hx, hr]
  exact hK _ _ (h g cap w1 h2 h3 h4)

theorem agg2 {a b c d : Value} (h : Value.agg #[a, b] = .agg #[c, d]) : c = a ∧ d = b := by
  injection h with h
  simp at h
  exact ⟨h.1.symm, h.2.symm⟩
theorem lst_mem {kept : List Bool} {x : Int} (h : x ∈ lst kept kept.length) : 0 ≤ x ∧ x < (kept.length : Int) := by
  unfold lst at h
  obtain ⟨i, hi, rfl⟩ := List.mem_map.1 h
  have := List.mem_range.1 (List.mem_filter.1 hi).1
  omega
theorem clrG_refs {g : G} {ks : List Int} {K : Nat → Bool} (h1 : Okv g g.roots) (h2 : ∀ o ∈ g.objs, Okv g o) : ∀ x ∈ allV (clrG g ks K), x.ref = true → 0 ≤ x.n ∧ x.n.toNat < g.objs.length := by
  intro x hx hr
  simp only [allV, List.mem_append, List.mem_flatten] at hx
  rcases hx with hx | ⟨o, ho, hx⟩
  · exact h1 x hx hr
  · obtain ⟨i, hi, rfl⟩ := List.mem_map.1 ho
    have hi := List.mem_range.1 hi
    rw [show g.objs.getD i [] = g.objs[i] by simp [hi]] at hx
    obtain ⟨v, hv, rfl⟩ := List.mem_map.1 hx
    unfold clrV at hr ⊢
    split at hr
    · cases hr
    · rename_i hc; rw [if_neg hc]; exact h2 _ (List.getElem_mem hi) v hv hr
def ClrRel (hb : Nat) (w3 : World) (rt : Value) (os : List (List Vl)) (wr : World) : Prop := ∃ ov : Value, wr.heap[hb]? = some (.cells #[ov, rt] 27 (0, 0)) ∧ OwnO wr (hb + 1) ov os ∧ w3.grownBy wr (some hb)
def ClearPost (w : World) (g : G) (ks : List Int) (e : Ending) (w' : World) : Prop :=
  Below w.heap.size w w' ∧ ((openErr g ks ≠ 0 ∧ e = .returned (.tuple #[.agg #[.slice none 0 0, .slice none 0 0], .int .i64 (openErr g ks)])) ∨
      (openErr g ks = 0 ∧ ∃ v kept, e = .returned (.tuple #[v, .int .i64 0]) ∧ FixK g ks kept ∧ RdG w' v (clearG g ks kept)))
theorem results_g2 {fn : Func} {t u : Tmp} (h : fn.results = #[.cell t 27, .tmp u]) (tmps : Array Value) (w : World) (b : Nat) (x y : Value) (hp : tmps.getD t undef = .pointer (some ⟨b, 0, none⟩)) (h0 : w.cell? ⟨b, 0, none⟩ = some x) (h1 : w.cell? ⟨b, 1, none⟩ = some y) :
    (results fn tmps).run Try.prog w = .ok (.tuple #[.agg #[x, y], tmps.getD u undef]) w := by
  have hp' : tmps[t]?.getD undef = .pointer (some ⟨b, 0, none⟩) := by simpa using hp
  simp [results, h, go_sem, hp', asAddr, loadVar, h0, h1, Result.andThen]

set_option maxRecDepth 100000 in
set_option maxHeartbeats 4000000 in
/-- weak's Clear -/
theorem clear_any (w : World) (v kv : Value) (g : G) (ks : List Int) (h : RdG w v g) (hk : RdI w kv ks) :
    Calls Try.prog 26 #[v, kv] w (ClearPost w g ks) := by
  obtain ⟨vo, vr, rfl, ho, hr⟩ := h
  obtain ⟨A, c, rfl, hm, -⟩ := id hr
  obtain ⟨Ao, co, rfl, hmo, hco⟩ := id ho
  obtain ⟨Ak, ck, rfl, hmk, -⟩ := id hk
  have Hg : Hid (RdG w (.agg #[.slice Ao g.objs.length co, .slice A g.roots.length c]) g) := ⟨_, _, rfl, ho, hr⟩
  have Hk := Lib.hid hk
  have Hr := Lib.hid hr
  have Hco := Lib.hid hco
  clear ho hr hk hco
  have hB0 : Below w.heap.size w ((w.alloc (.cells #[.slice Ao g.objs.length co, .slice A g.roots.length c] 27)).alloc (.cells #[.slice none 0 0, .slice none 0 0] 27)) := ((Below.refl _ _).alloc (Nat.le_refl _) _).alloc (by simp) _
  have HRg := Lib.hid (Hg.out.later (later_below hB0))
  have HRk := Lib.hid (Hk.out.later (later_below hB0))
  have HB0 := Lib.hid hB0
  clear hB0
  by_cases h0 : openErr g ks = 0
  · have HO := Lib.hid (open_ok _ _ _ g ks HRg.out HRk.out h0)
    have hcs := (checkG_ok (openErr_small h0)).1
    have Hoe := Lib.hid h0
    clear h0
    generalize hW : ((w.alloc (.cells #[.slice Ao g.objs.length co, .slice A g.roots.length c] 27)).alloc (.cells #[.slice none 0 0, .slice none 0 0] 27)) = w1 at HO HB0
    have k0 : w1.heap[w.heap.size]? = some (.cells #[.slice Ao g.objs.length co, .slice A g.roots.length c] 27 (0, 0)) := by rw [← hW]; repeat (first | exact at_new _ _ _ (by simp only [World.size_alloc]) | refine at_old _ _ _ _ (by simp only [World.size_alloc]; omega) ?_)
    have k1 : w1.heap[w.heap.size + 1]? = some (.cells #[.slice none 0 0, .slice none 0 0] 27 (0, 0)) := by rw [← hW]; repeat (first | exact at_new _ _ _ (by simp only [World.size_alloc]) | refine at_old _ _ _ _ (by simp only [World.size_alloc]; omega) ?_)
    have s1 : w1.heap.size = w.heap.size + 2 := by rw [← hW]; simp
    have HW := Lib.hid hW
    clear hW
    go_enter Try.func26, Try.ntmps26
    go_wp2_with (first | (go_at_call 53; rw [HW.out]; refine HO.out.mono ?_; rintro e w2 ⟨hB2, kb, bb, vo', vr', kept, rfl, hv', hK, hF⟩; obtain ⟨rfl, rfl⟩ := agg2 hv'; clear hv'; have z2 : w.heap.size < w2.heap.size := lt_blk (blk_below hB2 k0); have HK := Lib.hid hK; have HF := Lib.hid hF; have z0 := later_below hB2 ⟨w.heap.size, 0, none⟩ (.slice Ao g.objs.length co) (cell_blk (j := 0) k0 rfl); have z1 := later_below hB2 ⟨w.heap.size, 1, none⟩ (.slice A g.roots.length c) (cell_blk (j := 1) k0 rfl); clear hK hF))
    have hB02 := HB0.out.trans (hB2.mono HB0.out.size)
    go_outline
    generalize hW3 : w2.alloc (.cells #[.slice none 0 0, .slice A g.roots.length c] 27) = w3
    have hs2 := hB2.size
    have hb3 : Below w2.heap.size w2 w3 := by rw [← hW3]; exact (Below.refl _ _).alloc (Nat.le_refl _) _
    have k2 : w3.heap[w2.heap.size]? = some (.cells #[.slice none 0 0, .slice A g.roots.length c] 27 (0, 0)) := by rw [← hW3]; exact at_new _ _ _ rfl
    have k4 := blk_below hb3 (blk_below hB2 k1)
    have k5 := blk_below hb3 (blk_below hB2 k0)
    have hs3 : w3.heap.size = w2.heap.size + 1 := by rw [← hW3]; simp
    have HK3 := Lib.hid (HK.out.after hb3)
    have HB3 : Hid (Below w.heap.size w w3) := hB02.trans (hb3.mono (by omega))
    have hkl := lt_blk HK.out.hk
    have hbl := lt_blk HK.out.hb
    have hlen := HF.out.len
    clear hW3 k0 k1 z0 z1 hB02 hb3
    obtain ⟨h24, h8, h4, hokr, hoko⟩ := checkG_ok (openErr_small Hoe.out)
    go_loopw [31] (fun i wr => ∃ (k : Nat), k ≤ g.objs.length ∧ i = .int .i64 k ∧ ClrRel w2.heap.size w3 (.slice A g.roots.length c) (clrOs g ks (atB kept) k) wr) (fun i _ => g.objs.length - (intOf i).toNat)
    case atStart => exact ⟨0, Nat.zero_le _, rfl, _, k2, OwnO.nil _ _, World.grownBy.refl _ _⟩
    case round =>
      obtain ⟨k, hk, rfl, ov, g0, gO, gG⟩ := hrel
      have hBw : Below w.heap.size w wr := HB3.out.grown gG HB3.out.size (by intro j hj; injection hj with hj; omega)
      have HKr := Lib.hid (HK3.out.far gG (by omega) (by omega) (by omega))
      have HG := Lib.hid gG
      have HO' := Lib.hid gO
      have HBw := Lib.hid hBw
      have hsr := gG.size
      clear gG gO hBw k2
      obtain ⟨wo, rfl⟩ : ∃ wo : World, wo = wr := ⟨_, rfl⟩
      by_cases hlt : k < g.objs.length
      · obtain ⟨b, off, fv, rfl, hfc, hfr⟩ := Hco.out k hlt
        obtain ⟨Ak', ck', ek, hmk2, hkc⟩ := Hk.out
        have hkl2 : ks.length = g.objs.length := by
          have := Hoe.out; unfold openErr at this; split at this
          · exact absurd this ‹_›
          · split at this
            · cases this
            · rename_i h; simpa using h
        obtain ⟨bk, offk, rfl, hkk⟩ := hkc k (by omega)
        injection ek with ek1 ek2 ek3
        subst ek1 ek3
        have hfc1 := later_below HBw.out _ _ hfc
        have hkk1 := later_below HBw.out _ _ hkk
        have hfr1 := hfr.later (later_below HBw.out)
        have hfm : g.objs[k] ∈ g.objs := List.getElem_mem hlt
        have hf4 := h4 _ hfm
        have hokf := hoko _ hfm
        have Hsn := Lib.hid (clrOs_succ g ks (atB kept) k)
        rw [show g.objs.getD k [] = g.objs[k] by simp [hlt], show ks.getD k 0 = ks[k]'(by omega) by simp [hkl2, hlt]] at Hsn
        generalize g.objs[k] = f at hfr hfr1 hf4 hokf Hsn
        generalize ks[k]'(by omega) = kind at hkk hkk1 Hsn
        obtain ⟨Af, cf, rfl, -, -⟩ := id hfr1
        have Hfr := Lib.hid hfr1
        have Hokf := Lib.hid hokf
        have hki : k < ks.length := by omega
        have hki' : (k : Int) < (ks.length : Int) := by omega
        have Hkl2 := Lib.hid hkl2
        clear hfc hkk hfr hfr1 hkc hokf hfm hoko h4 hmk2 hkl2
        by_cases hk2 : kind = 2
        rotate_left
        · have Hd : Hid (deadO (atB kept) kind f = false) := by show _ = _; simp [deadO, hk2]
          go_wp2_with (first | (go_at_call 55; refine (clone_any _ _ f (Hfr.out.later (later_below ((Below.refl _ _).alloc (Nat.le_refl _) _))) (by omega)).mono ?_; rintro e w4 ⟨v4, rfl, hv4, hB4⟩; obtain ⟨A4, c4, rfl, hm4, -⟩ := id hv4.rd; have hBo := ((Below.refl wo.heap.size wo).alloc (Nat.le_refl _) (.cells #[.slice Af f.length cf] 48)).trans (hB4.mono (by simp)); have hv5 := own_mono hv4 (b2 := wo.heap.size) (by simp); have hs4 := hB4.size; have hkk4 := later_below hBo _ _ hkk1))
          simp only [World.size_alloc] at hs4
          go_loopw [59] (fun i wi => ∃ j : Nat, j ≤ f.length ∧ i = .int .i64 j ∧ Below wo.heap.size wo wi ∧ wo.heap.size + 1 ≤ wi.heap.size ∧ OwnV wi wo.heap.size (.slice A4 f.length c4) ((f.take j).map (clrV (atB kept) kind false) ++ f.drop j)) (fun i _ => f.length - (intOf i).toNat)
          case atStart => exact ⟨0, Nat.zero_le _, rfl, hBo, by omega, by simpa using hv5⟩
          case round =>
            obtain ⟨j, hj, rfl, iB, iS, iV⟩ := hrel
            have HIB := Lib.hid iB
            have HIV := Lib.hid iV
            have hkk5 := later_below iB _ _ hkk1
            clear iB iV hv5 hBo
            by_cases hjl : j < f.length
            · obtain ⟨gf, rfl, hgb⟩ := own_form HIV.out (by simp; omega)
              obtain ⟨ca, cb⟩ := own_cells HIV.out j (by simp; omega)
              rw [clr_get _ _ _ hjl] at ca cb
              obtain ⟨_, cur, hcur⟩ := own_blkV HIV.out
              have fa := frozen_blk (j := j * 2) hcur
              have fb := frozen_blk (j := j * 2 + 1) hcur
              have hgl := lt_blk hcur
              have hkl3 := World.block_lt_of_cell? _ _ hkk5
              dsimp only at hkl3
              have Hmid := Lib.hid (clr_mid (clrV (atB kept) kind false) f j hjl)
              have Hsam := Lib.hid (clr_same (clrV (atB kept) kind false) f j hjl)
              have HVa := Lib.hid (fun (o : Obj) => OwnV.below HIV.out ((Below.refl wr.heap.size wr).alloc (Nat.le_refl _) o))
              have hokj := Hokf.out f[j] (List.getElem_mem hjl)
              generalize f[j] = y at ca cb Hmid Hsam hokj
              obtain ⟨yr, yn⟩ := y
              have Hokj := Lib.hid hokj
              clear hokj hcur
              by_cases hk1 : kind = 1
              rotate_left
              · go_wp2
                have e5 := Hsam.out (by simp [clrV, hk1])
                go_roundw
                case rel => exact ⟨j + 1, by omega, by go_num, HIB.out.alloc (by omega) _, by simp; omega, by rw [e5]; exact HVa.out _⟩
                case measure => simp [intOf]; omega
              · have hb1 : (kind == 1) = true := by simpa using hk1
                have hd1 : decide (kind = 1) = true := by simpa using hk1
                have Hk1 := Lib.hid hk1
                clear hk1
                generalize hal : aliveV (atB kept) ⟨yr, yn⟩ = al
                have Hal := Lib.hid hal
                have HAL := Lib.hid (alive_any w1 (wr.alloc (.cells #[.bool yr, .int .i64 yn] 99)) kb bb _ _ _ kept (HKr.out.after (HIB.out.alloc (by omega) _)) yr yn (fun h => by have := Hokj.out h; rw [hlen]; exact this) (by omega))
                rw [hal] at HAL
                clear hal
                cases al
                · go_wp2_with (go_at_call 56; refine HAL.out.mono ?_; rintro e w6 ⟨rfl, hB6⟩; have hgl6 : gf < w6.heap.size := by { have := hB6.size; simp at this; omega }; have fa6 := (hB6.frozen (p := ⟨gf, j * 2, none⟩) (by simp; omega)).trans ((Below.refl wr.heap.size wr).alloc (Nat.le_refl _) _ |>.frozen (p := ⟨gf, j * 2, none⟩) hgl |>.trans fa); have fb6 := (hB6.frozen (p := ⟨gf, j * 2 + 1, none⟩) (by simp; omega)).trans ((Below.refl wr.heap.size wr).alloc (Nat.le_refl _) _ |>.frozen (p := ⟨gf, j * 2 + 1, none⟩) hgl |>.trans fb); have ca6 := later_below hB6 _ _ (later_below ((Below.refl wr.heap.size wr).alloc (Nat.le_refl _) _) _ _ ca); have cb6 := later_below hB6 _ _ (later_below ((Below.refl wr.heap.size wr).alloc (Nat.le_refl _) _) _ _ cb))
                  have hset := own_setV (OwnV.below (HVa.out (.cells #[.bool yr, .int .i64 yn] 99)) hB6) j (by simp; omega) ⟨false, 0⟩
                  have hs6 := hB6.size
                  go_roundw
                  case rel =>
                    refine ⟨j + 1, by omega, by go_num, (((HIB.out.alloc (by omega) _).trans (hB6.mono (by simp; omega))).setCell hgb _).setCell hgb _, by simp at hs6 ⊢; omega, ?_⟩
                    rw [← Hmid.out]
                    simpa [clrV, Hk1.out, Hal.out] using hset
                  case measure => simp [intOf]; omega
                · go_wp2_with (go_at_call 56; refine HAL.out.mono ?_; rintro e w6 ⟨rfl, hB6⟩)
                  have e5 := Hsam.out (by simp [clrV, Hk1.out, Hal.out])
                  have hs6 := hB6.size
                  go_roundw
                  case rel => exact ⟨j + 1, by omega, by go_num, (HIB.out.alloc (by omega) _).trans (hB6.mono (by simp; omega)), by simp at hs6; omega, by rw [e5]; exact OwnV.below (HVa.out _) hB6⟩
                  case measure => simp [intOf]; omega
            · have hjf : j = f.length := by omega
              have e6 : (f.take j).map (clrV (atB kept) kind false) ++ f.drop j = clrO (atB kept) kind f := by
                rw [hjf]; simp [clrO, Hd.out]
              have hV6 := HIV.out
              rw [e6] at hV6
              have HV6 := Lib.hid (own_mono hV6 (b2 := w2.heap.size + 1) (by omega))
              have gi0 := blk_below HIB.out g0
              have u0 := cell_blk (j := 0) gi0 rfl
              have hOi := Lib.hid (HO'.out.below HIB.out)
              have hli := lt_blk gi0
              clear hV6 e6
              go_wp2_with (at_builtin; refine app_o (w2.heap.size + 1) rfl _ _ rfl ov (clrOs g ks (atB kept) k) (clrO (atB kept) kind f) (.slice A4 f.length c4) _ rfl (by rfl) (by rfl) hOi.out HV6.out (Below.refl _ wr) (by omega) (by rw [clrOs_len]; omega) ?_; intro g7 cap7 w7 hO7 hB7 hg7; have q6 := hg7.cell u0 (fun hh => absurd (own_base' hOi.out w2.heap.size hh.symm) (by omega)); have q7 := blk_grown hg7 gi0 (fun hh => absurd (own_base' hOi.out w2.heap.size hh.symm) (by omega)); have q8 := frozen_blk (j := 0) q7)
              rw [clrOs_len] at hO7 ⊢
              have hO8 := hO7.low (grown_setCell w7 ⟨w2.heap.size, 0, none⟩ (.slice (some ⟨g7, 0, none⟩) (k + 1) cap7)) (by show w2.heap.size < w2.heap.size + 1; omega)
              have hcs := set_blk (j := 0) (u := .slice (some ⟨g7, 0, none⟩) (k + 1) cap7) q7
              have hgr := ((HG.out.trans (grown_of_below HIB.out _)).andThen hg7 (fun j hj => .inl (by have := own_base' hOi.out j hj; omega))).trans (grown_setCell w7 ⟨w2.heap.size, 0, none⟩ (.slice (some ⟨g7, 0, none⟩) (k + 1) cap7))
              rw [← Hsn.out] at hO8
              go_roundw
              case rel => exact ⟨k + 1, by omega, by go_num, _, hcs, hO8, hgr⟩
              case measure => simp [intOf]; omega
        · have hb2 : (kind == 2) = true := by simpa using hk2
          have hd2 : decide (kind = 2) = true := by simpa using hk2
          have Hk2 := Lib.hid hk2
          clear hk2
          by_cases hf0 : 0 < f.length
          · have hf0' : (0 : Int) < (f.length : Int) := by omega
            have hokf0 := Hokf.out f[0] (List.getElem_mem hf0)
            have hdd : deadO (atB kept) kind f = !aliveV (atB kept) f[0] := by
              rw [Hk2.out]
              rcases f with _ | ⟨u, r⟩
              · simp at hf0
              · simp [deadO]
            generalize hu0 : f[0] = u0 at hokf0 hdd
            obtain ⟨u0r, u0n⟩ := u0
            have Hu0 := Lib.hid hu0
            have Hokf0 := Lib.hid hokf0
            clear hu0 hokf0
            generalize hal0 : aliveV (atB kept) ⟨u0r, u0n⟩ = al0 at hdd
            have Hal0 := Lib.hid hal0
            clear hal0
            cases al0
            · have Hd : Hid (deadO (atB kept) kind f = true) := by show _ = _; rw [hdd]; rfl
              clear hdd
              go_wp2_with (first | (go_at_call 55; refine (clone_any _ _ f (Hfr.out.later (later_below ((Below.refl _ _).alloc (Nat.le_refl _) _))) (by omega)).mono ?_; rintro e w4 ⟨v4, rfl, hv4, hB4⟩; obtain ⟨A4, c4, rfl, hm4, -⟩ := id hv4.rd; have hBo := ((Below.refl wo.heap.size wo).alloc (Nat.le_refl _) (.cells #[.slice Af f.length cf] 48)).trans (hB4.mono (by simp)); have hv5 := own_mono hv4 (b2 := wo.heap.size) (by simp); have hs4 := hB4.size; have hkk4 := later_below hBo _ _ hkk1; obtain ⟨gf, rfl, hgf⟩ := own_form hv4 hf0; obtain ⟨ca0, cb0⟩ := own_cells hv4 0 hf0; rw [Hu0.out] at ca0 cb0; simp only [Nat.zero_mul, Nat.zero_add] at ca0 cb0; have hBo4 := hBo; have hv54 := hv5; clear hBo hv5) | (go_at_call 56; refine (alive_any w1 _ kb bb _ _ _ kept (HKr.out.after hBo4) _ _ (fun h => by have := Hokf0.out h; rw [hlen]; exact this) (by omega)).mono ?_; rintro e w5 ⟨rfl, hB5⟩; rw [Hal0.out]; have hBo := hBo4.trans (hB5.mono hBo4.size); have hv5 := OwnV.below hv54 hB5; have hs5 := hB5.size))
              simp only [World.size_alloc] at hs4
              clear ca0 cb0
              go_loopw [59] (fun i wi => ∃ j : Nat, j ≤ f.length ∧ i = .int .i64 j ∧ Below wo.heap.size wo wi ∧ wo.heap.size + 1 ≤ wi.heap.size ∧ OwnV wi wo.heap.size (.slice (some ⟨gf, 0, none⟩) f.length c4) ((f.take j).map (clrV (atB kept) kind true) ++ f.drop j)) (fun i _ => f.length - (intOf i).toNat)
              case atStart => exact ⟨0, Nat.zero_le _, rfl, hBo, by omega, by simpa using hv5⟩
              case round =>
                obtain ⟨j, hj, rfl, iB, iS, iV⟩ := hrel
                have HIB := Lib.hid iB
                have HIV := Lib.hid iV
                have hkk5 := later_below iB _ _ hkk1
                clear iB iV hv5 hBo
                by_cases hjl : j < f.length
                · obtain ⟨gf2, e2, hgb⟩ := own_form HIV.out (by simp; omega)
                  obtain rfl : gf = gf2 := by simpa using e2
                  obtain ⟨ca, cb⟩ := own_cells HIV.out j (by simp; omega)
                  rw [clr_get _ _ _ hjl] at ca cb
                  obtain ⟨_, cur, hcur⟩ := own_blkV HIV.out
                  have fa := frozen_blk (j := j * 2) hcur
                  have fb := frozen_blk (j := j * 2 + 1) hcur
                  have hgl := lt_blk hcur
                  have hkl3 := World.block_lt_of_cell? _ _ hkk5
                  dsimp only at hkl3
                  have Hmid := Lib.hid (clr_mid (clrV (atB kept) kind true) f j hjl)
                  have Hsam := Lib.hid (clr_same (clrV (atB kept) kind true) f j hjl)
                  have HVa := Lib.hid (fun (o : Obj) => OwnV.below HIV.out ((Below.refl wr.heap.size wr).alloc (Nat.le_refl _) o))
                  have hokj := Hokf.out f[j] (List.getElem_mem hjl)
                  generalize f[j] = y at ca cb Hmid Hsam hokj
                  obtain ⟨yr, yn⟩ := y
                  have Hokj := Lib.hid hokj
                  clear hokj hcur
                  go_wp2
                  have hset := OwnV.below (own_setV HIV.out j (by simp; omega) ⟨false, 0⟩) ((Below.refl _ _).alloc (Nat.le_refl _) (.cells #[.bool yr, .int .i64 yn] 99))
                  go_roundw
                  case rel =>
                    refine ⟨j + 1, by omega, by go_num, ((HIB.out.setCell (p := ⟨gf, j * 2, none⟩) hgb _).setCell (p := ⟨gf, j * 2 + 1, none⟩) hgb _).alloc (by simp; omega) _, by simp; omega, ?_⟩
                    rw [← Hmid.out]
                    simpa [clrV] using hset
                  case measure => simp [intOf]; omega
                · have hjf : j = f.length := by omega
                  have e6 : (f.take j).map (clrV (atB kept) kind true) ++ f.drop j = clrO (atB kept) kind f := by
                    rw [hjf]; simp [clrO, Hd.out]
                  have hV6 := HIV.out
                  rw [e6] at hV6
                  have HV6 := Lib.hid (own_mono hV6 (b2 := w2.heap.size + 1) (by omega))
                  have gi0 := blk_below HIB.out g0
                  have u0 := cell_blk (j := 0) gi0 rfl
                  have hOi := Lib.hid (HO'.out.below HIB.out)
                  have hli := lt_blk gi0
                  clear hV6 e6
                  go_wp2_with (at_builtin; refine app_o (w2.heap.size + 1) rfl _ _ rfl ov (clrOs g ks (atB kept) k) (clrO (atB kept) kind f) (.slice (some ⟨gf, 0, none⟩) f.length c4) _ rfl (by rfl) (by rfl) hOi.out HV6.out (Below.refl _ wr) (by omega) (by rw [clrOs_len]; omega) ?_; intro g7 cap7 w7 hO7 hB7 hg7; have q6 := hg7.cell u0 (fun hh => absurd (own_base' hOi.out w2.heap.size hh.symm) (by omega)); have q7 := blk_grown hg7 gi0 (fun hh => absurd (own_base' hOi.out w2.heap.size hh.symm) (by omega)); have q8 := frozen_blk (j := 0) q7)
                  rw [clrOs_len] at hO7 ⊢
                  have hO8 := hO7.low (grown_setCell w7 ⟨w2.heap.size, 0, none⟩ (.slice (some ⟨g7, 0, none⟩) (k + 1) cap7)) (by show w2.heap.size < w2.heap.size + 1; omega)
                  have hcs := set_blk (j := 0) (u := .slice (some ⟨g7, 0, none⟩) (k + 1) cap7) q7
                  have hgr := ((HG.out.trans (grown_of_below HIB.out _)).andThen hg7 (fun j hj => .inl (by have := own_base' hOi.out j hj; omega))).trans (grown_setCell w7 ⟨w2.heap.size, 0, none⟩ (.slice (some ⟨g7, 0, none⟩) (k + 1) cap7))
                  rw [← Hsn.out] at hO8
                  go_roundw
                  case rel => exact ⟨k + 1, by omega, by go_num, _, hcs, hO8, hgr⟩
                  case measure => simp [intOf]; omega
            · have Hd : Hid (deadO (atB kept) kind f = false) := by show _ = _; rw [hdd]; rfl
              clear hdd
              go_wp2_with (first | (go_at_call 55; refine (clone_any _ _ f (Hfr.out.later (later_below ((Below.refl _ _).alloc (Nat.le_refl _) _))) (by omega)).mono ?_; rintro e w4 ⟨v4, rfl, hv4, hB4⟩; obtain ⟨A4, c4, rfl, hm4, -⟩ := id hv4.rd; have hBo := ((Below.refl wo.heap.size wo).alloc (Nat.le_refl _) (.cells #[.slice Af f.length cf] 48)).trans (hB4.mono (by simp)); have hv5 := own_mono hv4 (b2 := wo.heap.size) (by simp); have hs4 := hB4.size; have hkk4 := later_below hBo _ _ hkk1; obtain ⟨gf, rfl, hgf⟩ := own_form hv4 hf0; obtain ⟨ca0, cb0⟩ := own_cells hv4 0 hf0; rw [Hu0.out] at ca0 cb0; simp only [Nat.zero_mul, Nat.zero_add] at ca0 cb0; have hBo4 := hBo; have hv54 := hv5; clear hBo hv5) | (go_at_call 56; refine (alive_any w1 _ kb bb _ _ _ kept (HKr.out.after hBo4) _ _ (fun h => by have := Hokf0.out h; rw [hlen]; exact this) (by omega)).mono ?_; rintro e w5 ⟨rfl, hB5⟩; rw [Hal0.out]; have hBo := hBo4.trans (hB5.mono hBo4.size); have hv5 := OwnV.below hv54 hB5; have hs5 := hB5.size))
              simp only [World.size_alloc] at hs4
              clear ca0 cb0
              go_loopw [59] (fun i wi => ∃ j : Nat, j ≤ f.length ∧ i = .int .i64 j ∧ Below wo.heap.size wo wi ∧ wo.heap.size + 1 ≤ wi.heap.size ∧ OwnV wi wo.heap.size (.slice (some ⟨gf, 0, none⟩) f.length c4) ((f.take j).map (clrV (atB kept) kind false) ++ f.drop j)) (fun i _ => f.length - (intOf i).toNat)
              case atStart => exact ⟨0, Nat.zero_le _, rfl, hBo, by omega, by simpa using hv5⟩
              case round =>
                obtain ⟨j, hj, rfl, iB, iS, iV⟩ := hrel
                have HIB := Lib.hid iB
                have HIV := Lib.hid iV
                have hkk5 := later_below iB _ _ hkk1
                clear iB iV hv5 hBo
                by_cases hjl : j < f.length
                · obtain ⟨gf2, e2, hgb⟩ := own_form HIV.out (by simp; omega)
                  obtain rfl : gf = gf2 := by simpa using e2
                  obtain ⟨ca, cb⟩ := own_cells HIV.out j (by simp; omega)
                  rw [clr_get _ _ _ hjl] at ca cb
                  obtain ⟨_, cur, hcur⟩ := own_blkV HIV.out
                  have fa := frozen_blk (j := j * 2) hcur
                  have fb := frozen_blk (j := j * 2 + 1) hcur
                  have hgl := lt_blk hcur
                  have hkl3 := World.block_lt_of_cell? _ _ hkk5
                  dsimp only at hkl3
                  have Hmid := Lib.hid (clr_mid (clrV (atB kept) kind false) f j hjl)
                  have Hsam := Lib.hid (clr_same (clrV (atB kept) kind false) f j hjl)
                  have HVa := Lib.hid (fun (o : Obj) => OwnV.below HIV.out ((Below.refl wr.heap.size wr).alloc (Nat.le_refl _) o))
                  have hokj := Hokf.out f[j] (List.getElem_mem hjl)
                  generalize f[j] = y at ca cb Hmid Hsam hokj
                  obtain ⟨yr, yn⟩ := y
                  have Hokj := Lib.hid hokj
                  clear hokj hcur
                  by_cases hk1 : kind = 1
                  rotate_left
                  · go_wp2
                    have e5 := Hsam.out (by simp [clrV, hk1])
                    go_roundw
                    case rel => exact ⟨j + 1, by omega, by go_num, HIB.out.alloc (by omega) _, by simp; omega, by rw [e5]; exact HVa.out _⟩
                    case measure => simp [intOf]; omega
                  · have hb1 : (kind == 1) = true := by simpa using hk1
                    have hd1 : decide (kind = 1) = true := by simpa using hk1
                    have Hk1 := Lib.hid hk1
                    clear hk1
                    generalize hal : aliveV (atB kept) ⟨yr, yn⟩ = al
                    have Hal := Lib.hid hal
                    have HAL := Lib.hid (alive_any w1 (wr.alloc (.cells #[.bool yr, .int .i64 yn] 99)) kb bb _ _ _ kept (HKr.out.after (HIB.out.alloc (by omega) _)) yr yn (fun h => by have := Hokj.out h; rw [hlen]; exact this) (by omega))
                    rw [hal] at HAL
                    clear hal
                    cases al
                    · go_wp2_with (go_at_call 56; refine HAL.out.mono ?_; rintro e w6 ⟨rfl, hB6⟩; have hgl6 : gf < w6.heap.size := by { have := hB6.size; simp at this; omega }; have fa6 := (hB6.frozen (p := ⟨gf, j * 2, none⟩) (by simp; omega)).trans ((Below.refl wr.heap.size wr).alloc (Nat.le_refl _) _ |>.frozen (p := ⟨gf, j * 2, none⟩) hgl |>.trans fa); have fb6 := (hB6.frozen (p := ⟨gf, j * 2 + 1, none⟩) (by simp; omega)).trans ((Below.refl wr.heap.size wr).alloc (Nat.le_refl _) _ |>.frozen (p := ⟨gf, j * 2 + 1, none⟩) hgl |>.trans fb); have ca6 := later_below hB6 _ _ (later_below ((Below.refl wr.heap.size wr).alloc (Nat.le_refl _) _) _ _ ca); have cb6 := later_below hB6 _ _ (later_below ((Below.refl wr.heap.size wr).alloc (Nat.le_refl _) _) _ _ cb))
                      have hset := own_setV (OwnV.below (HVa.out (.cells #[.bool yr, .int .i64 yn] 99)) hB6) j (by simp; omega) ⟨false, 0⟩
                      have hs6 := hB6.size
                      go_roundw
                      case rel =>
                        refine ⟨j + 1, by omega, by go_num, (((HIB.out.alloc (by omega) _).trans (hB6.mono (by simp; omega))).setCell hgb _).setCell hgb _, by simp at hs6 ⊢; omega, ?_⟩
                        rw [← Hmid.out]
                        simpa [clrV, Hk1.out, Hal.out] using hset
                      case measure => simp [intOf]; omega
                    · go_wp2_with (go_at_call 56; refine HAL.out.mono ?_; rintro e w6 ⟨rfl, hB6⟩)
                      have e5 := Hsam.out (by simp [clrV, Hk1.out, Hal.out])
                      have hs6 := hB6.size
                      go_roundw
                      case rel => exact ⟨j + 1, by omega, by go_num, (HIB.out.alloc (by omega) _).trans (hB6.mono (by simp; omega)), by simp at hs6; omega, by rw [e5]; exact OwnV.below (HVa.out _) hB6⟩
                      case measure => simp [intOf]; omega
                · have hjf : j = f.length := by omega
                  have e6 : (f.take j).map (clrV (atB kept) kind false) ++ f.drop j = clrO (atB kept) kind f := by
                    rw [hjf]; simp [clrO, Hd.out]
                  have hV6 := HIV.out
                  rw [e6] at hV6
                  have HV6 := Lib.hid (own_mono hV6 (b2 := w2.heap.size + 1) (by omega))
                  have gi0 := blk_below HIB.out g0
                  have u0 := cell_blk (j := 0) gi0 rfl
                  have hOi := Lib.hid (HO'.out.below HIB.out)
                  have hli := lt_blk gi0
                  clear hV6 e6
                  go_wp2_with (at_builtin; refine app_o (w2.heap.size + 1) rfl _ _ rfl ov (clrOs g ks (atB kept) k) (clrO (atB kept) kind f) (.slice (some ⟨gf, 0, none⟩) f.length c4) _ rfl (by rfl) (by rfl) hOi.out HV6.out (Below.refl _ wr) (by omega) (by rw [clrOs_len]; omega) ?_; intro g7 cap7 w7 hO7 hB7 hg7; have q6 := hg7.cell u0 (fun hh => absurd (own_base' hOi.out w2.heap.size hh.symm) (by omega)); have q7 := blk_grown hg7 gi0 (fun hh => absurd (own_base' hOi.out w2.heap.size hh.symm) (by omega)); have q8 := frozen_blk (j := 0) q7)
                  rw [clrOs_len] at hO7 ⊢
                  have hO8 := hO7.low (grown_setCell w7 ⟨w2.heap.size, 0, none⟩ (.slice (some ⟨g7, 0, none⟩) (k + 1) cap7)) (by show w2.heap.size < w2.heap.size + 1; omega)
                  have hcs := set_blk (j := 0) (u := .slice (some ⟨g7, 0, none⟩) (k + 1) cap7) q7
                  have hgr := ((HG.out.trans (grown_of_below HIB.out _)).andThen hg7 (fun j hj => .inl (by have := own_base' hOi.out j hj; omega))).trans (grown_setCell w7 ⟨w2.heap.size, 0, none⟩ (.slice (some ⟨g7, 0, none⟩) (k + 1) cap7))
                  rw [← Hsn.out] at hO8
                  go_roundw
                  case rel => exact ⟨k + 1, by omega, by go_num, _, hcs, hO8, hgr⟩
                  case measure => simp [intOf]; omega
          · have hf0' : ¬ (0 : Int) < (f.length : Int) := by omega
            have Hd : Hid (deadO (atB kept) kind f = false) := by
              show _ = _
              rcases f with _ | ⟨u, r⟩
              · simp [deadO]
              · simp at hf0
            have Hf0 := Lib.hid hf0
            clear hf0
            go_wp2_with (first | (go_at_call 55; refine (clone_any _ _ f (Hfr.out.later (later_below ((Below.refl _ _).alloc (Nat.le_refl _) _))) (by omega)).mono ?_; rintro e w4 ⟨v4, rfl, hv4, hB4⟩; obtain ⟨A4, c4, rfl, hm4, -⟩ := id hv4.rd; have hBo := ((Below.refl wo.heap.size wo).alloc (Nat.le_refl _) (.cells #[.slice Af f.length cf] 48)).trans (hB4.mono (by simp)); have hv5 := own_mono hv4 (b2 := wo.heap.size) (by simp); have hs4 := hB4.size; have hkk4 := later_below hBo _ _ hkk1))
            simp only [World.size_alloc] at hs4
            go_loopw [59] (fun i wi => ∃ j : Nat, j ≤ f.length ∧ i = .int .i64 j ∧ Below wo.heap.size wo wi ∧ wo.heap.size + 1 ≤ wi.heap.size ∧ OwnV wi wo.heap.size (.slice A4 f.length c4) ((f.take j).map (clrV (atB kept) kind false) ++ f.drop j)) (fun i _ => f.length - (intOf i).toNat)
            case atStart => exact ⟨0, Nat.zero_le _, rfl, hBo, by omega, by simpa using hv5⟩
            case round =>
              obtain ⟨j, hj, rfl, iB, iS, iV⟩ := hrel
              have HIB := Lib.hid iB
              have HIV := Lib.hid iV
              have hkk5 := later_below iB _ _ hkk1
              clear iB iV hv5 hBo
              by_cases hjl : j < f.length
              · exact absurd hjl (by have := Hf0.out; omega)
              · have hjf : j = f.length := by omega
                have e6 : (f.take j).map (clrV (atB kept) kind false) ++ f.drop j = clrO (atB kept) kind f := by
                  rw [hjf]; simp [clrO, Hd.out]
                have hV6 := HIV.out
                rw [e6] at hV6
                have HV6 := Lib.hid (own_mono hV6 (b2 := w2.heap.size + 1) (by omega))
                have gi0 := blk_below HIB.out g0
                have u0 := cell_blk (j := 0) gi0 rfl
                have hOi := Lib.hid (HO'.out.below HIB.out)
                have hli := lt_blk gi0
                clear hV6 e6
                go_wp2_with (at_builtin; refine app_o (w2.heap.size + 1) rfl _ _ rfl ov (clrOs g ks (atB kept) k) (clrO (atB kept) kind f) (.slice A4 f.length c4) _ rfl (by rfl) (by rfl) hOi.out HV6.out (Below.refl _ wr) (by omega) (by rw [clrOs_len]; omega) ?_; intro g7 cap7 w7 hO7 hB7 hg7; have q6 := hg7.cell u0 (fun hh => absurd (own_base' hOi.out w2.heap.size hh.symm) (by omega)); have q7 := blk_grown hg7 gi0 (fun hh => absurd (own_base' hOi.out w2.heap.size hh.symm) (by omega)); have q8 := frozen_blk (j := 0) q7)
                rw [clrOs_len] at hO7 ⊢
                have hO8 := hO7.low (grown_setCell w7 ⟨w2.heap.size, 0, none⟩ (.slice (some ⟨g7, 0, none⟩) (k + 1) cap7)) (by show w2.heap.size < w2.heap.size + 1; omega)
                have hcs := set_blk (j := 0) (u := .slice (some ⟨g7, 0, none⟩) (k + 1) cap7) q7
                have hgr := ((HG.out.trans (grown_of_below HIB.out _)).andThen hg7 (fun j hj => .inl (by have := own_base' hOi.out j hj; omega))).trans (grown_setCell w7 ⟨w2.heap.size, 0, none⟩ (.slice (some ⟨g7, 0, none⟩) (k + 1) cap7))
                rw [← Hsn.out] at hO8
                go_roundw
                case rel => exact ⟨k + 1, by omega, by go_num, _, hcs, hO8, hgr⟩
                case measure => simp [intOf]; omega
      · have hkn : k = g.objs.length := by omega
        subst hkn
        have k4r := blk_grown HG.out k4 (by intro he; injection he with he; omega)
        obtain ⟨Aov, cov, rfl, hmv, -⟩ := id HO'.out.rd
        have u0 := cell_blk (j := 0) g0 rfl
        have u1 := cell_blk (j := 1) g0 rfl
        have y0 : wo.cell? ⟨w2.heap.size, 0, none⟩ = some (.slice Aov (clrOs g ks (atB kept) g.objs.length).length cov) := u0
        have y1 : wo.cell? ⟨w2.heap.size, 1, none⟩ = some (.slice A g.roots.length c) := u1
        have hrefs := clrG_refs (ks := ks) (K := atB kept) hokr hoko
        have hg5 : RdG wo (.agg #[.slice Aov (clrOs g ks (atB kept) g.objs.length).length cov, .slice A g.roots.length c]) (clrG g ks (atB kept)) := ⟨_, _, rfl, HO'.out.rd, Hr.out.later (later_below HBw.out)⟩
        have Hg5 := Lib.hid hg5
        have Hrefs := Lib.hid hrefs
        have hc4 : ∀ o ∈ (clrG g ks (atB kept)).objs, o.length ≤ 1099511627776 := by
          intro o ho
          obtain ⟨i, hi, rfl⟩ := List.mem_map.1 ho
          have hi := List.mem_range.1 hi
          rw [show g.objs.getD i [] = g.objs[i] by simp [hi]]
          have := h4 _ (List.getElem_mem hi)
          simp [clrO]; omega
        have Hc4 := Lib.hid hc4
        have hcl : (clrG g ks (atB kept)).objs.length = g.objs.length := clrOs_len _ _ _ _
        have Hcl := Lib.hid hcl
        clear u0 u1 hrefs hg5 hc4 hcl hoko h4
        go_wp2_with fail
        go_region_held3 (fun W => W.cell? ⟨w2.heap.size, 0, none⟩ = some (.slice Aov (clrOs g ks (atB kept) g.objs.length).length cov) ∧ W.cell? ⟨w2.heap.size, 1, none⟩ = some (.slice A g.roots.length c))
          (first | go_keep | (go_split_ands; refine ⟨later_below hB5 _ _ ?_, later_below hB5 _ _ ?_⟩ <;> assumption) | (go_split_ands; refine ⟨later_below hB6 _ _ ?_, later_below hB6 _ _ ?_⟩ <;> assumption) | (go_split_ands; refine ⟨?_, ?_⟩ <;> (rw [World.cell?_setCell_far _ _ _ _ (by simp; omega), World.cell?_setCell_far _ _ _ _ (by simp; omega)]; assumption)))
          (first | (go_at_call 54; refine (list_any w1 _ kb bb _ _ _ kept (HKr.out.after (Below.refl _ _).drew) (by omega)).mono ?_; rintro e w5 ⟨v5, rfl, hv5, hB5⟩; have hb5 := ((Below.refl wo.heap.size wo).drew).trans hB5; have k45 := blk_below hb5 k4r) | (go_at_call 57; refine (renumber_any _ _ _ (clrG g ks (atB kept)) (lst kept kept.length) (Hg5.out.later (later_below hb5)) hv5.rd (by show g.roots.length ≤ _; omega) Hc4.out (by have := lst_len kept kept.length; omega) (fun x hx => by have := lst_mem hx; rw [Hcl.out]; omega) (fun x hx hr => by have := Hrefs.out x hx hr; exact wf_i64 _ (by omega) (by omega))).mono ?_; rintro e w6 ⟨v6, rfl, hg6, hB6⟩; have Hg6 := Lib.hid hg6; obtain ⟨vo6, vr6, rfl, ⟨A6, c6, rfl, hm6, -⟩, ⟨A7, c7, rfl, hm7, -⟩⟩ := hg6 w6 (fun _ _ => rfl); clear hg6; have q0 := blk_below hB6 k45; have q1 := cell_blk (j := 0) q0 rfl; have q2 := cell_blk (j := 1) q0 rfl; have q3 := frozen_blk (j := 0) q0; have q4 := frozen_blk (j := 1) q0))
        go_wp2
        refine bodyPost_ret (results_g2 rfl _ _ (w.heap.size + 1) (.slice A6 (renumG (clrG g ks (atB kept)) (lst kept kept.length)).objs.length c6) (.slice A7 (renumG (clrG g ks (atB kept)) (lst kept kept.length)).roots.length c7) rfl (by simp [go_sem, q1, hlen]) (by simp [go_sem, q2, hlen])) rfl ?_
        have hsw := HBw.out.size
        have hs5 := hb5.size
        have hbw := HBw.out.trans ((hb5.mono hsw).trans (hB6.mono (Nat.le_trans hsw hs5)))
        refine ⟨(hbw.setCell (by simp) _).setCell (by simp) _, .inr ⟨Hoe.out, _, kept, rfl, HF.out, ?_⟩⟩
        refine Hg6.out _ fun b hb => ?_
        rw [Below.heap_setCell _ _ _ b (by simp; omega), Below.heap_setCell _ _ _ b (by simp; omega)]
  · have HO := Lib.hid (open_err _ _ _ g ks HRg.out HRk.out h0)
    have Hoe := Lib.hid h0
    generalize hoe : openErr g ks = oe at HO
    have d0 : decide (oe = 0) = false := by rw [← hoe]; simpa using h0
    have b0 : (oe != 0) = true := by rw [← hoe]; simpa using h0
    have Hq := Lib.hid hoe
    clear hoe h0
    go_enter Try.func26, Try.ntmps26
    have hs : w.heap.size + 1 < ((w.alloc (.cells #[.slice Ao g.objs.length co, .slice A g.roots.length c] 27)).alloc (.cells #[.slice none 0 0, .slice none 0 0] 27)).heap.size := by simp
    have hbk : ((w.alloc (.cells #[.slice Ao g.objs.length co, .slice A g.roots.length c] 27)).alloc (.cells #[.slice none 0 0, .slice none 0 0] 27)).heap[w.heap.size + 1]? = some (.cells #[.slice none 0 0, .slice none 0 0] 27 (0, 0)) := by repeat (first | exact at_new _ _ _ (by simp only [World.size_alloc]) | refine at_old _ _ _ _ (by simp only [World.size_alloc]; omega) ?_)
    have Hbk := Lib.hid hbk
    clear hs hbk
    go_wp2_with (go_at_call 53; refine HO.out.mono ?_; rintro e w2 ⟨hB2, rfl⟩; have q0 := blk_below hB2 Hbk.out; have q1 := cell_blk (j := 0) q0 rfl; have q2 := cell_blk (j := 1) q0 rfl; have q3 := frozen_blk (j := 0) q0; have q4 := frozen_blk (j := 1) q0)
    refine bodyPost_ret (results_g2 rfl _ _ (w.heap.size + 1) (.slice none 0 0) (.slice none 0 0) rfl (by simp [go_sem, q1]) (by simp [go_sem, q2])) rfl ?_
    exact ⟨((HB0.out.trans (hB2.mono HB0.out.size)).setCell (by simp) _).setCell (by simp) _, .inl ⟨Hoe.out, by rw [Hq.out]; rfl⟩⟩

end Go.Proofs.Yteghhajfkdbcdaa
