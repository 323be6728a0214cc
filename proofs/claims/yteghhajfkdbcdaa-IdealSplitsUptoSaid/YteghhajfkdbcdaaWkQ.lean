/- weak: the plain law: what was cleared once is cleared. -/
import Derived.Test.YteghhajfkdbcdaaWkC
namespace Go.Proofs.Yteghhajfkdbcdaa
open Go.RowKit
set_option linter.unusedVariables false
set_option linter.unusedSimpArgs false

theorem numIn_get' : ∀ (n : Nat) (l : List Int), l.length = n → l.Nodup → ∀ j, (h : j < l.length) → numIn l l[j] = (j : Int) := by
  intro n
  induction n with
  | zero => intro l hn _ j h; omega
  | succ n ih =>
    intro l hn hnd j h
    have hne : l ≠ [] := by intro e; rw [e] at hn; cases hn
    have e : l = l.dropLast ++ [l.getLast hne] := (List.dropLast_concat_getLast hne).symm
    have hdl : l.dropLast.length = n := by simp [hn]
    have hnd' : l.dropLast.Nodup := hnd.sublist (List.dropLast_sublist l)
    generalize hy : l.getLast hne = y at e
    generalize hd : l.dropLast = d at e hdl hnd'
    subst e
    rw [numIn_snoc]
    by_cases hj : j = n
    · subst hj
      rw [if_pos (by simp [hdl])]
      omega
    · have hjd : j < d.length := by omega
      have hg : (d ++ [y])[j]'(by simp; omega) = d[j] := List.getElem_append_left hjd
      rw [hg, if_neg, ih d hdl hnd' j hjd]
      intro e2
      have := (List.nodup_append.1 hnd).2.2 d[j] (List.getElem_mem hjd) y (by simp)
      exact this e2
theorem numIn_get (l : List Int) (h : l.Nodup) (j : Nat) (hj : j < l.length) : numIn l l[j] = (j : Int) := numIn_get' _ l rfl h j hj
theorem numIn_mem {l : List Int} (hnd : l.Nodup) {x : Int} (hx : x ∈ l) : ∃ j : Nat, ∃ h : j < l.length, l[j] = x ∧ numIn l x = (j : Int) := by
  obtain ⟨j, h, rfl⟩ := List.getElem_of_mem hx
  exact ⟨j, h, rfl, numIn_get l hnd j h⟩
theorem lst_nodup (kept : List Bool) (k : Nat) : (lst kept k).Nodup := by
  unfold lst
  refine List.Pairwise.map _ (fun a b h => ?_) (List.Pairwise.filter _ List.nodup_range)
  intro e; exact h (by omega)
theorem mem_lst {kept : List Bool} {k : Nat} {x : Int} : x ∈ lst kept k ↔ ∃ i, i < k ∧ atB kept i = true ∧ (i : Int) = x := by
  unfold lst
  simp only [List.mem_map, List.mem_filter, List.mem_range]
  constructor
  · rintro ⟨i, ⟨h1, h2⟩, h3⟩; exact ⟨i, h1, h2, h3⟩
  · rintro ⟨i, h1, h2, h3⟩; exact ⟨i, ⟨h1, h2⟩, h3⟩

theorem fixK_unique {g : G} {ks : List Int} {a b : List Bool} (ha : FixK g ks a) (hb : FixK g ks b) : a = b := by
  have h1 := ha.least (atB b) hb.closed hb.roots
  have h2 := hb.least (atB a) ha.closed ha.roots
  apply List.ext_getElem (by rw [ha.len, hb.len])
  intro i hi hj
  have e1 : atB a i = a[i] := by simp [atB, hi]
  have e2 : atB b i = b[i] := by simp [atB, hj]
  rw [← e1, ← e2]
  cases h : atB a i
  · cases h' : atB b i
    · rfl
    · rw [h2 i h'] at h; cases h
  · exact (h1 i h).symm

/-- What a graph must be that it can be worked on. -/
def okVal (n : Nat) (v : Vl) : Prop := if v.ref then 0 ≤ v.n ∧ v.n < (n : Int) else -4611686018427387904 ≤ v.n ∧ v.n ≤ 4611686018427387903
theorem checkG_zero {g : G} : checkG g = 0 ↔ g.objs.length ≤ 24 ∧ g.roots.length ≤ 8 ∧ (∀ o ∈ g.objs, o.length ≤ 4) ∧ ∀ v ∈ allV g, okVal g.objs.length v := by
  have hb : ∀ v : Vl, (badV v.ref v.n g.objs.length ≠ 2 ∧ badV v.ref v.n g.objs.length ≠ 3) ↔ okVal g.objs.length v := by
    intro v
    unfold badV okVal
    cases v.ref
    · simp only [Bool.false_eq_true, if_false]
      split <;> constructor <;> intro h <;> first | omega | (simp at h)
    · simp only [if_true]
      split <;> constructor <;> intro h <;> first | omega | (simp at h)
  constructor
  · intro h
    obtain ⟨h1, h2, h3, _, _⟩ := checkG_ok h
    refine ⟨h1, h2, h3, fun v hv => (hb v).1 ?_⟩
    unfold checkG at h
    split at h
    · cases h
    · split at h
      · cases h
      · split at h
        · cases h
        · rename_i a b c
          exact ⟨fun e => b (List.any_eq_true.2 ⟨v, hv, by simp [e]⟩), fun e => c (List.any_eq_true.2 ⟨v, hv, by simp [e]⟩)⟩
  · rintro ⟨h1, h2, h3, h4⟩
    unfold checkG
    have hl : largeG g = false := by
      simp only [largeG, Bool.or_eq_false_iff, decide_eq_false_iff_not, List.any_eq_false, decide_eq_true_eq]
      exact ⟨⟨by omega, by omega⟩, fun o ho => by have := h3 o ho; omega⟩
    rw [hl, if_neg (by simp), if_neg, if_neg]
    · simp only [List.any_eq_true, not_exists, not_and]
      intro v hv e
      exact ((hb v).2 (h4 v hv)).2 (by simpa using e)
    · simp only [List.any_eq_true, not_exists, not_and]
      intro v hv e
      exact ((hb v).2 (h4 v hv)).1 (by simpa using e)

theorem okVal_zero (n : Nat) : okVal n ⟨false, 0⟩ := by simp [okVal]
theorem getD_lt {α : Type} (l : List α) (i : Nat) (d : α) (h : i < l.length) : l.getD i d = l[i] := by simp [h]

theorem kinds_cases {ks : List Int} {n : Nat} (hkk : ks.length = n) (hkb : ks.any badK = false) (i : Nat) : ks.getD i 0 = 0 ∨ ks.getD i 0 = 1 ∨ ks.getD i 0 = 2 := by
  by_cases hi : i < ks.length
  · rw [getD_lt _ _ _ hi]
    have : badK ks[i] = false := by
      have := List.any_eq_false.1 hkb ks[i] (List.getElem_mem hi)
      simpa using this
    simp only [badK, Bool.or_eq_false_iff, decide_eq_false_iff_not] at this
    omega
  · left; simp [List.getD_eq_getElem?_getD, List.getElem?_eq_none (Nat.le_of_not_lt hi)]

section
variable {g : G} {ks : List Int} {kept : List Bool}

/-- The facts about a kept object's cleared fields: each reference of them is kept. -/
theorem clr_kept (hF : FixK g ks kept) (i : Nat) (hi : i < g.objs.length) (hk : atB kept i = true) (hb : ks.getD i 0 = 0 ∨ ks.getD i 0 = 1 ∨ ks.getD i 0 = 2) :
    ∀ v ∈ clrO (atB kept) (ks.getD i 0) (g.objs.getD i []), v.ref = true → atB kept v.n.toNat = true := by
  intro v hv hr
  have hc := hF.closed i hi hk
  unfold str at hc
  generalize g.objs.getD i [] = f at hv hc
  generalize ks.getD i 0 = kind at hv hc hb
  obtain ⟨u, hu, rfl⟩ := List.mem_map.1 hv
  unfold clrV at hr ⊢
  split at hr
  · cases hr
  · rename_i hcl
    rw [if_neg hcl]
    simp only [Bool.or_eq_true, Bool.and_eq_true, decide_eq_true_eq, not_or, not_and, Bool.not_eq_true, Bool.not_eq_true', Bool.not_eq_false] at hcl
    rcases hb with rfl | rfl | rfl
    · exact hc u.n (mem_tgts.2 ⟨u, by simpa [strF] using hu, hr, rfl⟩)
    · have := hcl.2 rfl
      simpa [aliveV, hr] using this
    · cases f with
      | nil => cases hu
      | cons a r =>
        have ha : aliveV (atB kept) a = true := by simpa [deadO] using hcl.1
        rcases List.mem_cons.1 hu with rfl | hu
        · simpa [aliveV, hr] using ha
        · exact hc u.n (mem_tgts.2 ⟨u, by simpa [strF, ha] using hu, hr, rfl⟩)

theorem clearG_objs : (clearG g ks kept).objs = (lst kept kept.length).map fun x => turnV (lst kept kept.length) ((clrG g ks (atB kept)).objs.getD x.toNat []) := rfl
theorem clearG_roots : (clearG g ks kept).roots = turnV (lst kept kept.length) g.roots := rfl
theorem clrG_get (K : Nat → Bool) (i : Nat) (hi : i < g.objs.length) : (clrG g ks K).objs.getD i [] = clrO K (ks.getD i 0) (g.objs.getD i []) := by
  rw [getD_lt _ _ _ (by rw [show (clrG g ks K).objs = clrOs g ks K g.objs.length from rfl, clrOs_len]; exact hi)]
  simp [clrG, clrOs]

theorem okVal_turn {l : List Int} (hnd : l.Nodup) {v : Vl} {n : Nat} (h : okVal n v) (hm : v.ref = true → v.n ∈ l) : okVal l.length (if v.ref then ⟨true, numIn l v.n⟩ else v) := by
  cases hr : v.ref
  · simp only [okVal, hr] at h ⊢; simpa [hr] using h
  · obtain ⟨j, hj, _, e⟩ := numIn_mem hnd (hm hr)
    simp only [okVal, if_true]
    rw [e]; omega

theorem okVal_clr {K : Nat → Bool} {kind : Int} {d : Bool} {n : Nat} {v : Vl} (h : okVal n v) : okVal n (clrV K kind d v) := by
  unfold clrV
  split
  · exact okVal_zero n
  · exact h

theorem kept_mem_lst (hF : FixK g ks kept) {i : Nat} (hi : i < g.objs.length) (h : atB kept i = true) : (i : Int) ∈ lst kept kept.length := mem_lst.2 ⟨i, by rw [hF.len]; exact hi, h, rfl⟩

/-- What was cleared can be worked on. -/
theorem clear_good (hc : checkG g = 0) (hkk : ks.length = g.objs.length) (hkb : ks.any badK = false) (hF : FixK g ks kept) : checkG (clearG g ks kept) = 0 := by
  obtain ⟨h24, h8, h4, hv⟩ := checkG_zero.1 hc
  have hll := lst_len kept kept.length
  rw [hF.len] at hll
  have hlen : (clearG g ks kept).objs.length = (lst kept kept.length).length := by rw [clearG_objs, List.length_map]
  refine checkG_zero.2 ⟨by rw [hlen, hF.len]; omega, by rw [clearG_roots]; simpa [turnV] using h8, ?_, ?_⟩
  · intro o ho
    rw [clearG_objs] at ho
    obtain ⟨x, hx, rfl⟩ := List.mem_map.1 ho
    obtain ⟨i, hi, hk, rfl⟩ := mem_lst.1 hx
    rw [hF.len] at hi
    rw [Int.toNat_natCast, clrG_get _ _ hi]
    have := h4 _ (List.getElem_mem hi)
    rw [getD_lt _ _ _ hi]
    simpa [turnV, clrO] using this
  · intro v hvm
    rw [hlen]
    have hnd := lst_nodup kept kept.length
    simp only [allV, List.mem_append, List.mem_flatten] at hvm
    rcases hvm with hvm | ⟨o, ho, hvm⟩
    · rw [clearG_roots] at hvm
      obtain ⟨u, hu, rfl⟩ := List.mem_map.1 hvm
      have hok := hv u (List.mem_append_left _ hu)
      refine okVal_turn hnd hok fun hr => ?_
      have hkr := hF.roots u.n (mem_tgts.2 ⟨u, hu, hr, rfl⟩)
      simp only [okVal, hr, if_true] at hok
      have := kept_mem_lst hF (i := u.n.toNat) (by omega) hkr
      rwa [Int.toNat_of_nonneg hok.1] at this
    · rw [clearG_objs] at ho
      obtain ⟨x, hx, rfl⟩ := List.mem_map.1 ho
      obtain ⟨i, hi, hk, rfl⟩ := mem_lst.1 hx
      rw [hF.len] at hi
      rw [Int.toNat_natCast, clrG_get _ _ hi] at hvm
      obtain ⟨u, hu, rfl⟩ := List.mem_map.1 hvm
      have hck := clr_kept hF i hi hk (kinds_cases hkk hkb i) u hu
      rw [getD_lt _ _ _ hi] at hu
      obtain ⟨u0, hu0, e⟩ := List.mem_map.1 hu
      have hok : okVal g.objs.length u := by rw [← e]; exact okVal_clr (hv u0 (List.mem_append_right _ (List.mem_flatten.2 ⟨_, List.getElem_mem hi, hu0⟩)))
      refine okVal_turn hnd hok fun hr => ?_
      have h1 := hck hr
      simp only [okVal, hr, if_true] at hok
      have := kept_mem_lst hF (i := u.n.toNat) (by omega) h1
      rwa [Int.toNat_of_nonneg hok.1] at this

def keptKinds (ks : List Int) (kept : List Bool) : List Int := (lst kept kept.length).map fun x => ks.getD x.toNat 0

theorem tgts_turn {l : List Int} {vs : List Vl} {x : Int} (hx : x ∈ tgts vs) : numIn l x ∈ tgts (turnV l vs) := by
  obtain ⟨v, hv, hr, rfl⟩ := mem_tgts.1 hx
  exact mem_tgts.2 ⟨⟨true, numIn l v.n⟩, List.mem_map.2 ⟨v, hv, by simp [hr]⟩, rfl, rfl⟩

theorem clr_again_all (hkk : ks.length = g.objs.length) (hkb : ks.any badK = false) (hv : ∀ v ∈ allV g, okVal g.objs.length v) (hF : FixK g ks kept) (kept2 : List Bool) (hF2 : FixK (clearG g ks kept) (keptKinds ks kept) kept2) :
    ∀ j, j < (lst kept kept.length).length → atB kept2 j = true := by
  have hnd := lst_nodup kept kept.length
  have hlen : (clearG g ks kept).objs.length = (lst kept kept.length).length := by rw [clearG_objs, List.length_map]
  have key := hF.least (fun i => decide ((i : Int) ∈ lst kept kept.length) && atB kept2 (numIn (lst kept kept.length) (i : Int)).toNat) ?_ ?_
  · intro j hj
    have hm : (lst kept kept.length)[j] ∈ lst kept kept.length := List.getElem_mem hj
    obtain ⟨i, hi, hk, e⟩ := mem_lst.1 hm
    have := key i hk
    simp only [Bool.and_eq_true] at this
    have h2 := this.2
    rw [e, numIn_get _ hnd j hj, Int.toNat_natCast] at h2
    exact h2
  · intro i hi hLi x hx
    simp only [Bool.and_eq_true, decide_eq_true_eq] at hLi
    obtain ⟨hil, hk2⟩ := hLi
    obtain ⟨j, hj, ej, ejn⟩ := numIn_mem hnd hil
    rw [ejn, Int.toNat_natCast] at hk2
    obtain ⟨i', hi', hki, e⟩ := mem_lst.1 hil
    have : i' = i := by omega
    subst this
    have hkin := kinds_cases hkk hkb i'
    -- x is kept
    have hLk : ∀ y : Nat, (decide ((y : Int) ∈ lst kept kept.length) && atB kept2 (numIn (lst kept kept.length) (y : Int)).toNat) = true → atB kept y = true := by
      intro y hy
      simp only [Bool.and_eq_true, decide_eq_true_eq] at hy
      obtain ⟨y', _, h, e⟩ := mem_lst.1 hy.1
      have : y' = y := by omega
      subst this; exact h
    have hxk := hF.closed i' hi hki x (tgts_str_mono hLk i' hx)
    have hx0 : 0 ≤ x ∧ x < (g.objs.length : Int) := by
      obtain ⟨v, hvs, hr, rfl⟩ := mem_tgts.1 hx
      have hvf := strF_sub _ _ _ v hvs
      rw [getD_lt _ _ _ hi] at hvf
      have := hv v (List.mem_append_right _ (List.mem_flatten.2 ⟨_, List.getElem_mem hi, hvf⟩))
      simpa [okVal, hr] using this
    have hxl := kept_mem_lst hF (i := x.toNat) (by omega) hxk
    have hxe : ((x.toNat : Nat) : Int) = x := Int.toNat_of_nonneg hx0.1
    simp only [Bool.and_eq_true, decide_eq_true_eq]
    refine ⟨hxl, ?_⟩
    rw [hxe]
    -- the object behind
    have hc2 := hF2.closed j (by rw [hlen]; exact hj) hk2 (numIn (lst kept kept.length) x)
    refine hc2 ?_
    unfold str
    have hkj : (keptKinds ks kept).getD j 0 = ks.getD i' 0 := by
      rw [getD_lt _ _ _ (by simpa [keptKinds] using hj)]
      simp [keptKinds, ej]
    have hoj : (clearG g ks kept).objs.getD j [] = turnV (lst kept kept.length) (clrO (atB kept) (ks.getD i' 0) (g.objs.getD i' [])) := by
      rw [getD_lt _ _ _ (by rw [hlen]; exact hj)]
      simp only [clearG_objs, List.getElem_map, ej]
      rw [Int.toNat_natCast, clrG_get _ _ hi]
    rw [hkj, hoj]
    unfold str at hx
    have hfv : ∀ v ∈ g.objs.getD i' [], okVal g.objs.length v := fun v hvf => by
      rw [getD_lt _ _ _ hi] at hvf
      exact hv v (List.mem_append_right _ (List.mem_flatten.2 ⟨_, List.getElem_mem hi, hvf⟩))
    generalize g.objs.getD i' [] = f at hx hfv
    generalize ks.getD i' 0 = kind at hx hkin
    rcases hkin with rfl | rfl | rfl
    · have e : clrO (atB kept) 0 f = f := by
        unfold clrO
        conv => rhs; rw [← List.map_id f]
        exact List.map_congr_left fun v _ => by simp [clrV, deadO]
      rw [e]
      simp only [strF, if_true] at hx ⊢
      exact tgts_turn hx
    · simp [strF, tgts] at hx
    · cases f with
      | nil => simp [strF, tgts] at hx
      | cons u r =>
        have h20 : ¬ (2 : Int) = 0 := by decide
        simp only [strF, if_neg h20, if_true] at hx ⊢
        by_cases hau : aliveV (fun i => decide ((i : Int) ∈ lst kept kept.length) && atB kept2 (numIn (lst kept kept.length) (i : Int)).toNat) u = true
        · rw [if_pos hau] at hx
          have hak : aliveV (atB kept) u = true := aliveV_mono hLk hau
          have e : clrO (atB kept) 2 (u :: r) = u :: r := by
            unfold clrO
            conv => rhs; rw [← List.map_id (u :: r)]
            exact List.map_congr_left fun v _ => by simp [clrV, deadO, hak]
          rw [e]
          simp only [turnV, List.map_cons]
          rw [if_pos]
          · exact tgts_turn hx
          · unfold aliveV at hau ⊢
            cases hr : u.ref
            · simp [hr]
            · simp only [hr, Bool.not_true, Bool.false_or, if_true, Bool.and_eq_true, decide_eq_true_eq] at hau ⊢
              have hun : 0 ≤ u.n := by
                have := hfv u (by simp)
                simp only [okVal, hr, if_true] at this
                exact this.1
              rw [Int.toNat_of_nonneg hun] at hau
              exact hau.2
        · rw [if_neg hau] at hx
          simp [tgts] at hx
  · intro x hx
    have hx0 : 0 ≤ x ∧ x < (g.objs.length : Int) := by
      obtain ⟨v, hvs, hr, rfl⟩ := mem_tgts.1 hx
      have := hv v (List.mem_append_left _ hvs)
      simpa [okVal, hr] using this
    have hxe : ((x.toNat : Nat) : Int) = x := Int.toNat_of_nonneg hx0.1
    have hxl := kept_mem_lst hF (i := x.toNat) (by omega) (hF.roots x hx)
    simp only [Bool.and_eq_true, decide_eq_true_eq]
    refine ⟨hxl, ?_⟩
    rw [hxe]
    exact hF2.roots _ (by rw [clearG_roots]; exact tgts_turn hx)

end

theorem lst_full {kept : List Bool} {m : Nat} (h : ∀ j, j < m → atB kept j = true) : lst kept m = (List.range m).map fun i : Nat => (i : Int) := by
  unfold lst
  congr 1
  exact List.filter_eq_self.2 fun i hi => h i (List.mem_range.1 hi)
theorem turn_full {l : List Int} {m : Nat} (hl : l = (List.range m).map fun i : Nat => (i : Int)) {vs : List Vl} (hv : ∀ v ∈ vs, okVal m v) : turnV l vs = vs := by
  unfold turnV
  conv => rhs; rw [← List.map_id vs]
  refine List.map_congr_left fun v hvm => ?_
  have hok := hv v hvm
  cases hr : v.ref
  · simp
  · simp only [okVal, hr, if_true] at hok
    have hnd : l.Nodup := by
      rw [hl]
      refine List.Pairwise.map _ (fun a b h => ?_) List.nodup_range
      intro e; exact h (by omega)
    have hlen : l.length = m := by rw [hl]; simp
    have hj : v.n.toNat < l.length := by omega
    have e : l[v.n.toNat] = v.n := by simp [hl]; omega
    have e2 := numIn_get l hnd v.n.toNat hj
    rw [e, Int.toNat_of_nonneg hok.1] at e2
    simp only [if_true, id]
    rw [e2]
    rcases v with ⟨r, n⟩
    simp at hr
    subst hr
    rfl
theorem clrO_full {K : Nat → Bool} {kind : Int} {m : Nat} (hK : ∀ j, j < m → K j = true) {f : List Vl} (hv : ∀ v ∈ f, okVal m v) : clrO K kind f = f := by
  have ha : ∀ v ∈ f, aliveV K v = true := by
    intro v hvm
    have hok := hv v hvm
    unfold aliveV
    cases hr : v.ref
    · rfl
    · simp only [okVal, hr, if_true] at hok
      simp only [Bool.not_true, Bool.false_or]
      exact hK _ (by omega)
  have hd : deadO K kind f = false := by
    unfold deadO
    cases f with
    | nil => simp
    | cons u r => simp [ha u (by simp)]
  unfold clrO
  conv => rhs; rw [← List.map_id f]
  exact List.map_congr_left fun v hvm => by simp [clrV, hd, ha v hvm]

/-- What was cleared is cleared. -/
theorem clear_full {h : G} {kk : List Int} {kept2 : List Bool} (hc : checkG h = 0) (hF : FixK h kk kept2) (hall : ∀ j, j < h.objs.length → atB kept2 j = true) : (clearG h kk kept2).objs = h.objs ∧ (clearG h kk kept2).roots = h.roots := by
  obtain ⟨h24, h8, h4, hv⟩ := checkG_zero.1 hc
  have hl : lst kept2 kept2.length = (List.range h.objs.length).map fun i : Nat => (i : Int) := by rw [hF.len]; exact lst_full hall
  constructor
  · rw [clearG_objs]
    apply List.ext_getElem
    · rw [List.length_map, hl]; simp
    · intro i h1 h2
      have hi : i < h.objs.length := h2
      have hx : (lst kept2 kept2.length)[i]'(by rw [hl]; simpa using hi) = (i : Int) := by simp [hl]
      rw [List.getElem_map, hx, Int.toNat_natCast, clrG_get _ _ hi, getD_lt _ _ _ hi]
      have hov : ∀ v ∈ h.objs[i], okVal h.objs.length v := fun v hvm => hv v (List.mem_append_right _ (List.mem_flatten.2 ⟨_, List.getElem_mem hi, hvm⟩))
      rw [clrO_full hall hov, turn_full hl hov]
  · rw [clearG_roots]
    exact turn_full hl fun v hvm => hv v (List.mem_append_left _ hvm)

theorem openErr_zero {g : G} {ks : List Int} : openErr g ks = 0 ↔ checkG g = 0 ∧ ks.length = g.objs.length ∧ ks.any badK = false := by
  unfold openErr
  by_cases h1 : checkG g = 0
  · rw [if_neg (by simpa using h1)]
    by_cases h2 : ks.length = g.objs.length
    · rw [if_neg (by simpa using h2)]
      cases h3 : ks.any badK <;> simp [h1, h2]
    · rw [if_pos h2]; simp [h2]
  · rw [if_pos h1]; simp [h1]
theorem kcheck_zero {n : Nat} {ks : List Int} : kcheck n ks = 0 ↔ ks.length = n ∧ ks.any badK = false := by
  unfold kcheck
  by_cases h2 : ks.length = n
  · rw [if_neg (by simpa using h2)]
    cases h3 : ks.any badK <;> simp [h2]
  · rw [if_pos h2]; simp [h2]
theorem keptKinds_good {ks : List Int} {kept : List Bool} {n : Nat} (hkk : ks.length = n) (hkb : ks.any badK = false) : (keptKinds ks kept).any badK = false := by
  rw [List.any_eq_false]
  intro x hx
  obtain ⟨y, hy, rfl⟩ := List.mem_map.1 hx
  rcases kinds_cases hkk hkb y.toNat with h | h | h <;> rw [h] <;> decide

end Go.Proofs.Yteghhajfkdbcdaa
