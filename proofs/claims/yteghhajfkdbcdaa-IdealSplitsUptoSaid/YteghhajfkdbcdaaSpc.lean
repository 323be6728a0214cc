/- IdealSplits: the plain law. -/
import Derived.Test.YteghhajfkdbcdaaSpb
namespace Go.Proofs.Yteghhajfkdbcdaa
open Go.RowKit
set_option linter.unusedVariables false
set_option linter.unusedSimpArgs false
namespace Ie

/-! ### What is found is closed -/
theorem ext_mem {s s' : Fst} (h : FExt s s') {x : Int} (hx : x ∈ s.2) : x ∈ s'.2 := by
  obtain ⟨e, he⟩ := h.pre
  rw [he]; exact List.mem_append_left _ hx
theorem takeAll_mem {n B : Nat} {d : Int} (hd : 0 ≤ d ∧ d ≤ (B : Int)) : ∀ (ts : List Int) (s : Fst), FI n B s → InR n ts → ∀ t ∈ ts, t ∈ (takeAll ts d s).2 := by
  intro ts
  induction ts with
  | nil => intro s _ _ t ht; cases ht
  | cons u ts ih =>
    intro s h hr t ht
    have hu := hr u (by simp)
    have f1 := (take1_fi h hu hd).1
    have hr2 : InR n ts := fun x hx => hr x (by simp [hx])
    rcases List.mem_cons.1 ht with rfl | ht
    · refine ext_mem (takeAll_fi hd ts _ f1 hr2).2 ?_
      rw [take1_snd h hu]
      split
      · assumption
      · simp
    · exact ih _ f1 hr2 t ht
theorem iterF_ext {g : G} (h : GOk g) (k : Nat) : ∀ j, FExt (iterF g k) (iterF g (k + j))
  | 0 => FExt.refl _
  | j + 1 => (iterF_ext h k j).trans (stepF_fi h (iterF_fi h (k + j))).2
theorem found_roots {g : G} (h : GOk g) : ∀ x ∈ tgts g.roots, x ∈ foundL g := by
  intro x hx
  have := ext_mem (iterF_ext h 0 g.objs.length) (takeAll_mem (B := 0) (by simp) _ _ (FI.start _) h.roots x hx)
  rw [Nat.zero_add] at this
  exact this
theorem found_objs {g : G} (h : GOk g) : ∀ x ∈ foundL g, ∀ y ∈ tgts (g.objs.getD x.toNat []), y ∈ foundL g := by
  intro x hx y hy
  obtain ⟨k, hk, e⟩ := List.getElem_of_mem hx
  have hn := (iterF_fi h g.objs.length).le_len
  have hkn : k < g.objs.length := Nat.lt_of_lt_of_le hk hn
  have hkk : k < (iterF g k).2.length := by
    refine Nat.lt_of_not_le fun hle => ?_
    obtain ⟨j, hj⟩ := Nat.exists_eq_add_of_le (Nat.le_of_lt hkn)
    have := iterF_stop hle j
    rw [← hj] at this
    unfold foundL at hk
    rw [this] at hk
    omega
  obtain ⟨j, hj⟩ := Nat.exists_eq_add_of_le (Nat.le_of_lt hkn)
  obtain ⟨ex, hex⟩ := (iterF_ext h k j).pre
  rw [← hj] at hex
  have hxk : (iterF g k).2.getD k 0 = x := by
    rw [List.getD_eq_getElem?_getD, List.getElem?_eq_getElem hkk]
    have e2 : (foundL g)[k]? = some x := by rw [List.getElem?_eq_getElem hk, e]
    unfold foundL at e2
    rw [hex, List.getElem?_append_left hkk, List.getElem?_eq_getElem hkk] at e2
    simpa using e2
  have hstep : y ∈ (iterF g (k + 1)).2 := by
    show y ∈ (stepF g.objs k (iterF g k)).2
    unfold stepF
    rw [if_pos hkk, hxk]
    obtain ⟨z, hz, ez, pz⟩ := (iterF_fi h k).at hkk
    rw [hxk] at ez
    subst ez
    have := (iterF_fi h k).le z hz
    rw [Int.toNat_natCast] at hy ⊢
    exact takeAll_mem (n := g.objs.length) (B := k + 1) (by omega) _ _ ((iterF_fi h k).mono (by omega)) (h.at z) y hy
  obtain ⟨j2, hj2⟩ := Nat.exists_eq_add_of_le hkn
  have := ext_mem (iterF_ext h (k + 1) j2) hstep
  rw [show k + 1 + j2 = g.objs.length from by omega] at this
  exact this
theorem numIn_idx (l : List Int) : ∀ (r : List Int), (r.reverse).Nodup → ∀ (j : Nat) (x : Int), r.reverse[j]? = some x → numIn r.reverse x = j := by
  intro r
  induction r with
  | nil => intro _ j x h; simp at h
  | cons y r ih =>
    intro hn j x hj
    rw [List.reverse_cons] at hn hj ⊢
    rw [numIn_snoc]
    rw [List.nodup_append] at hn
    by_cases hl : j < r.reverse.length
    · rw [List.getElem?_append_left hl] at hj
      have hm := List.mem_of_getElem? hj
      rw [if_neg (fun e => hn.2.2 x hm y (by simp) e)]
      exact ih hn.1 j x hj
    · have hlt := (List.getElem?_eq_some_iff.1 hj).1
      simp only [List.length_append, List.length_cons, List.length_nil] at hlt
      have : j = r.reverse.length := by omega
      subst this
      rw [List.getElem?_append_right (Nat.le_refl _)] at hj
      simp at hj
      rw [if_pos hj.symm]
theorem numIn_at {l : List Int} (hn : l.Nodup) {j : Nat} {x : Int} (h : l[j]? = some x) : numIn l x = j := by
  have := numIn_idx l l.reverse (by simpa using hn) j x (by simpa using h)
  simpa using this
theorem numIn_mem {l : List Int} (hn : l.Nodup) {x : Int} (h : x ∈ l) : ∃ j : Nat, j < l.length ∧ numIn l x = j ∧ mu l (numIn l x) = x := by
  obtain ⟨j, hj, e⟩ := List.getElem_of_mem h
  have e2 : l[j]? = some x := by rw [List.getElem?_eq_getElem hj, e]
  refine ⟨j, hj, numIn_at hn e2, ?_⟩
  rw [numIn_at hn e2]
  unfold mu
  rw [Int.toNat_natCast, List.getD_eq_getElem?_getD, e2]; rfl
theorem mapV_turnV {l : List Int} (hn : l.Nodup) {vs : List Vl} (h : ∀ x ∈ tgts vs, x ∈ l) : mapV (mu l) (turnV l vs) = vs := by
  unfold mapV turnV
  rw [List.map_map]
  conv => rhs; rw [← List.map_id vs]
  refine List.map_congr_left fun v hm => ?_
  by_cases hr : v.ref
  · obtain ⟨j, _, _, e⟩ := numIn_mem hn (h v.n (mem_tgts.2 ⟨v, hm, hr, rfl⟩))
    simp only [Function.comp, hr, if_true, id]
    rw [e]
    obtain ⟨r, n⟩ := v
    simp only at hr
    rw [hr]
  · simp [Function.comp, hr]

/-! ### Numbers stay within bounds, and nothing goes -/
def VI (v : Vl) : Prop := v.ref = false → -4611686018427387904 ≤ v.n ∧ v.n ≤ 4611686018427387903
structure AllI (p : List Vl × Ovs) : Prop where
  regs : ∀ v ∈ p.1, VI v
  objs : ∀ (i : Nat) (f : List Vl), p.2[i]? = some (some f) → ∀ v ∈ f, VI v
  full : ∀ i, i < p.2.length → ∃ f, p.2[i]? = some (some f)
theorem vi_ref (n : Int) : VI ⟨true, n⟩ := fun h => by cases h
theorem vi_getD {l : List Vl} (h : ∀ v ∈ l, VI v) (i : Nat) : VI (l.getD i ⟨false, 0⟩) := by
  rw [List.getD_eq_getElem?_getD]
  cases e : l[i]? with
  | none => intro _; simp
  | some v => exact h v (List.mem_of_getElem? e)
theorem vi_set {p : List Vl × Ovs} (h : AllI p) {r : Nat} {v : Vl} (hv : VI v) : AllI (p.1.set r v, p.2) := by
  refine ⟨fun x hx => ?_, h.objs, h.full⟩
  rcases set_mem hx with rfl | hx
  · exact hv
  · exact h.regs x hx
theorem vi_flds {p : List Vl × Ovs} (h : AllI p) (n : Int) : ∀ v ∈ fldsAt p.2 n, VI v := by
  intro v hv
  unfold fldsAt at hv
  rw [List.getD_eq_getElem?_getD] at hv
  cases e : p.2[n.toNat]? with
  | none => rw [e] at hv; cases hv
  | some o =>
    cases o with
    | none => rw [e] at hv; cases hv
    | some f => rw [e] at hv; exact h.objs _ f e v hv
theorem vi_step {p : List Vl × Ovs} (h : AllI p) (d : Dl) : AllI (M.step p d).2 := by
  unfold PMem.step
  by_cases hw : wrongD d ≠ 0
  · rw [if_pos hw]; exact h
  · rw [if_neg hw]
    have hw0 := Decidable.not_not.1 hw
    unfold PMem.go
    by_cases e1 : d.kind = 1
    · rw [if_pos e1, if_neg (by simp [M])]
      refine vi_set (p := (p.1, p.2 ++ [some (zeroVs d.n.toNat)])) ⟨h.regs, ?_, ?_⟩ (vi_ref _)
      · intro i f hf v hv
        by_cases hl : i < p.2.length
        · rw [List.getElem?_append_left hl] at hf; exact h.objs i f hf v hv
        · have hlt := (List.getElem?_eq_some_iff.1 hf).1
          simp only [List.length_append, List.length_cons, List.length_nil] at hlt
          have : i = p.2.length := by omega
          subst this
          simp at hf
          subst hf
          unfold zeroVs at hv
          rw [List.eq_of_mem_replicate hv]
          intro _; simp
      · intro i hi
        simp only [List.length_append, List.length_cons, List.length_nil] at hi
        by_cases hl : i < p.2.length
        · rw [List.getElem?_append_left hl]; exact h.full i hl
        · have : i = p.2.length := by omega
          subst this
          exact ⟨zeroVs d.n.toNat, by simp⟩
    · rw [if_neg e1]
      by_cases e2 : d.kind = 2
      · rw [if_pos e2]
        refine vi_set h fun _ => ?_
        unfold wrongD at hw0
        split at hw0
        · cases hw0
        · split at hw0
          · cases hw0
          · split at hw0
            · cases hw0
            · split at hw0
              · cases hw0
              · rename_i x
                show -4611686018427387904 ≤ d.n ∧ d.n ≤ 4611686018427387903
                simp only [Bool.and_eq_true, Bool.or_eq_true, decide_eq_true_eq, not_and, not_or] at x
                have := x e2
                omega
      · rw [if_neg e2]
        by_cases e3 : d.kind = 3
        · rw [if_pos e3]; exact vi_set h (vi_getD h.regs _)
        · rw [if_neg e3]
          by_cases e4 : d.kind = 4
          · rw [if_pos e4]
            split
            · exact h
            · show AllI (p.1, p.2.set _ _)
              refine ⟨h.regs, ?_, ?_⟩
              · intro i f hf v hv
                have hf : (p.2.set (regAt p.1 d.tgt).n.toNat (some ((fldsAt p.2 ((regAt p.1 d.tgt).n.toNat : Int)).set d.fld.toNat (regAt p.1 d.src))))[i]? = some (some f) := hf
                rw [List.getElem?_set] at hf
                split at hf
                · split at hf
                  · injection hf with hf; injection hf with hf
                    subst hf
                    rcases set_mem hv with rfl | hv
                    · exact vi_getD h.regs _
                    · exact vi_flds h _ v hv
                  · cases hf
                · exact h.objs i f hf v hv
              · intro i hi
                have hi : i < (p.2.set (regAt p.1 d.tgt).n.toNat (some ((fldsAt p.2 ((regAt p.1 d.tgt).n.toNat : Int)).set d.fld.toNat (regAt p.1 d.src)))).length := hi
                rw [List.length_set] at hi
                show ∃ f, (p.2.set (regAt p.1 d.tgt).n.toNat (some ((fldsAt p.2 ((regAt p.1 d.tgt).n.toNat : Int)).set d.fld.toNat (regAt p.1 d.src))))[i]? = some (some f)
                rw [List.getElem?_set]
                split
                · rename_i e
                  rw [if_pos (by omega)]; exact ⟨_, rfl⟩
                · exact h.full i hi
          · rw [if_neg e4]
            by_cases e5 : d.kind = 5
            · rw [if_pos e5]
              split
              · exact h
              · exact vi_set h (vi_getD (vi_flds h _) _)
            · rw [if_neg e5]
              by_cases e6 : d.kind = 6
              · rw [if_pos e6]; exact h
              · rw [if_neg e6]; exact h
theorem vi_run {p : List Vl × Ovs} (h : AllI p) (ds : List Dl) : AllI (M.run p ds).2 := by
  induction ds generalizing p with
  | nil => exact h
  | cons d ds ih => exact ih (vi_step h d)
theorem vi_start {g : G} (h : checkG g = 0) : AllI (regs0 g.roots, g.objs.map some) := by
  obtain ⟨h24, h8, h4, hv⟩ := checkG_zero.1 h
  have key : ∀ v ∈ allV g, VI v := fun v hm hr => by
    have := hv v hm
    simpa [okVal, hr] using this
  refine ⟨fun v hm => ?_, ?_, fun i hi => ?_⟩
  · rcases List.mem_append.1 hm with hm | hm
    · exact key v (List.mem_append_left _ hm)
    · unfold zeroVs at hm
      rw [List.eq_of_mem_replicate hm]; intro _; simp
  · intro i f hf v hm
    rw [List.getElem?_map] at hf
    cases hq : g.objs[i]? with
    | none => rw [hq] at hf; cases hf
    | some o =>
      rw [hq] at hf
      injection hf with hf; injection hf with hf
      subst hf
      exact key v (List.mem_append_right _ (List.mem_flatten.2 ⟨_, List.mem_of_getElem? hq, hm⟩))
  · simp only [List.length_map] at hi
    exact ⟨g.objs[i], by rw [List.getElem?_map, List.getElem?_eq_getElem hi]; rfl⟩

/-! ### The graph behind a script -/
section
variable {rs : List Vl} {os : Ovs}
theorem graphOf_at (os : Ovs) (rs : List Vl) (i : Nat) : (graphOf os rs).objs.getD i [] = fldsAt os i := by
  simp only [graphOf, fldsAt, Int.toNat_natCast, List.getD_eq_getElem?_getD, List.getElem?_map]
  cases os[i]? with
  | none => rfl
  | some o => rfl
theorem canon_sr (h : Inv rs os) (hi : AllI (rs, os)) : SR (foundL (graphOf os rs)) (rs, os) (regs0 (canonOf os rs).roots, (canonOf os rs).objs.map some) := by
  have ok := graphOf_ok h.1
  have fi := iterF_fi ok (graphOf os rs).objs.length
  have hn : (foundL (graphOf os rs)).Nodup := fi.nodup
  have hr : InR (graphOf os rs).objs.length (foundL (graphOf os rs)) := fi.inr
  have h8 : regs0 (canonOf os rs).roots = turnV (foundL (graphOf os rs)) rs := by
    show turnV _ rs ++ zeroVs (8 - (turnV _ rs).length) = _
    have : (turnV (foundL (graphOf os rs)) rs).length = 8 := by simp [turnV, h.1.len]
    rw [this]; simp [zeroVs]
  refine ⟨?_, by simp [canonOf, renumG], by simpa [graphOf] using hr, hn, fun j hj => ?_⟩
  · show rs = mapV _ (regs0 _)
    rw [h8]; exact (mapV_turnV hn (found_roots ok)).symm
  · have hj2 : j < (foundL (graphOf os rs)).length := by simpa [canonOf, renumG] using hj
    have hm := List.getElem_mem hj2
    have hx := hr _ hm
    have hk : (foundL (graphOf os rs))[j].toNat < os.length := by
      have : (graphOf os rs).objs.length = os.length := by simp [graphOf]
      omega
    obtain ⟨f, hf⟩ := hi.full _ hk
    refine ⟨(foundL (graphOf os rs))[j].toNat, turnV (foundL (graphOf os rs)) f, ?_, ?_, ?_⟩
    · have e : (graphOf os rs).objs.getD (foundL (graphOf os rs))[j].toNat [] = f := by
        rw [graphOf_at, fldsAt_of hf]
      show ((canonOf os rs).objs.map some)[j]? = _
      simp only [canonOf, renumG, List.getElem?_map, List.getElem?_eq_getElem hj2, Option.map_some, e]
    · rw [List.getElem?_eq_getElem hj2, Int.toNat_of_nonneg hx.1]
    · show os[_]? = _
      rw [hf, mapV_turnV hn]
      intro y hy
      refine found_objs ok _ hm y ?_
      rw [graphOf_at, fldsAt_of hf]
      exact hy
theorem canon_ok (h : Inv rs os) (hi : AllI (rs, os)) (hl : (canonOf os rs).objs.length ≤ 24) : checkG (canonOf os rs) = 0 := by
  have ok := graphOf_ok h.1
  have fi := iterF_fi ok (graphOf os rs).objs.length
  have hn : (foundL (graphOf os rs)).Nodup := fi.nodup
  have hlen : (canonOf os rs).objs.length = (foundL (graphOf os rs)).length := by simp [canonOf, renumG]
  have key : ∀ vs : List Vl, (∀ x ∈ tgts vs, x ∈ foundL (graphOf os rs)) → (∀ v ∈ vs, VI v) → ∀ v ∈ turnV (foundL (graphOf os rs)) vs, okVal (canonOf os rs).objs.length v := by
    intro vs ht hv v hm
    unfold turnV at hm
    obtain ⟨u, hu, rfl⟩ := List.mem_map.1 hm
    by_cases hr : u.ref
    · obtain ⟨j, hj, e, _⟩ := numIn_mem hn (ht u.n (mem_tgts.2 ⟨u, hu, hr, rfl⟩))
      simp only [hr, if_true, okVal]
      rw [e, hlen]; omega
    · have := hv u hu (by simpa using hr)
      have hr2 : u.ref = false := by simpa using hr
      rw [if_neg hr]
      unfold okVal
      rw [if_neg hr]
      exact this
  refine checkG_zero.2 ⟨hl, ?_, ?_, ?_⟩
  · show (turnV _ rs).length ≤ 8
    simp [turnV, h.1.len]
  · intro o ho
    simp only [canonOf, renumG, List.mem_map] at ho
    obtain ⟨x, hx, rfl⟩ := ho
    rw [graphOf_at]
    simp only [turnV, List.length_map, fldsAt, Int.toNat_natCast]
    rw [List.getD_eq_getElem?_getD]
    cases e : os[x.toNat]? with
    | none => simp
    | some q => exact h.2 q (List.mem_of_getElem? e)
  · intro v hv
    rcases List.mem_append.1 hv with hv | hv
    · exact key rs (found_roots ok) hi.regs v hv
    · obtain ⟨o, ho, hv⟩ := List.mem_flatten.1 hv
      simp only [canonOf, renumG, List.mem_map] at ho
      obtain ⟨x, hx, rfl⟩ := ho
      refine key _ (found_objs ok x hx) ?_ v hv
      rw [graphOf_at]
      exact vi_flds hi _
end

/-- What IdealSplits asks, in plain words. -/
structure SplitF (g : G) (a b : List Dl) : Prop where
  z1 : playE g a ≠ 0 → playO g a = []
  z2 : playE g a = 0 → playE g (a ++ b) ≠ 0 → 100 < a.length + b.length
  z3 : playE g a = 0 → playE g (a ++ b) = 0 → (playO g a).length = a.length ∧ (playO g (a ++ b)).length = a.length + b.length ∧ (playO g (a ++ b)).take a.length = playO g a ∧ (playG g a).roots.length = 8
  z4 : playE g a = 0 → playE g (a ++ b) = 0 → playE (playG g a) b ≠ 0 → 24 < (playG g a).objs.length
  z5 : playE g a = 0 → playE g (a ++ b) = 0 → playE (playG g a) b = 0 → playO (playG g a) b = (playO g (a ++ b)).drop a.length ∧ playG (playG g a) b = playG g (a ++ b)
theorem playE_zero {g : G} {ds : List Dl} (h : playE g ds = 0) : checkG g = 0 ∧ ds.length ≤ 100 := by
  unfold playE at h
  split at h
  · rename_i h1; exact absurd h h1
  · rename_i h1
    split at h
    · cases h
    · rename_i h2; exact ⟨Decidable.not_not.1 h1, by omega⟩
theorem splits_holds (g : G) (a b : List Dl) : SplitF g a b := by
  have hO : ∀ (g : G) (ds : List Dl), playE g ds = 0 → playO g ds = (endOf g ds).1 ∧ playG g ds = canonOf (endOf g ds).2.2 (endOf g ds).2.1 := fun g ds e => by
    unfold playO playG
    rw [e, if_neg (by simp), if_neg (by simp)]; exact ⟨rfl, rfl⟩
  refine ⟨fun h => by unfold playO; rw [if_pos h], fun h1 h2 => ?_, fun h1 h2 => ?_, fun h1 h2 h3 => ?_, fun h1 h2 h3 => ?_⟩
  · obtain ⟨c, l⟩ := playE_zero h1
    unfold playE at h2
    rw [if_neg (by simp [c])] at h2
    by_cases hl : 100 < (a ++ b).length
    · rw [List.length_append] at hl; exact hl
    · rw [if_neg hl] at h2; exact absurd rfl h2
  · obtain ⟨c, l⟩ := playE_zero h1
    rw [(hO _ _ h1).1, (hO _ _ h1).2, (hO _ _ h2).1]
    have e := PMem.run_append M (regs0 g.roots, g.objs.map some) a b
    have l1 := PMem.run_len M (regs0 g.roots, g.objs.map some) a
    have l2 := PMem.run_len M (regs0 g.roots, g.objs.map some) (a ++ b)
    have iv := (good.run (p := (regs0 g.roots, g.objs.map some)) (start_clo c) a).1
    refine ⟨l1, by rw [← List.length_append]; exact l2, ?_, ?_⟩
    · unfold endOf
      rw [e, ← l1]
      simp
    · show (turnV _ _).length = 8
      simp only [turnV, List.length_map]
      exact iv.1.len
  · obtain ⟨c, l⟩ := playE_zero h1
    obtain ⟨_, l2⟩ := playE_zero h2
    rw [List.length_append] at l2
    refine Nat.lt_of_not_le fun hle => h3 ?_
    rw [(hO _ _ h1).2] at hle ⊢
    have iv := (good.run (p := (regs0 g.roots, g.objs.map some)) (start_clo c) a).1
    have vi := vi_run (vi_start c) a
    unfold playE
    rw [canon_ok (rs := (endOf g a).2.1) (os := (endOf g a).2.2) iv vi hle, if_neg (by simp), if_neg (by omega)]
  · obtain ⟨c, l⟩ := playE_zero h1
    obtain ⟨c3, l3⟩ := playE_zero h3
    rw [(hO _ _ h3).1, (hO _ _ h3).2, (hO _ _ h2).1, (hO _ _ h2).2]
    have iv := (good.run (p := (regs0 g.roots, g.objs.map some)) (start_clo c) a).1
    have vi := vi_run (vi_start c) a
    have sr := canon_sr (rs := (endOf g a).2.1) (os := (endOf g a).2.2) iv vi
    rw [← (hO _ _ h1).2] at sr
    have iv2 : Inv (regs0 (playG g a).roots) ((playG g a).objs.map some) := start_clo c3
    obtain ⟨r1, m', r2⟩ := sr.run iv2 b
    have e : endOf g (a ++ b) = _ := PMem.run_append M (regs0 g.roots, g.objs.map some) a b
    have l1 := PMem.run_len M (regs0 g.roots, g.objs.map some) a
    have c1 := (good.run (p := (endOf g a).2) iv b).1.1
    have c2 := (good.run (p := (regs0 (playG g a).roots, (playG g a).objs.map some)) iv2 b).1.1
    constructor
    · rw [e, ← l1]
      simp only [List.drop_left]
      exact r1.symm
    · rw [e]
      exact (r2.canon c1 c2).symm
end Ie
end Go.Proofs.Yteghhajfkdbcdaa
