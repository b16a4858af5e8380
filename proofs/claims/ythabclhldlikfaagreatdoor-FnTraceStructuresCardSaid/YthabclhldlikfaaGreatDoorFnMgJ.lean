/-
  Several texts in one: FnCa FnCb.
-/
import Derived.Test.YthabclhldlikfaaGreatDoorFnMgG
import Derived.Test.YthabclhldlikfaaGreatDoorFnMgH
import Derived.Test.YthabclhldlikfaaGreatDoorFnMgI
import Derived.Test.YthabclhldlikfaaGreatDoorFnNt
set_option linter.unusedVariables false
set_option linter.unusedSimpArgs false
set_option linter.unusedSectionVars false
set_option maxRecDepth 100000
set_option maxHeartbeats 1600000
namespace Go.AM
open Go.Proofs
/-- An event that can be added to a configuration. -/
def canAdd (x : StrucV) (c : Int) (e : Nat) : Bool := !tb c e && (ibits .andNot .i64 (nth x.below e) c == 0) && (ibits .and .i64 (nth x.clash e) c == 0)
def addL (x : StrucV) (c : Int) : List Nat := (List.range x.labels.length).filter (canAdd x c)
def confL (x : StrucV) (k : Nat) : List Int := ((List.range k).map fun (c : Nat) => (c : Int)).filter (isConf x)
def allConf (x : StrucV) : List Int := confL x (2 ^ x.labels.length)
def configurationsOfV (x : StrucV) : List Int × Int := if isStructureV x then (if (allConf x).length ≤ 4096 then (allConf x, 0) else ([], 3)) else ([], 1)
theorem confL_succ (x : StrucV) (k : Nat) : confL x (k + 1) = if isConf x (k : Int) then confL x k ++ [(k : Int)] else confL x k := by
  unfold confL
  rw [List.range_succ, List.map_append, List.filter_append]
  by_cases h : isConf x (k : Int) = true
  · simp [h]
  · simp [h]
theorem confL_sorted (x : StrucV) : ∀ k, (confL x k).Pairwise (· < ·) ∧ ∀ y ∈ confL x k, 0 ≤ y ∧ y < k
  | 0 => by simp [confL]
  | k + 1 => by
    obtain ⟨h1, h2⟩ := confL_sorted x k
    rw [confL_succ]
    split
    · refine ⟨List.pairwise_append.2 ⟨h1, by simp, fun a ha b hb => ?_⟩, fun y hy => ?_⟩
      · simp at hb; subst hb; exact (h2 a ha).2
      · simp only [List.mem_append, List.mem_singleton] at hy
        rcases hy with hy | rfl
        · have := h2 y hy; omega
        · omega
    · exact ⟨h1, fun y hy => by have := h2 y hy; omega⟩
theorem confL_nodup (x : StrucV) (k : Nat) : (confL x k).Nodup := (confL_sorted x k).1.imp fun h => by omega
theorem confL_mono (x : StrucV) {k m : Nat} (h : k ≤ m) : ∃ r, confL x m = confL x k ++ r := by
  obtain ⟨d, rfl⟩ : ∃ d, m = k + d := ⟨m - k, by omega⟩
  clear h
  induction d with
  | zero => exact ⟨[], by simp⟩
  | succ d ih =>
    obtain ⟨r, hr⟩ := ih
    rw [show k + (d + 1) = (k + d) + 1 from rfl, confL_succ, hr]
    split
    · exact ⟨r ++ [((k + d : Nat) : Int)], by simp⟩
    · exact ⟨r, rfl⟩
theorem isM_iff {n : Nat} (hn : n ≤ 24) {c : Int} : isM n c = true ↔ 0 ≤ c ∧ c.toNat < 2 ^ n := by
  unfold isM
  rw [full_eq (by omega)]
  have := Nat.two_pow_pos n
  simp only [Bool.and_eq_true, decide_eq_true_eq]
  omega
theorem mem_allConf {x : StrucV} (hn : x.labels.length ≤ 24) {c : Int} : c ∈ allConf x ↔ isM x.labels.length c = true ∧ isConf x c = true := by
  unfold allConf confL
  simp only [List.mem_filter, List.mem_map, List.mem_range]
  rw [isM_iff hn]
  constructor
  · rintro ⟨⟨k, hk, rfl⟩, h⟩
    exact ⟨⟨by omega, by omega⟩, h⟩
  · rintro ⟨⟨h0, h1⟩, h⟩
    exact ⟨⟨c.toNat, h1, by omega⟩, h⟩
/-- What is added leaves a configuration. -/
theorem conf_up {x : StrucV} (hs : isStructureV x = true) {c : Int} (hc : isM x.labels.length c = true) (hcf : isConf x c = true) {e : Nat} (he : e < x.labels.length) (h : canAdd x c e = true) : isM x.labels.length (upS c e) = true ∧ isConf x (upS c e) = true := by
  obtain ⟨h1, h2, h3⟩ := struc_len hs
  obtain ⟨hM, hb⟩ := isM_spec (by omega) hc
  have hMu := up_M hM (show e < 63 by omega)
  have hm : isM x.labels.length (upS c e) = true := isM_or1 h1 hc he
  refine ⟨hm, isConf_iff.2 fun f hf ht => ?_⟩
  unfold canAdd at h
  simp only [Bool.and_eq_true, Bool.not_eq_true', beq_iff_eq] at h
  obtain ⟨⟨k1, k2⟩, k3⟩ := h
  obtain ⟨mb, mc, bb, bc, _, _⟩ := struc_M hs hf
  obtain ⟨mbe, mce, bbe, bce, _, _⟩ := struc_M hs he
  rw [tb_up hM (by omega)] at ht
  unfold cfgOk
  simp only [Bool.and_eq_true, beq_iff_eq]
  have up : ∀ i, tb c i = true → tb (upS c e) i = true := fun i hi => by rw [tb_up hM (by omega), hi]; rfl
  simp only [Bool.or_eq_true, decide_eq_true_eq] at ht
  rcases ht with ht | rfl
  · have hcfg := isConf_iff.1 hcf f hf ht
    unfold cfgOk at hcfg
    simp only [Bool.and_eq_true, beq_iff_eq] at hcfg
    have z1 := (eq_zero_iff (M_andNot mb hM)).1 hcfg.1
    have z2 := (eq_zero_iff (M_and mc hM)).1 hcfg.2
    have z3 := (eq_zero_iff (M_and mce hM)).1 k3
    refine ⟨(eq_zero_iff (M_andNot mb hMu)).2 fun i => ?_, (eq_zero_iff (M_and mc hMu)).2 fun i => ?_⟩
    · have := z1 i
      rw [tb_andNot mb hM] at this
      rw [tb_andNot mb hMu, tb_up hM (by omega)]
      cases h5 : tb (nth x.below f) i <;> simp [h5] at this ⊢
      simp [this]
    · have := z2 i
      rw [tb_and mc hM] at this
      rw [tb_and mc hMu, tb_up hM (by omega)]
      cases h5 : tb (nth x.clash f) i
      · rfl
      · rw [h5] at this
        simp only [Bool.true_and] at this ⊢
        rw [this]
        simp only [Bool.false_or, decide_eq_false_iff_not]
        rintro rfl
        -- the clash is mutual
        have hp := (isStruc_iff.1 hs).2.2.2.2 f hf e he
        unfold pairOk at hp
        simp only [Bool.and_eq_true, beq_iff_eq] at hp
        rw [h5] at hp
        have := z3 f
        rw [tb_and mce hM, ← hp.2, ht] at this
        cases this
  · have z1 := (eq_zero_iff (M_andNot mb hM)).1 k2
    have z2 := (eq_zero_iff (M_and mc hM)).1 k3
    refine ⟨(eq_zero_iff (M_andNot mb hMu)).2 fun i => ?_, (eq_zero_iff (M_and mc hMu)).2 fun i => ?_⟩
    · have := z1 i
      rw [tb_andNot mb hM] at this
      rw [tb_andNot mb hMu, tb_up hM (by omega)]
      cases h5 : tb (nth x.below e) i <;> simp [h5] at this ⊢
      simp [this]
    · have := z2 i
      rw [tb_and mc hM] at this
      rw [tb_and mc hMu, tb_up hM (by omega)]
      cases h5 : tb (nth x.clash e) i
      · rfl
      · rw [h5] at this
        simp only [Bool.true_and] at this ⊢
        rw [this]
        simp only [Bool.false_or, decide_eq_false_iff_not]
        rintro rfl
        have hev := (isStruc_iff.1 hs).2.2.2.1 e he
        unfold evOk at hev
        simp only [Bool.and_eq_true, Bool.not_eq_true'] at hev
        rw [h5] at hev
        cases hev.2
/-- A configuration that is not empty comes of a smaller one. -/
theorem conf_dn {x : StrucV} (hs : isStructureV x = true) {c : Int} (hc : isM x.labels.length c = true) (hcf : isConf x c = true) (h0 : c ≠ 0) : ∃ e, e < x.labels.length ∧ tb c e = true ∧ isM x.labels.length (dnS c e) = true ∧ isConf x (dnS c e) = true ∧ canAdd x (dnS c e) e = true := by
  obtain ⟨h1, h2, h3⟩ := struc_len hs
  obtain ⟨hM, hb⟩ := isM_spec (by omega) hc
  -- an event with the most events below it
  have hex : ∃ e, e < x.labels.length ∧ tb c e = true := by
    rw [Ne, eq_zero_iff hM] at h0
    obtain ⟨e, he⟩ := Classical.not_forall.1 h0
    have ht : tb c e = true := by simpa using he
    exact ⟨e, Nat.lt_of_not_le (fun h => by rw [hb e h] at ht; cases ht), ht⟩
  have hbd : ∀ e, cardN x.labels.length (nth x.below e) ≤ 16 := fun e => by
    have := List.length_filter_le (fun i => tb (nth x.below e) i) (List.range x.labels.length)
    rw [List.length_range] at this
    unfold cardN; omega
  have hmax : ∀ k, ∀ e, e < x.labels.length → tb c e = true → 16 - cardN x.labels.length (nth x.below e) = k → ∃ e, e < x.labels.length ∧ tb c e = true ∧ ∀ f, f < x.labels.length → tb c f = true → tb (nth x.below f) e = false := by
    intro k
    induction k using Nat.strongRecOn with
    | _ k ih =>
      intro e he ht hk
      by_cases hall : ∀ f, f < x.labels.length → tb c f = true → tb (nth x.below f) e = false
      · exact ⟨e, he, ht, hall⟩
      · have : ∃ f, f < x.labels.length ∧ tb c f = true ∧ tb (nth x.below f) e = true := by
          apply Classical.byContradiction
          intro hno
          apply hall
          intro f hf hft
          cases h5 : tb (nth x.below f) e
          · rfl
          · exact absurd ⟨f, hf, hft, h5⟩ hno
        obtain ⟨f, hf, hft, hfe⟩ := this
        obtain ⟨mb, _, _, _, _, _⟩ := struc_M hs he
        obtain ⟨mbf, _, _, _, _, _⟩ := struc_M hs hf
        have hp := (isStruc_iff.1 hs).2.2.2.2 f hf e he
        unfold pairOk sub2 at hp
        rw [hfe] at hp
        simp only [Bool.and_eq_true, Bool.not_true, Bool.false_or, beq_iff_eq] at hp
        have hsub := (eq_zero_iff (M_andNot mb mbf)).1 hp.1.1
        have hev := (isStruc_iff.1 hs).2.2.2.1 e he
        unfold evOk at hev
        simp only [Bool.and_eq_true, Bool.not_eq_true'] at hev
        have hle : cardN x.labels.length (nth x.below e) < cardN x.labels.length (nth x.below f) := by
          have h4 := card_off (p := fun i => tb (nth x.below f) i) (q := fun i => tb (nth x.below f) i && i != e) (e := e) hfe (by simp) (fun i hi => by simp [hi]) x.labels.length
          rw [if_pos he] at h4
          have h5 : (((List.range x.labels.length).filter fun i => tb (nth x.below e) i)).length ≤ ((List.range x.labels.length).filter fun i => tb (nth x.below f) i && i != e).length := by
            have gen : ∀ (p q : Nat → Bool) (l : List Nat), (∀ i, p i = true → q i = true) → (l.filter p).length ≤ (l.filter q).length := by
              intro p q l hpq
              induction l with
              | nil => exact Nat.le_refl _
              | cons a l ih =>
                rw [List.filter_cons, List.filter_cons]
                cases hp : p a
                · cases hq : q a <;> simp <;> omega
                · rw [hpq a hp]; simpa using ih
            refine gen _ _ _ fun i hi => ?_
            simp only [Bool.and_eq_true, bne_iff_ne]
            refine ⟨?_, fun e5 => ?_⟩
            · have := hsub i
              rw [tb_andNot mb mbf, hi] at this
              simpa using this
            · subst e5; rw [hi] at hev; cases hev.1.2
          unfold cardN; omega
        have := hbd f
        exact ih (16 - cardN x.labels.length (nth x.below f)) (by omega) f hf hft rfl
  obtain ⟨e0, he0, ht0⟩ := hex
  obtain ⟨e, he, ht, htop⟩ := hmax _ e0 he0 ht0 rfl
  have hMd := dn_M hM (show e < 63 by omega)
  have hmd : isM x.labels.length (dnS c e) = true := isM_of (by omega) hMd fun i hi => by rw [tb_dn hM (by omega), hb i hi]; rfl
  refine ⟨e, he, ht, hmd, isConf_iff.2 fun f hf hft => ?_, ?_⟩
  · rw [tb_dn hM (by omega)] at hft
    simp only [Bool.and_eq_true, Bool.not_eq_true', decide_eq_false_iff_not] at hft
    obtain ⟨mb, mc, bb, bc, _, _⟩ := struc_M hs hf
    have hcfg := isConf_iff.1 hcf f hf hft.1
    unfold cfgOk at hcfg ⊢
    simp only [Bool.and_eq_true, beq_iff_eq] at hcfg ⊢
    have z1 := (eq_zero_iff (M_andNot mb hM)).1 hcfg.1
    have z2 := (eq_zero_iff (M_and mc hM)).1 hcfg.2
    refine ⟨(eq_zero_iff (M_andNot mb hMd)).2 fun i => ?_, (eq_zero_iff (M_and mc hMd)).2 fun i => ?_⟩
    · have := z1 i
      rw [tb_andNot mb hM] at this
      rw [tb_andNot mb hMd, tb_dn hM (by omega)]
      cases h5 : tb (nth x.below f) i
      · rfl
      · rw [h5] at this
        simp only [Bool.true_and, Bool.not_eq_false'] at this
        have hne : ¬ e = i := fun e5 => by subst e5; rw [htop f hf hft.1] at h5; cases h5
        simp [this, hne]
    · have := z2 i
      rw [tb_and mc hM] at this
      rw [tb_and mc hMd, tb_dn hM (by omega)]
      cases h5 : tb (nth x.clash f) i
      · rfl
      · rw [h5] at this
        simp only [Bool.true_and] at this
        simp [this]
  · obtain ⟨mb, mc, bb, bc, _, _⟩ := struc_M hs he
    have hcfg := isConf_iff.1 hcf e he ht
    unfold cfgOk at hcfg
    unfold canAdd
    simp only [Bool.and_eq_true, beq_iff_eq, Bool.not_eq_true'] at hcfg ⊢
    have z1 := (eq_zero_iff (M_andNot mb hM)).1 hcfg.1
    have z2 := (eq_zero_iff (M_and mc hM)).1 hcfg.2
    refine ⟨⟨by rw [tb_dn hM (by omega)]; simp, (eq_zero_iff (M_andNot mb hMd)).2 fun i => ?_⟩, (eq_zero_iff (M_and mc hMd)).2 fun i => ?_⟩
    · have := z1 i
      rw [tb_andNot mb hM] at this
      rw [tb_andNot mb hMd, tb_dn hM (by omega)]
      cases h5 : tb (nth x.below e) i
      · rfl
      · rw [h5] at this
        simp only [Bool.true_and, Bool.not_eq_false'] at this
        have hne : ¬ e = i := fun e5 => by subst e5; rw [htop e he ht] at h5; cases h5
        simp [this, hne]
    · have := z2 i
      rw [tb_and mc hM] at this
      rw [tb_and mc hMd, tb_dn hM (by omega)]
      cases h5 : tb (nth x.clash e) i
      · rfl
      · rw [h5] at this
        simp only [Bool.true_and] at this
        simp [this]
theorem up_dn {c : Int} (hM : M c) {e : Nat} (he : e < 63) (ht : tb c e = true) : upS (dnS c e) e = c := by
  apply tb_ext (up_M (dn_M hM he) he) hM
  intro i _
  rw [tb_up (dn_M hM he) he, tb_dn hM he]
  by_cases ei : e = i
  · subst ei; simp [ht]
  · simp [ei]
/-- A search that has looked at the first `i`. -/
structure Srch (x : StrucV) (i : Nat) (l : List Int) : Prop where
  nd : l.Nodup
  z : 0 ∈ l
  ok : ∀ y ∈ l, isM x.labels.length y = true ∧ isConf x y = true
  cl : ∀ k, k < i → ∀ e ∈ addL x (nth l k), upS (nth l k) e ∈ l
theorem mem_addL {x : StrucV} {c : Int} {e : Nat} : e ∈ addL x c ↔ e < x.labels.length ∧ canAdd x c e = true := by
  unfold addL; rw [List.mem_filter, List.mem_range]
theorem srch_all {x : StrucV} (hs : isStructureV x = true) {l : List Int} (h : Srch x l.length l) : ∀ (k : Nat) (c : Int), cardN x.labels.length c = k → isM x.labels.length c = true → isConf x c = true → c ∈ l
  | 0, c, hk, hc, hcf => by
    obtain ⟨h1, h2, h3⟩ := struc_len hs
    obtain ⟨hM, hb⟩ := isM_spec (by omega) hc
    have := (card_zero hM hb).1 hk
    subst this; exact h.z
  | k + 1, c, hk, hc, hcf => by
    obtain ⟨h1, h2, h3⟩ := struc_len hs
    obtain ⟨hM, hb⟩ := isM_spec (by omega) hc
    have h0 : c ≠ 0 := fun h => by
      have := (card_zero hM hb).2 h
      omega
    obtain ⟨e, he, ht, hmd, hcd, hadd⟩ := conf_dn hs hc hcf h0
    have hcard := card_dn h1 hM he ht
    have hmem := srch_all hs h k (dnS c e) (by omega) hmd hcd
    obtain ⟨j, hj, hje⟩ := List.mem_iff_getElem.1 hmem
    have := h.cl j hj e (by rw [nth_at hj, hje, mem_addL]; exact ⟨he, hadd⟩)
    rw [nth_at hj, hje, up_dn hM (by omega) ht] at this
    exact this
theorem srch_perm {x : StrucV} (hs : isStructureV x = true) {l : List Int} (h : Srch x l.length l) : l.Perm (allConf x) := by
  obtain ⟨h1, h2, h3⟩ := struc_len hs
  rw [List.perm_ext_iff_of_nodup h.nd (show (allConf x).Nodup from confL_nodup x _)]
  intro c
  constructor
  · intro hc; exact (mem_allConf (by omega)).2 (h.ok c hc)
  · intro hc
    have := (mem_allConf (by omega)).1 hc
    exact srch_all hs h _ c rfl this.1 this.2
theorem srch_sort {x : StrucV} (hs : isStructureV x = true) {l : List Int} (h : Srch x l.length l) : sortI l = allConf x :=
  sortI_eq (srch_perm hs h) ((confL_sorted x _).1.imp fun h => by omega)
theorem nodup_sub_length : ∀ (l m : List Int), l.Nodup → (∀ y ∈ l, y ∈ m) → l.length ≤ m.length
  | [], m, _, _ => by simp
  | a :: l, m, hn, h => by
    obtain ⟨h1, h2⟩ := List.nodup_cons.1 hn
    have := nodup_sub_length l (m.erase a) h2 (fun y hy => by
      rw [List.mem_erase_of_ne (fun e => by subst e; exact h1 hy)]
      exact h y (by simp [hy]))
    have hm := List.length_erase_of_mem (h a (by simp))
    have hp : 0 < m.length := List.length_pos_of_mem (h a (by simp))
    simp only [List.length_cons]; omega
theorem srch_le {x : StrucV} (hn : x.labels.length ≤ 24) {i : Nat} {l : List Int} (h : Srch x i l) : l.length ≤ (allConf x).length :=
  nodup_sub_length l _ h.nd fun y hy => (mem_allConf hn).2 (h.ok y hy)
theorem srch_okS {x : StrucV} {i : Nat} {l : List Int} (h : Srch x i l) : okS x.labels.length l := ⟨h.nd, fun y hy => (h.ok y hy).1⟩
theorem range_filter_succ' (p : Nat → Bool) (k : Nat) : (List.range (k + 1)).filter p = if p k then (List.range k).filter p ++ [k] else (List.range k).filter p := by
  rw [List.range_succ, List.filter_append]
  by_cases hp : p k = true <;> simp [hp]
theorem srch_zero {x : StrucV} (hn : x.labels.length ≤ 16) : Srch x 0 [0] := by
  refine ⟨by simp, by simp, fun y hy => ?_, fun k hk => by omega⟩
  simp only [List.mem_singleton] at hy
  subst hy
  exact ⟨isM_of (by omega) M_zero (fun i _ => by simp), isConf_iff.2 fun e he ht => by simp at ht⟩
theorem nth_app {l t : List Int} {k : Nat} (h : k < l.length) : nth (l ++ t) k = nth l k := by
  rw [nth_at (by simp; omega), nth_at h, List.getElem_append_left h]
theorem srch_next {x : StrucV} {i : Nat} {l l' t : List Int} (hb : Srch x i l) (hil : i < l.length) (ht : l' = l ++ t) (hn : l'.Nodup) (ho : ∀ y ∈ l', isM x.labels.length y = true ∧ isConf x y = true) (hu : ∀ e ∈ addL x (nth l i), upS (nth l i) e ∈ l') : Srch x (i + 1) l' := by
  refine ⟨hn, by rw [ht]; simp [hb.z], ho, fun k hk e he => ?_⟩
  have hkl : k < l.length := by omega
  have e1 : nth l' k = nth l k := by rw [ht, nth_app hkl]
  rw [e1] at he ⊢
  by_cases e2 : k = i
  · subst e2; exact hu e he
  · rw [ht]; exact List.mem_append_left _ (hb.cl k (by omega) e he)
theorem addable_spec (a0 a1 : Bool) (x : StrucV) (hs : isStructureV x = true) (c : Int) (hc : isM x.labels.length c = true) : ACalls1 Tryz.prog 106 [.sl 1 a0 (ints x.below), .sl 1 a1 (ints x.clash), iv c] (.own 1 true (ints ((addL x c).map fun (e : Nat) => (e : Int)))) := by
  obtain ⟨h1, h2, h3⟩ := struc_len hs
  obtain ⟨hM, hb⟩ := isM_spec (by omega) hc
  refine walk (fun _ => false) mixed Go.Proofs.Tryz.func106 rfl rfl rfl (by kernel_rfl) rfl (by simp) (by kernel_rfl) ?_
  simp
  refine ⟨_, length_spec _ _ (by unfold Fits; omega), ?_⟩
  simp
  refine awp_loop2 [0, 1, 2, 11] [] (fun k : Nat => [(12, iv k), (7, .ref 100)]) (fun k => [(100, .own 1 true (ints (((List.range k).filter (canAdd x c)).map fun (e : Nat) => (e : Int))))]) (fun k => k ≤ x.labels.length) (fun k => x.labels.length - k) 0 (weak_mk (fun t => if t = 100 then some 9 else some t) (by simp) (by simp) rfl) (by simp) ?_
  intro k hk
  have hfl : ((List.range k).filter (canAdd x c)).length ≤ k := by have := List.length_filter_le (canAdd x c) (List.range k); rwa [List.length_range] at this
  by_cases hkl : k < x.labels.length
  · have hkb : k < x.below.length := by omega
    have hkc : k < x.clash.length := by omega
    have hst : (List.range (k + 1)).filter (canAdd x c) = if canAdd x c k then (List.range k).filter (canAdd x c) ++ [k] else (List.range k).filter (canAdd x c) := range_filter_succ' _ _
    unfold canAdd at hst
    simp [hkl, h2, h3]
    refine ⟨_, has_spec c hM k (by omega), ?_⟩
    cases ht : tb c k
    · by_cases hA : ibits .andNot .i64 (nth x.below k) c = 0
      · by_cases hB : ibits .and .i64 (nth x.clash k) c = 0
        · simp [hkl, h2, h3, hA, hB, wrap_id ((k : Int) + 1) (by omega) (by omega)]
          repeat (refine And.intro (by omega) ?_)
          exact Round.mk (k + 1) (weak_mk (fun t => if t = 100 then some 40 else some t) (by simp) (by unfold canAdd; simp [hst, ht, hA, hB]) rfl) hkl (by omega)
        · simp [hkl, h2, h3, hA, hB, wrap_id ((k : Int) + 1) (by omega) (by omega)]
          exact Round.mk (k + 1) (weak_mk some (by simp) (by unfold canAdd; simp [hst, ht, hA, hB]) rfl) hkl (by omega)
      · simp [hkl, h2, h3, hA, wrap_id ((k : Int) + 1) (by omega) (by omega)]
        exact Round.mk (k + 1) (weak_mk some (by simp) (by unfold canAdd; simp [hst, ht, hA]) rfl) hkl (by omega)
    · simp [wrap_id ((k : Int) + 1) (by omega) (by omega)]
      exact Round.mk (k + 1) (weak_mk some (by simp) (by unfold canAdd; simp [hst, ht]) rfl) hkl (by omega)
  · obtain rfl : k = x.labels.length := by omega
    simp [h2, addL]
theorem configurations_spec (a0 a1 : Bool) (x : StrucV) (hs : isStructureV x = true) : ACalls1 Tryz.prog 103 [.sl 1 a0 (ints x.below), .sl 1 a1 (ints x.clash)] (.tup [.own 1 false (ints (configurationsOfV x).1), iv (configurationsOfV x).2]) := by
  obtain ⟨h1, h2, h3⟩ := struc_len hs
  have hV : configurationsOfV x = if (allConf x).length ≤ 4096 then (allConf x, 0) else ([], 3) := by unfold configurationsOfV; rw [if_pos hs]
  refine walk (fun t => t == 2055) mixed Go.Proofs.Tryz.func103 rfl rfl rfl (by kernel_rfl) rfl (by simp) (by kernel_rfl) ?_
  simp
  refine awp_loop2 [0, 1, 7] [] (fun s : Nat × List Int × List (Int × Value) => [(8, iv s.1), (6, .ref 100)]) (fun s => [(100, .own 1 true (ints s.2.1)), (13, .mp (mI s.2.2))]) (fun s => s.1 ≤ s.2.1.length ∧ s.2.1.length ≤ 4096 ∧ Srch x s.1 s.2.1 ∧ SeenOk s.2.1 s.2.2) (fun s => 5000 - s.1) (0, [0], [(0, .bool true)]) (weak_mk (fun t => if t = 100 then some 12 else some t) (by simp) (by simp [mI, ints]) rfl) ⟨by simp, by simp, srch_zero h1, seen_one _⟩ ?_
  rintro ⟨i, l, m⟩ ⟨hi, hle, hb, hse⟩
  simp only at hi hle hb hse
  by_cases hil : i < l.length
  · obtain ⟨hcm, hcf⟩ := hb.ok _ (nth_mem hil)
    obtain ⟨hcM, _⟩ := isM_spec (by omega) hcm
    have hadd : ∀ e ∈ addL x (nth l i), e < x.labels.length ∧ canAdd x (nth l i) e = true := fun e he => mem_addL.1 he
    have hal : (addL x (nth l i)).length ≤ x.labels.length := by
      unfold addL
      have := List.length_filter_le (canAdd x (nth l i)) (List.range x.labels.length)
      rwa [List.length_range] at this
    have hcl : ∀ l', (∃ t, l' = l ++ t) → l'.Nodup → (∀ y ∈ l', isM x.labels.length y = true ∧ isConf x y = true) → (∀ e ∈ addL x (nth l i), upS (nth l i) e ∈ l') → Srch x (i + 1) l' := fun l' ⟨t, ht⟩ hn ho hu => srch_next hb hil ht hn ho hu
    simp [hil, show i + 1 ≤ l.length from hil]
    refine ⟨_, addable_spec _ _ x hs _ hcm, ?_⟩
    generalize hc : nth l i = c at *
    generalize addL x c = ad at *
    simp
    refine awp_loop2 [0, 1, 7, 8, 27, 28] [27] (fun s : Nat × List Int × List (Int × Value) => [(29, iv s.1), (6, .ref 100)]) (fun s => [(100, .own 1 true (ints s.2.1)), (13, .mp (mI s.2.2))]) (fun s => s.1 ≤ ad.length ∧ (∃ t, s.2.1 = l ++ t ∧ t.length ≤ s.1) ∧ s.2.1.Nodup ∧ (∀ y ∈ s.2.1, isM x.labels.length y = true ∧ isConf x y = true) ∧ (∀ j, j < s.1 → upS c (natAt ad j) ∈ s.2.1) ∧ SeenOk s.2.1 s.2.2) (fun s => ad.length - s.1) (0, l, m) (weak_mk some (by simp) (by simp) rfl) ⟨by simp, ⟨[], by simp⟩, hb.nd, hb.ok, by simp, hse⟩ ?_
    rintro ⟨j, l', m'⟩ ⟨hj, ⟨t, ht, htl⟩, hnd, hok, hup, hse'⟩
    simp only at hj ht htl hnd hok hup hse'
    have hl'16 : l'.length ≤ l.length + ad.length := by rw [ht, List.length_append]; omega
    have hil' : i < l'.length := by rw [ht, List.length_append]; omega
    have hnc : nth l' i = c := by rw [ht, nth_app hil]; exact hc
    by_cases hjl : j < ad.length
    · obtain ⟨hen, hca⟩ := hadd _ (natAt_mem hjl)
      obtain ⟨u1, u2⟩ := conf_up hs hcm hcf hen hca
      have hel : nth (ad.map fun (e : Nat) => (e : Int)) j = (natAt ad j : Nat) := by
        rw [nth_at (by simpa using hjl), natAt_at hjl]; simp
      have hup' : ∀ l2 : List Int, (∀ y ∈ l', y ∈ l2) → upS c (natAt ad j) ∈ l2 → ∀ k, k < j + 1 → upS c (natAt ad k) ∈ l2 := fun l2 h1 h2 k hk => by
        by_cases e : k = j
        · subst e; exact h2
        · exact h1 _ (hup k (by omega))
      generalize natAt ad j = e at *
      have hor : ibits .or .i64 c (pow1 e) = upS c e := rfl
      have hsd := hse' (upS c e)
      simp [hjl, hel, hil', hnc, show i + 1 ≤ l'.length from hil', show j + 1 ≤ ad.length from hjl]
      repeat (rw [exE_eq]; simp [hjl, hel, hil', hnc, show i + 1 ≤ l'.length from hil', show j + 1 ≤ ad.length from hjl])
      refine ⟨_, one_spec e (by omega), ?_⟩
      by_cases hmem : upS c e ∈ l'
      · rw [if_pos hmem] at hsd
        simp [hor, hsd, wrap_id ((j : Int) + 1) (by omega) (by omega)]
        exact Round.mk (j + 1, l', m') (weak_mk some (by simp) (by simp) rfl) ⟨hjl, ⟨t, ht, by omega⟩, hnd, hok, hup' l' (fun _ h => h) hmem, hse'⟩ (by simp only; omega)
      · rw [if_neg hmem] at hsd
        simp [hor, hsd, wrap_id ((j : Int) + 1) (by omega) (by omega)]
        repeat (refine And.intro (by omega) ?_)
        refine Round.mk (j + 1, l' ++ [upS c e], putI (upS c e) (.bool true) m') (weak_mk (fun t => if t = 100 then some 49 else some t) (by simp) (by simp) rfl) ⟨hjl, ⟨t ++ [upS c e], by rw [ht, List.append_assoc], by simp; omega⟩, ?_, fun y hy => ?_, hup' _ (fun y h => by simp [h]) (by simp), seen_put hse' _⟩ (by simp only; omega)
        · exact List.nodup_append.2 ⟨hnd, by simp, fun a ha b hb' e' => by simp at hb'; subst e'; rw [hb'] at ha; exact hmem ha⟩
        · simp only [List.mem_append, List.mem_singleton] at hy
          rcases hy with hy | rfl
          · exact hok y hy
          · exact ⟨u1, u2⟩
    · obtain rfl : j = ad.length := by omega
      have hsr := hcl l' ⟨t, ht⟩ hnd hok (fun e he => by
        obtain ⟨k, hk, rfl⟩ := List.mem_iff_getElem.1 he
        have := hup k hk
        rwa [natAt_at hk] at this)
      have hle2 := srch_le (by omega) hsr
      by_cases hbig : l'.length ≤ 4096
      · simp [show ¬ (4096 : Int) < (l'.length : Int) by omega, show (l'.length : Int) ≤ 4096 by omega, wrap_id ((i : Int) + 1) (by omega) (by omega)]
        exact Round.mk (i + 1, l', m') (weak_mk some (by simp) (by simp) rfl) ⟨by simp only; omega, hbig, hsr, hse'⟩ (by simp only; omega)
      · rw [if_neg (by omega)] at hV
        simp [show (4096 : Int) < (l'.length : Int) by omega, show ¬ (l'.length : Int) ≤ 4096 by omega, hV]
  · obtain rfl : i = l.length := by omega
    have hle2 := srch_le (by omega) hb
    have hp := srch_perm hs hb
    rw [if_pos (by rw [← hp.length_eq]; exact hle)] at hV
    have hso := srch_sort hs hb
    simp
    refine ⟨_, _, Sort_spec true l (by unfold Fits; omega), ?_⟩
    simp [hV, hso]
theorem ConfigurationsOf_spec (a0 a1 a2 : Bool) (x : StrucV) (hx : StructureOk x) : ACalls1 Tryz.prog 35 [strucSl a0 a1 a2 x] (.tup [.own 1 false (ints (configurationsOfV x).1), iv (configurationsOfV x).2]) := by
  refine walk (fun t => t == 1) mixed Go.Proofs.Tryz.func35 rfl rfl rfl (by kernel_rfl) rfl (by simp) (by kernel_rfl) ?_
  simp
  refine ⟨_, IsStructure_spec _ _ _ x hx, ?_⟩
  cases h : isStructureV x
  · simp [configurationsOfV, h]
  · simp
    refine ⟨_, configurations_spec _ _ x h, ?_⟩
    simp
theorem ConfigurationsOf_fits (x : StrucV) (hx : StructureOk x) : ListOk (configurationsOfV x).1 := by
  unfold configurationsOfV
  by_cases h : isStructureV x = true
  · obtain ⟨h1, h2, h3⟩ := struc_len h
    have h2l : (2 : Nat) ^ x.labels.length ≤ 65536 := Nat.pow_le_pow_right (by omega) (show x.labels.length ≤ 16 from h1)
    rw [if_pos h]
    split
    · refine ⟨by simp only [Fits]; omega, fun y hy => ?_⟩
      have := (confL_sorted x _).2 y hy
      unfold I64; omega
    · simp [ListOk, Fits]
  · rw [if_neg h]; simp [ListOk, Fits]
end Go.AM
