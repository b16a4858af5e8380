/-
  ConfigurationsOf: both sides.
-/
import Derived.Test.YtimfhkglmiihgaaDoorFnCa
import Derived.Test.YtimfhkglmiihgaaDoorFnSo
import Derived.Test.YtimfhkglmiihgaaDoorFnMb
set_option linter.unusedVariables false
set_option linter.unusedSimpArgs false
set_option maxRecDepth 100000
set_option maxHeartbeats 1600000
namespace Go.AM
open Go.Proofs
theorem addable_spec (a0 a1 : Bool) (x : StrucV) (hs : isStructureV x = true) (c : Int) (hc : isM x.labels.length c = true) : ACalls1 Tryd.prog 117 [.sl 1 a0 (ints x.below), .sl 1 a1 (ints x.clash), iv c] (.own 1 true (ints ((addL x c).map fun (e : Nat) => (e : Int)))) := by
  obtain ⟨h1, h2, h3⟩ := struc_len hs
  obtain ⟨hM, hb⟩ := isM_spec (by omega) hc
  refine walk (fun _ => false) mixed Go.Proofs.Tryd.func117 rfl rfl rfl (by kernel_rfl) rfl (by simp) (by kernel_rfl) ?_
  simp
  refine ⟨_, length_spec _ _ (by unfold Fits; omega), ?_⟩
  simp
  refine awp_loop2 [0, 1, 2, 11] [] (fun k : Nat => [(12, iv k), (7, .ref 100)]) (fun k => [(100, .own 1 true (ints (((List.range k).filter (canAdd x c)).map fun (e : Nat) => (e : Int))))]) (fun k => k ≤ x.labels.length) (fun k => x.labels.length - k) 0 (weak_mk (fun t => if t = 100 then some 9 else some t) (by simp) (by simp) rfl) (by simp) ?_
  intro k hk
  have hfl : ((List.range k).filter (canAdd x c)).length ≤ k := by have := List.length_filter_le (canAdd x c) (List.range k); rwa [List.length_range] at this
  by_cases hkl : k < x.labels.length
  · have hkb : k < x.below.length := by omega
    have hkc : k < x.clash.length := by omega
    have hst : (List.range (k + 1)).filter (canAdd x c) = if canAdd x c k then (List.range k).filter (canAdd x c) ++ [k] else (List.range k).filter (canAdd x c) := range_filter_succ' _ _
    unfold canAdd at hst
    simp [hkl, h2, h3]
    refine ⟨_, has_spec c hM k (by omega), ?_⟩
    cases ht : tb c k
    · by_cases hA : ibits .andNot .i64 (nth x.below k) c = 0
      · by_cases hB : ibits .and .i64 (nth x.clash k) c = 0
        · simp [hkl, h2, h3, hA, hB, wrap_id ((k : Int) + 1) (by omega) (by omega)]
          repeat (refine And.intro (by omega) ?_)
          exact Round.mk (k + 1) (weak_mk (fun t => if t = 100 then some 40 else some t) (by simp) (by unfold canAdd; simp [hst, ht, hA, hB]) rfl) hkl (by omega)
        · simp [hkl, h2, h3, hA, hB, wrap_id ((k : Int) + 1) (by omega) (by omega)]
          exact Round.mk (k + 1) (weak_mk some (by simp) (by unfold canAdd; simp [hst, ht, hA, hB]) rfl) hkl (by omega)
      · simp [hkl, h2, h3, hA, wrap_id ((k : Int) + 1) (by omega) (by omega)]
        exact Round.mk (k + 1) (weak_mk some (by simp) (by unfold canAdd; simp [hst, ht, hA]) rfl) hkl (by omega)
    · simp [wrap_id ((k : Int) + 1) (by omega) (by omega)]
      exact Round.mk (k + 1) (weak_mk some (by simp) (by unfold canAdd; simp [hst, ht]) rfl) hkl (by omega)
  · obtain rfl : k = x.labels.length := by omega
    simp [h2, addL]
theorem configurations_spec (a0 a1 : Bool) (x : StrucV) (hs : isStructureV x = true) : ACalls1 Tryd.prog 113 [.sl 1 a0 (ints x.below), .sl 1 a1 (ints x.clash)] (.tup [.own 1 false (ints (configurationsOfV x).1), iv (configurationsOfV x).2]) := by
  obtain ⟨h1, h2, h3⟩ := struc_len hs
  have hV : configurationsOfV x = if (allConf x).length ≤ 4096 then (allConf x, 0) else ([], 3) := by unfold configurationsOfV; rw [if_pos hs]
  refine walk (fun t => t == 2055) mixed Go.Proofs.Tryd.func113 rfl rfl rfl (by kernel_rfl) rfl (by simp) (by kernel_rfl) ?_
  simp
  refine awp_loop2 [0, 1, 7] [] (fun s : Nat × List Int × List (Int × Value) => [(8, iv s.1), (6, .ref 100)]) (fun s => [(100, .own 1 true (ints s.2.1)), (13, .mp (mI s.2.2))]) (fun s => s.1 ≤ s.2.1.length ∧ s.2.1.length ≤ 4096 ∧ Srch x s.1 s.2.1 ∧ SeenOk s.2.1 s.2.2) (fun s => 5000 - s.1) (0, [0], [(0, .bool true)]) (weak_mk (fun t => if t = 100 then some 12 else some t) (by simp) (by simp [mI, ints]) rfl) ⟨by simp, by simp, srch_zero h1, seen_one _⟩ ?_
  rintro ⟨i, l, m⟩ ⟨hi, hle, hb, hse⟩
  simp only at hi hle hb hse
  by_cases hil : i < l.length
  · obtain ⟨hcm, hcf⟩ := hb.ok _ (nth_mem hil)
    obtain ⟨hcM, _⟩ := isM_spec (by omega) hcm
    have hadd : ∀ e ∈ addL x (nth l i), e < x.labels.length ∧ canAdd x (nth l i) e = true := fun e he => mem_addL.1 he
    have hal : (addL x (nth l i)).length ≤ x.labels.length := by
      unfold addL
      have := List.length_filter_le (canAdd x (nth l i)) (List.range x.labels.length)
      rwa [List.length_range] at this
    have hcl : ∀ l', (∃ t, l' = l ++ t) → l'.Nodup → (∀ y ∈ l', isM x.labels.length y = true ∧ isConf x y = true) → (∀ e ∈ addL x (nth l i), upS (nth l i) e ∈ l') → Srch x (i + 1) l' := fun l' ⟨t, ht⟩ hn ho hu => srch_next hb hil ht hn ho hu
    simp [hil, show i + 1 ≤ l.length from hil]
    refine ⟨_, addable_spec _ _ x hs _ hcm, ?_⟩
    generalize hc : nth l i = c at *
    generalize addL x c = ad at *
    simp
    refine awp_loop2 [0, 1, 7, 8, 27, 28] [27] (fun s : Nat × List Int × List (Int × Value) => [(29, iv s.1), (6, .ref 100)]) (fun s => [(100, .own 1 true (ints s.2.1)), (13, .mp (mI s.2.2))]) (fun s => s.1 ≤ ad.length ∧ (∃ t, s.2.1 = l ++ t ∧ t.length ≤ s.1) ∧ s.2.1.Nodup ∧ (∀ y ∈ s.2.1, isM x.labels.length y = true ∧ isConf x y = true) ∧ (∀ j, j < s.1 → upS c (natAt ad j) ∈ s.2.1) ∧ SeenOk s.2.1 s.2.2) (fun s => ad.length - s.1) (0, l, m) (weak_mk some (by simp) (by simp) rfl) ⟨by simp, ⟨[], by simp⟩, hb.nd, hb.ok, by simp, hse⟩ ?_
    rintro ⟨j, l', m'⟩ ⟨hj, ⟨t, ht, htl⟩, hnd, hok, hup, hse'⟩
    simp only at hj ht htl hnd hok hup hse'
    have hl'16 : l'.length ≤ l.length + ad.length := by rw [ht, List.length_append]; omega
    have hil' : i < l'.length := by rw [ht, List.length_append]; omega
    have hnc : nth l' i = c := by rw [ht, nth_app hil]; exact hc
    by_cases hjl : j < ad.length
    · obtain ⟨hen, hca⟩ := hadd _ (natAt_mem hjl)
      obtain ⟨u1, u2⟩ := conf_up hs hcm hcf hen hca
      have hel : nth (ad.map fun (e : Nat) => (e : Int)) j = (natAt ad j : Nat) := by
        rw [nth_at (by simpa using hjl), natAt_at hjl]; simp
      have hup' : ∀ l2 : List Int, (∀ y ∈ l', y ∈ l2) → upS c (natAt ad j) ∈ l2 → ∀ k, k < j + 1 → upS c (natAt ad k) ∈ l2 := fun l2 h1 h2 k hk => by
        by_cases e : k = j
        · subst e; exact h2
        · exact h1 _ (hup k (by omega))
      generalize natAt ad j = e at *
      have hor : ibits .or .i64 c (pow1 e) = upS c e := rfl
      have hsd := hse' (upS c e)
      simp [hjl, hel, hil', hnc, show i + 1 ≤ l'.length from hil', show j + 1 ≤ ad.length from hjl]
      repeat (rw [exE_eq]; simp [hjl, hel, hil', hnc, show i + 1 ≤ l'.length from hil', show j + 1 ≤ ad.length from hjl])
      refine ⟨_, one_spec e (by omega), ?_⟩
      by_cases hmem : upS c e ∈ l'
      · rw [if_pos hmem] at hsd
        simp [hor, hsd, wrap_id ((j : Int) + 1) (by omega) (by omega)]
        exact Round.mk (j + 1, l', m') (weak_mk some (by simp) (by simp) rfl) ⟨hjl, ⟨t, ht, by omega⟩, hnd, hok, hup' l' (fun _ h => h) hmem, hse'⟩ (by simp only; omega)
      · rw [if_neg hmem] at hsd
        simp [hor, hsd, wrap_id ((j : Int) + 1) (by omega) (by omega)]
        repeat (refine And.intro (by omega) ?_)
        refine Round.mk (j + 1, l' ++ [upS c e], putI (upS c e) (.bool true) m') (weak_mk (fun t => if t = 100 then some 49 else some t) (by simp) (by simp) rfl) ⟨hjl, ⟨t ++ [upS c e], by rw [ht, List.append_assoc], by simp; omega⟩, ?_, fun y hy => ?_, hup' _ (fun y h => by simp [h]) (by simp), seen_put hse' _⟩ (by simp only; omega)
        · exact List.nodup_append.2 ⟨hnd, by simp, fun a ha b hb' e' => by simp at hb'; subst e'; rw [hb'] at ha; exact hmem ha⟩
        · simp only [List.mem_append, List.mem_singleton] at hy
          rcases hy with hy | rfl
          · exact hok y hy
          · exact ⟨u1, u2⟩
    · obtain rfl : j = ad.length := by omega
      have hsr := hcl l' ⟨t, ht⟩ hnd hok (fun e he => by
        obtain ⟨k, hk, rfl⟩ := List.mem_iff_getElem.1 he
        have := hup k hk
        rwa [natAt_at hk] at this)
      have hle2 := srch_le (by omega) hsr
      by_cases hbig : l'.length ≤ 4096
      · simp [show ¬ (4096 : Int) < (l'.length : Int) by omega, show (l'.length : Int) ≤ 4096 by omega, wrap_id ((i : Int) + 1) (by omega) (by omega)]
        exact Round.mk (i + 1, l', m') (weak_mk some (by simp) (by simp) rfl) ⟨by simp only; omega, hbig, hsr, hse'⟩ (by simp only; omega)
      · rw [if_neg (by omega)] at hV
        simp [show (4096 : Int) < (l'.length : Int) by omega, show ¬ (l'.length : Int) ≤ 4096 by omega, hV]
  · obtain rfl : i = l.length := by omega
    have hle2 := srch_le (by omega) hb
    have hp := srch_perm hs hb
    rw [if_pos (by rw [← hp.length_eq]; exact hle)] at hV
    have hso := srch_sort hs hb
    simp
    refine ⟨_, _, Sort_spec true l (by unfold Fits; omega), ?_⟩
    simp [hV, hso]
theorem ConfigurationsOf_spec (a0 a1 a2 : Bool) (x : StrucV) (hx : StructureOk x) : ACalls1 Tryd.prog 52 [strucSl a0 a1 a2 x] (.tup [.own 1 false (ints (configurationsOfV x).1), iv (configurationsOfV x).2]) := by
  refine walk (fun t => t == 1) mixed Go.Proofs.Tryd.func52 rfl rfl rfl (by kernel_rfl) rfl (by simp) (by kernel_rfl) ?_
  simp
  refine ⟨_, IsStructure_spec _ _ _ x hx, ?_⟩
  cases h : isStructureV x
  · simp [configurationsOfV, h]
  · simp
    refine ⟨_, configurations_spec _ _ x h, ?_⟩
    simp
theorem l16All_spec (a0 a1 a2 : Bool) (x : StrucV) (hs : isStructureV x = true) : ACalls1 Tryd.prog 112 [strucSl a0 a1 a2 x] (.own 1 true (ints ((allConf x).take 4097))) := by
  obtain ⟨h1, h2, h3⟩ := struc_len hs
  have hf := full_eq (n := x.labels.length) (by omega)
  have h2p := Nat.two_pow_pos x.labels.length
  have h2l : (2 : Nat) ^ x.labels.length ≤ 65536 := Nat.pow_le_pow_right (by omega) (show x.labels.length ≤ 16 from h1)
  refine walk (fun t => t == 1) mixed Go.Proofs.Tryd.func112 rfl rfl rfl (by kernel_rfl) rfl (by simp) (by kernel_rfl) ?_
  simp
  refine awp_loop2 [1] [] (fun c : Nat => [(4, iv c), (3, .ref 100)]) (fun c => [(100, .own 1 true (ints (confL x c)))]) (fun c => c ≤ 2 ^ x.labels.length ∧ (confL x c).length ≤ 4097) (fun c => 2 ^ x.labels.length - c) 0 (weak_mk (fun t => if t = 100 then some 5 else some t) (by simp) (by simp [confL]) rfl) ⟨by simp, by simp [confL]⟩ ?_
  rintro c ⟨hc, hle⟩
  obtain ⟨r, hr⟩ := confL_mono x hc
  have hr' : allConf x = confL x c ++ r := hr
  simp
  refine ⟨_, l16Size_spec _ _ _ x, ?_⟩
  simp
  refine ⟨_, l01Full_spec _ (by unfold I64; omega), ?_⟩
  by_cases hlt : c < 2 ^ x.labels.length
  · have hst := confL_succ x c
    have hcf : (c : Int) ≤ full x.labels.length := by rw [hf]; omega
    have hcm : isM x.labels.length (c : Int) = true := (isM_iff (by omega)).2 ⟨by omega, by simpa using hlt⟩
    by_cases hbig : (confL x c).length ≤ 4096
    · simp [hcf, show ((confL x c).length : Int) ≤ 4096 by omega, show ¬ (4096 : Int) < ((confL x c).length : Int) by omega]
      refine ⟨_, l16Configuration_spec _ _ _ x hs _ hcm, ?_⟩
      cases hcc : isConf x (c : Int)
      · rw [hcc] at hst
        simp [wrap_id ((c : Int) + 1) (by omega) (by omega)]
        exact Round.mk (c + 1) (weak_mk some (by simp) (by simp [hst]) rfl) ⟨by omega, by rw [hst]; simpa using hle⟩ (by omega)
      · rw [hcc, if_pos rfl] at hst
        simp [wrap_id ((c : Int) + 1) (by omega) (by omega)]
        repeat (refine And.intro (by omega) ?_)
        exact Round.mk (c + 1) (weak_mk (fun t => if t = 100 then some 24 else some t) (by simp) (by simp [hst]) rfl) ⟨by omega, by rw [hst]; simp; omega⟩ (by omega)
    · have : (allConf x).take 4097 = confL x c := by
        rw [hr', List.take_append_of_le_length (by omega), List.take_of_length_le hle]
      simp [hcf, show ¬ ((confL x c).length : Int) ≤ 4096 by omega, show (4096 : Int) < ((confL x c).length : Int) by omega, this]
  · obtain rfl : c = 2 ^ x.labels.length := by omega
    have : (allConf x).take 4097 = confL x (2 ^ x.labels.length) := List.take_of_length_le hle
    have hno : ¬ (((2 ^ x.labels.length : Nat) : Int) ≤ full x.labels.length) := by rw [hf]; omega
    simp at hno
    have hno2 := Int.not_le.2 hno
    simp [hno2, this]
theorem specConfigurationsOf_spec (a0 a1 a2 : Bool) (x : StrucV) (hx : StructureOk x) : ACalls1 Tryd.prog 51 [strucSl a0 a1 a2 x] (.tup [.own 1 false (ints (configurationsOfV x).1), iv (configurationsOfV x).2]) := by
  refine walk (fun t => t == 1) mixed Go.Proofs.Tryd.func51 rfl rfl rfl (by kernel_rfl) rfl (by simp) (by kernel_rfl) ?_
  simp
  refine ⟨_, l16Is_spec _ _ _ x, ?_⟩
  cases h : isStructureV x
  · simp [configurationsOfV, h]
  · simp
    refine ⟨_, l16All_spec _ _ _ x h, ?_⟩
    by_cases hle : (allConf x).length ≤ 4096
    · have : (allConf x).take 4097 = allConf x := List.take_of_length_le (by omega)
      rw [this]
      simp [show ¬ (4096 : Int) < ((allConf x).length : Int) by omega, show ((allConf x).length : Int) ≤ 4096 by omega, configurationsOfV, h, hle]
    · have hmin : min 4097 (allConf x).length = 4097 := by omega
      simp [hmin, configurationsOfV, h, hle]
theorem ConfigurationsOf_fits (x : StrucV) (hx : StructureOk x) : ListOk (configurationsOfV x).1 := by
  unfold configurationsOfV
  by_cases h : isStructureV x = true
  · obtain ⟨h1, h2, h3⟩ := struc_len h
    have h2l : (2 : Nat) ^ x.labels.length ≤ 65536 := Nat.pow_le_pow_right (by omega) (show x.labels.length ≤ 16 from h1)
    rw [if_pos h]
    split
    · refine ⟨by simp only [Fits]; omega, fun y hy => ?_⟩
      have := (confL_sorted x _).2 y hy
      unfold I64; omega
    · simp [ListOk, Fits]
  · rw [if_neg h]; simp [ListOk, Fits]
end Go.AM
