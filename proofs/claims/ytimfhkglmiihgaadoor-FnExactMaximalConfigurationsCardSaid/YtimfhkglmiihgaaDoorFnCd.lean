/-
  MaximalConfigurations: both sides.
-/
import Derived.Test.YtimfhkglmiihgaaDoorFnCb
import Derived.Test.YtimfhkglmiihgaaDoorFnDf
set_option linter.unusedVariables false
set_option linter.unusedSimpArgs false
set_option maxRecDepth 100000
set_option maxHeartbeats 1600000
namespace Go.AM
open Go.Proofs
def isMaxC (x : StrucV) (c : Int) : Bool := (addL x c).isEmpty
def maximalConfigurationsV (x : StrucV) : List Int × Int := if (configurationsOfV x).2 = 0 then ((configurationsOfV x).1.filter (isMaxC x), 0) else ([], (configurationsOfV x).2)
theorem configurationsOf_zero {x : StrucV} (h : (configurationsOfV x).2 = 0) : isStructureV x = true ∧ (allConf x).length ≤ 4096 ∧ configurationsOfV x = (allConf x, 0) := by
  unfold configurationsOfV at h
  by_cases h1 : isStructureV x = true
  · rw [if_pos h1] at h
    by_cases h2 : (allConf x).length ≤ 4096
    · exact ⟨h1, h2, by unfold configurationsOfV; rw [if_pos h1, if_pos h2]⟩
    · rw [if_neg h2] at h; simp at h
  · rw [if_neg h1] at h; simp at h
theorem maxConf1_spec (a0 a1 a2 : Bool) (x : StrucV) (hs : isStructureV x = true) (c : Int) (hc : isM x.labels.length c = true) : ACalls1 Tryd.prog 116 [iv c, .ip [.sl 1 a0 (ints x.below), .sl 1 a1 (ints x.clash), .sl 1 a2 (ints x.labels)]] (bv (!isMaxC x c)) := by
  refine walk (fun _ => false) mixed Go.Proofs.Tryd.func116 rfl rfl rfl (by kernel_rfl) rfl (by simp) (by kernel_rfl) ?_
  simp
  refine ⟨_, addable_spec _ _ x hs c hc, ?_⟩
  unfold isMaxC
  cases addL x c with
  | nil => simp
  | cons e l => simp
theorem MaximalConfigurations_spec (a0 a1 a2 : Bool) (x : StrucV) (hx : StructureOk x) : ACalls1 Tryd.prog 54 [strucSl a0 a1 a2 x] (.tup [.own 1 false (ints (maximalConfigurationsV x).1), iv (maximalConfigurationsV x).2]) := by
  refine walk (fun t => t == 1 || t == 2016) mixed Go.Proofs.Tryd.func54 rfl rfl rfl (by kernel_rfl) rfl (by simp) (by kernel_rfl) ?_
  simp
  refine ⟨_, ConfigurationsOf_spec _ _ _ x hx, ?_⟩
  unfold maximalConfigurationsV
  by_cases h : (configurationsOfV x).2 = 0
  · obtain ⟨h1, h2, h3⟩ := configurationsOf_zero h
    obtain ⟨g1, g2, g3⟩ := struc_len h1
    have e : (fun y => !(!isMaxC x y)) = isMaxC x := by funext y; simp
    have hmem : ∀ y ∈ (configurationsOfV x).1, isM x.labels.length y = true := fun y hy => by
      rw [h3] at hy
      exact ((mem_allConf (by omega)).1 hy).1
    have hlen : (configurationsOfV x).1.length ≤ 4096 := by rw [h3]; exact h2
    generalize (configurationsOfV x).1 = l at *
    simp [h]
    refine ⟨_, _, DeleteFunc_spec false l (by omega) _ [.ip [.sl 1 a0 (ints x.below), .sl 1 a1 (ints x.clash), .sl 1 a2 (ints x.labels)]] (fun y => !isMaxC x y) (fun n hn => maxConf1_spec a0 a1 a2 x h1 n (hmem n hn)) rfl rfl, ?_⟩
    rw [e]
    simp
  · simp [h]
theorem l16Next_spec (a0 a1 a2 : Bool) (x : StrucV) (hs : isStructureV x = true) (c : Int) (hc : isM x.labels.length c = true) : ACalls1 Tryd.prog 114 [strucSl a0 a1 a2 x, iv c] (iv (orMask 0 (canAdd x c) x.labels.length)) := by
  obtain ⟨h1, h2, h3⟩ := struc_len hs
  obtain ⟨hM, hb⟩ := isM_spec (by omega) hc
  refine walk (fun t => t == 2) mixed Go.Proofs.Tryd.func114 rfl rfl rfl (by kernel_rfl) rfl (by simp) (by kernel_rfl) ?_
  simp
  refine awp_loop2 [1, 2] [] (fun k : Nat => [(6, iv k), (5, iv (orMask 0 (canAdd x c) k))]) (fun _ => []) (fun k => k ≤ x.labels.length) (fun k => x.labels.length - k) 0 (weak_mk some (by simp [orMask]) (by simp) rfl) (by simp) ?_
  intro k hk
  simp
  refine ⟨_, l16Size_spec _ _ _ x, ?_⟩
  by_cases hkl : k < x.labels.length
  · have hst : orMask 0 (canAdd x c) (k + 1) = if canAdd x c k then ibits .or .i64 (orMask 0 (canAdd x c) k) (pow1 k) else orMask 0 (canAdd x c) k := rfl
    generalize orMask 0 (canAdd x c) k = om at *
    unfold canAdd at hst
    simp [hkl]
    refine ⟨_, l01Bit_spec c hM k (by omega), ?_⟩
    cases ht : tb c k
    · by_cases hA : ibits .andNot .i64 (nth x.below k) c = 0
      · by_cases hB : ibits .and .i64 (nth x.clash k) c = 0
        · simp [hkl, h2, h3, hA, hB]
          refine ⟨_, l01One_spec k (by unfold I64; omega), ?_⟩
          simp [wrap_id ((k : Int) + 1) (by omega) (by omega)]
          exact Round.mk (k + 1) (weak_mk some (by unfold canAdd; simp [hst, ht, hA, hB]) (by simp) rfl) hkl (by omega)
        · simp [hkl, h2, h3, hA, hB, wrap_id ((k : Int) + 1) (by omega) (by omega)]
          exact Round.mk (k + 1) (weak_mk some (by unfold canAdd; simp [hst, ht, hA, hB]) (by simp) rfl) hkl (by omega)
      · simp [hkl, h2, h3, hA, wrap_id ((k : Int) + 1) (by omega) (by omega)]
        exact Round.mk (k + 1) (weak_mk some (by unfold canAdd; simp [hst, ht, hA]) (by simp) rfl) hkl (by omega)
    · simp [wrap_id ((k : Int) + 1) (by omega) (by omega)]
      exact Round.mk (k + 1) (weak_mk some (by unfold canAdd; simp [hst, ht]) (by simp) rfl) hkl (by omega)
  · obtain rfl : k = x.labels.length := by omega
    simp
theorem next_zero {x : StrucV} (hn : x.labels.length ≤ 16) (c : Int) : (orMask 0 (canAdd x c) x.labels.length = 0) ↔ isMaxC x c = true := by
  rw [eq_zero_iff (M_orMask _ M_zero _ (by omega))]
  unfold isMaxC addL
  rw [List.isEmpty_iff, List.filter_eq_nil_iff]
  constructor
  · intro h e he
    have := h e
    rw [tb_orMask _ M_zero _ _ (by omega)] at this
    simpa [List.mem_range.1 he] using this
  · intro h i
    rw [tb_orMask _ M_zero _ _ (by omega)]
    by_cases hi : i < x.labels.length
    · have := h i (List.mem_range.2 hi)
      simpa [hi] using this
    · simp [hi]
theorem specMaximalConfigurations_spec (a0 a1 a2 : Bool) (x : StrucV) (hx : StructureOk x) : ACalls1 Tryd.prog 53 [strucSl a0 a1 a2 x] (.tup [.own 1 false (ints (maximalConfigurationsV x).1), iv (maximalConfigurationsV x).2]) := by
  refine walk (fun t => t == 1) mixed Go.Proofs.Tryd.func53 rfl rfl rfl (by kernel_rfl) rfl (by simp) (by kernel_rfl) ?_
  simp
  refine ⟨_, specConfigurationsOf_spec _ _ _ x hx, ?_⟩
  unfold maximalConfigurationsV
  by_cases h : (configurationsOfV x).2 = 0
  · obtain ⟨h1, h2, h3⟩ := configurationsOf_zero h
    obtain ⟨g1, g2, g3⟩ := struc_len h1
    have hmem : ∀ y ∈ (configurationsOfV x).1, isM x.labels.length y = true := fun y hy => by
      rw [h3] at hy
      exact ((mem_allConf (by omega)).1 hy).1
    have hlen : (configurationsOfV x).1.length ≤ 4096 := by rw [h3]; exact h2
    generalize (configurationsOfV x).1 = l at *
    simp [h]
    refine awp_loop2 [1, 4] [11000] (fun k : Nat => [(7, iv k), (6, .ref 100)]) (fun k => [(100, .own 1 true (ints ((l.take k).filter (isMaxC x))))]) (fun k => k ≤ l.length) (fun k => l.length - k) 0 (weak_mk (fun t => if t = 100 then some 16 else some t) (by simp) (by simp) rfl) (by simp) ?_
    intro k hk
    have hfl := length_filter_take (isMaxC x) l k
    by_cases hkl : k < l.length
    · have hst := take_succ_filter (p := isMaxC x) hkl
      have hz := next_zero (x := x) (by omega) (nth l k)
      simp [hkl, show k + 1 ≤ l.length from hkl]
      repeat (rw [exE_eq]; simp [hkl, show k + 1 ≤ l.length from hkl])
      refine ⟨_, l16Next_spec _ _ _ x h1 (nth l k) (hmem _ (nth_mem hkl)), ?_⟩
      by_cases hd : orMask 0 (canAdd x (nth l k)) x.labels.length = 0
      · rw [hz.1 hd, if_pos rfl] at hst
        simp [hd, hkl, show k + 1 ≤ l.length from hkl, wrap_id ((k : Int) + 1) (by omega) (by omega)]
        repeat (refine And.intro (by omega) ?_)
        exact Round.mk (k + 1) (weak_mk (fun t => if t = 100 then some 36 else some t) (by simp) (by simp [hst]) rfl) hkl (by omega)
      · rw [if_neg (fun h => hd (hz.2 h))] at hst
        simp [hd, wrap_id ((k : Int) + 1) (by omega) (by omega)]
        exact Round.mk (k + 1) (weak_mk some (by simp) (by simp [hst]) rfl) hkl (by omega)
    · obtain rfl : k = l.length := by omega
      simp
  · simp [h]
theorem MaximalConfigurations_fits (x : StrucV) (hx : StructureOk x) : ListOk (maximalConfigurationsV x).1 := by
  obtain ⟨h1, h2⟩ := ConfigurationsOf_fits x hx
  unfold maximalConfigurationsV
  split
  · refine ⟨?_, fun y hy => h2 y (List.mem_filter.1 hy).1⟩
    have := List.length_filter_le (isMaxC x) (configurationsOfV x).1
    unfold Fits at h1
    show (List.filter (isMaxC x) (configurationsOfV x).1).length < 1099511627776
    omega
  · simp [ListOk, Fits]
end Go.AM
