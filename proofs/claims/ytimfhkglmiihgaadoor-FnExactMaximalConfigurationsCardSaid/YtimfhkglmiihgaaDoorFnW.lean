/-
  Contracts: configurations of event structures.
-/
import Derived.Test.YtimfhkglmiihgaaDoorFnV
import Derived.Test.YtimfhkglmiihgaaDoorFnM
set_option linter.unusedVariables false
set_option linter.unusedSimpArgs false
set_option maxRecDepth 100000
set_option maxHeartbeats 1600000
namespace Go.AM
open Go.Proofs
/-- What a configuration asks of one of its events. -/
def cfgOk (x : StrucV) (c : Int) (e : Nat) : Bool := (ibits .andNot .i64 (nth x.below e) c == 0) && (ibits .and .i64 (nth x.clash e) c == 0)
def isConf (x : StrucV) (c : Int) : Bool := (List.range x.labels.length).all fun e => !tb c e || cfgOk x c e
theorem isConf_iff {x : StrucV} {c : Int} : isConf x c = true ↔ ∀ e, e < x.labels.length → tb c e = true → cfgOk x c e = true := by
  unfold isConf
  simp only [List.all_eq_true, List.mem_range, Bool.or_eq_true, Bool.not_eq_true']
  constructor
  · intro h e he ht
    rcases h e he with h1 | h1
    · rw [ht] at h1; cases h1
    · exact h1
  · intro h e he
    cases ht : tb c e
    · exact .inl rfl
    · exact .inr (h e he ht)
theorem isConf_no {x : StrucV} {c : Int} (e : Nat) (he : e < x.labels.length) (ht : tb c e = true) (h : cfgOk x c e = false) : isConf x c = false := by
  rw [← Bool.not_eq_true, isConf_iff]
  intro hh; rw [hh e he ht] at h; cases h
def setCode (x : StrucV) (c : Int) : Int := if isStructureV x then (if isM x.labels.length c then 0 else 2) else 1
def maskCode (x : StrucV) (c : Int) : Int := if setCode x c = 0 then (if isConf x c then 0 else 5) else setCode x c
theorem setCode_zero {x : StrucV} {c : Int} (h : setCode x c = 0) : isStructureV x = true ∧ isM x.labels.length c = true := by
  unfold setCode at h; grind
theorem setCode_cases {x : StrucV} {c : Int} (h : setCode x c ≠ 0) : setCode x c = 1 ∨ setCode x c = 2 := by
  unfold setCode at h ⊢; grind
theorem maskCode_zero {x : StrucV} {c : Int} (h : maskCode x c = 0) : isStructureV x = true ∧ isM x.labels.length c = true ∧ isConf x c = true ∧ setCode x c = 0 := by
  unfold maskCode at h
  split at h
  · rename_i h1
    obtain ⟨a, b⟩ := setCode_zero h1
    refine ⟨a, b, ?_, h1⟩
    grind
  · exact absurd h (by assumption)
theorem isMaskB_isM {n : Nat} (hn : n ≤ 24) (c : Int) : isMaskB c n = isM n c := by
  unfold isMaskB isM
  rw [show (decide (0 ≤ (n : Int)) && decide ((n : Int) ≤ 24)) = true by simp; omega]
  simp
def isConfigurationV (x : StrucV) (c : Int) : Bool × Int := if setCode x c = 0 then (isConf x c, 0) else (false, setCode x c)
theorem isConfiguration_spec (a0 a1 a2 : Bool) (x : StrucV) (hs : isStructureV x = true) (c : Int) (hc : isM x.labels.length c = true) : ACalls1 Tryd.prog 85 [strucSl a0 a1 a2 x, iv c] (bv (isConf x c)) := by
  obtain ⟨h1, h2, h3⟩ := struc_len hs
  obtain ⟨hM, hb⟩ := isM_spec (by omega) hc
  refine walk (fun t => t == 2) mixed Go.Proofs.Tryd.func85 rfl rfl rfl (by kernel_rfl) rfl (by simp) (by kernel_rfl) ?_
  simp
  refine ⟨_, members_spec c hM, ?_⟩
  have hbl := bitsOf_length c
  have hmem : ∀ j, j < (bitsOf c).length → ∃ k : Nat, nth (bitsOf c) j = k ∧ k < x.labels.length ∧ tb c k = true := fun j hj => by
    obtain ⟨k, e, _, ht⟩ := bits_nth hj
    refine ⟨k, e, Nat.lt_of_not_le fun hle => ?_, ht⟩
    rw [hb k hle] at ht; cases ht
  have hall : (∀ j, j < (bitsOf c).length → cfgOk x c (nth (bitsOf c) j).toNat = true) → isConf x c = true := fun h => isConf_iff.2 fun e he ht => (bits_all (p := fun e => cfgOk x c e = true)).1 h e (by omega) ht
  generalize bitsOf c = bs at *
  simp
  refine awp_loop2 [1, 2, 8, 9] [8] (fun j : Nat => [(10, iv j)]) (fun _ => []) (fun j => j ≤ bs.length ∧ ∀ i, i < j → cfgOk x c (nth bs i).toNat = true) (fun j => bs.length - j) 0 (weak_mk some (by simp) (by simp) rfl) (by simp) ?_
  rintro j ⟨hj, hi⟩
  by_cases hlt : j < bs.length
  · obtain ⟨k, hk, hkn, ht⟩ := hmem j hlt
    have hkb : k < x.below.length := by omega
    have hkc : k < x.clash.length := by omega
    have no : cfgOk x c k = false → isConf x c = false := isConf_no k hkn ht
    unfold cfgOk at no
    by_cases hA : ibits .andNot .i64 (nth x.below k) c = 0
    · by_cases hB : ibits .and .i64 (nth x.clash k) c = 0
      · simp [hlt, hk, hkb, hkc, show j + 1 ≤ bs.length from hlt, hA, hB, wrap_id ((j : Int) + 1) (by omega) (by omega)]
        refine Round.mk (j + 1) (weak_mk some (by simp) (by simp) rfl) ⟨hlt, fun i hi' => ?_⟩ (by omega)
        by_cases e : i = j
        · subst e; rw [hk]; simp [cfgOk, hA, hB]
        · exact hi i (by omega)
      · simp [hlt, hk, hkb, hkc, show j + 1 ≤ bs.length from hlt, hA, hB]
        exact no (by simp [hB])
    · simp [hlt, hk, hkb, hkc, show j + 1 ≤ bs.length from hlt, hA]
      exact no (by simp [hA])
  · obtain rfl : j = bs.length := by omega
    simp
    exact hall hi
theorem l16Configuration_spec (a0 a1 a2 : Bool) (x : StrucV) (hs : isStructureV x = true) (c : Int) (hc : isM x.labels.length c = true) : ACalls1 Tryd.prog 141 [strucSl a0 a1 a2 x, iv c] (bv (isConf x c)) := by
  obtain ⟨h1, h2, h3⟩ := struc_len hs
  obtain ⟨hM, hb⟩ := isM_spec (by omega) hc
  refine walk (fun t => t == 2) mixed Go.Proofs.Tryd.func141 rfl rfl rfl (by kernel_rfl) rfl (by simp) (by kernel_rfl) ?_
  simp
  refine awp_loop2 [1, 2] [] (fun k : Nat => [(5, iv k)]) (fun _ => []) (fun k => k ≤ x.labels.length ∧ ∀ e, e < k → tb c e = true → cfgOk x c e = true) (fun k => x.labels.length - k) 0 (weak_mk some (by simp) (by simp) rfl) (by simp) ?_
  rintro k ⟨hk, hi⟩
  simp
  refine ⟨_, l16Size_spec _ _ _ x, ?_⟩
  by_cases hlt : k < x.labels.length
  · have hkb : k < x.below.length := by omega
    have hkc : k < x.clash.length := by omega
    have go : (tb c k = true → cfgOk x c k = true) → ∀ e, e < k + 1 → tb c e = true → cfgOk x c e = true := fun h e he ht => by
      by_cases e1 : e = k
      · subst e1; exact h ht
      · exact hi e (by omega) ht
    simp [hlt]
    refine ⟨_, l01Bit_spec c hM k (by omega), ?_⟩
    cases ht : tb c k
    · simp [wrap_id ((k : Int) + 1) (by omega) (by omega)]
      exact Round.mk (k + 1) (weak_mk some (by simp) (by simp) rfl) ⟨hlt, go (by simp [ht])⟩ (by omega)
    · have no : cfgOk x c k = false → isConf x c = false := isConf_no k hlt ht
      unfold cfgOk at no
      by_cases hA : ibits .andNot .i64 (nth x.below k) c = 0
      · by_cases hB : ibits .and .i64 (nth x.clash k) c = 0
        · simp [hlt, hkb, hkc, hA, hB, wrap_id ((k : Int) + 1) (by omega) (by omega)]
          exact Round.mk (k + 1) (weak_mk some (by simp) (by simp) rfl) ⟨hlt, go (by simp [cfgOk, hA, hB])⟩ (by omega)
        · simp [hlt, hkb, hkc, hA, hB]
          exact no (by simp [hB])
      · simp [hlt, hkb, hkc, hA]
        exact no (by simp [hA])
  · obtain rfl : k = x.labels.length := by omega
    simp
    exact isConf_iff.2 hi
theorem l16Mask_spec (a0 a1 a2 : Bool) (x : StrucV) (hx : StructureOk x) (c : Int) : ACalls1 Tryd.prog 77 [strucSl a0 a1 a2 x, iv c] (iv (maskCode x c)) := by
  refine walk (fun t => t == 2) mixed Go.Proofs.Tryd.func77 rfl rfl rfl (by kernel_rfl) rfl (by simp) (by kernel_rfl) ?_
  simp
  refine ⟨_, l16Is_spec _ _ _ x, ?_⟩
  cases h : isStructureV x
  · have e : setCode x c = 1 := by simp [setCode, h]
    simp [maskCode, e]
  · obtain ⟨h1, h2, h3⟩ := struc_len h
    simp
    refine ⟨_, l16Size_spec _ _ _ x, ?_⟩
    simp
    refine ⟨_, l01Full_spec _ (by unfold I64; omega), ?_⟩
    simp
    refine ⟨_, l01In_spec _ _ _, ?_⟩
    cases hb : (decide (0 ≤ c) && decide (c ≤ full x.labels.length))
    · have hb' : isM x.labels.length c = false := hb
      have e : setCode x c = 2 := by simp [setCode, h, hb']
      simp [maskCode, e]
    · have hb' : isM x.labels.length c = true := hb
      have e : setCode x c = 0 := by simp [setCode, h, hb']
      simp
      refine ⟨_, l16Configuration_spec _ _ _ x h c hb', ?_⟩
      cases hc : isConf x c <;> simp [maskCode, e, hc]
end Go.AM
