/-
  Contracts: configurations of event structures.
-/
import Derived.Test.YthabclhldlikfaaDoorFnV
import Derived.Test.YthabclhldlikfaaDoorFnM
set_option linter.unusedVariables false
set_option linter.unusedSimpArgs false
set_option maxRecDepth 100000
set_option maxHeartbeats 1600000
namespace Go.AM
open Go.Proofs
/-- What a configuration asks of one of its events. -/
def cfgOk (x : StrucV) (c : Int) (e : Nat) : Bool := (ibits .andNot .i64 (nth x.below e) c == 0) && (ibits .and .i64 (nth x.clash e) c == 0)
def isConf (x : StrucV) (c : Int) : Bool := (List.range x.labels.length).all fun e => !tb c e || cfgOk x c e
theorem isConf_iff {x : StrucV} {c : Int} : isConf x c = true ↔ ∀ e, e < x.labels.length → tb c e = true → cfgOk x c e = true := by
  unfold isConf
  simp only [List.all_eq_true, List.mem_range, Bool.or_eq_true, Bool.not_eq_true']
  constructor
  · intro h e he ht
    rcases h e he with h1 | h1
    · rw [ht] at h1; cases h1
    · exact h1
  · intro h e he
    cases ht : tb c e
    · exact .inl rfl
    · exact .inr (h e he ht)
theorem isConf_no {x : StrucV} {c : Int} (e : Nat) (he : e < x.labels.length) (ht : tb c e = true) (h : cfgOk x c e = false) : isConf x c = false := by
  rw [← Bool.not_eq_true, isConf_iff]
  intro hh; rw [hh e he ht] at h; cases h
def setCode (x : StrucV) (c : Int) : Int := if isStructureV x then (if isM x.labels.length c then 0 else 2) else 1
def maskCode (x : StrucV) (c : Int) : Int := if setCode x c = 0 then (if isConf x c then 0 else 5) else setCode x c
theorem setCode_zero {x : StrucV} {c : Int} (h : setCode x c = 0) : isStructureV x = true ∧ isM x.labels.length c = true := by
  unfold setCode at h; grind
theorem setCode_cases {x : StrucV} {c : Int} (h : setCode x c ≠ 0) : setCode x c = 1 ∨ setCode x c = 2 := by
  unfold setCode at h ⊢; grind
theorem maskCode_zero {x : StrucV} {c : Int} (h : maskCode x c = 0) : isStructureV x = true ∧ isM x.labels.length c = true ∧ isConf x c = true ∧ setCode x c = 0 := by
  unfold maskCode at h
  split at h
  · rename_i h1
    obtain ⟨a, b⟩ := setCode_zero h1
    refine ⟨a, b, ?_, h1⟩
    grind
  · exact absurd h (by assumption)
theorem isMaskB_isM {n : Nat} (hn : n ≤ 24) (c : Int) : isMaskB c n = isM n c := by
  unfold isMaskB isM
  rw [show (decide (0 ≤ (n : Int)) && decide ((n : Int) ≤ 24)) = true by simp; omega]
  simp
def isConfigurationV (x : StrucV) (c : Int) : Bool × Int := if setCode x c = 0 then (isConf x c, 0) else (false, setCode x c)
end Go.AM
