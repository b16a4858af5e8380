/-
  slices.Equal on numbers.
-/
import Derived.Test.YthabclhldlikfaaGreatDoorFnMgA
set_option linter.unusedVariables false
set_option linter.unusedSimpArgs false
set_option maxRecDepth 100000
set_option maxHeartbeats 1600000
namespace Go.AM
open Go.Proofs
theorem Equal_spec (a b : Bool) (l m : List Int) (hl : Fits l) : ACalls1 Tryz.prog 82 [.sl 1 a (ints l), .sl 1 b (ints m)] (bv (l == m)) := by
  unfold Fits at hl
  refine walk (fun _ => false) mixed Go.Proofs.Tryz.func82 rfl rfl rfl (by kernel_rfl) rfl (by simp) (by kernel_rfl) ?_
  simp
  refine ⟨fun h e => h (by rw [e]), fun h => ?_⟩
  refine awp_loop2 [0, 1, 12] [] (fun k : Nat => [(13, iv k)]) (fun _ => []) (fun k => k ≤ l.length ∧ l.take k = m.take k) (fun k => l.length - k) 0 (weak_mk some (by simp) (by simp) rfl) (by simp) ?_
  rintro k ⟨hk, he⟩
  by_cases hlt : k < l.length
  · have hlt' : k < m.length := by omega
    simp [hlt, hlt', nth_at]
    refine ⟨fun hne e => by subst e; exact hne rfl, fun heq => ?_⟩
    simp [wrap_id ((k : Int) + 1) (by omega) (by omega)]
    exact Round.mk (k + 1) (weak_mk some (by simp) (by simp) rfl) ⟨hlt, by rw [List.take_succ_eq_append_getElem hlt, List.take_succ_eq_append_getElem hlt', he, heq]⟩ (by omega)
  · simp [hlt]
    rw [List.take_of_length_le (by omega), List.take_of_length_le (by omega)] at he
    exact he
end Go.AM
