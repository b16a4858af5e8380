/-
  How many members a mask has.
-/
import Derived.Test.YtnimmbjbinpajaaDoorFnMgA
import Derived.Test.YtnimmbjbinpajaaDoorFnNt
set_option linter.unusedVariables false
set_option linter.unusedSimpArgs false
set_option maxRecDepth 100000
namespace Go.AM
open Go.Proofs
theorem popc_card : ∀ (k n : Nat), n < 2 ^ k → popc n = ((List.range k).filter fun i => n.testBit i).length
  | 0, n, h => by
    have : n = 0 := by simpa using h
    subst this; simp [popc_zero]
  | k + 1, n, h => by
    have ih := popc_card k (n / 2) (by rw [Nat.pow_succ] at h; omega)
    rw [popc_step, ih, List.range_succ_eq_map, List.filter_cons, List.filter_map]
    have e : (fun i => n.testBit i) ∘ Nat.succ = fun i => (n / 2).testBit i := by
      funext i; simp only [Function.comp, Nat.succ_eq_add_one, Nat.testBit_succ]
    rw [e]
    have e0 : n.testBit 0 = decide (n % 2 = 1) := Nat.testBit_zero n
    by_cases h2 : n % 2 = 1
    · rw [if_pos (by rw [e0]; simpa using h2), List.length_cons, List.length_map]; omega
    · rw [if_neg (by rw [e0]; simpa using h2), List.length_map]; omega
end Go.AM
