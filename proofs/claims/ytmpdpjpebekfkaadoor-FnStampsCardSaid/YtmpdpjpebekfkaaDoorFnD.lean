/-
  Contracts: copies, nets turned round, marks on nets.
-/
import Derived.Test.YtmpdpjpebekfkaaDoorFnB
import Derived.Test.YtmpdpjpebekfkaaDoorFnC
set_option linter.unusedVariables false
set_option linter.unusedSimpArgs false
set_option maxRecDepth 100000
set_option maxHeartbeats 1600000
namespace Go.AM
open Go.Proofs
theorem l01Own_spec (nn : Bool) (l : List Int) (hl : Fits l) : ACalls1 Tryd.prog 112 [.sl 1 nn (ints l)] (.own 1 true (ints l)) := by
  unfold Fits at hl
  refine walk (fun _ => false) mixed Go.Proofs.Tryd.func112 rfl rfl rfl (by kernel_rfl) rfl (by simp) (by kernel_rfl) ?_
  simp
  omega
theorem Clone_spec (nn : Bool) (l : List Int) (hl : Fits l) : ACalls1 Tryd.prog 118 [.sl 1 nn (ints l)] (.own 1 false (ints l)) := by
  unfold Fits at hl
  refine walk (fun _ => false) mixed Go.Proofs.Tryd.func118 rfl rfl rfl (by kernel_rfl) rfl (by simp) (by kernel_rfl) ?_
  simp
  refine ⟨fun _ h => ?_, by omega, by omega⟩
  have : l = [] := by simpa [ints] using h
  subst this; simp
/-- The net with all arcs turned round, and the code. -/
def revNet (x : NetV) : NetV × Int := if isNet x.p x.pre x.post x.s then (⟨x.p, x.post, x.pre, x.s⟩, 0) else (⟨0, [], [], 0⟩, 1)
end Go.AM
