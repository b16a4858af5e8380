/-
  Contracts of the laws' helpers for Structure.
-/
import Derived.Test.YtnimmbjbinpajaaDoorFnMgA
set_option linter.unusedVariables false
set_option linter.unusedSimpArgs false
set_option maxRecDepth 100000
set_option maxHeartbeats 1600000
namespace Go.AM
open Go.Proofs
/-- The data of a value of type Structure. -/
structure StrucV where
  below : List Int
  clash : List Int
  labels : List Int
@[reducible] def strucSl (a0 a1 a2 : Bool) (x : StrucV) : AV := .agg [.sl 1 a0 (ints x.below), .sl 1 a1 (ints x.clash), .sl 1 a2 (ints x.labels)]
@[reducible] def strucOw (a0 a1 a2 : Bool) (x : StrucV) : AV := .agg [.own 1 a0 (ints x.below), .own 1 a1 (ints x.clash), .own 1 a2 (ints x.labels)]
def StructureIn (x : StrucV) : Prop := Int64SIn x.below ∧ Int64SIn x.clash ∧ Int64SIn x.labels
def StructureOk (x : StrucV) : Prop := ListOk x.below ∧ ListOk x.clash ∧ ListOk x.labels
def szStructureJ (left : Int) (x : StrucV) : Int := if szI left x.below.length < 0 then -1 else if szI (szI left x.below.length) x.clash.length < 0 then -1 else if szI (szI (szI left x.below.length) x.clash.length) x.labels.length < 0 then -1 else szI (szI (szI left x.below.length) x.clash.length) x.labels.length
theorem szStructureL_le {x : StrucV} {left : Int} (h : StructureIn x) (h1 : left ≤ 1048576) (h2 : 0 ≤ szStructureJ left x) : StructureOk x ∧ szStructureJ left x ≤ 1048576 := by
  unfold szStructureJ at *
  have key : 0 ≤ szI left x.below.length ∧ 0 ≤ szI (szI left x.below.length) x.clash.length ∧ 0 ≤ szI (szI (szI left x.below.length) x.clash.length) x.labels.length ∧ 0 ≤ szI (szI (szI left x.below.length) x.clash.length) x.labels.length := by grind
  have e : ∀ (l : Int) (n : Nat), 0 ≤ szI l n → szI l n = l - n := by intro l n h; unfold szI at *; split <;> grind
  obtain ⟨k0, k1, k2, _⟩ := key
  have e0 := e _ _ k0
  have e1 := e _ _ k1
  have e2 := e _ _ k2
  refine ⟨⟨listOk_of h.1 (by omega), listOk_of h.2.1 (by omega), listOk_of h.2.2 (by omega)⟩, ?_⟩
  grind
end Go.AM
