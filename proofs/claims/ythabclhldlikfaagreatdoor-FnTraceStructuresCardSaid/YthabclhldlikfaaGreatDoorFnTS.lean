/-
  Contracts of the laws' helpers for Structure.
-/
import Derived.Test.YthabclhldlikfaaGreatDoorFnMgA
set_option linter.unusedVariables false
set_option linter.unusedSimpArgs false
set_option maxRecDepth 100000
set_option maxHeartbeats 1600000
namespace Go.AM
open Go.Proofs
/-- The data of a value of type Structure. -/
structure StrucV where
  below : List Int
  clash : List Int
  labels : List Int
@[reducible] def strucSl (a0 a1 a2 : Bool) (x : StrucV) : AV := .agg [.sl 1 a0 (ints x.below), .sl 1 a1 (ints x.clash), .sl 1 a2 (ints x.labels)]
@[reducible] def strucOw (a0 a1 a2 : Bool) (x : StrucV) : AV := .agg [.own 1 a0 (ints x.below), .own 1 a1 (ints x.clash), .own 1 a2 (ints x.labels)]
def StructureIn (x : StrucV) : Prop := Int64SIn x.below ∧ Int64SIn x.clash ∧ Int64SIn x.labels
def StructureOk (x : StrucV) : Prop := ListOk x.below ∧ ListOk x.clash ∧ ListOk x.labels
def szStructureJ (left : Int) (x : StrucV) : Int := if szI left x.below.length < 0 then -1 else if szI (szI left x.below.length) x.clash.length < 0 then -1 else if szI (szI (szI left x.below.length) x.clash.length) x.labels.length < 0 then -1 else szI (szI (szI left x.below.length) x.clash.length) x.labels.length
theorem szStructureL_le {x : StrucV} {left : Int} (h : StructureIn x) (h1 : left ≤ 1048576) (h2 : 0 ≤ szStructureJ left x) : StructureOk x ∧ szStructureJ left x ≤ 1048576 := by
  unfold szStructureJ at *
  have key : 0 ≤ szI left x.below.length ∧ 0 ≤ szI (szI left x.below.length) x.clash.length ∧ 0 ≤ szI (szI (szI left x.below.length) x.clash.length) x.labels.length ∧ 0 ≤ szI (szI (szI left x.below.length) x.clash.length) x.labels.length := by grind
  have e : ∀ (l : Int) (n : Nat), 0 ≤ szI l n → szI l n = l - n := by intro l n h; unfold szI at *; split <;> grind
  obtain ⟨k0, k1, k2, _⟩ := key
  have e0 := e _ _ k0
  have e1 := e _ _ k1
  have e2 := e _ _ k2
  refine ⟨⟨listOk_of h.1 (by omega), listOk_of h.2.1 (by omega), listOk_of h.2.2 (by omega)⟩, ?_⟩
  grind
theorem eqStructureL (a0 a1 a2 b0 b1 b2 : Bool) (x : StrucV) (h : StructureOk x) : ACalls1 Tryz.prog 15 [strucSl a0 a1 a2 x, strucSl b0 b1 b2 x] (bv true) := by
  refine walk (fun t => t == 2 || t == 3) mixed Go.Proofs.Tryz.func15 rfl rfl rfl (by kernel_rfl) rfl (by simp) (by kernel_rfl) ?_
  simp
  refine ⟨_, eqInt64SL a0 b0 x.below h.1, ?_⟩
  simp
  refine ⟨_, eqInt64SL a1 b1 x.clash h.2.1, ?_⟩
  simp
  refine ⟨_, eqInt64SL a2 b2 x.labels h.2.2, ?_⟩
  simp
def markedStructure (x : StrucV) (k : Int) : StrucV := ⟨upFrom k x.below.length, upFrom (k + x.below.length) x.clash.length, upFrom (k + x.below.length + x.clash.length) x.labels.length⟩
theorem markStructureL (a0 a1 a2 : Bool) (x : StrucV) (k : Int) (h : StructureOk x) (h0 : 0 ≤ k) (h1 : k ≤ 1000) : ACalls2 Tryz.prog 20 [strucOw a0 a1 a2 x, iv k] [strucOw a0 a1 a2 (markedStructure x k), iv k] (iv (k + x.below.length + x.clash.length + x.labels.length)) := by
  have f0 := h.1.1
  have g0 := f0
  unfold Fits at g0
  have f1 := h.2.1.1
  have g1 := f1
  unfold Fits at g1
  have f2 := h.2.2.1
  have g2 := f2
  unfold Fits at g2
  refine walkO (fun t => t == 2008 || t == 2012 || t == 2016) mixed Go.Proofs.Tryz.func20 rfl rfl rfl (by kernel_rfl) (by simp) (by simp) (by simp) (by kernel_rfl) ?_
  simp
  refine ⟨_, _, markInt64S_spec a0 x.below (k) f0 (by omega) (by omega), ?_⟩
  simp
  refine ⟨_, _, markInt64S_spec a1 x.clash (k + x.below.length) f1 (by omega) (by omega), ?_⟩
  simp
  refine ⟨_, _, markInt64S_spec a2 x.labels (k + x.below.length + x.clash.length) f2 (by omega) (by omega), ?_⟩
  simp [markedStructure]
theorem heldStructureL (a0 a1 a2 : Bool) (x : StrucV) (k : Int) (h : StructureOk x) (h0 : 0 ≤ k) (h1 : k ≤ 1000) : ACalls1 Tryz.prog 21 [strucSl a0 a1 a2 (markedStructure x k), iv k] (iv (k + x.below.length + x.clash.length + x.labels.length)) := by
  have f0 := h.1.1
  have g0 := f0
  unfold Fits at g0
  have f1 := h.2.1.1
  have g1 := f1
  unfold Fits at g1
  have f2 := h.2.2.1
  have g2 := f2
  unfold Fits at g2
  unfold markedStructure
  refine walk (fun t => t == 2) mixed Go.Proofs.Tryz.func21 rfl rfl rfl (by kernel_rfl) rfl (by simp) (by kernel_rfl) ?_
  simp
  refine ⟨_, heldInt64S_spec a0 x.below.length (k) g0 (by omega) (by omega), ?_⟩
  simp [show ¬ k + (x.below.length : Int) < 0 by omega]
  refine ⟨_, heldInt64S_spec a1 x.clash.length (k + x.below.length) g1 (by omega) (by omega), ?_⟩
  simp [show ¬ k + (x.below.length : Int) + x.clash.length < 0 by omega]
  refine ⟨_, heldInt64S_spec a2 x.labels.length (k + x.below.length + x.clash.length) g2 (by omega) (by omega), ?_⟩
  simp [show ¬ k + (x.below.length : Int) + x.clash.length + x.labels.length < 0 by omega]
end Go.AM
