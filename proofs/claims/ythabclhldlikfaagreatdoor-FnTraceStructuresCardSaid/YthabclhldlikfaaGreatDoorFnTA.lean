/-
  Contracts of the laws' helpers for Alphabet.
-/
import Derived.Test.YthabclhldlikfaaGreatDoorFnMgA
set_option linter.unusedVariables false
set_option linter.unusedSimpArgs false
set_option maxRecDepth 100000
set_option maxHeartbeats 1600000
namespace Go.AM
open Go.Proofs
/-- The data of a value of type Alphabet. -/
structure AlphaV where
  letters : Int
  depends : List Int
@[reducible] def alphaSl (a0 : Bool) (x : AlphaV) : AV := .agg [iv x.letters, .sl 1 a0 (ints x.depends)]
@[reducible] def alphaOw (a0 : Bool) (x : AlphaV) : AV := .agg [iv x.letters, .own 1 a0 (ints x.depends)]
def AlphabetIn (x : AlphaV) : Prop := I64 x.letters ∧ Int64SIn x.depends
def AlphabetOk (x : AlphaV) : Prop := I64 x.letters ∧ ListOk x.depends
def szAlphabetJ (left : Int) (x : AlphaV) : Int := if szI left x.depends.length < 0 then -1 else szI left x.depends.length
theorem szAlphabetL (a0 : Bool) (x : AlphaV) (left : Int) (h : AlphabetIn x) (h0 : 0 ≤ left) (h1 : left ≤ 1048576) : ACalls1 Tryz.prog 9 [alphaSl a0 x, iv left] (iv (szAlphabetJ left x)) := by
  refine walk (fun t => t == 2) mixed Go.Proofs.Tryz.func9 rfl rfl rfl (by kernel_rfl) rfl (by simp) (by kernel_rfl) ?_
  simp
  unfold szAlphabetJ
  have b0 : szI left x.depends.length ≤ 1048576 := by unfold szI; split <;> omega
  refine ⟨_, szInt64S_spec a0 x.depends _ h.2.1 (by omega) (by omega), ?_⟩
  simp
  grind
theorem szAlphabetL_le {x : AlphaV} {left : Int} (h : AlphabetIn x) (h1 : left ≤ 1048576) (h2 : 0 ≤ szAlphabetJ left x) : AlphabetOk x ∧ szAlphabetJ left x ≤ 1048576 := by
  unfold szAlphabetJ at *
  have key : 0 ≤ szI left x.depends.length ∧ 0 ≤ szI left x.depends.length := by grind
  have e : ∀ (l : Int) (n : Nat), 0 ≤ szI l n → szI l n = l - n := by intro l n h; unfold szI at *; split <;> grind
  obtain ⟨k0, _⟩ := key
  have e0 := e _ _ k0
  refine ⟨⟨h.1, listOk_of h.2 (by omega)⟩, ?_⟩
  grind
theorem toAlphabetL (a0 : Bool) (x : AlphaV) (h : AlphabetOk x) : ACalls1 Tryz.prog 12 [alphaSl a0 x] (alphaOw true x) := by
  refine walk (fun t => t == 1) mixed Go.Proofs.Tryz.func12 rfl rfl rfl (by kernel_rfl) rfl (by simp) (by kernel_rfl) ?_
  simp
  refine ⟨_, toInt64S_spec a0 x.depends h.2.1, ?_⟩
  simp
theorem eqAlphabetL (a0 b0 : Bool) (x : AlphaV) (h : AlphabetOk x) : ACalls1 Tryz.prog 16 [alphaSl a0 x, alphaSl b0 x] (bv true) := by
  refine walk (fun t => t == 2 || t == 3) mixed Go.Proofs.Tryz.func16 rfl rfl rfl (by kernel_rfl) rfl (by simp) (by kernel_rfl) ?_
  simp
  refine ⟨_, eqInt64SL a0 b0 x.depends h.2, ?_⟩
  simp
def markedAlphabet (x : AlphaV) (k : Int) : AlphaV := ⟨x.letters, upFrom k x.depends.length⟩
theorem markAlphabetL (a0 : Bool) (x : AlphaV) (k : Int) (h : AlphabetOk x) (h0 : 0 ≤ k) (h1 : k ≤ 1000) : ACalls2 Tryz.prog 18 [alphaOw a0 x, iv k] [alphaOw a0 (markedAlphabet x k), iv k] (iv (k + x.depends.length)) := by
  have f0 := h.2.1
  have g0 := f0
  unfold Fits at g0
  refine walkO (fun t => t == 2008) mixed Go.Proofs.Tryz.func18 rfl rfl rfl (by kernel_rfl) (by simp) (by simp) (by simp) (by kernel_rfl) ?_
  simp
  refine ⟨_, _, markInt64S_spec a0 x.depends (k) f0 (by omega) (by omega), ?_⟩
  simp [markedAlphabet]
end Go.AM
