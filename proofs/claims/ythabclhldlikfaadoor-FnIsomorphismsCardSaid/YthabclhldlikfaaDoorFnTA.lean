/-
  Contracts of the laws' helpers for Alphabet.
-/
import Derived.Test.YthabclhldlikfaaDoorFnMgA
set_option linter.unusedVariables false
set_option linter.unusedSimpArgs false
set_option maxRecDepth 100000
set_option maxHeartbeats 1600000
namespace Go.AM
open Go.Proofs
/-- The data of a value of type Alphabet. -/
structure AlphaV where
  letters : Int
  depends : List Int
@[reducible] def alphaSl (a0 : Bool) (x : AlphaV) : AV := .agg [iv x.letters, .sl 1 a0 (ints x.depends)]
@[reducible] def alphaOw (a0 : Bool) (x : AlphaV) : AV := .agg [iv x.letters, .own 1 a0 (ints x.depends)]
def AlphabetIn (x : AlphaV) : Prop := I64 x.letters ∧ Int64SIn x.depends
def AlphabetOk (x : AlphaV) : Prop := I64 x.letters ∧ ListOk x.depends
def szAlphabetJ (left : Int) (x : AlphaV) : Int := if szI left x.depends.length < 0 then -1 else szI left x.depends.length
theorem szAlphabetL_le {x : AlphaV} {left : Int} (h : AlphabetIn x) (h1 : left ≤ 1048576) (h2 : 0 ≤ szAlphabetJ left x) : AlphabetOk x ∧ szAlphabetJ left x ≤ 1048576 := by
  unfold szAlphabetJ at *
  have key : 0 ≤ szI left x.depends.length ∧ 0 ≤ szI left x.depends.length := by grind
  have e : ∀ (l : Int) (n : Nat), 0 ≤ szI l n → szI l n = l - n := by intro l n h; unfold szI at *; split <;> grind
  obtain ⟨k0, _⟩ := key
  have e0 := e _ _ k0
  refine ⟨⟨h.1, listOk_of h.2 (by omega)⟩, ?_⟩
  grind
end Go.AM
