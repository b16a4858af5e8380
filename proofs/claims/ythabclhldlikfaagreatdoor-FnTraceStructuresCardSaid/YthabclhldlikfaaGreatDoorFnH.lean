/-
  Contracts: alphabets of nets.
-/
import Derived.Test.YthabclhldlikfaaGreatDoorFnMgA
import Derived.Test.YthabclhldlikfaaGreatDoorFnTA
set_option linter.unusedVariables false
set_option linter.unusedSimpArgs false
set_option maxRecDepth 100000
set_option maxHeartbeats 1600000
namespace Go.AM
open Go.Proofs
/-- The masks of the first numbers. -/
def pows (n : Nat) : List Int := (List.range n).map fun (k : Nat) => pow1 k
theorem pows_succ (n : Nat) : pows (n + 1) = pows n ++ [pow1 n] := by simp [pows, List.range_succ]
@[simp] theorem pows_length (n : Nat) : (pows n).length = n := by simp [pows]
/-- Whether two transitions share places. -/
def touch (x : NetV) (a b : Nat) : Bool := ibits .and .i64 (ibits .or .i64 (nth x.pre a) (nth x.post a)) (ibits .or .i64 (nth x.pre b) (nth x.post b)) != 0
/-- The alphabet of a net. -/
def alphaOf (x : NetV) : AlphaV := ⟨x.pre.length, (List.range x.pre.length).map fun a => orMask 0 (fun b => a == b || touch x a b) x.pre.length⟩
/-- The alphabet of a net, and the code. -/
def alphabetOfNetV (x : NetV) : AlphaV × Int := if isNet x.p x.pre x.post x.s then (alphaOf x, 0) else (⟨0, []⟩, 1)
theorem AlphabetOfNet_fits (x : NetV) (hx : NetOk x) : AlphabetOk (alphabetOfNetV x).1 := by
  unfold alphabetOfNetV
  split
  · rename_i h
    have hl := isNet_len h
    refine ⟨by simp [alphaOf, I64]; omega, by simp [alphaOf, Fits]; omega, ?_⟩
    intro i hi
    simp only [alphaOf, List.mem_map, List.mem_range] at hi
    obtain ⟨a, ha, rfl⟩ := hi
    have := M_orMask (fun b => a == b || touch x a b) M_zero x.pre.length (by omega)
    unfold M at this; unfold I64; omega
  · simp [AlphabetOk, I64, ListOk, Fits]
end Go.AM
