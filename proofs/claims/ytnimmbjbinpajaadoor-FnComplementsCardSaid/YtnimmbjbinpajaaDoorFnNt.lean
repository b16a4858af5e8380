/-
  Numbers as words.
-/
import Derived.Test.YtnimmbjbinpajaaDoorFnMgA
set_option linter.unusedVariables false
set_option linter.unusedSimpArgs false
namespace Go.AM
/-- Numbers as words. -/
def nats (L : List Nat) : List Int := L.map fun (e : Nat) => (e : Int)
@[simp] theorem nats_length (L : List Nat) : (nats L).length = L.length := by simp [nats]
def natAt (L : List Nat) (k : Nat) : Nat := L.getD k 0
theorem natAt_at {L : List Nat} {k : Nat} (h : k < L.length) : natAt L k = L[k] := by simp [natAt, h]
theorem natAt_mem {L : List Nat} {k : Nat} (h : k < L.length) : natAt L k ∈ L := by rw [natAt_at h]; exact List.getElem_mem h
theorem nats_nth {L : List Nat} {k : Nat} (h : k < L.length) : nth (nats L) k = (natAt L k : Nat) := by
  rw [nth_at (by simpa using h), natAt_at h]; simp [nats]
end Go.AM
