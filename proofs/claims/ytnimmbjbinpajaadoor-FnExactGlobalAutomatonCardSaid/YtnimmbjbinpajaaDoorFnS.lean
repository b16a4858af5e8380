/-
  Contracts: relations, event structures.
-/
import Derived.Test.YtnimmbjbinpajaaDoorFnTS
import Derived.Test.YtnimmbjbinpajaaDoorFnMgA
import Derived.Test.YtnimmbjbinpajaaDoorFnEq
set_option linter.unusedVariables false
set_option linter.unusedSimpArgs false
set_option maxRecDepth 100000
set_option maxHeartbeats 1600000
namespace Go.AM
open Go.Proofs
/-- A mask of the first `n` places. -/
def isM (n : Nat) (y : Int) : Bool := decide (0 ≤ y) && decide (y ≤ full n)
def isRel (r : List Int) : Bool := decide ((r.length : Int) ≤ 24) && r.all (isM r.length)
theorem isM_spec {n : Nat} (hn : n < 63) {y : Int} (h : isM n y = true) : M y ∧ ∀ i, n ≤ i → tb y i = false := by
  unfold isM at h
  simp only [Bool.and_eq_true, decide_eq_true_eq] at h
  exact ⟨full_M hn h.1 h.2, fun i hi => tb_of_le hn h.1 h.2 hi⟩
theorem isM_of {n : Nat} (hn : n < 63) {y : Int} (h : M y) (hb : ∀ i, n ≤ i → tb y i = false) : isM n y = true := by
  unfold isM
  simp only [Bool.and_eq_true, decide_eq_true_eq]
  exact ⟨h.1, le_full hn h hb⟩
theorem isRel_spec {r : List Int} (h : isRel r = true) : r.length ≤ 24 ∧ ∀ i, i < r.length → isM r.length (nth r i) = true := by
  unfold isRel at h
  simp only [Bool.and_eq_true, decide_eq_true_eq, List.all_eq_true] at h
  exact ⟨by omega, fun i hi => h.2 _ (nth_mem hi)⟩
/-- The converse of a relation. -/
def conv (r : List Int) : List Int := (List.range r.length).map fun k => orMask 0 (fun i => tb (nth r i) k) r.length
theorem conv_length (r : List Int) : (conv r).length = r.length := by simp [conv]
theorem conv_nth {r : List Int} {k : Nat} (h : k < r.length) : nth (conv r) k = orMask 0 (fun i => tb (nth r i) k) r.length := by
  rw [nth_at (by rw [conv_length]; exact h)]; simp [conv]
theorem list_ext {l m : List Int} (hl : l.length = m.length) (h : ∀ i, i < l.length → nth l i = nth m i) : l = m := by
  apply List.ext_getElem hl
  intro i h1 h2
  have := h i h1
  rwa [nth_at h1, nth_at h2] at this
theorem nth_set {l : List Int} {k : Nat} (x : Int) (hk : k < l.length) (i : Nat) (hi : i < l.length) : nth (l.set k x) i = if i = k then x else nth l i := by
  rw [nth_at (by simpa using hi), nth_at hi, List.getElem_set]
  by_cases h : i = k
  · subst h; simp
  · rw [if_neg (fun e => h e.symm), if_neg h]
end Go.AM
