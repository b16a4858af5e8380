/-
  Contracts: the smallest word of a configuration, in the other text; WordOfConfiguration.
-/
import Derived.Test.YthabclhldlikfaaDoorFnX
set_option linter.unusedVariables false
set_option linter.unusedSimpArgs false
set_option maxRecDepth 100000
set_option maxHeartbeats 1600000
namespace Go.AM
open Go.Proofs
theorem range_filter_succ (p : Nat → Bool) (k : Nat) : (List.range (k + 1)).filter p = if p k then (List.range k).filter p ++ [k] else (List.range k).filter p := by
  rw [List.range_succ, List.filter_append]
  by_cases hp : p k = true <;> simp [hp]
theorem l01Has_nil (nn : Bool) (n : Int) : ACalls1 Tryd.prog 56 [.sl 1 nn [], iv n] (bv false) := by
  have := (l01Has_spec nn [] (by simp [Fits]) n)
  simpa using this
def wordOfConfigurationV (x : StrucV) (c : Int) : List Int × Int := if maskCode x c = 0 then (wordC x c, 0) else ([], maskCode x c)
theorem wordC_length (x : StrucV) (c : Int) : (wordC x c).length ≤ c.toNat := by
  unfold wordC; rw [wordS_length]; exact popc_le _
theorem stepC_lab {x : StrucV} {s : Int} {st : Int × List Int} {e : Nat} (h0 : ∀ y ∈ x.labels, 0 ≤ y ∧ y ≤ 7) (he : e < x.labels.length) (h : 0 ≤ st.1 ∧ st.1 ≤ 8) : 0 ≤ (stepC x s st e).1 ∧ (stepC x s st e).1 ≤ 8 := by
  have := h0 _ (nth_mem he)
  unfold stepC
  split
  · simp only; omega
  · split
    · split <;> exact h
    · exact h
theorem foldC_lab {x : StrucV} {s : Int} (h0 : ∀ y ∈ x.labels, 0 ≤ y ∧ y ≤ 7) : ∀ (l : List Nat) {st : Int × List Int}, (∀ e ∈ l, e < x.labels.length) → (0 ≤ st.1 ∧ st.1 ≤ 8) → 0 ≤ (l.foldl (stepC x s) st).1 ∧ (l.foldl (stepC x s) st).1 ≤ 8
  | [], st, _, h => h
  | e :: l, st, hl, h => foldC_lab h0 l (fun f hf => hl f (by simp [hf])) (stepC_lab h0 (hl e (by simp)) h)
theorem scans_lab {x : StrucV} {c : Int} (h0 : ∀ y ∈ x.labels, 0 ≤ y ∧ y ≤ 7) : ∀ (l : List Int) {st : Int × List Int}, (0 ≤ st.1 ∧ st.1 ≤ 8) → 0 ≤ (l.foldl (scanC x c) st).1 ∧ (l.foldl (scanC x c) st).1 ≤ 8
  | [], st, h => h
  | s :: l, st, h => scans_lab h0 l (foldC_lab h0 _ (fun e he => (candL_mem he).1) h)
theorem wordS_lab {x : StrucV} {c : Int} (h0 : ∀ y ∈ x.labels, 0 ≤ y ∧ y ≤ 7) : ∀ k, ∀ y ∈ (wordS x c k).1, 0 ≤ y ∧ y ≤ 8
  | 0, y, hy => by simp [wordS] at hy
  | k + 1, y, hy => by
    simp only [wordS, List.mem_append, List.mem_singleton] at hy
    rcases hy with hy | rfl
    · exact wordS_lab h0 k y hy
    · exact scans_lab h0 _ (by simp)
theorem struc_lab {x : StrucV} (hs : isStructureV x = true) : ∀ y ∈ x.labels, 0 ≤ y ∧ y ≤ 7 := fun y hy => by
  have := (struc_rel hs).2.2.1
  rw [List.all_eq_true] at this
  simpa using this y hy
theorem WordOfConfiguration_fits (x : StrucV) (hx : StructureOk x) (c : Int) (hc : I64 c) : ListOk (wordOfConfigurationV x c).1 := by
  unfold wordOfConfigurationV
  split
  · rename_i h
    obtain ⟨hs, hb, hcf, _⟩ := maskCode_zero h
    obtain ⟨h1, h2, h3⟩ := struc_len hs
    have hl := wordC_length x c
    have := isM_lt h1 hb
    refine ⟨by simp only [Fits]; omega, fun y hy => ?_⟩
    have := wordS_lab (struc_lab hs) (popc c.toNat) y hy
    unfold I64; omega
  · simp [ListOk, Fits]
end Go.AM
