/-
  LocalPath: both sides.
-/
import Derived.Test.YtmpdpjpebekfkaaDoorFnBd
set_option linter.unusedVariables false
set_option linter.unusedSimpArgs false
set_option maxRecDepth 100000
set_option maxHeartbeats 1600000
namespace Go.AM
open Go.Proofs
/-- The local states of a process after the first letters. -/
def lpU (z : AsyV) (w : List Int) (p : Nat) : Nat → List Int
  | 0 => [nth z.start p]
  | k + 1 => if tb (nth z.places (nth w k).toNat) p then lpU z w p k ++ [nth ((runV z z.start (w.take (k + 1))).getD []) p] else lpU z w p k
theorem lpU_len (z : AsyV) (w : List Int) (p k : Nat) : (lpU z w p k).length ≤ k + 1 := by
  induction k with
  | zero => simp [lpU]
  | succ k ih =>
    unfold lpU
    split
    · simp; omega
    · omega
def localPathV (z : AsyV) (w : List Int) (p : Int) : List Int × Int :=
  if isAsy z then (if overW z.places.length w && (decide (0 ≤ p) && decide (p ≤ (z.sizes.length : Int) - 1)) then (if (runV z z.start w).isSome then (lpU z w p.toNat w.length, 0) else ([], 4)) else ([], 2)) else ([], 1)
theorem lp0 {z : AsyV} {w : List Int} {p : Int} (hz : isAsy z = false) : localPathV z w p = ([], 1) := by simp [localPathV, hz]
theorem lp1 {z : AsyV} {w : List Int} {p : Int} (hz : isAsy z = true) (hb : (overW z.places.length w && (decide (0 ≤ p) && decide (p ≤ (z.sizes.length : Int) - 1))) = false) : localPathV z w p = ([], 2) := by simp only [localPathV, hz, hb]; rfl
theorem lp2 {z : AsyV} {w : List Int} {p : Int} (hz : isAsy z = true) (hb : (overW z.places.length w && (decide (0 ≤ p) && decide (p ≤ (z.sizes.length : Int) - 1))) = true) (hr : runV z z.start w = none) : localPathV z w p = ([], 4) := by simp only [localPathV, hz, hb, hr]; rfl
theorem lp3 {z : AsyV} {w : List Int} {p : Int} {g : List Int} (hz : isAsy z = true) (hb : (overW z.places.length w && (decide (0 ≤ p) && decide (p ≤ (z.sizes.length : Int) - 1))) = true) (hr : runV z z.start w = some g) : localPathV z w p = (lpU z w p.toNat w.length, 0) := by simp only [localPathV, hz, hb, hr]; rfl
def AllI (l : List Int) : Prop := ∀ x ∈ l, I64 x
theorem AllI.nth {l : List Int} (h : AllI l) (i : Nat) : I64 (nth l i) := by
  by_cases hi : i < l.length
  · exact h _ (nth_mem hi)
  · unfold Go.AM.nth
    rw [List.getD_eq_getElem?_getD, List.getElem?_eq_none (by omega)]
    unfold I64
    simp
theorem putL_all {g bs to : List Int} (h1 : AllI g) (h2 : AllI to) : ∀ k, AllI (putL g bs to k)
  | 0 => h1
  | k + 1 => by
    intro x hx
    unfold putL at hx
    rcases List.mem_or_eq_of_mem_set hx with hx | rfl
    · exact putL_all h1 h2 k x hx
    · exact h2.nth k
theorem stepV_all {z : AsyV} (ho : AsyOk z) {g g' : List Int} {a : Nat} (h : AllI g) (hs : stepV z g a = some g') : AllI g' := by
  unfold stepV at hs
  cases hi : stepI z g a with
  | none => rw [hi] at hs; simp at hs
  | some i =>
    rw [hi] at hs
    simp only [Option.map_some, Option.some.injEq] at hs
    rw [← hs]
    unfold stepTo
    refine putL_all h ?_ _
    unfold stepI at hi
    have hm := List.mem_of_find?_eq_some hi
    rw [List.mem_range] at hm
    exact (ho.2.2.2.1.2 _ (nthJ_mem hm)).2.2.2
theorem runV_all {z : AsyV} (ho : AsyOk z) : ∀ {w g g' : List Int}, AllI g → runV z g w = some g' → AllI g'
  | [], g, g', h, hr => by simp [runV] at hr; rw [← hr]; exact h
  | a :: w, g, g', h, hr => by
    simp only [runV] at hr
    cases hs : stepV z g a.toNat with
    | none => rw [hs] at hr; simp at hr
    | some g1 => rw [hs] at hr; exact runV_all ho (stepV_all ho h hs) hr
theorem lpU_all {z : AsyV} (ho : AsyOk z) {w : List Int} {p : Nat} : ∀ k, AllI (lpU z w p k)
  | 0 => by
    intro x hx
    simp only [lpU, List.mem_singleton] at hx
    subst hx
    exact AllI.nth (l := z.start) ho.2.2.1.2 p
  | k + 1 => by
    unfold lpU
    split
    · intro x hx
      rcases List.mem_append.1 hx with hx | hx
      · exact lpU_all ho k x hx
      · simp only [List.mem_singleton] at hx
        subst hx
        cases hr : runV z z.start (w.take (k + 1)) with
        | none => simp only [Option.getD_none]; exact AllI.nth (l := []) (by intro x hx; cases hx) p
        | some g => exact AllI.nth (l := g) (runV_all ho ho.2.2.1.2 hr) p
    · exact lpU_all ho k
theorem LocalPath_fits (z : AsyV) (ho : AsyOk z) (w : List Int) (hw : ListOk w) (p : Int) (hp : I64 p) : ListOk (localPathV z w p).1 := by
  have hn : ListOk ([] : List Int) := ⟨by simp [Fits], by intro x hx; cases hx⟩
  unfold localPathV
  split
  · split
    · split
      · rename_i h1 h2 h3
        have h24 := (overW_facts (by rw [Bool.and_eq_true] at h2; exact h2.1)).1
        have := lpU_len z w p.toNat w.length
        exact ⟨by simp only [Fits]; omega, lpU_all ho _⟩
      · exact hn
    · exact hn
  · exact hn
end Go.AM
