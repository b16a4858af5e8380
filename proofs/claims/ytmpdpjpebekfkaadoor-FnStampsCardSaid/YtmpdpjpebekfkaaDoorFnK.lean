/-
  Contracts: nets with some of their transitions.
-/
import Derived.Test.YtmpdpjpebekfkaaDoorFnF
import Derived.Test.YtmpdpjpebekfkaaDoorFnL
set_option linter.unusedVariables false
set_option linter.unusedSimpArgs false
set_option maxRecDepth 100000
set_option maxHeartbeats 1600000
namespace Go.AM
open Go.Proofs
/-- The numbers at the places of a mask. -/
def pick (l : List Int) (m : Int) (n : Nat) : List Int := ((List.range n).filter fun i => tb m i).map fun i => nth l i
theorem pick_succ (l : List Int) (m : Int) (n : Nat) : pick l m (n + 1) = if tb m n then pick l m n ++ [nth l n] else pick l m n := by
  unfold pick
  rw [List.range_succ, List.filter_append, List.map_append]
  split
  · rename_i h; simp [h]
  · rename_i h; simp [h]
theorem pick_length (l : List Int) (m : Int) (n : Nat) : (pick l m n).length ≤ n := by
  unfold pick
  rw [List.length_map]
  exact Nat.le_trans (List.length_filter_le _ _) (by simp)
theorem pick_mem {l : List Int} {m : Int} {n : Nat} (hn : n ≤ l.length) : ∀ x ∈ pick l m n, x ∈ l := by
  intro x hx
  unfold pick at hx
  simp only [List.mem_map, List.mem_filter, List.mem_range] at hx
  obtain ⟨i, ⟨h1, _⟩, rfl⟩ := hx
  exact nth_mem (by omega)
theorem pick_bits {l : List Int} {m : Int} (h63 : l.length ≤ 63) (hb : ∀ i, l.length ≤ i → tb m i = false) : (bitsOf m).map (fun i => nth l i.toNat) = pick l m l.length := by
  unfold bitsOf pick
  obtain ⟨r, hr⟩ : ∃ r, 63 = l.length + r := ⟨63 - l.length, by omega⟩
  rw [hr, List.range_add, List.filter_append]
  have : (List.map (fun x => l.length + x) (List.range r)).filter (fun i => tb m i) = [] := List.filter_eq_nil_iff.2 fun j hj => by
    simp only [List.mem_map, List.mem_range] at hj
    obtain ⟨a, _, rfl⟩ := hj
    rw [hb _ (by omega)]; simp
  rw [this, List.append_nil, List.map_map]
  rfl
/-- The net with some transitions, and the code. -/
def keepTransitionsV (x : NetV) (m : Int) : NetV × Int :=
  if isNet x.p x.pre x.post x.s then (if decide (0 ≤ m) && decide (m ≤ full x.pre.length) then (⟨x.p, pick x.pre m x.pre.length, pick x.post m x.pre.length, x.s⟩, 0) else (⟨0, [], [], 0⟩, 2)) else (⟨0, [], [], 0⟩, 1)
theorem KeepTransitions_fits (x : NetV) (hx : NetOk x) (m : Int) (hm : I64 m) : NetOk (keepTransitionsV x m).1 := by
  unfold keepTransitionsV
  split
  · rename_i h
    have hl := isNet_len h
    split
    · have h1 := pick_length x.pre m x.pre.length
      have h2 := pick_length x.post m x.pre.length
      refine ⟨hx.1, ⟨by simp only [Fits]; omega, fun i hi => hx.2.1.2 i (pick_mem (by omega) i hi)⟩, ⟨by simp only [Fits]; omega, fun i hi => hx.2.2.1.2 i (pick_mem (by omega) i hi)⟩, hx.2.2.2⟩
    · simp [NetOk, I64, ListOk, Fits]
  · simp [NetOk, I64, ListOk, Fits]
theorem keep0 {x : NetV} {m : Int} (h : isNet x.p x.pre x.post x.s = false) : keepTransitionsV x m = (⟨0, [], [], 0⟩, 1) := by simp [keepTransitionsV, h]
theorem keep1 {x : NetV} {m : Int} (h : isNet x.p x.pre x.post x.s = true) (hb : (decide (0 ≤ m) && decide (m ≤ full x.pre.length)) = false) : keepTransitionsV x m = (⟨0, [], [], 0⟩, 2) := by simp only [keepTransitionsV, h, hb]; rfl
theorem keep2 {x : NetV} {m : Int} (h : isNet x.p x.pre x.post x.s = true) (hb : (decide (0 ≤ m) && decide (m ≤ full x.pre.length)) = true) : keepTransitionsV x m = (⟨x.p, pick x.pre m x.pre.length, pick x.post m x.pre.length, x.s⟩, 0) := by simp only [keepTransitionsV, h, hb]; rfl
end Go.AM
