/-
  Contracts: nets with some of their transitions.
-/
import Derived.Test.YtnbembgjjepbpaaDoorFnF
import Derived.Test.YtnbembgjjepbpaaDoorFnL
set_option linter.unusedVariables false
set_option linter.unusedSimpArgs false
set_option maxRecDepth 100000
set_option maxHeartbeats 1600000
namespace Go.AM
open Go.Proofs
/-- The numbers at the places of a mask. -/
def pick (l : List Int) (m : Int) (n : Nat) : List Int := ((List.range n).filter fun i => tb m i).map fun i => nth l i
theorem pick_succ (l : List Int) (m : Int) (n : Nat) : pick l m (n + 1) = if tb m n then pick l m n ++ [nth l n] else pick l m n := by
  unfold pick
  rw [List.range_succ, List.filter_append, List.map_append]
  split
  · rename_i h; simp [h]
  · rename_i h; simp [h]
theorem pick_length (l : List Int) (m : Int) (n : Nat) : (pick l m n).length ≤ n := by
  unfold pick
  rw [List.length_map]
  exact Nat.le_trans (List.length_filter_le _ _) (by simp)
theorem pick_mem {l : List Int} {m : Int} {n : Nat} (hn : n ≤ l.length) : ∀ x ∈ pick l m n, x ∈ l := by
  intro x hx
  unfold pick at hx
  simp only [List.mem_map, List.mem_filter, List.mem_range] at hx
  obtain ⟨i, ⟨h1, _⟩, rfl⟩ := hx
  exact nth_mem (by omega)
theorem pick_bits {l : List Int} {m : Int} (h63 : l.length ≤ 63) (hb : ∀ i, l.length ≤ i → tb m i = false) : (bitsOf m).map (fun i => nth l i.toNat) = pick l m l.length := by
  unfold bitsOf pick
  obtain ⟨r, hr⟩ : ∃ r, 63 = l.length + r := ⟨63 - l.length, by omega⟩
  rw [hr, List.range_add, List.filter_append]
  have : (List.map (fun x => l.length + x) (List.range r)).filter (fun i => tb m i) = [] := List.filter_eq_nil_iff.2 fun j hj => by
    simp only [List.mem_map, List.mem_range] at hj
    obtain ⟨a, _, rfl⟩ := hj
    rw [hb _ (by omega)]; simp
  rw [this, List.append_nil, List.map_map]
  rfl
theorem lettersAt_spec (nn : Bool) (l : List Int) (m : Int) (hm : M m) (h63 : l.length ≤ 63) (hb : ∀ i, l.length ≤ i → tb m i = false) : ACalls1 Tryd.prog 33 [.sl 1 nn (ints l), iv m] (.own 1 true (ints (pick l m l.length))) := by
  rw [← pick_bits h63 hb]
  refine walk (fun _ => false) mixed Go.Proofs.Tryd.func33 rfl rfl rfl (by kernel_rfl) rfl (by simp) (by kernel_rfl) ?_
  simp
  refine ⟨_, members_spec m hm, ?_⟩
  have hl := bitsOf_length m
  have hmem := fun i (hi : i ∈ bitsOf m) => bitsOf_mem hi
  generalize bitsOf m = b at *
  simp
  refine awp_loop2 [0, 10, 11] [10] (fun k : Nat => [(12, iv k), (5, .ref 100)]) (fun k => [(100, .own 1 true (ints ((b.take k).map fun i => nth l i.toNat)))]) (fun k => k ≤ b.length) (fun k => b.length - k) 0 (weak_mk (fun t => if t = 100 then some 8 else some t) (by simp) (by simp) rfl) (by simp) ?_
  intro k hk
  by_cases hlt : k < b.length
  · obtain ⟨j, hj, hj63, hjt⟩ := hmem _ (nth_mem hlt)
    have hjl : j < l.length := by
      apply Nat.lt_of_not_le
      intro hle
      rw [hb j hle] at hjt; cases hjt
    simp [hlt, hj, hjl, show k + 1 ≤ b.length from hlt, wrap_id ((k : Int) + 1) (by omega) (by omega)]
    repeat (refine And.intro (by omega) ?_)
    refine Round.mk (k + 1) (weak_mk (fun t => if t = 100 then some 22 else some t) (by simp) ?_ rfl) hlt (by omega)
    have e : b.getD k 0 = nth b k := rfl
    have e2 : (b.map fun i => nth l i.toNat).take (k + 1) = (b.map fun i => nth l i.toNat).take k ++ [nth l j] := by rw [← List.map_take, ← List.map_take, take_succ _ _ hlt, e, hj]; simp
    simp [e2]
  · obtain rfl : k = b.length := by omega
    simp
/-- The net with some transitions, and the code. -/
def keepTransitionsV (x : NetV) (m : Int) : NetV × Int :=
  if isNet x.p x.pre x.post x.s then (if decide (0 ≤ m) && decide (m ≤ full x.pre.length) then (⟨x.p, pick x.pre m x.pre.length, pick x.post m x.pre.length, x.s⟩, 0) else (⟨0, [], [], 0⟩, 2)) else (⟨0, [], [], 0⟩, 1)
theorem KeepTransitions_fits (x : NetV) (hx : NetOk x) (m : Int) (hm : I64 m) : NetOk (keepTransitionsV x m).1 := by
  unfold keepTransitionsV
  split
  · rename_i h
    have hl := isNet_len h
    split
    · have h1 := pick_length x.pre m x.pre.length
      have h2 := pick_length x.post m x.pre.length
      refine ⟨hx.1, ⟨by simp only [Fits]; omega, fun i hi => hx.2.1.2 i (pick_mem (by omega) i hi)⟩, ⟨by simp only [Fits]; omega, fun i hi => hx.2.2.1.2 i (pick_mem (by omega) i hi)⟩, hx.2.2.2⟩
    · simp [NetOk, I64, ListOk, Fits]
  · simp [NetOk, I64, ListOk, Fits]
theorem keep0 {x : NetV} {m : Int} (h : isNet x.p x.pre x.post x.s = false) : keepTransitionsV x m = (⟨0, [], [], 0⟩, 1) := by simp [keepTransitionsV, h]
theorem keep1 {x : NetV} {m : Int} (h : isNet x.p x.pre x.post x.s = true) (hb : (decide (0 ≤ m) && decide (m ≤ full x.pre.length)) = false) : keepTransitionsV x m = (⟨0, [], [], 0⟩, 2) := by simp only [keepTransitionsV, h, hb]; rfl
theorem keep2 {x : NetV} {m : Int} (h : isNet x.p x.pre x.post x.s = true) (hb : (decide (0 ≤ m) && decide (m ≤ full x.pre.length)) = true) : keepTransitionsV x m = (⟨x.p, pick x.pre m x.pre.length, pick x.post m x.pre.length, x.s⟩, 0) := by simp only [keepTransitionsV, h, hb]; rfl
theorem KeepTransitions_spec (n1 n2 : Bool) (x : NetV) (hx : NetOk x) (m : Int) (hm : I64 m) : ACalls1 Tryd.prog 10 [netSl n1 n2 x, iv m] (.tup [netOw false false (keepTransitionsV x m).1, iv (keepTransitionsV x m).2]) := by
  refine walk (fun t => t == 2) mixed Go.Proofs.Tryd.func10 rfl rfl rfl (by kernel_rfl) rfl (by simp) (by kernel_rfl) ?_
  simp
  refine ⟨_, IsNet_spec _ _ x.p x.pre x.post x.s, ?_⟩
  cases h : isNet x.p x.pre x.post x.s
  · simp [keep0 h]
  · have hl := isNet_len h
    simp
    refine ⟨_, length_spec _ _ hx.2.1.1, ?_⟩
    simp
    refine ⟨_, IsMask_spec _ _, ?_⟩
    rw [isNet_mask (by simp; omega)]
    cases hb' : (decide (0 ≤ m) && decide (m ≤ full x.pre.length))
    · simp [keep1 h hb']
    · rw [keep2 h hb']
      have hb : 0 ≤ m ∧ m ≤ full x.pre.length := by simpa using hb'
      have hM := full_M (n := x.pre.length) (by omega) hb.1 hb.2
      have hbit := fun i (hi : x.pre.length ≤ i) => tb_of_le (n := x.pre.length) (by omega) hb.1 hb.2 hi
      simp
      refine ⟨_, lettersAt_spec _ x.pre m hM (by omega) hbit, ?_⟩
      simp
      refine ⟨_, lettersAt_spec _ x.post m hM (by omega) (by rw [hl.1]; exact hbit), ?_⟩
      simp [hl.1]
      exact ⟨by kernel_rfl, by kernel_rfl⟩
theorem specKeepTransitions_spec (n1 n2 : Bool) (x : NetV) (hx : NetOk x) (m : Int) (hm : I64 m) : ACalls1 Tryd.prog 8 [netSl n1 n2 x, iv m] (.tup [netOw false false (keepTransitionsV x m).1, iv (keepTransitionsV x m).2]) := by
  refine walk (fun t => t == 2) mixed Go.Proofs.Tryd.func8 rfl rfl rfl (by kernel_rfl) rfl (by simp) (by kernel_rfl) ?_
  simp
  refine ⟨_, l17Is_spec _ _ x.p x.pre x.post x.s hx.1, ?_⟩
  cases h : isNet x.p x.pre x.post x.s
  · simp [keep0 h]
  · have hl := isNet_len h
    simp
    refine ⟨_, l17Letters_spec _ _ x, ?_⟩
    simp
    refine ⟨_, l01Full_spec _ (by unfold I64; omega), ?_⟩
    simp
    refine ⟨_, l01In_spec _ _ _, ?_⟩
    cases hb' : (decide (0 ≤ m) && decide (m ≤ full x.pre.length))
    · simp [keep1 h hb']
    · rw [keep2 h hb']
      have hb : 0 ≤ m ∧ m ≤ full x.pre.length := by simpa using hb'
      have hM := full_M (n := x.pre.length) (by omega) hb.1 hb.2
      simp
      refine awp_loop2 [1, 2, 4, 6] [4] (fun k : Nat => [(7, iv k)]) (fun k => [(6, .box [iv x.p, .ref 100, .ref 101, iv x.s]), (100, .own 1 false (ints (pick x.pre m k))), (101, .own 1 false (ints (pick x.post m k)))]) (fun k => k ≤ x.pre.length) (fun k => x.pre.length - k) 0 (weak_mk (fun t => if t = 100 then none else if t = 101 then none else some t) (by simp) (by simp [pick]) rfl) (by simp) ?_
      intro k hk
      have p1 := pick_length x.pre m k
      have p2 := pick_length x.post m k
      simp
      refine ⟨_, l17Letters_spec _ _ x, ?_⟩
      by_cases hlt : k < x.pre.length
      · simp [hlt]
        refine ⟨_, l01Bit_spec m hM k (by omega), ?_⟩
        cases ht : tb m k
        · simp [wrap_id ((k : Int) + 1) (by omega) (by omega)]
          exact Round.mk (k + 1) (weak_mk some (by simp) (by simp [pick_succ, ht]) rfl) hlt (by omega)
        · simp [hlt, hl, wrap_id ((k : Int) + 1) (by omega) (by omega)]
          repeat (refine And.intro (by first | omega | exact ⟨by kernel_rfl, by kernel_rfl⟩) ?_)
          exact Round.mk (k + 1) (weak_mk (fun t => if t = 100 then some 43 else if t = 101 then some 53 else some t) (by simp) (by simp [pick_succ, ht]) rfl) hlt (by omega)
      · obtain rfl : k = x.pre.length := by omega
        simp
end Go.AM
