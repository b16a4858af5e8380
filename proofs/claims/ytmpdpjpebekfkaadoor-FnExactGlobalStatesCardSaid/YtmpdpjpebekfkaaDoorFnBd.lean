/-
  Asynchronous automata: the walks of the program: searches, steps, runs.
-/
import Derived.Test.YtmpdpjpebekfkaaDoorFnBb
import Derived.Test.YtmpdpjpebekfkaaDoorFnBc
set_option linter.unusedVariables false
set_option linter.unusedSimpArgs false
set_option maxRecDepth 100000
set_option maxHeartbeats 1600000
namespace Go.AM
open Go.Proofs
theorem half_wrap (i j : Nat) (h : i + j ≤ 4194304) : IntKind.i64.wrap ((IntKind.u64.wrap (IntKind.i64.wrap ((i : Int) + j))).fdiv 2) = (((i + j) / 2 : Nat) : Int) := by
  rw [wrap_id ((i : Int) + j) (by omega) (by omega), wrap_u64', show ((i : Int) + j) % 18446744073709551616 = ((i + j : Nat) : Int) by omega]
  have e : (((i + j : Nat) : Int)).fdiv 2 = (((i + j) / 2 : Nat) : Int) := by rw [Int.fdiv_eq_ediv_of_nonneg _ (by omega)]; omega
  rw [e, wrap_id _ (by omega) (by omega)]
theorem BSjoints_spec (b : Bool) (js : List J3) (hl : js.length ≤ 1048576) (h : ∀ j ∈ js, (0 ≤ j.1 ∧ j.1 ≤ 1099511627776) ∧ Fits j.2.1) (a : Int) (ha : 0 ≤ a ∧ a ≤ 1099511627776) (g : List Int) (hg : Fits g) (mono : ∀ i j, i < j → j < js.length → cmpJ (nthJ js j) (a, g, []) < 0 → cmpJ (nthJ js i) (a, g, []) < 0) :
    ACalls1 Tryd.prog 158 [.sl 3 true (jcl js), .agg [iv a, .sl 1 b (ints g), .val (.slice none 0 0)], .fn 156 []]
      (.tup [iv (bsI (fun k => cmpJ (nthJ js k) (a, g, [])) js.length), bv (decide (bsI (fun k => cmpJ (nthJ js k) (a, g, [])) js.length < js.length) && decide (cmpJ (nthJ js (bsI (fun k => cmpJ (nthJ js k) (a, g, [])) js.length)) (a, g, []) = 0))]) := by
  refine walk (fun t => t == 4) mixed Go.Proofs.Tryd.func158 rfl rfl rfl (by kernel_rfl) rfl (by simp) (by kernel_rfl) ?_
  simp
  refine awp_loop2 [0, 2, 4, 8] [] (fun s : Nat × Nat => [(9, iv s.1), (10, iv s.2)]) (fun _ => []) (fun s => s.1 ≤ s.2 ∧ s.2 ≤ js.length ∧ (∀ k, k < s.1 → cmpJ (nthJ js k) (a, g, []) < 0) ∧ ∀ k, s.2 ≤ k → k < js.length → ¬ cmpJ (nthJ js k) (a, g, []) < 0) (fun s => s.2 - s.1) (0, js.length) (weak_mk some (by simp) (by simp) rfl) (by simp; omega) ?_
  rintro ⟨i, j⟩ ⟨hij, hj, hlo, hhi⟩
  simp only at hij hj hlo hhi
  by_cases hlt : i < j
  · have hh := half_wrap i j (by omega)
    have hm : (i + j) / 2 < j := by omega
    have hm2 : i ≤ (i + j) / 2 := by omega
    generalize (i + j) / 2 = m at *
    have hml : m < js.length := by omega
    have hj1 := h _ (nthJ_mem hml)
    simp [hlt, hh, hml]
    refine ⟨_, compareJoints_spec (nthJ js m) a b g _ (.inl rfl) hj1.1 ha hj1.2 hg, ?_⟩
    by_cases hc : cmpJ (nthJ js m) (a, g, []) < 0
    · simp [hc]
      rw [wrap_id _ (by omega) (by omega)]
      refine Round.mk (m + 1, j) (weak_mk some (by simp) (by simp) rfl) ⟨by simp only; omega, hj, fun k hk => ?_, fun k h1 h2 => Int.not_lt.1 (hhi k h1 h2)⟩ (by simp only; omega)
      by_cases e : k = m
      · subst e; exact hc
      · exact mono k m (by simp only at hk; omega) hml hc
    · simp [hc]
      refine Round.mk (i, m) (weak_mk some (by simp) (by simp) rfl) ⟨hm2, by simp only; omega, hlo, fun k hk hk2 => Int.not_lt.1 fun hk3 => ?_⟩ (by simp only; omega)
      by_cases e : k = m
      · subst e; exact hc hk3
      · exact hc (mono m k (by simp only at hk; omega) hk2 hk3)
  · obtain rfl : i = j := by omega
    have hb := bsI_of (c := fun k => cmpJ (nthJ js k) (a, g, [])) hj hlo hhi
    rw [hb]
    by_cases hi : i < js.length
    · have hj1 := h _ (nthJ_mem hi)
      simp [hi]
      refine ⟨_, compareJoints_spec (nthJ js i) a b g _ (.inl rfl) hj1.1 ha hj1.2 hg, ?_⟩
      simp
      try rfl
    · simp [hi]
theorem move_spec (z : AsyV) (hz : isAsy z = true) (ho : AsyOk z) (b : Bool) (g : List Int) (hg : g.length = z.sizes.length) (a : Nat) (ha : a < z.places.length) :
    ACalls1 Tryd.prog 119 [asySl z, .sl 1 b (ints g), iv a] (.tup [.own 1 false (ints ((stepV z g a).getD [])), bv (stepV z g a).isSome]) := by
  obtain ⟨⟨f1, f2⟩, f3, f4, f5, f6, f7⟩ := isAsy_facts hz
  obtain ⟨⟨o1, _⟩, ⟨o2, o2'⟩, ⟨o3, _⟩, ⟨o4, o5⟩, o6, o7⟩ := ho
  have hM := (f3 a ha).1
  have hT := (f3 a ha).2
  refine walk (fun t => t == 3 || t == 3020) mixed Go.Proofs.Tryd.func119 rfl rfl rfl (by kernel_rfl) rfl (by simp) (by kernel_rfl) ?_
  simp [ha]
  refine ⟨_, locals_spec b g _ hM (by omega) (by rw [hg]; exact hT), ?_⟩
  rw [show pick g (nth z.places a) g.length = ownP z g a from rfl]
  have hown : (ownP z g a).length ≤ 4 := by have := pick_length g (nth z.places a) g.length; unfold ownP; omega
  simp
  have hjs : ∀ j ∈ z.joints, (0 ≤ j.1 ∧ j.1 ≤ 1099511627776) ∧ Fits j.2.1 := fun j hj => by
    obtain ⟨i, hi, rfl⟩ := List.mem_iff_getElem.1 hj
    obtain ⟨a', h1, h2, _⟩ := joint_facts f5 hi
    rw [nthJ_at hi] at h1
    exact ⟨by omega, (o5 _ hj).2.1.1⟩
  refine ⟨_, BSjoints_spec true z.joints o4 hjs a (by omega) (ownP z g a) (by unfold Fits; omega) (fun i j h1 h2 h3 => cmpJ_trans (joints_lt f5 h1 h2) (by omega)), ?_⟩
  have hI := stepI_of f5 g a
  simp only at hI
  generalize bsI (fun k => cmpJ (nthJ z.joints k) (↑a, ownP z g a, [])) z.joints.length = i at *
  by_cases hc : i < z.joints.length ∧ cmpJ (nthJ z.joints i) (↑a, ownP z g a, []) = 0
  · rw [if_pos hc] at hI
    have hV : stepV z g a = some (stepTo z g a i) := by unfold stepV; rw [hI]; rfl
    obtain ⟨a', ha1, ha2, ha3, ha4⟩ := joint_facts f5 hc.1
    obtain rfl : a' = a := by have := (cmpJ_zero.1 hc.2).1; simp only at this; omega
    have hto := (o5 _ (nthJ_mem hc.1)).2.2.1
    unfold Fits at hto
    rw [hV]
    simp [hc.1, hc.2]
    refine ⟨_, Clone_spec b g (by unfold Fits; omega), ?_⟩
    simp [ha]
    refine ⟨_, members_spec _ hM, ?_⟩
    have hbl := bits_len (m := nth z.places a') (n := z.sizes.length) (by omega) hT
    have hmem := fun i (hi : i ∈ bitsOf (nth z.places a')) => bitsOf_mem hi
    have hst : stepTo z g a' i = putL g (bitsOf (nth z.places a')) (nthJ z.joints i).2.2 (bitsOf (nth z.places a')).length := by unfold stepTo; rw [hbl, hg]
    rw [hst]
    rw [← hbl] at ha4
    generalize bitsOf (nth z.places a') = bs at *
    simp
    refine awp_loop2 [3, 9, 11, 39, 40] [39] (fun k : Nat => [(41, iv k)]) (fun k => [(33, .own 1 false (ints (putL g bs (nthJ z.joints i).2.2 k)))]) (fun k => k ≤ bs.length) (fun k => bs.length - k) 0 (weak_mk some (by simp) (by simp [putL]) rfl) (by simp) ?_
    intro k hk
    by_cases hlt : k < bs.length
    · obtain ⟨p, hp, hp63, hpt⟩ := hmem _ (nth_mem hlt)
      have hpl : p < g.length := by
        apply Nat.lt_of_not_le
        intro hle
        rw [hT p (by omega)] at hpt; cases hpt
      have hk4 : k < (nthJ z.joints i).2.2.length := by omega
      simp [hlt, hp, hpl, hk4, hc.1, show k + 1 ≤ bs.length from hlt]
      refine ⟨by omega, ?_⟩
      rw [ints_put _ _ _ (by simpa using hpl), wrap_id _ (by omega) (by omega)]
      exact Round.mk (k + 1) (weak_mk some (by simp) (by simp [putL, hp]) rfl) hlt (by omega)
    · obtain rfl : k = bs.length := by omega
      simp
  · rw [if_neg hc] at hI
    have hV : stepV z g a = none := by unfold stepV; rw [hI]; rfl
    have hd : (decide (i < z.joints.length) && decide (cmpJ (nthJ z.joints i) (↑a, ownP z g a, []) = 0)) = false := by
      rw [Bool.eq_false_iff]; intro h; exact hc (by simpa using h)
    rw [hV, hd]
    simp
/-- The states that a word leads through. -/
def sts (z : AsyV) (g w : List Int) (k : Nat) : List (List Int) := (List.range (k + 1)).map fun i => (runV z g (w.take i)).getD []
@[simp] theorem sts_length (z : AsyV) (g w : List Int) (k : Nat) : (sts z g w k).length = k + 1 := by simp [sts]
theorem sts_succ (z : AsyV) (g w : List Int) (k : Nat) : sts z g w (k + 1) = sts z g w k ++ [(runV z g (w.take (k + 1))).getD []] := by unfold sts; rw [List.range_succ (n := k + 1), List.map_append]; rfl
theorem sts_zero (z : AsyV) (g w : List Int) : sts z g w 0 = [g] := by simp [sts, runV]
theorem sts_at (z : AsyV) (g w : List Int) (k i : Nat) (h : i ≤ k) : nthR (sts z g w k) i = (runV z g (w.take i)).getD [] := by
  rw [nthR_at (by simp; omega)]; simp [sts]
theorem run_spec (z : AsyV) (hz : isAsy z = true) (ho : AsyOk z) (b c : Bool) (g : List Int) (hg : g.length = z.sizes.length) (w : List Int) (hw : overW z.places.length w = true) :
    ACalls1 Tryd.prog 63 [asySl z, .sl 1 b (ints g), .sl 1 c (ints w)] (.tup [.own 1 false (srows false (if (runV z g w).isSome then sts z g w w.length else [])), bv (runV z g w).isSome]) := by
  have hf := (isAsy_facts hz).1.1
  obtain ⟨w1, w2⟩ := overW_facts hw
  refine walk (fun t => t == 3 || t == 3014 || t == 3026) mixed Go.Proofs.Tryd.func63 rfl rfl rfl (by kernel_rfl) rfl (by simp) (by kernel_rfl) ?_
  simp
  refine ⟨_, Clone_spec b g (by unfold Fits; omega), ?_⟩
  simp
  refine awp_loop2 [3, 16, 17] [] (fun s : Nat × List Int => [(18, iv s.1), (1, .sl 1 false (ints s.2)), (8, .ref 200)]) (fun s => [(200, .own 1 true (srows false (sts z g w s.1)))]) (fun s => s.1 ≤ w.length ∧ runV z g (w.take s.1) = some s.2) (fun s => w.length - s.1) (0, g) (weak_mk (fun t => if t = 200 then some 15 else some t) (by simp) (by simp [sts_zero, srows]) rfl) (by simp [runV]) ?_
  rintro ⟨k, cur⟩ ⟨hk, hr⟩
  simp only at hk hr
  have hcl := runV_len hr
  by_cases hlt : k < w.length
  · obtain ⟨a, ha1, ha2⟩ := w2 k hlt
    simp [hlt, ha1]
    refine ⟨_, move_spec z hz ho _ cur (by omega) a ha2, ?_⟩
    have hn := runV_succ z g w hlt
    rw [hr, ha1] at hn
    simp only [Option.bind_some, Int.toNat_natCast] at hn
    cases hs : stepV z cur a with
    | none =>
      rw [hs] at hn
      rw [runV_fail hn]
      simp
    | some g' =>
      rw [hs] at hn
      simp
      refine ⟨by omega, by omega, ?_⟩
      rw [wrap_id _ (by omega) (by omega)]
      exact Round.mk (k + 1, g') (weak_mk (fun t => if t = 200 then some 35 else some t) (by simp) (by simp [sts_succ, hn]) rfl) ⟨hlt, hn⟩ (by simp only; omega)
  · obtain rfl : k = w.length := by omega
    rw [List.take_length] at hr
    simp [hr]
theorem jointsIn_of {l : List JIn} (h : l.length ≤ maxLen ∧ ∀ y ∈ l, ((Lit.int .i64 y.1).wf = true ∧ (y.2.1.2.length ≤ maxLen ∧ ∀ x ∈ y.2.1.2, (Lit.int .i64 x).wf = true) ∧ (y.2.2.1.2.length ≤ maxLen ∧ ∀ x ∈ y.2.2.1.2, (Lit.int .i64 x).wf = true) ∧ True)) : JointsIn l :=
  ⟨h.1, fun y hy => ⟨i64_of_wf (h.2 y hy).1, (h.2 y hy).2.1, (h.2 y hy).2.2.1⟩⟩
end Go.AM
