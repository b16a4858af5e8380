/-
  Asynchronous automata: the walks of the reference: steps, runs.
-/
import Derived.Test.YtmpdpjpebekfkaaDoorFnBa
set_option linter.unusedVariables false
set_option linter.unusedSimpArgs false
set_option maxRecDepth 100000
set_option maxHeartbeats 1600000
namespace Go.AM
open Go.Proofs
theorem l14Step_spec (z : AsyV) (hz : isAsy z = true) (ho : AsyOk z) (b : Bool) (g : List Int) (hg : g.length = z.sizes.length) (a : Nat) (ha : a < z.places.length) :
    ACalls1 Tryd.prog 113 [asySl z, .sl 1 b (ints g), iv a] (.tup [.own 1 (stepV z g a).isSome (ints ((stepV z g a).getD [])), bv (stepV z g a).isSome]) := by
  obtain ⟨⟨f1, f2⟩, f3, f4, f5, f6, f7⟩ := isAsy_facts hz
  obtain ⟨⟨o1, _⟩, ⟨o2, o2'⟩, ⟨o3, _⟩, ⟨o4, o5⟩, o6, o7⟩ := ho
  have hM := (f3 a ha).1
  have hT := (f3 a ha).2
  refine walk (fun t => t == 3) mixed Go.Proofs.Tryd.func113 rfl rfl rfl (by kernel_rfl) rfl (by simp) (by kernel_rfl) ?_
  simp [ha]
  refine ⟨_, l14Part_spec b g _ hM (by omega), ?_⟩
  rw [show pick g (nth z.places a) g.length = ownP z g a from rfl]
  have hown : (ownP z g a).length ≤ 4 := by have := pick_length g (nth z.places a) g.length; unfold ownP; omega
  simp
  refine awp_loop2 [1, 2, 3, 8] [19] (fun i : Nat => [(9, iv i)]) (fun _ => []) (fun i => i ≤ z.joints.length ∧ ∀ j, j < i → (decide ((nthJ z.joints j).1 = (a : Int)) && decide ((nthJ z.joints j).2.1 = ownP z g a)) = false) (fun i => z.joints.length - i) 0 (weak_mk some (by simp) (by simp) rfl) (by simp) ?_
  rintro i ⟨hi, hall⟩
  by_cases hlt : i < z.joints.length
  · have hj := o5 _ (nthJ_mem hlt)
    have next : (decide ((nthJ z.joints i).1 = (a : Int)) && decide ((nthJ z.joints i).2.1 = ownP z g a)) = false → ∀ j, j < i + 1 → (decide ((nthJ z.joints j).1 = (a : Int)) && decide ((nthJ z.joints j).2.1 = ownP z g a)) = false := fun hb j hj => by
      by_cases e : j = i
      · subst e; exact hb
      · exact hall j (by omega)
    simp [hlt]
    refine ⟨fun hle => ?_, fun hne => ?_⟩
    · refine ⟨_, l01Same_spec _ _ _ _ hj.2.1.1 (by unfold Fits; omega), ?_⟩
      by_cases hs : (nthJ z.joints i).2.1 = ownP z g a
      · have hI : stepI z g a = some i := find_range hlt (by simp [hle, hs]) hall
        have hV : stepV z g a = some (stepTo z g a i) := by unfold stepV; rw [hI]; rfl
        obtain ⟨a', ha1, ha2, ha3, ha4⟩ := joint_facts f5 hlt
        obtain rfl : a' = a := by omega
        rw [hV]
        simp [hs]
        refine ⟨_, l01Own_spec b g (by unfold Fits; omega), ?_⟩
        simp
        refine awp_loop2 [1, 2, 3, 9, 10] [] (fun p : Nat => [(12, iv p), (11, iv (cntB (nth z.places a') p))]) (fun p => [(47, .own 1 true (ints (putL g (bitsOf (nth z.places a')) (nthJ z.joints i).2.2 (cntB (nth z.places a') p))))]) (fun p => p ≤ g.length) (fun p => g.length - p) 0 (weak_mk some (by simp [cntB]) (by simp [cntB, putL]) rfl) (by simp) ?_
        intro p hp
        by_cases hlp : p < g.length
        · simp [hlp, ha, hlt]
          refine ⟨_, l01Bit_spec _ hM p (by omega), ?_⟩
          cases ht : tb (nth z.places a') p
          · simp [wrap_id ((p : Int) + 1) (by omega) (by omega)]
            refine Round.mk (p + 1) (weak_mk some (by simp [cntB_succ, ht]) (by simp [cntB_succ, ht]) rfl) hlp (by omega)
          · have hc := cntB_lt (nth z.places a') hlp ht
            have hb := bits_at (m := nth z.places a') (show p < 63 by omega) ht
            have hcl : cntB (nth z.places a') p < (nthJ z.joints i).2.2.length := by rw [ha4, ← hg]; exact hc
            simp [hlt, hlp, hcl]
            refine ⟨by omega, ?_⟩
            have hf2 := hj.2.2.1
            unfold Fits at hf2
            have e : cntB (nth z.places a') (p + 1) = cntB (nth z.places a') p + 1 := by rw [cntB_succ, ht]; rfl
            rw [ints_put _ _ _ (by simpa using hlp), wrap_id _ (by omega) (by omega), wrap_id _ (by omega) (by omega)]
            exact Round.mk (p + 1) (weak_mk some (by simp [e]) (by simp [e, putL, hb]) rfl) hlp (by omega)
        · obtain rfl : p = g.length := by omega
          simp [stepTo]
      · simp [hs, wrap_id ((i : Int) + 1) (by omega) (by omega)]
        exact Round.mk (i + 1) (weak_mk some (by simp) (by simp) rfl) ⟨hlt, by simpa using next (by simp [hs])⟩ (by omega)
    · simp [wrap_id ((i : Int) + 1) (by omega) (by omega)]
      exact Round.mk (i + 1) (weak_mk some (by simp) (by simp) rfl) ⟨hlt, by simpa using next (by simp [hne])⟩ (by omega)
  · obtain rfl : i = z.joints.length := by omega
    have hV : stepV z g a = none := by unfold stepV; rw [stepI, find_range_none hall]; rfl
    rw [hV]
    simp
theorem overW_facts {n : Nat} {w : List Int} (h : overW n w = true) : w.length ≤ 24 ∧ ∀ k, k < w.length → ∃ a : Nat, nth w k = a ∧ a < n := by
  simp only [overW, Bool.and_eq_true, List.all_eq_true, decide_eq_true_eq] at h
  refine ⟨by omega, fun k hk => ?_⟩
  have := h.2 _ (nth_mem hk)
  obtain ⟨a, ha⟩ := Int.eq_ofNat_of_zero_le this.1
  exact ⟨a, ha, by omega⟩
theorem runV_succ (z : AsyV) (g w : List Int) {k : Nat} (hk : k < w.length) : runV z g (w.take (k + 1)) = (runV z g (w.take k)).bind fun g' => stepV z g' (nth w k).toNat := by
  rw [take_succ _ _ hk]; exact runV_app z g _ _
theorem runV_fail {z : AsyV} {g w : List Int} {k : Nat} (h : runV z g (w.take k) = none) : runV z g w = none := by
  have := runV_pre z g (w.take k) (w.drop k) h
  rwa [List.take_append_drop] at this
theorem l14Run_spec (z : AsyV) (hz : isAsy z = true) (ho : AsyOk z) (b c : Bool) (g : List Int) (hg : g.length = z.sizes.length) (w : List Int) (hw : overW z.places.length w = true) :
    ACalls1 Tryd.prog 56 [asySl z, .sl 1 b (ints g), .sl 1 c (ints w)] (.tup [.own 1 false (ints ((runV z g w).getD [])), bv (runV z g w).isSome]) := by
  have hf := (isAsy_facts hz).1.1
  obtain ⟨w1, w2⟩ := overW_facts hw
  refine walk (fun t => t == 3 || t == 1021) mixed Go.Proofs.Tryd.func56 rfl rfl rfl (by kernel_rfl) rfl (by simp) (by kernel_rfl) ?_
  simp
  refine ⟨_, l01Own_spec b g (by unfold Fits; omega), ?_⟩
  simp
  refine awp_loop2 [2, 3] [] (fun s : Nat × List Int => [(9, iv s.1), (8, .ref 200)]) (fun s => [(200, .own 1 false (ints s.2))]) (fun s => s.1 ≤ w.length ∧ runV z g (w.take s.1) = some s.2) (fun s => w.length - s.1) (0, g) (weak_mk (fun t => if t = 200 then some 13 else some t) (by simp) (by simp) rfl) (by simp [runV]) ?_
  rintro ⟨k, cur⟩ ⟨hk, hr⟩
  simp only at hk hr
  have hcl := runV_len hr
  by_cases hlt : k < w.length
  · obtain ⟨a, ha1, ha2⟩ := w2 k hlt
    simp [hlt, ha1]
    refine ⟨_, l14Step_spec z hz ho _ cur (by omega) a ha2, ?_⟩
    have hn := runV_succ z g w hlt
    rw [hr, ha1] at hn
    simp only [Option.bind_some, Int.toNat_natCast] at hn
    cases hs : stepV z cur a with
    | none =>
      rw [hs] at hn
      rw [runV_fail hn]
      simp
      first | refine ⟨⟨by kernel_rfl, by kernel_rfl⟩, ?_⟩ | exact ⟨by kernel_rfl, by kernel_rfl⟩
    | some g' =>
      rw [hs] at hn
      simp
      first | refine ⟨⟨by kernel_rfl, by kernel_rfl⟩, ?_⟩ | exact ⟨by kernel_rfl, by kernel_rfl⟩
      rw [wrap_id _ (by omega) (by omega)]
      exact Round.mk (k + 1, g') (weak_mk (fun t => if t = 200 then some 28000 else some t) (by simp) (by simp) rfl) ⟨hlt, hn⟩ (by simp only; omega)
  · obtain rfl : k = w.length := by omega
    rw [List.take_length] at hr
    simp [hr]
end Go.AM
