/-
  GlobalStates: the reference.
-/
import Derived.Test.YtmpdpjpebekfkaaDoorFnGsa
set_option linter.unusedVariables false
set_option linter.unusedSimpArgs false
set_option maxRecDepth 100000
set_option maxHeartbeats 1600000
namespace Go.AM
open Go.Proofs
theorem srows_drop (b : Bool) (rs : List (List Int)) (n : Nat) : (srows b rs).drop n = srows b (rs.drop n) := by simp [srows, List.map_drop]
theorem srows_take (b : Bool) (rs : List (List Int)) (n : Nat) : (srows b rs).take n = srows b (rs.take n) := by simp [srows, List.map_take]
theorem srows_append (b : Bool) (rs qs : List (List Int)) : srows b (rs ++ qs) = srows b rs ++ srows b qs := by simp [srows]
theorem l12Before_spec (a b : Bool) (u v : List Int) (hu : Fits u) (hv : Fits v) : ACalls1 Tryd.prog 184 [.sl 1 a (ints u), .sl 1 b (ints v)] (bv (decide (cmpW u v < 0))) := by
  have hu' := hu
  have hv' := hv
  unfold Fits at hu' hv'
  refine walk (fun _ => false) mixed Go.Proofs.Tryd.func184 rfl rfl rfl (by kernel_rfl) rfl (by simp) (by kernel_rfl) ?_
  unfold cmpW
  by_cases h : u.length = v.length
  · simp [h]
    refine ⟨_, l01Less_spec _ _ _ _ hu hv, ?_⟩
    simp
  · simp [h]
    omega
theorem l12Put_spec (a b : Bool) (rs : List (List Int)) (hl : rs.length ≤ 1000000) (hr : ∀ r ∈ rs, Fits r) (w : List Int) (hw : Fits w) (hn : ¬ w ∈ rs) : ACalls1 Tryd.prog 148 [.sl 1 a (srows true rs), .sl 1 b (ints w)] (.own 1 true (srows true (insR cmpW w rs))) := by
  refine walk (fun t => t == 1034 || t == 3035) mixed Go.Proofs.Tryd.func148 rfl rfl rfl (by kernel_rfl) rfl (by simp) (by kernel_rfl) ?_
  simp
  refine awp_loop2 [0, 1] [] (fun k : Nat => [(5, iv k)]) (fun _ => []) (fun k => k ≤ rs.length ∧ ∀ i, i < k → cmpW (nthR rs i) w < 0) (fun k => rs.length - k) 0 (weak_mk some (by simp) (by simp) rfl) ⟨by simp, by simp⟩ ?_
  rintro k ⟨hk, hp⟩
  have stop : (k < rs.length → ¬ cmpW (nthR rs k) w < 0) → k = insRAt cmpW w rs := fun h => insRAt_eq hk hp h
  by_cases hkl : k < rs.length
  · simp [hkl]
    refine ⟨_, l12Before_spec _ _ _ _ (hr _ (nthR_mem hkl)) hw, ?_⟩
    by_cases hkn : cmpW (nthR rs k) w < 0
    · simp [hkn, wrap_id ((k : Int) + 1) (by omega) (by omega)]
      refine Round.mk (k + 1) (weak_mk some (by simp) (by simp) rfl) ⟨hkl, fun i hi => ?_⟩ (by omega)
      by_cases e : i = k
      · subst e; exact hkn
      · exact hp i (by omega)
    · have hat := stop (fun _ => hkn)
      have hne : ¬ nthR rs k = w := fun e => hn (e ▸ nthR_mem hkl)
      rw [insR_eq, ← hat]
      simp [hkl, hkn]
      refine ⟨_, l01Same_spec _ _ _ _ (hr _ (nthR_mem hkl)) hw, ?_⟩
      simp [hne]
      refine ⟨_, l01Own_spec _ w hw, ?_⟩
      have h2 : (rs.drop k).take (rs.length - k) = rs.drop k := List.take_of_length_le (by simp)
      have hmin : min k rs.length = k := by omega
      simp [srows_drop, srows_take, h2, hmin]
      repeat (refine And.intro (by first | omega | exact ⟨by kernel_rfl, by kernel_rfl⟩) ?_)
      left
      rw [← srows_cons, ← srows_append]
      exact .refl _
  · have hat := stop (fun h => absurd h hkl)
    obtain rfl : k = rs.length := by omega
    rw [insR_eq, ← hat]
    simp
    refine ⟨_, l01Own_spec _ w hw, ?_⟩
    simp [srows_drop, srows_take]
    first | refine ⟨⟨by kernel_rfl, by kernel_rfl⟩, ?_⟩ | exact ⟨by kernel_rfl, by kernel_rfl⟩
    omega
theorem l14Sorted_spec (a : Bool) (rs : List (List Int)) (hl : rs.length ≤ 1000000) (hr : ∀ r ∈ rs, Fits r) (hnd : rs.Nodup) : ACalls1 Tryd.prog 102 [.sl 1 a (srows true rs)] (.sl 1 true (srows true (sortR cmpW rs))) := by
  refine walk (fun t => t == 4005 || t == 3017) mixed Go.Proofs.Tryd.func102 rfl rfl rfl (by kernel_rfl) rfl (by simp) (by kernel_rfl) ?_
  simp
  refine awp_loop2 [0] [] (fun k : Nat => [(4, iv k), (3, .sl 1 true (srows true (sortR cmpW (rs.take k))))]) (fun k => []) (fun k => k ≤ rs.length) (fun k => rs.length - k) 0 (weak_mk some (by simp [sortR_nil]) (by simp) rfl) (by simp) ?_
  intro k hk
  by_cases hkl : k < rs.length
  · have hn : ¬ nthR rs k ∈ sortR cmpW (rs.take k) := by
      rw [sortR_mem]
      intro hm
      obtain ⟨i, hi, e⟩ := List.mem_iff_getElem.1 hm
      rw [List.length_take] at hi
      rw [List.getElem_take, nthR_at hkl] at e
      exact List.pairwise_iff_getElem.1 (List.nodup_iff_pairwise_ne.1 hnd) i k (by omega) hkl (by omega) e
    have hst : insR cmpW (nthR rs k) (sortR cmpW (rs.take k)) = sortR cmpW (rs.take (k + 1)) := by
      rw [sortR_snoc cmpW_tot, List.take_succ_eq_append_getElem hkl, nthR_at hkl]
    simp [hkl]
    refine ⟨_, l12Put_spec _ _ _ (by simp; omega) (fun r h => hr r (List.mem_of_mem_take (sortR_mem.1 h))) _ (hr _ (nthR_mem hkl)) hn, ?_⟩
    rw [hst]
    simp [wrap_id ((k : Int) + 1) (by omega) (by omega)]
    exact Round.mk (k + 1) (weak_mk some (by simp) (by simp) rfl) hkl (by omega)
  · obtain rfl : k = rs.length := by omega
    simp
theorem l14Reached_spec (z : AsyV) (hz : isAsy z = true) (ho : AsyOk z) : ACalls1 Tryd.prog 101 [asySl z] (.tup [.own 1 true (srows true (statesV z)), .junk]) := by
  have hf' := hz
  have hf := isAsy_facts hz
  have hs4 := hf.1.1
  have hp8 := hf.2.2.2.2.2
  have hsl := isGlob_len hf.2.2.1
  refine walk (fun t => t == 1 || t == 3014 || t == 1032 || t == 3038) mixed Go.Proofs.Tryd.func101 rfl rfl rfl (by kernel_rfl) rfl (by simp) (by kernel_rfl) ?_
  simp
  refine ⟨_, l01Own_spec _ z.start (by unfold Fits; omega), ?_⟩
  simp
  refine awp_loop2 [1] [] (fun s : Nat × List (List Int) × List (List Int) => [(6, iv s.1), (4, .ref 100), (5, .ref 101)]) (fun s => [(100, .own 1 true (srows true s.2.1)), (101, .own 1 true (orows true s.2.2))]) (fun s => s.1 ≤ s.2.1.length ∧ GOk z s.2.1 ∧ s.2.2.length = s.1 ∧ gsB z (300 - s.1) s.1 s.2.1 = statesV z) (fun s => 300 - s.1) (0, [z.start], []) (weak_mk (fun t => if t = 100 then some 15 else if t = 101 then some 16 else some t) (by simp) (by simp [srows]) rfl) ⟨by simp, gs_start hz, rfl, rfl⟩ ?_
  rintro ⟨i, L, N⟩ ⟨hi, hG, hN, hr⟩
  simp only at hi hG hN hr
  have h256 := hG.le hf.1
  by_cases hlt : i < L.length
  · have hgo := gsB_go (z := z) hlt (by omega)
    have hcg := hG.gl _ (nthR_mem hlt)
    have hcl := isGlob_len hcg
    simp [hlt]
    refine awp_loop2 [1, 5, 6] [101] (fun s : Nat × List Int => [(8, iv s.1), (4, .ref 100), (7, .ref 102)]) (fun s => [(100, .own 1 true (srows true (gsFo z (nthR L i) L s.1))), (102, .own 1 true (ints s.2))]) (fun s => s.1 ≤ z.places.length ∧ s.2.length = s.1) (fun s => z.places.length - s.1) (0, []) (weak_mk (fun t => if t = 102 then some 23 else some t) (by simp) (by simp [gsFo_zero]) rfl) ⟨by simp, rfl⟩ ?_
    rintro ⟨a, row⟩ ⟨ha, hrow⟩
    simp only at ha hrow
    have hok := gsFo_ok hf' hcg hG a ha
    obtain ⟨t, ht⟩ := gsFo_ext z (nthR L i) L a
    have hA256 := hok.le hf.1
    by_cases hal : a < z.places.length
    · have hsucc := gsFo_succ z (nthR L i) L a
      have hiA : i < (gsFo z (nthR L i) L a).length := by rw [ht, List.length_append]; omega
      have hat : nthR (gsFo z (nthR L i) L a) i = nthR L i := by rw [ht]; exact nthR_ext hlt
      generalize gsFo z (nthR L i) L a = A at *
      generalize nthR L i = c at *
      have hgs := fun r (hr : r ∈ A) => isGlob_len (hok.gl r hr)
      unfold gsSt at hsucc
      simp [hal, hiA, hat, show i + 1 ≤ A.length from hiA]
      repeat (rw [exE_eq]; simp [hal, hiA, hat, show i + 1 ≤ A.length from hiA])
      refine ⟨_, l14Step_spec z hz ho _ c (by omega) a hal, ?_⟩
      cases hs : stepV z c a with
      | none =>
        rw [hs] at hsucc
        simp only at hsucc
        simp
        first | refine ⟨⟨by kernel_rfl, by kernel_rfl⟩, ?_⟩ | exact ⟨by kernel_rfl, by kernel_rfl⟩
        rw [wrap_id ((a : Int) + 1) (by omega) (by omega)]
        refine ⟨by omega, by omega, ?_⟩
        exact Round.mk (a + 1, row ++ [-1]) (weak_mk (fun t => if t = 102 then some 45 else some t) (by simp) (by simp [hsucc]) rfl) ⟨hal, by simp [hrow]⟩ (by simp only; omega)
      | some g =>
        rw [hs] at hsucc
        simp only at hsucc
        have hgl := stepV_len hs
        simp
        first | refine ⟨⟨by kernel_rfl, by kernel_rfl⟩, ?_⟩ | exact ⟨by kernel_rfl, by kernel_rfl⟩
        refine awp_loop2 [1, 4, 5, 6, 7, 8, 9] [100, 101, 102] (fun k : Nat => [(11, iv k)]) (fun _ => []) (fun k => k ≤ A.length ∧ ∀ j, j < k → nthR A j ≠ g) (fun k => A.length - k) 0 (weak_mk some (by simp) (by simp) rfl) (by simp) ?_
        rintro k ⟨hk, hall⟩
        have fin : ∀ b : Nat, b ≤ 256 → IntKind.i64.wrap ((b : Int) + 1) = ((b + 1 : Nat) : Int) := fun b hb => by rw [wrap_id _ (by omega) (by omega)]; omega
        by_cases hkl : k < A.length
        · have hkg := hgs _ (nthR_mem hkl)
          simp [hkl, show k + 1 ≤ A.length from hkl]
          refine ⟨_, l01Same_spec _ _ _ _ (by unfold Fits; omega) (by unfold Fits; omega), ?_⟩
          by_cases he : nthR A k = g
          · have hmem : g ∈ A := by rw [← he]; exact nthR_mem hkl
            rw [if_pos hmem] at hsucc
            simp [he, show ¬ ((k : Int) = (A.length : Int)) by omega, show ¬ k = A.length by omega]
            rw [wrap_id ((a : Int) + 1) (by omega) (by omega)]
            refine ⟨by omega, by omega, ?_⟩
            exact Round.mk (a + 1, row ++ [(k : Int)]) (weak_mk (fun t => if t = 102 then some 72 else some t) (by simp) (by simp [hsucc]) rfl) ⟨hal, by simp [hrow]⟩ (by simp only; omega)
          · simp [he]
            rw [wrap_id ((k : Int) + 1) (by omega) (by omega)]
            refine Round.mk (k + 1) (weak_mk some (by simp) (by simp) rfl) ⟨hkl, fun j hj => ?_⟩ (by omega)
            by_cases e : j = k
            · subst e; exact he
            · exact hall j (by omega)
        · obtain rfl : k = A.length := by omega
          have hmem : ¬ g ∈ A := fun hm => by
            obtain ⟨j, hj, e⟩ := List.mem_iff_getElem.1 hm
            exact hall j hj (by rw [nthR_at hj]; exact e)
          rw [if_neg hmem] at hsucc
          simp
          rw [wrap_id ((a : Int) + 1) (by omega) (by omega)]
          refine ⟨by omega, by omega, by omega, by omega, ?_⟩
          exact Round.mk (a + 1, row ++ [(A.length : Int)]) (weak_mk (fun t => if t = 102 then some 72 else if t = 100 then some 68 else some t) (by simp) (by simp [hsucc]) rfl) ⟨hal, by simp [hrow]⟩ (by simp only; omega)
    · obtain rfl : a = z.places.length := by omega
      simp
      rw [wrap_id ((i : Int) + 1) (by omega) (by omega)]
      refine ⟨by omega, by omega, ?_⟩
      exact Round.mk (i + 1, gsFo z (nthR L i) L z.places.length, N ++ [row]) (weak_mk (fun t => if t = 101 then some 76 else some t) (by simp) (by simp) rfl) ⟨by simp only; rw [ht, List.length_append]; omega, hok, by simp [hN], by rw [← hgo]; exact hr⟩ (by simp only; omega)
  · obtain rfl : i = L.length := by omega
    rw [gsB_end (by omega)] at hr
    simp [hr]
theorem states_ok {z : AsyV} (hz : isAsy z = true) : GOk z (statesV z) := gsB_ok hz 300 0 _ (gs_start hz)
theorem states_sort {z : AsyV} (hz : isAsy z = true) : sortR cmpW (statesV z) = sortR lexC (statesV z) :=
  (sortR_same (n := z.sizes.length) fun r hr => isGlob_len ((states_ok hz).gl r hr)).symm
theorem specGlobalStates_spec (z : AsyV) (ho : AsyOk z) : ACalls1 Tryd.prog 45 [asySl z] (.tup [.sl 1 false (srows true (globalStatesV z).1), iv (globalStatesV z).2]) := by
  refine walk (fun t => t == 1 || t == 3011) mixed Go.Proofs.Tryd.func45 rfl rfl rfl (by kernel_rfl) rfl (by simp) (by kernel_rfl) ?_
  simp
  refine ⟨_, specIsAsynchronous_spec z ho, ?_⟩
  unfold globalStatesV
  cases hz : isAsy z
  · simp
  · have hok := states_ok hz
    have h256 := hok.le (isAsy_facts hz).1
    have h4 := (isAsy_facts hz).1.1
    simp
    refine ⟨_, l14Reached_spec z hz ho, ?_⟩
    by_cases hl : (statesV z).length ≤ 64
    · simp [hl, show ¬ (64 : Int) < ((statesV z).length : Int) by omega, show ((statesV z).length : Int) ≤ 64 by omega]
      refine ⟨_, l14Sorted_spec true _ (by omega) (fun r hr => by have := isGlob_len (hok.gl r hr); unfold Fits; omega) hok.nd, ?_⟩
      simp [states_sort hz]
    · simp [hl, show (64 : Int) < ((statesV z).length : Int) by omega, show ¬ ((statesV z).length : Int) ≤ 64 by omega]
end Go.AM
