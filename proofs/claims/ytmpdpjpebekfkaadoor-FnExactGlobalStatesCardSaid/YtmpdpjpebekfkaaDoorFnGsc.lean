/-
  GlobalStates: the program.
-/
import Derived.Test.YtmpdpjpebekfkaaDoorFnGsb
import Derived.Test.YtmpdpjpebekfkaaDoorFnSf
import Derived.Test.YtmpdpjpebekfkaaDoorFnEq
import Derived.Test.YtmpdpjpebekfkaaDoorAmWk
set_option linter.unusedVariables false
set_option linter.unusedSimpArgs false
set_option maxRecDepth 100000
set_option maxHeartbeats 1600000
namespace Go.AM
open Go.Proofs
theorem IndexFuncR_spec (nn b : Bool) (rs : List (List Int)) (hl : rs.length < 1099511627776) (g : FuncId) (caps : List AV) (p : List Int → Bool) (hg : ∀ r, r ∈ rs → ACalls1 Tryd.prog g (.sl 1 b (ints r) :: caps) (bv (p r))) (hc : immL [.fn g caps] = true) :
    ACalls1 Tryd.prog 185 [.sl 1 nn (srows b rs), .fn g caps] (iv (if rs.any p then ((rs.findIdx p : Nat) : Int) else -1)) := by
  generalize hv : (if rs.any p then ((rs.findIdx p : Nat) : Int) else -1) = v
  refine walk (fun _ => false) mixed Go.Proofs.Tryd.func185 rfl rfl rfl (by kernel_rfl) rfl (by simp) (by kernel_rfl) ?_
  simp
  refine awp_loop2 [0, 1, 7] [] (fun k : Nat => [(8, iv k)]) (fun _ => []) (fun k => k ≤ rs.length ∧ ∀ j, j < k → p (nthR rs j) = false) (fun k => rs.length - k) 0 (weak_mk some (by simp) (by simp) rfl) (by simp) ?_
  rintro k ⟨hk, hall⟩
  by_cases hlt : k < rs.length
  · simp [hlt]
    refine ⟨_, hg _ (nthR_mem hlt), ?_⟩
    cases hp : p (nthR rs k)
    · simp [wrap_id ((k : Int) + 1) (by omega) (by omega)]
      refine Round.mk (k + 1) (weak_mk some (by simp) (by simp) rfl) ⟨hlt, fun j hj => ?_⟩ (by omega)
      by_cases e : j = k
      · subst e; exact hp
      · exact hall j (by omega)
    · have h1 : rs.any p = true := List.any_eq_true.2 ⟨_, nthR_mem hlt, hp⟩
      have h2 : rs.findIdx p = k := by
        rw [List.findIdx_eq hlt]
        exact ⟨by rw [nthR_at hlt] at hp; exact hp, fun j hj => by have := hall j hj; rwa [nthR_at (by omega)] at this⟩
      rw [if_pos h1, h2] at hv
      subst hv
      simp
  · obtain rfl : k = rs.length := by omega
    have h1 : rs.any p = false := by
      rw [List.any_eq_false]
      intro r hr
      obtain ⟨j, hj, rfl⟩ := List.mem_iff_getElem.1 hr
      have := hall j hj
      rw [nthR_at hj] at this
      simp [this]
    rw [h1, if_neg (by simp)] at hv
    subst hv
    simp
theorem ContainsFuncR_spec (nn b : Bool) (rs : List (List Int)) (hl : rs.length < 1099511627776) (g : FuncId) (caps : List AV) (p : List Int → Bool) (hg : ∀ r, r ∈ rs → ACalls1 Tryd.prog g (.sl 1 b (ints r) :: caps) (bv (p r))) (hc : immL [.fn g caps] = true) :
    ACalls1 Tryd.prog 149 [.sl 1 nn (srows b rs), .fn g caps] (bv (rs.any p)) := by
  refine walk (fun _ => false) mixed Go.Proofs.Tryd.func149 rfl rfl rfl (by kernel_rfl) rfl (by simp) (by kernel_rfl) ?_
  simp
  refine ⟨_, IndexFuncR_spec nn b rs hl g caps p hg hc, ?_⟩
  cases rs.any p
  · simp
  · simp
theorem reach1_spec (a b : Bool) (g n : List Int) (hg : Fits g) : ACalls1 Tryd.prog 150 [.sl 1 a (ints g), .ip [.sl 1 b (ints n)]] (bv (g == n)) := by
  refine walk (fun _ => false) mixed Go.Proofs.Tryd.func150 rfl rfl rfl (by kernel_rfl) rfl (by simp) (by kernel_rfl) ?_
  simp
  refine ⟨_, Equal_spec _ _ _ _ hg, ?_⟩
  simp
theorem reachable_spec (z : AsyV) (hz : isAsy z = true) (ho : AsyOk z) : ACalls1 Tryd.prog 104 [asySl z] (.own 1 true (orows false (sortR lexC (statesV z)))) := by
  have hf' := hz
  have hf := isAsy_facts hz
  have hs4 := hf.1.1
  have hp8 := hf.2.2.2.2.2
  have hsl := isGlob_len hf.2.2.1
  refine walkW (fun t => t == 1 || t == 1025 || t == 2047 || t == 6023) 25 mixed Go.Proofs.Tryd.func104 rfl rfl rfl (by kernel_rfl) rfl (by simp) (by kernel_rfl) ?_
  simp
  refine ⟨_, Clone_spec _ z.start (by unfold Fits; omega), ?_⟩
  simp
  refine awp_loop2 [1] [] (fun s : Nat × List (List Int) => [(4, iv s.1), (3, .ref 100)]) (fun s => [(100, .own 1 true (orows false s.2))]) (fun s => s.1 ≤ s.2.length ∧ GOk z s.2 ∧ gsB z (300 - s.1) s.1 s.2 = statesV z) (fun s => 300 - s.1) (0, [z.start]) (weak_mk (fun t => if t = 100 then some 11 else some t) (by simp) (by simp [orows]) rfl) ⟨by simp, gs_start hz, rfl⟩ ?_
  rintro ⟨i, L⟩ ⟨hi, hG, hr⟩
  simp only at hi hG hr
  have h256 := hG.le hf.1
  by_cases hlt : i < L.length
  · have hgo := gsB_go (z := z) hlt (by omega)
    have hcg := hG.gl _ (nthR_mem hlt)
    have hcl := isGlob_len hcg
    simp [hlt]
    refine ⟨_, length_spec _ _ ho.1.1, ?_⟩
    simp
    refine awp_loop2 [1, 4, 20] [] (fun s : Nat => [(21, iv s), (3, .ref 100)]) (fun s => [(100, .own 1 true (orows false (gsFo z (nthR L i) L s)))]) (fun s => s ≤ z.places.length) (fun s => z.places.length - s) 0 (weak_mk some (by simp) (by simp [gsFo_zero]) rfl) (by simp) ?_
    intro a ha
    have hok := gsFo_ok hf' hcg hG a ha
    obtain ⟨t, ht⟩ := gsFo_ext z (nthR L i) L a
    have hA256 := hok.le hf.1
    by_cases hal : a < z.places.length
    · have hsucc := gsFo_succ z (nthR L i) L a
      have hiA : i < (gsFo z (nthR L i) L a).length := by rw [ht, List.length_append]; omega
      have hat : nthR (gsFo z (nthR L i) L a) i = nthR L i := by rw [ht]; exact nthR_ext hlt
      generalize gsFo z (nthR L i) L a = A at *
      generalize nthR L i = c at *
      have hgs := fun r (hr : r ∈ A) => isGlob_len (hok.gl r hr)
      unfold gsSt at hsucc
      simp [hal]
      have hsp : A = A.take i ++ c :: A.drop (i + 1) := by rw [← hat, nthR_at hiA, ← List.drop_eq_getElem_cons hiA, List.take_append_drop]
      have hsl1 : (A.take i).length = i := by simp; omega
      generalize hA1 : A.take i = A1 at *
      generalize hA2 : A.drop (i + 1) = A2 at *
      have hcells : orows false A = orows false A1 ++ .own 1 false (ints c) :: orows false A2 := by rw [hsp]; simp [orows]
      rw [hcells]
      refine WkK.mk (weak_open (sz := 1) (s := 1) (nn := true) (nn' := false) (r := ints c) 100 500 (orows false A1) (orows false A2) (by simp) (by simp) ⟨by omega, by simp, by simp⟩) ?_
      simp [hsl1]
      repeat (rw [exE_eq]; simp [hsl1])
      refine ⟨_, move_spec z hz ho _ c (by omega) a hal, ?_⟩
      cases hs : stepV z c a with
      | none =>
        rw [hs] at hsucc
        simp only at hsucc
        simp
        first | refine ⟨⟨by kernel_rfl, by kernel_rfl⟩, ?_⟩ | exact ⟨by kernel_rfl, by kernel_rfl⟩
        refine WkK.mk (weak_close (sz := 1) (s := 1) (nn' := false) (r := ints c) 100 500 (orows false A1) (orows false A2) (by simp) (by simp) (by omega) (orows_nrf _ _) (orows_nrf _ _)) ?_
        rw [← hcells]
        simp [del']
        rw [wrap_id ((a : Int) + 1) (by omega) (by omega)]
        exact Round.mk (a + 1) (weak_mk some (by simp) (by simp [hsucc]) rfl) hal (by omega)
      | some g =>
        rw [hs] at hsucc
        simp only at hsucc
        have hgl := stepV_len hs
        simp
        first | refine ⟨⟨by kernel_rfl, by kernel_rfl⟩, ?_⟩ | exact ⟨by kernel_rfl, by kernel_rfl⟩
        refine WkK.mk (weak_close (sz := 1) (s := 1) (nn' := false) (r := ints c) 100 500 (orows false A1) (orows false A2) (by simp) (by simp) (by omega) (orows_nrf _ _) (orows_nrf _ _)) ?_
        rw [← hcells]
        simp [del']
        refine ⟨_, ContainsFuncR_spec true false A (by omega) 150 [.ip [.sl 1 false (ints g)]] (fun r => r == g) (fun r hr => reach1_spec false false r g (by have := hgs r hr; unfold Fits; omega)) rfl, ?_⟩
        have hany : (A.any fun r => r == g) = decide (g ∈ A) := by
          rw [Bool.eq_iff_iff]; simp
        rw [hany]
        by_cases hmem : g ∈ A
        · rw [if_pos hmem] at hsucc
          simp [hmem]
          rw [wrap_id ((a : Int) + 1) (by omega) (by omega)]
          exact Round.mk (a + 1) (weak_mk some (by simp) (by simp [hsucc]) rfl) hal (by omega)
        · rw [if_neg hmem] at hsucc
          simp [hmem]
          rw [wrap_id ((a : Int) + 1) (by omega) (by omega)]
          refine ⟨by omega, by omega, ?_⟩
          exact Round.mk (a + 1) (weak_mk (fun t => if t = 100 then some 44 else some t) (by simp) (by simp [hsucc]) rfl) hal (by omega)
    · obtain rfl : a = z.places.length := by omega
      simp
      rw [wrap_id ((i : Int) + 1) (by omega) (by omega)]
      exact Round.mk (i + 1, gsFo z (nthR L i) L z.places.length) (weak_mk some (by simp) (by simp) rfl) ⟨by simp only; rw [ht, List.length_append]; omega, hok, by rw [← hgo]; exact hr⟩ (by simp only; omega)
  · obtain rfl : i = L.length := by omega
    rw [gsB_end (by omega)] at hr
    subst hr
    simp
    refine ⟨_, _, SortFunc_spec lexC_tot true false (statesV z) (by omega) 117 (fun x hx y hy => by
      have hx' := isGlob_len (hG.gl x hx)
      have hy' := isGlob_len (hG.gl y hy)
      exact slCompare_spec _ _ _ _ (by unfold Fits; omega) (by unfold Fits; omega)), ?_⟩
    simp
theorem atMostList_spec (nn b : Bool) (rs : List (List Int)) (hl : rs.length < 1099511627776) : ACalls2 Tryd.prog 103 [.own 1 nn (orows b rs)] [.junk] (.tup [.own 1 false (orows b (if rs.length ≤ 64 then rs else [])), iv (if rs.length ≤ 64 then 0 else 3)]) := by
  refine walkJ (fun _ => false) [true] mixed Go.Proofs.Tryd.func103 rfl rfl rfl (by kernel_rfl) (by simp) (by simp) (by simp) (by kernel_rfl) ?_
  simp
  by_cases h : rs.length ≤ 64
  · simp [h, show ¬ (64 : Int) < (rs.length : Int) by omega, show (rs.length : Int) ≤ 64 by omega]
  · simp [h, show (64 : Int) < (rs.length : Int) by omega, show ¬ (rs.length : Int) ≤ 64 by omega]
    omega
theorem GlobalStates_spec (z : AsyV) (ho : AsyOk z) : ACalls1 Tryd.prog 46 [asySl z] (.tup [.own 1 false (orows false (globalStatesV z).1), iv (globalStatesV z).2]) := by
  refine walk (fun t => t == 1 || t == 2009) mixed Go.Proofs.Tryd.func46 rfl rfl rfl (by kernel_rfl) rfl (by simp) (by kernel_rfl) ?_
  simp
  refine ⟨_, IsAsynchronous_spec z ho, ?_⟩
  unfold globalStatesV
  cases hz : isAsy z
  · simp
  · have hok := states_ok hz
    have h256 := hok.le (isAsy_facts hz).1
    simp
    refine ⟨_, reachable_spec z hz ho, ?_⟩
    simp
    refine ⟨_, _, atMostList_spec true false _ (by simp; omega), ?_⟩
    by_cases hl : (statesV z).length ≤ 64
    · simp [hl]
    · simp [hl]
theorem total_leG (n : Nat) : ∀ (rs : List (List Int)), (∀ r ∈ rs, r.length ≤ n) → total rs ≤ n * rs.length
  | [], _ => by simp [total]
  | r :: rs, h => by
    have h1 := h r (by simp)
    have h2 := total_leG n rs (fun q hq => h q (by simp [hq]))
    simp only [total, List.map_cons, List.sum_cons, List.length_cons] at *
    rw [Nat.mul_succ]; omega
theorem GlobalStates_fits (z : AsyV) (ho : AsyOk z) : RowsOk (globalStatesV z).1 := by
  have hn : RowsOk ([] : List (List Int)) := ⟨by simp, by simp [total], by intro r h; cases h⟩
  unfold globalStatesV
  cases hz : isAsy z
  · exact hn
  · simp only [if_true]
    split
    · rename_i hl
      have hok := states_ok hz
      have hrow : ∀ r ∈ sortR lexC (statesV z), r.length ≤ 4 ∧ ∀ y ∈ r, 0 ≤ y ∧ y ≤ 3 := fun r hr => by
        have := glob_rng (isAsy_facts hz).1 (hok.gl r (sortR_mem.1 hr))
        have h4 := (isAsy_facts hz).1.1
        exact ⟨by omega, this.2⟩
      refine ⟨by simp; omega, ?_, fun r hr => ⟨by have := (hrow r hr).1; unfold Fits; omega, fun y hy => by have := (hrow r hr).2 y hy; unfold I64; omega⟩⟩
      have := total_leG 4 _ (fun r hr => (hrow r hr).1)
      rw [sortR_length] at this
      show total (sortR lexC (statesV z)) ≤ _
      omega
    · exact hn
end Go.AM
