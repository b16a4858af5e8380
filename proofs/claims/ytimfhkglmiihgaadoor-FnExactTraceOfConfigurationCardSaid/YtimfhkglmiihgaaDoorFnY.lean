/-
  Contracts: the smallest word of a configuration, in the other text; WordOfConfiguration.
-/
import Derived.Test.YtimfhkglmiihgaaDoorFnX
set_option linter.unusedVariables false
set_option linter.unusedSimpArgs false
set_option maxRecDepth 100000
set_option maxHeartbeats 1600000
namespace Go.AM
open Go.Proofs
theorem range_filter_succ (p : Nat → Bool) (k : Nat) : (List.range (k + 1)).filter p = if p k then (List.range k).filter p ++ [k] else (List.range k).filter p := by
  rw [List.range_succ, List.filter_append]
  by_cases hp : p k = true <;> simp [hp]
theorem l01Has_nil (nn : Bool) (n : Int) : ACalls1 Tryd.prog 144 [.sl 1 nn [], iv n] (bv false) := by
  have := (l01Has_spec nn [] (by simp [Fits]) n)
  simpa using this
theorem l16Word_spec (a0 a1 a2 : Bool) (x : StrucV) (hs : isStructureV x = true) (c : Int) (hc : isM x.labels.length c = true) : ACalls1 Tryd.prog 80 [strucSl a0 a1 a2 x, iv c] (.own 1 true (ints (wordC x c))) := by
  obtain ⟨h1, h2, h3⟩ := struc_len hs
  obtain ⟨hM, hb⟩ := isM_spec (by omega) hc
  have hcl := isM_lt h1 hc
  have hpc := popc_le c.toNat
  unfold wordC
  refine walk (fun t => t == 2) mixed Go.Proofs.Tryd.func80 rfl rfl rfl (by kernel_rfl) rfl (by simp) (by kernel_rfl) ?_
  simp
  refine ⟨_, l01Bits_spec c hM, ?_⟩
  generalize popc c.toNat = m at *
  simp
  refine awp_loop2 [1, 2] [] (fun k : Nat => [(7, iv ((m - k : Nat) : Int)), (5, .ref 500), (6, .ref 501)]) (fun k => [(500, .own 1 true (ints (wordS x c k).1)), (501, .own 1 false (ints (wordS x c k).2))]) (fun k => k ≤ m) (fun k => m - k) 0 (weak_mk (fun t => if t = 500 then some 12 else if t = 501 then some 13 else some t) (by simp) (by simp [wordS, ints]) rfl) (by simp) ?_
  intro k hk
  by_cases hlt : k < m
  · have hok := wordS_ok h1 c k
    have hol := okS_length h1 hok
    have hwl := wordS_length x c k
    have hnext : wordS x c (k + 1) = ((wordS x c k).1 ++ [(levelC x c (wordS x c k).2).1], (levelC x c (wordS x c k).2).2) := rfl
    unfold levelC at hnext
    generalize (wordS x c k).1 = out at *
    generalize (wordS x c k).2 = sets at *
    simp [show 0 < m - k by omega]
    refine awp_loop2 [1, 2, 5, 6, 7] [500, 501] (fun s : Nat × (Int × List Int) => [(10, iv s.1), (8, iv s.2.1), (9, .ref 502)]) (fun s => [(502, .own 1 true (ints s.2.2))]) (fun s => s.1 ≤ sets.length ∧ s.2 = (sets.take s.1).foldl (scanC x c) (8, []) ∧ okS x.labels.length s.2.2) (fun s => sets.length - s.1) (0, (8, [])) (weak_mk (fun t => if t = 502 then some 20 else some t) (by simp) (by simp) rfl) (by simp [okS_nil]) ?_
    rintro ⟨i, st⟩ ⟨hi, hst, hsk⟩
    simp only at hi hst hsk
    by_cases hil : i < sets.length
    · have hsm : isM x.labels.length (nth sets i) = true := hok.2 _ (nth_mem hil)
      obtain ⟨hsM, _⟩ := isM_spec (by omega) hsm
      have hsc : scanC x c st (nth sets i) = ((List.range x.labels.length).filter (canS x c (nth sets i))).foldl (stepC x (nth sets i)) st := rfl
      have hstn : (sets.take (i + 1)).foldl (scanC x c) (8, []) = scanC x c st (nth sets i) := by rw [foldl_take_succ _ _ _ _ hil, ← hst, nth_at hil]
      simp [hil]
      refine awp_loop2 [1, 2, 5, 6, 7, 10] [500, 501] (fun s : Nat × (Int × List Int) => [(11, iv s.1), (8, iv s.2.1), (9, .ref 502)]) (fun s => [(502, .own 1 true (ints s.2.2))]) (fun s => s.1 ≤ x.labels.length ∧ s.2 = ((List.range s.1).filter (canS x c (nth sets i))).foldl (stepC x (nth sets i)) st ∧ okS x.labels.length s.2.2) (fun s => x.labels.length - s.1) (0, st) (weak_mk some (by simp) (by simp) rfl) (by simpa using hsk) ?_
      rintro ⟨e, st'⟩ ⟨hj, hst', hsk'⟩
      simp only at hj hst' hsk'
      simp
      refine ⟨_, l16Size_spec _ _ _ x, ?_⟩
      by_cases hen : e < x.labels.length
      · have hkl := okS_length h1 hsk'
        have heb : e < x.below.length := by omega
        have hil' : i + 1 ≤ sets.length := hil
        have skip : canS x c (nth sets i) e = false → e + 1 ≤ x.labels.length ∧ st' = ((List.range (e + 1)).filter (canS x c (nth sets i))).foldl (stepC x (nth sets i)) st ∧ okS x.labels.length st'.2 := fun h => ⟨hen, by rw [range_filter_succ, h]; exact hst', hsk'⟩
        have go : canS x c (nth sets i) e = true → ∀ st'', st'' = stepC x (nth sets i) st' e → e + 1 ≤ x.labels.length ∧ st'' = ((List.range (e + 1)).filter (canS x c (nth sets i))).foldl (stepC x (nth sets i)) st ∧ okS x.labels.length st''.2 := fun h st'' h' => ⟨hen, by
          rw [range_filter_succ, if_pos h, List.foldl_append, ← hst', h']; rfl, by
          rw [h']; exact stepC_ok h1 hsm hen hsk'⟩
        simp [hen]
        refine ⟨_, l01Bit_spec c hM e (by omega), ?_⟩
        cases hb1 : tb c e
        · simp [wrap_id ((e : Int) + 1) (by omega) (by omega)]
          exact Round.mk ((e + 1, st')) (weak_mk some (by simp) (by simp) rfl) (skip (by simp [canS, hb1])) (by simp only; omega)
        · simp [hil, hil']
          rw [exE_eq]
          simp [hil, hil']
          refine ⟨_, l01Bit_spec (nth sets i) hsM e (by omega), ?_⟩
          cases hb2 : tb (nth sets i) e
          · by_cases hA : ibits .andNot .i64 (nth x.below e) (nth sets i) = 0
            · have hcan : canS x c (nth sets i) e = true := by simp [canS, hb1, hb2, hA]
              by_cases hL : nth x.labels e < st'.1
              · simp [hil, hil', hen, heb, hA, hL, show ¬ st'.1 < nth x.labels e by omega]
                repeat (rw [exE_eq]; simp [hil, hil', hen, heb, hA, hL, show ¬ st'.1 < nth x.labels e by omega])
                refine ⟨_, l01One_spec e (by unfold I64; omega), ?_⟩
                simp
                refine ⟨_, l01Has_nil _ _, ?_⟩
                simp [hil, hil']
                repeat (rw [exE_eq]; simp [hil, hil'])
                refine ⟨_, l01One_spec e (by unfold I64; omega), ?_⟩
                simp [wrap_id ((e : Int) + 1) (by omega) (by omega)]
                repeat (refine And.intro (by first | omega | exact ⟨by kernel_rfl, by kernel_rfl⟩) ?_)
                exact Round.mk (e + 1, (nth x.labels e, [ibits .or .i64 (nth sets i) (pow1 e)])) (weak_mk (fun t => if t = 502 then some 99 else some t) (by simp) (by simp [ints]) rfl) (go hcan _ (by unfold stepC; rw [if_pos hL])) (by simp only; omega)
              · by_cases hE : nth x.labels e = st'.1
                · by_cases hIn : ibits .or .i64 (nth sets i) (pow1 e) ∈ st'.2
                  · simp [hil, hil', hen, heb, hA, hL, hE]
                    repeat (rw [exE_eq]; simp [hil, hil', hen, heb, hA, hL, hE])
                    refine ⟨_, l01One_spec e (by unfold I64; omega), ?_⟩
                    simp
                    refine ⟨_, l01Has_spec _ _ (by unfold Fits; omega) _, ?_⟩
                    simp [hIn, wrap_id ((e : Int) + 1) (by omega) (by omega)]
                    exact Round.mk ((e + 1, st')) (weak_mk some (by simp) (by simp) rfl) (go hcan _ (by unfold stepC; rw [if_neg hL, if_pos hE, if_pos hIn])) (by simp only; omega)
                  · simp [hil, hil', hen, heb, hA, hL, hE]
                    repeat (rw [exE_eq]; simp [hil, hil', hen, heb, hA, hL, hE])
                    refine ⟨_, l01One_spec e (by unfold I64; omega), ?_⟩
                    simp
                    refine ⟨_, l01Has_spec _ _ (by unfold Fits; omega) _, ?_⟩
                    simp [hIn, hil, hil']
                    repeat (rw [exE_eq]; simp [hIn, hil, hil'])
                    refine ⟨_, l01One_spec e (by unfold I64; omega), ?_⟩
                    simp [wrap_id ((e : Int) + 1) (by omega) (by omega)]
                    repeat (refine And.intro (by first | omega | exact ⟨by kernel_rfl, by kernel_rfl⟩) ?_)
                    exact Round.mk (e + 1, (st'.1, st'.2 ++ [ibits .or .i64 (nth sets i) (pow1 e)])) (weak_mk (fun t => if t = 502 then some 99 else some t) (by simp) (by simp) rfl) (go hcan _ (by unfold stepC; rw [if_neg hL, if_pos hE, if_neg hIn])) (by simp only; omega)
                · simp [hil, hil', hen, heb, hA, show st'.1 < nth x.labels e by omega, wrap_id ((e : Int) + 1) (by omega) (by omega)]
                  repeat (rw [exE_eq]; simp [hil, hil', hen, heb, hA, show st'.1 < nth x.labels e by omega, wrap_id ((e : Int) + 1) (by omega) (by omega)])
                  exact Round.mk ((e + 1, st')) (weak_mk some (by simp) (by simp) rfl) (go hcan _ (by unfold stepC; rw [if_neg hL, if_neg hE])) (by simp only; omega)
            · simp [hil, hil', hen, heb, hA, wrap_id ((e : Int) + 1) (by omega) (by omega)]
              repeat (rw [exE_eq]; simp [hil, hil', hen, heb, hA, wrap_id ((e : Int) + 1) (by omega) (by omega)])
              exact Round.mk ((e + 1, st')) (weak_mk some (by simp) (by simp) rfl) (skip (by simp [canS, hA])) (by simp only; omega)
          · simp [wrap_id ((e : Int) + 1) (by omega) (by omega)]
            exact Round.mk ((e + 1, st')) (weak_mk some (by simp) (by simp) rfl) (skip (by simp [canS, hb2])) (by simp only; omega)
      · obtain rfl : e = x.labels.length := by omega
        rw [← hsc] at hst'
        simp [wrap_id ((i : Int) + 1) (by omega) (by omega)]
        exact Round.mk ((i + 1, st')) (weak_mk some (by simp) (by simp) rfl) ⟨hil, by rw [hstn]; exact hst', hsk'⟩ (by simp only; omega)
    · obtain rfl : i = sets.length := by omega
      rw [List.take_length] at hst
      rw [← hst] at hnext
      simp
      repeat (refine And.intro (by omega) ?_)
      refine Round.mk (k + 1) (weak_mk (fun t => if t = 500 then some 103 else if t = 501 then some 502 else some t) ?_ ?_ rfl) hlt ?_
      · simp
        exact (wrap_id _ (by omega) (by omega)).trans (by omega)
      · simp [hnext]
      · omega
  · obtain rfl : k = m := by omega
    simp
def wordOfConfigurationV (x : StrucV) (c : Int) : List Int × Int := if maskCode x c = 0 then (wordC x c, 0) else ([], maskCode x c)
theorem wordC_length (x : StrucV) (c : Int) : (wordC x c).length ≤ c.toNat := by
  unfold wordC; rw [wordS_length]; exact popc_le _
theorem stepC_lab {x : StrucV} {s : Int} {st : Int × List Int} {e : Nat} (h0 : ∀ y ∈ x.labels, 0 ≤ y ∧ y ≤ 7) (he : e < x.labels.length) (h : 0 ≤ st.1 ∧ st.1 ≤ 8) : 0 ≤ (stepC x s st e).1 ∧ (stepC x s st e).1 ≤ 8 := by
  have := h0 _ (nth_mem he)
  unfold stepC
  split
  · simp only; omega
  · split
    · split <;> exact h
    · exact h
theorem foldC_lab {x : StrucV} {s : Int} (h0 : ∀ y ∈ x.labels, 0 ≤ y ∧ y ≤ 7) : ∀ (l : List Nat) {st : Int × List Int}, (∀ e ∈ l, e < x.labels.length) → (0 ≤ st.1 ∧ st.1 ≤ 8) → 0 ≤ (l.foldl (stepC x s) st).1 ∧ (l.foldl (stepC x s) st).1 ≤ 8
  | [], st, _, h => h
  | e :: l, st, hl, h => foldC_lab h0 l (fun f hf => hl f (by simp [hf])) (stepC_lab h0 (hl e (by simp)) h)
theorem scans_lab {x : StrucV} {c : Int} (h0 : ∀ y ∈ x.labels, 0 ≤ y ∧ y ≤ 7) : ∀ (l : List Int) {st : Int × List Int}, (0 ≤ st.1 ∧ st.1 ≤ 8) → 0 ≤ (l.foldl (scanC x c) st).1 ∧ (l.foldl (scanC x c) st).1 ≤ 8
  | [], st, h => h
  | s :: l, st, h => scans_lab h0 l (foldC_lab h0 _ (fun e he => (candL_mem he).1) h)
theorem wordS_lab {x : StrucV} {c : Int} (h0 : ∀ y ∈ x.labels, 0 ≤ y ∧ y ≤ 7) : ∀ k, ∀ y ∈ (wordS x c k).1, 0 ≤ y ∧ y ≤ 8
  | 0, y, hy => by simp [wordS] at hy
  | k + 1, y, hy => by
    simp only [wordS, List.mem_append, List.mem_singleton] at hy
    rcases hy with hy | rfl
    · exact wordS_lab h0 k y hy
    · exact scans_lab h0 _ (by simp)
theorem struc_lab {x : StrucV} (hs : isStructureV x = true) : ∀ y ∈ x.labels, 0 ≤ y ∧ y ≤ 7 := fun y hy => by
  have := (struc_rel hs).2.2.1
  rw [List.all_eq_true] at this
  simpa using this y hy
theorem WordOfConfiguration_fits (x : StrucV) (hx : StructureOk x) (c : Int) (hc : I64 c) : ListOk (wordOfConfigurationV x c).1 := by
  unfold wordOfConfigurationV
  split
  · rename_i h
    obtain ⟨hs, hb, hcf, _⟩ := maskCode_zero h
    obtain ⟨h1, h2, h3⟩ := struc_len hs
    have hl := wordC_length x c
    have := isM_lt h1 hb
    refine ⟨by simp only [Fits]; omega, fun y hy => ?_⟩
    have := wordS_lab (struc_lab hs) (popc c.toNat) y hy
    unfold I64; omega
  · simp [ListOk, Fits]
end Go.AM
