/-
  GlobalAutomaton: the reference.
-/
import Derived.Test.YtnimmbjbinpajaaDoorFnNq
import Derived.Test.YtnimmbjbinpajaaDoorFnNm
import Derived.Test.YtnimmbjbinpajaaDoorFnMgC
import Derived.Test.YtnimmbjbinpajaaDoorFnNn
set_option linter.unusedVariables false
set_option linter.unusedSimpArgs false
set_option linter.unusedSectionVars false
set_option maxRecDepth 100000
set_option maxHeartbeats 1600000
namespace Go.AM
open Go.Proofs
def stIx (z : AsyV) (g : List Int) : Nat := (statesV z).findIdx (· == g)
def rowZ (z : AsyV) (g : List Int) (n : Nat) : List Int := (List.range n).map fun a => match stepV z g a with | none => -1 | some g' => (stIx z g' : Int)
theorem rowZ_succ (z : AsyV) (g : List Int) (n : Nat) : rowZ z g (n + 1) = rowZ z g n ++ [match stepV z g n with | none => -1 | some g' => (stIx z g' : Int)] := by simp [rowZ, List.range_succ]
@[simp] theorem rowZ_length (z : AsyV) (g : List Int) (n : Nat) : (rowZ z g n).length = n := by simp [rowZ]
/-- The machine of the global states, as the reference numbers them. -/
def refZ (z : AsyV) : MchV := ⟨z.places.length, (statesV z).map fun g => decide (g ∈ z.final), (statesV z).map fun g => rowZ z g z.places.length⟩
theorem statesV_ok {z : AsyV} (hz : isAsy z = true) : GOk z (statesV z) := gsB_ok hz 300 0 _ (gs_start hz)
theorem stIx_at {z : AsyV} (hz : isAsy z = true) {k : Nat} (hk : k < (statesV z).length) : stIx z (nthR (statesV z) k) = k := by
  have hnd := (statesV_ok hz).nd
  unfold stIx
  rw [List.findIdx_eq hk]
  refine ⟨by rw [nthR_at hk]; simp, fun j hj => ?_⟩
  rw [nthR_at hk]
  simp only [beq_eq_false_iff_ne, ne_eq]
  intro e
  have := (List.getElem_inj hnd).1 e
  omega
theorem gsB_ext {z : AsyV} : ∀ (f i : Nat) (L : List (List Int)), ∃ t, gsB z f i L = L ++ t
  | 0, i, L => ⟨[], by simp [gsB]⟩
  | f + 1, i, L => by
    unfold gsB
    split
    · obtain ⟨t, ht⟩ := gsFo_ext z (nthR L i) L z.places.length
      obtain ⟨t', ht'⟩ := gsB_ext (z := z) f (i + 1) (gsFo z (nthR L i) L z.places.length)
      exact ⟨t ++ t', by rw [ht', ht, List.append_assoc]⟩
    · exact ⟨[], by simp⟩
theorem gsFo_mono {z : AsyV} (c : List Int) (L : List (List Int)) (a : Nat) : ∀ d, ∃ t, gsFo z c L (a + d) = gsFo z c L a ++ t
  | 0 => ⟨[], by simp⟩
  | d + 1 => by
    obtain ⟨t, ht⟩ := gsFo_mono (z := z) c L a d
    obtain ⟨t', ht'⟩ := gsSt_ext z c (gsFo z c L (a + d)) (a + d)
    exact ⟨t ++ t', by rw [← Nat.add_assoc, gsFo_succ, ht', ht, List.append_assoc]⟩
theorem gsFo_mem {z : AsyV} {c g : List Int} {L : List (List Int)} {a n : Nat} (ha : a < n) (hs : stepV z c a = some g) : g ∈ gsFo z c L n := by
  obtain ⟨t, ht⟩ := gsFo_mono (z := z) c L (a + 1) (n - (a + 1))
  rw [show a + 1 + (n - (a + 1)) = n by omega] at ht
  rw [ht]
  refine List.mem_append_left _ ?_
  rw [gsFo_succ]
  unfold gsSt
  rw [hs]
  simp only
  split
  · assumption
  · simp
def ClZ (z : AsyV) (i : Nat) (L : List (List Int)) : Prop := ∀ j, j < i → j < L.length → ∀ a, a < z.places.length → ∀ g, stepV z (nthR L j) a = some g → g ∈ L
theorem gsB_cl {z : AsyV} : ∀ (f i : Nat) (L : List (List Int)), ClZ z i L → 300 ≤ f + i → (gsB z f i L).length ≤ 256 → ∃ i', (gsB z f i L).length ≤ i' ∧ ClZ z i' (gsB z f i L)
  | 0, i, L, hc, hf, hl => ⟨i, by simp only [gsB] at hl ⊢; omega, hc⟩
  | f + 1, i, L, hc, hf, hl => by
    rw [gsB] at hl ⊢
    split at hl
    · rename_i hi
      rw [if_pos hi]
      obtain ⟨t, ht⟩ := gsFo_ext z (nthR L i) L z.places.length
      refine gsB_cl f (i + 1) _ (fun j hj hjl a ha g hg => ?_) (by omega) hl
      by_cases e : j = i
      · subst e
        rw [ht, nthR_ext hi] at hg
        exact gsFo_mem ha hg
      · have hjL : j < L.length := by omega
        rw [ht, nthR_ext hjL] at hg
        rw [ht]
        exact List.mem_append_left _ (hc j (by omega) hjL a ha g hg)
    · rename_i hi
      rw [if_neg hi]
      exact ⟨i, by omega, hc⟩
section
variable {z : AsyV} (hz : isAsy z = true)
include hz
theorem states_cl {j a : Nat} (hj : j < (statesV z).length) (ha : a < z.places.length) {g : List Int} (hs : stepV z (nthR (statesV z) j) a = some g) : g ∈ statesV z := by
  have hle := (statesV_ok hz).le (isAsy_facts hz).1
  obtain ⟨i', h1, h2⟩ := gsB_cl (z := z) 300 0 [z.start] (fun j hj => by omega) (by omega) hle
  exact h2 j (by unfold statesV at hj; omega) hj a ha g hs
theorem states_start : 0 < (statesV z).length ∧ nthR (statesV z) 0 = z.start := by
  obtain ⟨t, ht⟩ := gsB_ext (z := z) 300 0 [z.start]
  unfold statesV
  rw [ht]
  exact ⟨by simp, rfl⟩
theorem refZ_go {j a : Nat} (hj : j < (statesV z).length) (ha : a < z.places.length) : (stepV z (nthR (statesV z) j) a = none ∧ goV (refZ z) j a = -1) ∨ ∃ g k, stepV z (nthR (statesV z) j) a = some g ∧ goV (refZ z) j a = ((k : Nat) : Int) ∧ k < (statesV z).length ∧ nthR (statesV z) k = g := by
  have e : goV (refZ z) j a = match stepV z (nthR (statesV z) j) a with | none => -1 | some g' => (stIx z g' : Int) := by
    unfold goV refZ
    simp only
    rw [nthR_at (by simpa using hj), List.getElem_map, nth_at (by simp [rowZ]; exact ha), nthR_at hj]
    simp [rowZ]
  rw [e]
  cases hs : stepV z (nthR (statesV z) j) a with
  | none => left; exact ⟨rfl, rfl⟩
  | some g =>
    right
    obtain ⟨k, hk, e2⟩ := List.mem_iff_getElem.1 (states_cl hz hj ha hs)
    have e3 : nthR (statesV z) k = g := by rw [nthR_at hk]; exact e2
    exact ⟨g, k, rfl, by rw [← e3]; show ((stIx z _ : Nat) : Int) = _; rw [stIx_at hz hk], hk, e3⟩
theorem refZ_ok : MchOk (refZ z) ∧ (refZ z).next.length = (statesV z).length ∧ langV (refZ z) 0 = sysLang (asyS z) (toK z.start) := by
  have hf := isAsy_facts hz
  have hG := statesV_ok hz
  have hnl : (refZ z).next.length = (statesV z).length := by simp [refZ]
  have hok : MchOk (refZ z) := by
    refine ⟨by simp [refZ], fun i hi => ?_, fun i hi a ha => ?_⟩
    · rw [hnl] at hi
      unfold refZ
      simp only
      rw [nthR_at (by simpa using hi), List.getElem_map, rowZ_length]
    · rw [hnl] at hi
      rcases refZ_go hz hi ha with ⟨_, h⟩ | ⟨g, k, _, h, h2, _⟩
      · rw [h]; omega
      · rw [h]; omega
  refine ⟨hok, hnl, ?_⟩
  have hkey : ∀ j, j < (statesV z).length → ofK (toK (nthR (statesV z) j)) = nthR (statesV z) j := fun j hj => of_to (glob_rng hf.1 (hG.gl _ (nthR_mem hj))).2
  have key : ∀ w (j : Nat), j < (statesV z).length → langV (refZ z) (j : Int) w = sysLang (asyS z) (toK (nthR (statesV z) j)) w := by
    intro w
    induction w with
    | nil =>
      intro j hj
      simp only [langV, finV, sysLang]
      rw [if_neg (by omega), Int.toNat_natCast]
      simp only [asyS, hkey j hj]
      simp [refZ, hj, nthR_at hj]
    | cons a w ih =>
      intro j hj
      simp only [langV, sysLang]
      rw [if_neg (by omega), Int.toNat_natCast]
      by_cases ha : a < z.places.length
      · rw [if_pos (show a < (refZ z).letters from ha), if_pos (show a < (asyS z).L from ha)]
        rcases refZ_go hz hj ha with ⟨h0, h⟩ | ⟨g, k, h0, h, k2, k3⟩
        · rw [h, lang_neg _ (by omega) w]
          simp [asyS, hkey j hj, h0]
        · rw [h, ih k k2, k3]
          simp [asyS, hkey j hj, h0]
      · rw [if_neg (show ¬ a < (refZ z).letters from ha), if_neg (show ¬ a < (asyS z).L from ha)]
  funext w
  obtain ⟨h0, hs⟩ := states_start hz
  have := key w 0 h0
  rw [hs] at this
  exact this
end
theorem l14Reached2_spec (z : AsyV) (hz : isAsy z = true) (ho : AsyOk z) : ACalls1 Tryd.prog 128 [asySl z] (.tup [.own 1 true (srows true (statesV z)), .own 1 true (orows true ((statesV z).map fun g => rowZ z g z.places.length))]) := by
  have hf' := hz
  have hf := isAsy_facts hz
  have hs4 := hf.1.1
  have hp8 := hf.2.2.2.2.2
  have hsl := isGlob_len hf.2.2.1
  refine walk (fun t => t == 1 || t == 3014 || t == 1032 || t == 3038) mixed Go.Proofs.Tryd.func128 rfl rfl rfl (by kernel_rfl) rfl (by simp) (by kernel_rfl) ?_
  simp
  refine ⟨_, l01Own_spec _ z.start (by unfold Fits; omega), ?_⟩
  simp
  refine awp_loop2 [1] [] (fun s : Nat × List (List Int) => [(6, iv s.1), (4, .ref 100), (5, .ref 101)]) (fun s => [(100, .own 1 true (srows true s.2)), (101, .own 1 true (orows true (((statesV z).take s.1).map fun g => rowZ z g z.places.length)))]) (fun s => s.1 ≤ s.2.length ∧ GOk z s.2 ∧ gsB z (300 - s.1) s.1 s.2 = statesV z) (fun s => 300 - s.1) (0, [z.start]) (weak_mk (fun t => if t = 100 then some 15 else if t = 101 then some 16 else some t) (by simp) (by simp [srows]) rfl) ⟨by simp, gs_start hz, rfl⟩ ?_
  rintro ⟨i, L⟩ ⟨hi, hG, hr⟩
  simp only at hi hG hr
  have h256 := hG.le hf.1
  by_cases hlt : i < L.length
  · have hgo := gsB_go (z := z) hlt (by omega)
    have hcg := hG.gl _ (nthR_mem hlt)
    have hcl := isGlob_len hcg
    obtain ⟨tL, htL⟩ := gsB_ext (z := z) (300 - i) i L
    rw [hr] at htL
    have hiS : i < (statesV z).length := by rw [htL, List.length_append]; omega
    have hT : ((statesV z).take (i + 1)).map (fun g => rowZ z g z.places.length) = ((statesV z).take i).map (fun g => rowZ z g z.places.length) ++ [rowZ z (nthR L i) z.places.length] := by
      have hci : nthR (statesV z) i = nthR L i := by rw [htL]; exact nthR_ext hlt
      rw [List.take_succ_eq_append_getElem hiS, List.map_append, List.map_cons, List.map_nil, ← nthR_at hiS, hci]
    have hTl : (((statesV z).take i).map (fun g => rowZ z g z.places.length)).length = i := by simp; omega
    have hpre : ∀ a, a ≤ z.places.length → ∃ t, statesV z = gsFo z (nthR L i) L a ++ t := fun a ha => by
      obtain ⟨t1, h1⟩ := gsFo_mono (z := z) (nthR L i) L a (z.places.length - a)
      obtain ⟨t2, h2⟩ := gsB_ext (z := z) (300 - (i + 1)) (i + 1) (gsFo z (nthR L i) L z.places.length)
      rw [show a + (z.places.length - a) = z.places.length by omega] at h1
      refine ⟨t1 ++ t2, ?_⟩
      rw [← hr, hgo, h2, h1, List.append_assoc]
    clear htL
    generalize ((statesV z).take i).map (fun g => rowZ z g z.places.length) = N at *
    generalize hN2 : ((statesV z).take (i + 1)).map (fun g => rowZ z g z.places.length) = N2 at *
    have hN3 : List.take (i + 1) (List.map (fun g => rowZ z g z.places.length) (statesV z)) = N2 := by rw [← List.map_take]; exact hN2
    simp [hlt]
    refine awp_loop2 [1, 5, 6] [101] (fun a : Nat => [(8, iv a), (4, .ref 100), (7, .ref 102)]) (fun a => [(100, .own 1 true (srows true (gsFo z (nthR L i) L a))), (102, .own 1 true (ints (rowZ z (nthR L i) a)))]) (fun a => a ≤ z.places.length) (fun a => z.places.length - a) 0 (weak_mk (fun t => if t = 102 then some 23 else some t) (by simp) (by simp [gsFo_zero, rowZ]) rfl) (by simp) ?_
    intro a ha
    have hok := gsFo_ok hf' hcg hG a ha
    obtain ⟨t, ht⟩ := gsFo_ext z (nthR L i) L a
    have hA256 := hok.le hf.1
    have hpa := hpre a ha
    by_cases hal : a < z.places.length
    · have hsucc := gsFo_succ z (nthR L i) L a
      have hps := hpre (a + 1) hal
      have hrowS := rowZ_succ z (nthR L i) a
      have hiA : i < (gsFo z (nthR L i) L a).length := by rw [ht, List.length_append]; omega
      have hat : nthR (gsFo z (nthR L i) L a) i = nthR L i := by rw [ht]; exact nthR_ext hlt
      clear hpre ht
      generalize gsFo z (nthR L i) L a = A at *
      generalize nthR L i = c at *
      have hgs := fun r (hr : r ∈ A) => isGlob_len (hok.gl r hr)
      unfold gsSt at hsucc
      simp [hal, hiA, hat, show i + 1 ≤ A.length from hiA]
      repeat (rw [exE_eq]; simp [hal, hiA, hat, show i + 1 ≤ A.length from hiA])
      refine ⟨_, l14Step_spec z hz ho _ c (by omega) a hal, ?_⟩
      cases hs : stepV z c a with
      | none =>
        rw [hs] at hsucc hrowS
        simp only at hsucc hrowS
        simp
        first | refine ⟨⟨by kernel_rfl, by kernel_rfl⟩, ?_⟩ | exact ⟨by kernel_rfl, by kernel_rfl⟩
        rw [wrap_id ((a : Int) + 1) (by omega) (by omega)]
        refine ⟨by omega, by omega, ?_⟩
        exact Round.mk (a + 1) (weak_mk (fun t => if t = 102 then some 45 else some t) (by simp) (by simp [hsucc, hrowS]) rfl) hal (by omega)
      | some g =>
        rw [hs] at hsucc hrowS
        simp only at hsucc hrowS
        have hgl := stepV_len hs
        simp
        first | refine ⟨⟨by kernel_rfl, by kernel_rfl⟩, ?_⟩ | exact ⟨by kernel_rfl, by kernel_rfl⟩
        refine awp_loop2 [1, 4, 5, 6, 7, 8, 9] [100, 101, 102] (fun k : Nat => [(11, iv k)]) (fun _ => []) (fun k => k ≤ A.length ∧ ∀ j, j < k → nthR A j ≠ g) (fun k => A.length - k) 0 (weak_mk some (by simp) (by simp) rfl) (by simp) ?_
        rintro k ⟨hk, hall⟩
        by_cases hkl : k < A.length
        · have hkg := hgs _ (nthR_mem hkl)
          simp [hkl, show k + 1 ≤ A.length from hkl]
          refine ⟨_, l01Same_spec _ _ _ _ (by unfold Fits; omega) (by unfold Fits; omega), ?_⟩
          by_cases he : nthR A k = g
          · have hmem : g ∈ A := by rw [← he]; exact nthR_mem hkl
            rw [if_pos hmem] at hsucc
            have hst : stIx z g = k := by
              obtain ⟨t, ht⟩ := hpa
              rw [← he, ← nthR_ext (t := t) hkl, ← ht]
              exact stIx_at hz (by rw [ht, List.length_append]; omega)
            rw [hst] at hrowS
            simp [he, show ¬ ((k : Int) = (A.length : Int)) by omega, show ¬ k = A.length by omega]
            rw [wrap_id ((a : Int) + 1) (by omega) (by omega)]
            refine ⟨by omega, by omega, ?_⟩
            exact Round.mk (a + 1) (weak_mk (fun t => if t = 102 then some 72 else some t) (by simp) (by simp [hsucc, hrowS]) rfl) hal (by omega)
          · simp [he]
            rw [wrap_id ((k : Int) + 1) (by omega) (by omega)]
            refine Round.mk (k + 1) (weak_mk some (by simp) (by simp) rfl) ⟨hkl, fun j hj => ?_⟩ (by omega)
            by_cases e : j = k
            · subst e; exact he
            · exact hall j (by omega)
        · obtain rfl : k = A.length := by omega
          have hmem : ¬ g ∈ A := fun hm => by
            obtain ⟨j, hj, e⟩ := List.mem_iff_getElem.1 hm
            exact hall j hj (by rw [nthR_at hj]; exact e)
          rw [if_neg hmem] at hsucc
          have hst : stIx z g = A.length := by
            obtain ⟨t, ht⟩ := hps
            rw [hsucc] at ht
            have hl2 : A.length < (A ++ [g]).length := by simp
            have e : nthR (A ++ [g]) A.length = g := by rw [nthR_at hl2]; simp
            rw [← e, ← nthR_ext (t := t) hl2, ← ht]
            exact stIx_at hz (by rw [ht, List.length_append]; omega)
          rw [hst] at hrowS
          simp
          rw [wrap_id ((a : Int) + 1) (by omega) (by omega)]
          refine ⟨by omega, by omega, by omega, by omega, ?_⟩
          exact Round.mk (a + 1) (weak_mk (fun t => if t = 102 then some 72 else if t = 100 then some 68 else some t) (by simp) (by simp [hsucc, hrowS]) rfl) hal (by omega)
    · obtain rfl : a = z.places.length := by omega
      simp
      rw [wrap_id ((i : Int) + 1) (by omega) (by omega)]
      refine ⟨by omega, by omega, ?_⟩
      exact Round.mk (i + 1, gsFo z (nthR L i) L z.places.length) (weak_mk (fun t => if t = 101 then some 76 else some t) (by simp) (by simp [hN3, hT]) rfl) ⟨by simp only; rw [ht, List.length_append]; omega, hok, by rw [← hgo]; exact hr⟩ (by simp only; omega)
  · obtain rfl : i = L.length := by omega
    rw [gsB_end (by omega)] at hr
    rw [← hr, List.take_length]
    simp
theorem l14Machine_spec (z : AsyV) (hz : isAsy z = true) (ho : AsyOk z) : ACalls1 Tryd.prog 53 [asySl z] (.agg [iv z.places.length, .own 1 false (orows true (refZ z).next), .own 1 false (bls (refZ z).fin)]) := by
  have hf := isAsy_facts hz
  have hG := statesV_ok hz
  have h256 := hG.le hf.1
  have hsz := hf.1.1
  have hpl := hf.2.2.2.2.2
  have hR := l14Reached2_spec z hz ho
  have hfin : (refZ z).fin = (statesV z).map fun g => decide (g ∈ z.final) := rfl
  have hnx : (refZ z).next = (statesV z).map fun g => rowZ z g z.places.length := rfl
  rw [hfin, hnx]
  generalize ((statesV z).map fun g => rowZ z g z.places.length) = N at *
  have hgl := fun g (hg : g ∈ statesV z) => isGlob_len (hG.gl g hg)
  generalize statesV z = S at *
  refine walk (fun t => t == 1 || t == 1023) mixed Go.Proofs.Tryd.func53 rfl rfl rfl (by kernel_rfl) rfl (by simp) (by kernel_rfl) ?_
  simp
  refine ⟨_, hR, ?_⟩
  simp
  refine awp_loop2 [1, 2, 3, 5] [2, 10000] (fun i : Nat => [(6, iv i)]) (fun i => [(5, .box [iv z.places.length, .ref 300, .ref 301]), (300, .own 1 false (orows true N)), (301, .own 1 false (bls ((S.take i).map fun g => decide (g ∈ z.final))))]) (fun i => i ≤ S.length) (fun i => S.length - i) 0 (weak_mk (fun t => if t = 300 then some 10001 else if t = 301 then none else some t) (by simp) (by simp) rfl) (by simp) ?_
  intro i hi
  by_cases hlt : i < S.length
  · have hT : (S.take (i + 1)).map (fun g => decide (g ∈ z.final)) = (S.take i).map (fun g => decide (g ∈ z.final)) ++ [decide (nthR S i ∈ z.final)] := by
      rw [List.take_succ_eq_append_getElem hlt, List.map_append, List.map_cons, List.map_nil, nthR_at hlt]
    have hg := hgl _ (nthR_mem hlt)
    simp [hlt]
    repeat (rw [exE_eq]; simp [hlt])
    refine ⟨hlt, _, l14Final_spec z ho true (nthR S i) (by unfold Fits; omega), ?_⟩
    simp
    refine ⟨by omega, by omega, ?_⟩
    first | refine ⟨⟨by kernel_rfl, by kernel_rfl⟩, ?_⟩ | exact ⟨by kernel_rfl, by kernel_rfl⟩
    simp only [wrap_id ((i : Int) + 1) (by omega) (by omega)]
    have hT2 := hT
    simp only [List.map_take] at hT2
    exact Round.mk (i + 1) (weak_mk (fun t => if t = 301 then some 32 else some t) (by simp) (by simp [hT2]) rfl) hlt (by omega)
  · obtain rfl : i = S.length := by omega
    rw [List.take_length]
    simp
theorem GlobalAutomaton_fits (z : AsyV) (ho : AsyOk z) : AutomatonOk (globalAutV z).1 := by
  unfold globalAutV
  split
  · rename_i hz
    obtain ⟨h1, h2, h3⟩ := refZ_ok hz
    have h0 := (states_start hz).1
    have := autL_ok h1 (s := 0) (by omega) (isAsy_facts hz).2.2.2.2.2
    rw [show ((0 : Nat) : Int) = 0 from rfl, h3] at this
    exact this
  · exact zero_aut_ok
theorem specGlobalAutomaton_spec (z : AsyV) (ho : AsyOk z) : ACalls1 Tryd.prog 14 [asySl z] (.tup [autOw false true (globalAutV z).1, iv (globalAutV z).2]) := by
  refine walk (fun t => t == 1) mixed Go.Proofs.Tryd.func14 rfl rfl rfl (by kernel_rfl) rfl (by simp) (by kernel_rfl) ?_
  simp
  refine ⟨_, specIsAsynchronous_spec z ho, ?_⟩
  unfold globalAutV
  cases hz : isAsy z
  · simp
  · obtain ⟨h1, h2, h3⟩ := refZ_ok hz
    have h0 := (states_start hz).1
    have h256 := (statesV_ok hz).le (isAsy_facts hz).1
    have hMin := l11Minimal_spec false true false (refZ z) h1 (by omega) (isAsy_facts hz).2.2.2.2.2 (by omega)
    rw [h3, show (refZ z).letters = z.places.length from rfl] at hMin
    simp
    refine ⟨_, l14Machine_spec z hz ho, ?_⟩
    simp
    refine ⟨_, hMin, ?_⟩
    have hA : autL z.places.length (sysLang (asyS z) (toK z.start)) = if (canM z.places.length (sysLang (asyS z) (toK z.start))).next.length ≤ 16 then (⟨z.places.length, 0, finM (canM z.places.length (sysLang (asyS z) (toK z.start))).fin (canM z.places.length (sysLang (asyS z) (toK z.start))).fin.length, (canM z.places.length (sysLang (asyS z) (toK z.start))).next⟩, 0) else (⟨0, 0, 0, []⟩, 3) := rfl
    by_cases h16 : (canM z.places.length (sysLang (asyS z) (toK z.start))).next.length ≤ 16
    · rw [if_pos h16] at hA
      simp [hA, show ¬ (16 : Int) < ((canM z.places.length (sysLang (asyS z) (toK z.start))).next.length : Int) by omega, show ((canM z.places.length (sysLang (asyS z) (toK z.start))).next.length : Int) ≤ 16 by omega]
    · rw [if_neg h16] at hA
      simp [hA, show (16 : Int) < ((canM z.places.length (sysLang (asyS z) (toK z.start))).next.length : Int) by omega, show ¬ ((canM z.places.length (sysLang (asyS z) (toK z.start))).next.length : Int) ≤ 16 by omega]
end Go.AM
