/-
  Several texts in one: FnGsa FnGsb.
-/
import Derived.Test.YtnimmbjbinpajaaDoorFnMgB
import Derived.Test.YtnimmbjbinpajaaDoorFnNd
import Derived.Test.YtnimmbjbinpajaaDoorFnMgT
set_option linter.unusedVariables false
set_option linter.unusedSimpArgs false
set_option linter.unusedSectionVars false
set_option maxRecDepth 100000
set_option maxHeartbeats 1600000
namespace Go.AM
open Go.Proofs
def gsSt (z : AsyV) (c : List Int) (L : List (List Int)) (a : Nat) : List (List Int) := match stepV z c a with
  | none => L
  | some g => if g ∈ L then L else L ++ [g]
def gsFo (z : AsyV) (c : List Int) (L : List (List Int)) (k : Nat) : List (List Int) := (List.range k).foldl (gsSt z c) L
theorem gsFo_succ (z : AsyV) (c : List Int) (L : List (List Int)) (k : Nat) : gsFo z c L (k + 1) = gsSt z c (gsFo z c L k) k := by
  unfold gsFo; rw [List.range_succ, List.foldl_append]; rfl
theorem gsFo_zero (z : AsyV) (c : List Int) (L : List (List Int)) : gsFo z c L 0 = L := rfl
def gsB (z : AsyV) : Nat → Nat → List (List Int) → List (List Int)
  | 0, _, L => L
  | f + 1, i, L => if i < L.length then gsB z f (i + 1) (gsFo z (nthR L i) L z.places.length) else L
def statesV (z : AsyV) : List (List Int) := gsB z 300 0 [z.start]
theorem gsSt_ext (z : AsyV) (c : List Int) (L : List (List Int)) (a : Nat) : ∃ t, gsSt z c L a = L ++ t := by
  unfold gsSt
  split
  · exact ⟨[], by simp⟩
  · split
    · exact ⟨[], by simp⟩
    · exact ⟨_, rfl⟩
theorem gsFo_ext (z : AsyV) (c : List Int) (L : List (List Int)) : ∀ k, ∃ t, gsFo z c L k = L ++ t
  | 0 => ⟨[], by simp [gsFo]⟩
  | k + 1 => by
    obtain ⟨t, ht⟩ := gsFo_ext z c L k
    obtain ⟨t', ht'⟩ := gsSt_ext z c (gsFo z c L k) k
    exact ⟨t ++ t', by rw [gsFo_succ, ht', ht, List.append_assoc]⟩
theorem nthR_ext {L t : List (List Int)} {i : Nat} (h : i < L.length) : nthR (L ++ t) i = nthR L i := by
  rw [nthR_at (by simp; omega), nthR_at h, List.getElem_append_left h]
/-- No state twice; all of them states of four processes of four states. -/
structure GOk (z : AsyV) (L : List (List Int)) : Prop where
  nd : L.Nodup
  gl : ∀ g ∈ L, isGlob z.sizes g = true
def codeR : List Int → Nat
  | [] => 0
  | x :: l => x.toNat + 4 * codeR l
theorem codeR_lt : ∀ (l : List Int), (∀ x ∈ l, 0 ≤ x ∧ x ≤ 3) → codeR l < 4 ^ l.length
  | [], _ => by simp [codeR]
  | x :: l, h => by
    have ih := codeR_lt l (fun y hy => h y (by simp [hy]))
    have hx := h x (by simp)
    simp only [codeR, List.length_cons, Nat.pow_succ]
    omega
theorem codeR_inj : ∀ {l m : List Int}, l.length = m.length → (∀ x ∈ l, 0 ≤ x ∧ x ≤ 3) → (∀ x ∈ m, 0 ≤ x ∧ x ≤ 3) → codeR l = codeR m → l = m
  | [], [], _, _, _, _ => rfl
  | x :: l, y :: m, h, h1, h2, he => by
    have hx := h1 x (by simp)
    have hy := h2 y (by simp)
    simp only [codeR] at he
    have e1 : x = y := by omega
    have e2 := codeR_inj (l := l) (m := m) (by simpa using h) (fun z hz => h1 z (by simp [hz])) (fun z hz => h2 z (by simp [hz])) (by omega)
    rw [e1, e2]
  | [], _ :: _, h, _, _, _ => by simp at h
  | _ :: _, [], h, _, _, _ => by simp at h
theorem glob_rng {z : AsyV} (hz : SzOk z) {g : List Int} (h : isGlob z.sizes g = true) : g.length = z.sizes.length ∧ ∀ x ∈ g, 0 ≤ x ∧ x ≤ 3 := by
  obtain ⟨h1, h2⟩ := isGlob_iff.1 h
  refine ⟨h1, fun x hx => ?_⟩
  obtain ⟨p, hp, rfl⟩ := List.mem_iff_getElem.1 hx
  have h3 := h2 p hp
  rw [nth_at hp] at h3
  have h4 := hz.2 _ (nth_mem (show p < z.sizes.length by omega))
  omega
theorem GOk.le {z : AsyV} (hz : SzOk z) {L : List (List Int)} (h : GOk z L) : L.length ≤ 256 := by
  have h1 : (L.map codeR).Nodup := by
    rw [List.nodup_iff_pairwise_ne, List.pairwise_map]
    refine List.Pairwise.imp_of_mem (fun {a b} ha hb hab e => ?_) (List.nodup_iff_pairwise_ne.1 h.nd)
    have ga := glob_rng hz (h.gl a ha)
    have gb := glob_rng hz (h.gl b hb)
    exact hab (codeR_inj (by omega) ga.2 gb.2 e)
  have h2 := nodup_bound 256 (L.map codeR) h1 (fun x hx => by
    obtain ⟨g, hg, rfl⟩ := List.mem_map.1 hx
    have gg := glob_rng hz (h.gl g hg)
    have h3 := codeR_lt g gg.2
    have h4 : 4 ^ g.length ≤ 4 ^ 4 := Nat.pow_le_pow_right (by omega) (by have := hz.1; omega)
    have : (4 : Nat) ^ 4 = 256 := by decide
    omega)
  simpa using h2
theorem nth_setP {l : List Int} {p q : Nat} {v : Int} (hq : q < l.length) : nth (l.set p v) q = if p = q then v else nth l q := by
  rw [nth_at (by simpa using hq), List.getElem_set, nth_at hq]
theorem putL_glob {sizes bs to : List Int} (hto : ∀ k, k < bs.length → 0 ≤ nth to k ∧ nth to k ≤ nth sizes (nth bs k).toNat - 1) : ∀ k, k ≤ bs.length → ∀ {g : List Int}, isGlob sizes g = true → isGlob sizes (putL g bs to k) = true
  | 0, _, g, h => h
  | k + 1, hk, g, h => by
    have ih := putL_glob hto k (by omega) h
    rw [isGlob_iff] at ih ⊢
    refine ⟨by simpa [putL] using ih.1, fun p hp => ?_⟩
    have hp' : p < (putL g bs to k).length := by simpa [putL] using hp
    unfold putL
    rw [nth_setP hp']
    split
    · rename_i e
      rw [← e]; exact hto k (by omega)
    · exact ih.2 p hp'
theorem stepV_glob {z : AsyV} (hz : isAsy z = true) {g g' : List Int} {a : Nat} (ha : a < z.places.length) (hg : isGlob z.sizes g = true) (h : stepV z g a = some g') : isGlob z.sizes g' = true := by
  obtain ⟨⟨f1, f2⟩, f3, f4, f5, f6, f7⟩ := isAsy_facts hz
  have hT := (f3 a ha).2
  have hgl := isGlob_len hg
  unfold stepV at h
  cases hs : stepI z g a with
  | none => rw [hs] at h; simp at h
  | some i =>
    rw [hs] at h
    simp only [Option.map_some, Option.some.injEq] at h
    rw [← h]
    unfold stepI at hs
    have hm := List.mem_of_find?_eq_some hs
    rw [List.mem_range] at hm
    have hp := List.find?_some hs
    simp only [Bool.and_eq_true, decide_eq_true_eq] at hp
    have hj := f5
    simp only [jointsOk, Bool.and_eq_true, List.all_eq_true, List.mem_range] at hj
    have hj := hj.1 i hm
    simp only [jOk, Bool.and_eq_true, Bool.or_eq_true, decide_eq_true_eq] at hj
    obtain ⟨⟨⟨⟨h1, h2⟩, h3⟩, h4⟩, _⟩ := hj
    rw [hp.1, Int.toNat_natCast] at h4
    have hbl := bits_len (m := nth z.places a) (n := z.sizes.length) (by omega) hT
    unfold stepTo
    rw [hgl, ← hbl]
    refine putL_glob (fun k hk => ?_) _ (Nat.le_refl _) hg
    obtain ⟨h5, h6⟩ := isGlob_iff.1 h4
    rw [pick_len, ← hbl] at h5
    have h7 := h6 k (by omega)
    have hpb := pick_bits (l := z.sizes) (m := nth z.places a) (by omega) hT
    rw [← hpb] at h7
    have e : nth ((bitsOf (nth z.places a)).map fun i => nth z.sizes i.toNat) k = nth z.sizes (nth (bitsOf (nth z.places a)) k).toNat := by
      rw [nth_at (by simpa using hk), List.getElem_map, nth_at hk]
    rw [e] at h7
    exact h7
theorem gsSt_ok {z : AsyV} (hz : isAsy z = true) {c : List Int} (hc : isGlob z.sizes c = true) {L : List (List Int)} (h : GOk z L) {a : Nat} (ha : a < z.places.length) : GOk z (gsSt z c L a) := by
  unfold gsSt
  cases hs : stepV z c a with
  | none => exact h
  | some g =>
    simp only
    split
    · exact h
    · rename_i hn
      refine ⟨List.nodup_append.2 ⟨h.nd, by simp, fun u hu v hv e => by simp at hv; subst e; rw [hv] at hu; exact hn hu⟩, fun q hq => ?_⟩
      rcases List.mem_append.1 hq with hq | hq
      · exact h.gl q hq
      · simp at hq; subst hq; exact stepV_glob hz ha hc hs
theorem gsFo_ok {z : AsyV} (hz : isAsy z = true) {c : List Int} (hc : isGlob z.sizes c = true) {L : List (List Int)} (h : GOk z L) : ∀ k, k ≤ z.places.length → GOk z (gsFo z c L k)
  | 0, _ => h
  | k + 1, hk => by rw [gsFo_succ]; exact gsSt_ok hz hc (gsFo_ok hz hc h k (by omega)) (by omega)
theorem gs_start {z : AsyV} (hz : isAsy z = true) : GOk z [z.start] := ⟨by simp, fun g hg => by simp at hg; subst hg; exact (isAsy_facts hz).2.2.1⟩
theorem gsB_ok {z : AsyV} (hz : isAsy z = true) : ∀ (f i : Nat) (L : List (List Int)), GOk z L → GOk z (gsB z f i L)
  | 0, i, L, h => h
  | f + 1, i, L, h => by
    unfold gsB
    split
    · rename_i hi
      exact gsB_ok hz f (i + 1) _ (gsFo_ok hz (h.gl _ (nthR_mem hi)) h _ (Nat.le_refl _))
    · exact h
theorem gsB_end {z : AsyV} {f i : Nat} {L : List (List Int)} (h : ¬ i < L.length) : gsB z f i L = L := by
  cases f with
  | zero => rfl
  | succ f => unfold gsB; rw [if_neg h]
theorem gsB_go {z : AsyV} {i : Nat} {L : List (List Int)} (h : i < L.length) (hi : i < 300) : gsB z (300 - i) i L = gsB z (300 - (i + 1)) (i + 1) (gsFo z (nthR L i) L z.places.length) := by
  rw [show 300 - i = (300 - (i + 1)) + 1 by omega]
  rw [gsB, if_pos h]
def globalStatesV (z : AsyV) : List (List Int) × Int := if isAsy z then (if (statesV z).length ≤ 64 then (sortR lexC (statesV z), 0) else ([], 3)) else ([], 1)
theorem l14Reached_spec (z : AsyV) (hz : isAsy z = true) (ho : AsyOk z) : ACalls1 Tryd.prog 128 [asySl z] (.tup [.own 1 true (srows true (statesV z)), .junk]) := by
  have hf' := hz
  have hf := isAsy_facts hz
  have hs4 := hf.1.1
  have hp8 := hf.2.2.2.2.2
  have hsl := isGlob_len hf.2.2.1
  refine walk (fun t => t == 1 || t == 3014 || t == 1032 || t == 3038) mixed Go.Proofs.Tryd.func128 rfl rfl rfl (by kernel_rfl) rfl (by simp) (by kernel_rfl) ?_
  simp
  refine ⟨_, l01Own_spec _ z.start (by unfold Fits; omega), ?_⟩
  simp
  refine awp_loop2 [1] [] (fun s : Nat × List (List Int) × List (List Int) => [(6, iv s.1), (4, .ref 100), (5, .ref 101)]) (fun s => [(100, .own 1 true (srows true s.2.1)), (101, .own 1 true (orows true s.2.2))]) (fun s => s.1 ≤ s.2.1.length ∧ GOk z s.2.1 ∧ s.2.2.length = s.1 ∧ gsB z (300 - s.1) s.1 s.2.1 = statesV z) (fun s => 300 - s.1) (0, [z.start], []) (weak_mk (fun t => if t = 100 then some 15 else if t = 101 then some 16 else some t) (by simp) (by simp [srows]) rfl) ⟨by simp, gs_start hz, rfl, rfl⟩ ?_
  rintro ⟨i, L, N⟩ ⟨hi, hG, hN, hr⟩
  simp only at hi hG hN hr
  have h256 := hG.le hf.1
  by_cases hlt : i < L.length
  · have hgo := gsB_go (z := z) hlt (by omega)
    have hcg := hG.gl _ (nthR_mem hlt)
    have hcl := isGlob_len hcg
    simp [hlt]
    refine awp_loop2 [1, 5, 6] [101] (fun s : Nat × List Int => [(8, iv s.1), (4, .ref 100), (7, .ref 102)]) (fun s => [(100, .own 1 true (srows true (gsFo z (nthR L i) L s.1))), (102, .own 1 true (ints s.2))]) (fun s => s.1 ≤ z.places.length ∧ s.2.length = s.1) (fun s => z.places.length - s.1) (0, []) (weak_mk (fun t => if t = 102 then some 23 else some t) (by simp) (by simp [gsFo_zero]) rfl) ⟨by simp, rfl⟩ ?_
    rintro ⟨a, row⟩ ⟨ha, hrow⟩
    simp only at ha hrow
    have hok := gsFo_ok hf' hcg hG a ha
    obtain ⟨t, ht⟩ := gsFo_ext z (nthR L i) L a
    have hA256 := hok.le hf.1
    by_cases hal : a < z.places.length
    · have hsucc := gsFo_succ z (nthR L i) L a
      have hiA : i < (gsFo z (nthR L i) L a).length := by rw [ht, List.length_append]; omega
      have hat : nthR (gsFo z (nthR L i) L a) i = nthR L i := by rw [ht]; exact nthR_ext hlt
      generalize gsFo z (nthR L i) L a = A at *
      generalize nthR L i = c at *
      have hgs := fun r (hr : r ∈ A) => isGlob_len (hok.gl r hr)
      unfold gsSt at hsucc
      simp [hal, hiA, hat, show i + 1 ≤ A.length from hiA]
      repeat (rw [exE_eq]; simp [hal, hiA, hat, show i + 1 ≤ A.length from hiA])
      refine ⟨_, l14Step_spec z hz ho _ c (by omega) a hal, ?_⟩
      cases hs : stepV z c a with
      | none =>
        rw [hs] at hsucc
        simp only at hsucc
        simp
        first | refine ⟨⟨by kernel_rfl, by kernel_rfl⟩, ?_⟩ | exact ⟨by kernel_rfl, by kernel_rfl⟩
        rw [wrap_id ((a : Int) + 1) (by omega) (by omega)]
        refine ⟨by omega, by omega, ?_⟩
        exact Round.mk (a + 1, row ++ [-1]) (weak_mk (fun t => if t = 102 then some 45 else some t) (by simp) (by simp [hsucc]) rfl) ⟨hal, by simp [hrow]⟩ (by simp only; omega)
      | some g =>
        rw [hs] at hsucc
        simp only at hsucc
        have hgl := stepV_len hs
        simp
        first | refine ⟨⟨by kernel_rfl, by kernel_rfl⟩, ?_⟩ | exact ⟨by kernel_rfl, by kernel_rfl⟩
        refine awp_loop2 [1, 4, 5, 6, 7, 8, 9] [100, 101, 102] (fun k : Nat => [(11, iv k)]) (fun _ => []) (fun k => k ≤ A.length ∧ ∀ j, j < k → nthR A j ≠ g) (fun k => A.length - k) 0 (weak_mk some (by simp) (by simp) rfl) (by simp) ?_
        rintro k ⟨hk, hall⟩
        have fin : ∀ b : Nat, b ≤ 256 → IntKind.i64.wrap ((b : Int) + 1) = ((b + 1 : Nat) : Int) := fun b hb => by rw [wrap_id _ (by omega) (by omega)]; omega
        by_cases hkl : k < A.length
        · have hkg := hgs _ (nthR_mem hkl)
          simp [hkl, show k + 1 ≤ A.length from hkl]
          refine ⟨_, l01Same_spec _ _ _ _ (by unfold Fits; omega) (by unfold Fits; omega), ?_⟩
          by_cases he : nthR A k = g
          · have hmem : g ∈ A := by rw [← he]; exact nthR_mem hkl
            rw [if_pos hmem] at hsucc
            simp [he, show ¬ ((k : Int) = (A.length : Int)) by omega, show ¬ k = A.length by omega]
            rw [wrap_id ((a : Int) + 1) (by omega) (by omega)]
            refine ⟨by omega, by omega, ?_⟩
            exact Round.mk (a + 1, row ++ [(k : Int)]) (weak_mk (fun t => if t = 102 then some 72 else some t) (by simp) (by simp [hsucc]) rfl) ⟨hal, by simp [hrow]⟩ (by simp only; omega)
          · simp [he]
            rw [wrap_id ((k : Int) + 1) (by omega) (by omega)]
            refine Round.mk (k + 1) (weak_mk some (by simp) (by simp) rfl) ⟨hkl, fun j hj => ?_⟩ (by omega)
            by_cases e : j = k
            · subst e; exact he
            · exact hall j (by omega)
        · obtain rfl : k = A.length := by omega
          have hmem : ¬ g ∈ A := fun hm => by
            obtain ⟨j, hj, e⟩ := List.mem_iff_getElem.1 hm
            exact hall j hj (by rw [nthR_at hj]; exact e)
          rw [if_neg hmem] at hsucc
          simp
          rw [wrap_id ((a : Int) + 1) (by omega) (by omega)]
          refine ⟨by omega, by omega, by omega, by omega, ?_⟩
          exact Round.mk (a + 1, row ++ [(A.length : Int)]) (weak_mk (fun t => if t = 102 then some 72 else if t = 100 then some 68 else some t) (by simp) (by simp [hsucc]) rfl) ⟨hal, by simp [hrow]⟩ (by simp only; omega)
    · obtain rfl : a = z.places.length := by omega
      simp
      rw [wrap_id ((i : Int) + 1) (by omega) (by omega)]
      refine ⟨by omega, by omega, ?_⟩
      exact Round.mk (i + 1, gsFo z (nthR L i) L z.places.length, N ++ [row]) (weak_mk (fun t => if t = 101 then some 76 else some t) (by simp) (by simp) rfl) ⟨by simp only; rw [ht, List.length_append]; omega, hok, by simp [hN], by rw [← hgo]; exact hr⟩ (by simp only; omega)
  · obtain rfl : i = L.length := by omega
    rw [gsB_end (by omega)] at hr
    simp [hr]
theorem states_ok {z : AsyV} (hz : isAsy z = true) : GOk z (statesV z) := gsB_ok hz 300 0 _ (gs_start hz)
theorem states_sort {z : AsyV} (hz : isAsy z = true) : sortR cmpW (statesV z) = sortR lexC (statesV z) :=
  (sortR_same (n := z.sizes.length) fun r hr => isGlob_len ((states_ok hz).gl r hr)).symm
end Go.AM
