/-
  Machines: the reference's live states, classes.
-/
import Derived.Test.YtnimmbjbinpajaaDoorFnNe
set_option linter.unusedVariables false
set_option linter.unusedSimpArgs false
set_option linter.unusedSectionVars false
set_option maxRecDepth 100000
set_option maxHeartbeats 1600000
namespace Go.AM
open Go.Proofs
@[reducible] def refA (a b c : Bool) (m : MchV) : AV := .agg [iv m.letters, .sl 1 a (srows b m.next), .sl 1 c (bls m.fin)]
theorem bAt_rep {n i : Nat} (h : i < n) : bAt (List.replicate n true) i = true := by simp [bAt, h]
theorem l11Live_spec (a b c : Bool) (m : MchV) (hm : MchOk m) (hn : m.next.length ≤ 65535) (h8 : m.letters ≤ 8) (h0 : 0 < m.next.length) :
    ACalls Tryd.prog 158 [refA a b c m] (fun xs r => xs = [refA a b c m] ∧ ∃ u, UsefulOk m 0 u (fun s => s < m.next.length) ∧ r = .own 1 false (bls u)) := by
  have hfl := hm.f
  refine walkR (fun t => t == 1) mixed Go.Proofs.Tryd.func158 rfl rfl rfl (by kernel_rfl) (by simp) (by simp) (by simp) (by kernel_rfl) ?_
  simp
  repeat (refine And.intro (by omega) ?_)
  refine awp_loop2 [1, 3] [] (fun s : List Bool × Bool => [(4, bv s.2)]) (fun s => [(11, .own 1 false (bls s.1))]) (fun s => UseInv m 0 (List.replicate m.next.length true) s.1 ∧ (s.2 = false → ∀ t, t < m.next.length → ∀ e, e < m.letters → UOk m (List.replicate m.next.length true) s.1 t e)) (fun s => (m.next.length - cntTr s.1) * 2 + (if s.2 then 1 else 0)) (m.fin, true) (weak_mk some (by simp) (by simp) rfl) ⟨?_, by simp⟩ ?_
  · refine ⟨by simp, hfl, bAt_rep h0, fun s hs2 hb hv => ?_, fun s hs2 hf => ?_⟩
    · have := hv []
      simp only [langV, finV] at this
      rw [if_neg (by omega), Int.toNat_natCast] at this
      unfold bAt at hb
      rw [hb] at this; cases this
    · unfold finV at hf
      rw [if_neg (by omega), Int.toNat_natCast] at hf
      exact hf
  rintro ⟨L0, ch0⟩ ⟨hI0, hc0⟩
  simp only at hI0 hc0
  cases ch0
  · have hL0 := hI0.ll
    have hcl := hc0 rfl
    simp
    refine ⟨_, .refl _, ⟨L0, ⟨hL0, h0, fun s h => h, fun s a h ha h0 => ?_, fun s h => ?_⟩, rfl⟩⟩
    · have := hm.rr s h a ha; omega
    · refine ⟨fun h2 => ⟨h, hI0.so s h h2⟩, fun h2 => ?_⟩
      apply Classical.byContradiction
      intro h3
      apply h2.2
      intro w
      cases hw : langV m s w
      · rfl
      · exact absurd (use_complete hm hI0 hcl w s h hw) h3
  · simp
    refine awp_loop2 [1, 3] [] (fun s : Nat × List Bool × Bool => [(4, bv s.2.2), (5, iv s.1)]) (fun s => [(11, .own 1 false (bls s.2.1))]) (fun s => s.1 ≤ m.next.length ∧ UseInv m 0 (List.replicate m.next.length true) s.2.1 ∧ (s.2.2 = true → cntTr L0 < cntTr s.2.1) ∧ (s.2.2 = false → cntTr L0 = cntTr s.2.1 ∧ ∀ t, t < s.1 → ∀ e, e < m.letters → UOk m (List.replicate m.next.length true) s.2.1 t e)) (fun s => m.next.length - s.1) (0, L0, false) (weak_mk some (by simp) (by simp) rfl) ⟨by simp, hI0, by simp, by simp⟩ ?_
    rintro ⟨k, L1, ch1⟩ ⟨hk, hI1, hct1, hcf1⟩
    simp only at hk hI1 hct1 hcf1
    by_cases hlt : k < m.next.length
    · have hrl := hm.rl k hlt
      simp [hlt]
      refine awp_loop2 [1, 3, 5] [] (fun s : Nat × List Bool × Bool => [(4, bv s.2.2), (6, iv s.1)]) (fun s => [(11, .own 1 false (bls s.2.1))]) (fun s => s.1 ≤ m.letters ∧ UseInv m 0 (List.replicate m.next.length true) s.2.1 ∧ (s.2.2 = true → cntTr L0 < cntTr s.2.1) ∧ (s.2.2 = false → cntTr L0 = cntTr s.2.1 ∧ (∀ t, t < k → ∀ e, e < m.letters → UOk m (List.replicate m.next.length true) s.2.1 t e) ∧ ∀ e, e < s.1 → UOk m (List.replicate m.next.length true) s.2.1 k e)) (fun s => m.letters - s.1) (0, L1, ch1) (weak_mk some (by simp) (by simp) rfl) ⟨by simp, hI1, hct1, fun h => ⟨(hcf1 h).1, (hcf1 h).2, by simp⟩⟩ ?_
      rintro ⟨j, L, ch⟩ ⟨hj, hI, hct, hcf⟩
      simp only at hj hI hct hcf
      have hLl := hI.ll
      have hdone : bAt L k = true → ∀ e, e < m.letters → UOk m (List.replicate m.next.length true) L k e := fun hb e he h0 => ⟨fun _ => bAt_rep (by have := hm.rr k hlt e he; omega), fun _ => hb⟩
      by_cases hjl : j < m.letters
      · have hgo := hm.rr k hlt j hjl
        have hgv : nth (nthR m.next k) j = goV m k j := rfl
        generalize hge : goV m k j = g at *
        cases bk : bAt L k
        · have hset := bls_set L k true (by omega)
          have nL : cntTr (L.set k true) = cntTr L + 1 := cntTr_set (by omega) bk
          by_cases hg0 : g < 0
          · have hskip : UOk m (List.replicate m.next.length true) L k j := fun h0 => by omega
            simp [hrl, hlt, hjl, hgv, hg0, hLl, bk, show k + 1 ≤ m.next.length from hlt, show ¬ 0 ≤ g by omega]
            simp only [wrap_id ((j : Int) + 1) (by omega) (by omega)]
            exact Round.mk (j + 1, L, ch) (weak_mk some (by simp) (by simp) rfl) ⟨hjl, hI, hct, fun h => ⟨(hcf h).1, (hcf h).2.1, fun e he => by
              by_cases e2 : e = j
              · subst e2; exact hskip
              · exact (hcf h).2.2 e (by omega)⟩⟩ (by simp only; omega)
          · obtain ⟨gn, rfl⟩ := Int.eq_ofNat_of_zero_le (show 0 ≤ g by omega)
            have hgn : gn < m.next.length := by omega
            have hgt : (goV m k j).toNat = gn := by rw [hge]; rfl
            cases bg : bAt L gn
            · have hskip : UOk m (List.replicate m.next.length true) L k j := fun h0 => by
                rw [hgt]
                exact ⟨fun _ => bAt_rep hgn, fun h => by rw [bg] at h; cases h⟩
              simp [hrl, hlt, hjl, hgv, hg0, hLl, bk, bg, hgn, show k + 1 ≤ m.next.length from hlt, show gn + 1 ≤ m.next.length from hgn]
              simp only [wrap_id ((j : Int) + 1) (by omega) (by omega)]
              exact Round.mk (j + 1, L, ch) (weak_mk some (by simp) (by simp) rfl) ⟨hjl, hI, hct, fun h => ⟨(hcf h).1, (hcf h).2.1, fun e he => by
                by_cases e2 : e = j
                · subst e2; exact hskip
                · exact (hcf h).2.2 e (by omega)⟩⟩ (by simp only; omega)
            · have iL := use_setL hI hlt hjl (by rw [hge]; omega) (by rw [hgt]; exact hgn) (by rw [hgt]; exact bg)
              have hge0 : cntTr L0 ≤ cntTr L := by
                cases hch : ch
                · exact Nat.le_of_eq (hcf hch).1
                · exact Nat.le_of_lt (hct hch)
              simp [hrl, hlt, hjl, hgv, hg0, hLl, bk, bg, hgn, show k + 1 ≤ m.next.length from hlt, show gn + 1 ≤ m.next.length from hgn]
              simp only [wrap_id ((j : Int) + 1) (by omega) (by omega), hset]
              exact Round.mk (j + 1, L.set k true, true) (weak_mk some (by simp) (by simp) rfl) ⟨hjl, iL, fun _ => by simp only; omega, fun h => by cases h⟩ (by simp only; omega)
        · simp [hrl, hlt, hjl, hLl, bk, show k + 1 ≤ m.next.length from hlt]
          simp only [wrap_id ((k : Int) + 1) (by omega) (by omega)]
          exact Round.mk (k + 1, L, ch) (weak_mk some (by simp) (by simp) rfl) ⟨hlt, hI, hct, fun h => ⟨(hcf h).1, fun t ht => by
            by_cases e : t = k
            · subst e; exact fun e he => hdone bk e he
            · exact (hcf h).2.1 t (by omega)⟩⟩ (by simp only; omega)
      · obtain rfl : j = m.letters := by omega
        simp [hrl, hlt, show k + 1 ≤ m.next.length from hlt]
        simp only [wrap_id ((k : Int) + 1) (by omega) (by omega)]
        exact Round.mk (k + 1, L, ch) (weak_mk some (by simp) (by simp) rfl) ⟨hlt, hI, hct, fun h => ⟨(hcf h).1, fun t ht => by
          by_cases e : t = k
          · subst e; exact (hcf h).2.2
          · exact (hcf h).2.1 t (by omega)⟩⟩ (by simp only; omega)
    · obtain rfl : k = m.next.length := by omega
      have h2 := cntTr_le L1
      have h4 := hI1.ll
      simp
      exact Round.mk (L1, ch1) (weak_mk some (by simp) (by simp) rfl) ⟨hI1, fun h => (hcf1 h).2⟩ (by
        simp only
        cases ch1
        · have := (hcf1 rfl).1; simp; omega
        · have := hct1 rfl; simp; omega)
theorem l11ClassOf_spec (a : Bool) (c : List Int) (r : Int) (hr : r < c.length) : ACalls1 Tryd.prog 127 [.sl 1 a (ints c), iv r] (iv (clX c r)) := by
  refine walk (fun _ => false) mixed Go.Proofs.Tryd.func127 rfl rfl rfl (by kernel_rfl) rfl (by simp) (by kernel_rfl) ?_
  simp
  unfold clX
  refine ⟨fun h => by rw [if_pos h], fun h => ?_⟩
  rw [if_neg (by omega)]
  exact ⟨h, by omega, rfl⟩
theorem l11Alike_spec (a b c d : Bool) (m : MchV) (hm : MchOk m) (h8 : m.letters ≤ 8) (cl : List Int) (hcl : cl.length = m.next.length) (s t : Nat) (hs : s < m.next.length) (ht : t < m.next.length) :
    ACalls1 Tryd.prog 159 [refA a b c m, .sl 1 d (ints cl), iv s, iv t] (bv (decide (keyV cl m s = keyV cl m t))) := by
  have hk : keyV cl m s = keyV cl m t ↔ nth cl s = nth cl t ∧ ∀ e, e < m.letters → clX cl (goV m s e) = clX cl (goV m t e) := by
    unfold keyV
    rw [List.cons.injEq]
    refine and_congr_right fun _ => ?_
    rw [List.map_inj_left]
    simp only [List.mem_range]
  refine walk (fun t => t == 4) mixed Go.Proofs.Tryd.func159 rfl rfl rfl (by kernel_rfl) rfl (by simp) (by kernel_rfl) ?_
  simp [hcl, hs, ht]
  repeat (rw [exE_eq]; simp [hcl, hs, ht])
  by_cases h : nth cl s = nth cl t
  · simp [h]
    refine awp_loop2 [1, 2, 3, 4] [] (fun e : Nat => [(9, iv e)]) (fun _ => []) (fun e => e ≤ m.letters ∧ ∀ j, j < e → clX cl (goV m s j) = clX cl (goV m t j)) (fun e => m.letters - e) 0 (weak_mk some (by simp) (by simp) rfl) ⟨by simp, by simp⟩ ?_
    rintro e ⟨he, hall⟩
    by_cases hel : e < m.letters
    · have g1 := hm.rr s hs e hel
      have g2 := hm.rr t ht e hel
      have v1 : nth (nthR m.next s) e = goV m s e := rfl
      have v2 : nth (nthR m.next t) e = goV m t e := rfl
      have l1 := hm.rl s hs
      have l2 := hm.rl t ht
      simp [hel, hs, ht, l1, l2, v1, v2]
      repeat (rw [exE_eq]; simp [hel, hs, ht, l1, l2, v1, v2])
      refine ⟨_, l11ClassOf_spec d cl (goV m s e) (by omega), ?_⟩
      simp [hel, hs, ht, l1, l2, v1, v2]
      refine ⟨_, l11ClassOf_spec d cl (goV m t e) (by omega), ?_⟩
      by_cases hc : clX cl (goV m s e) = clX cl (goV m t e)
      · simp [hc]
        simp only [wrap_id ((e : Int) + 1) (by omega) (by omega)]
        exact Round.mk (e + 1) (weak_mk some (by simp) (by simp) rfl) ⟨hel, fun j hj => by
          by_cases e2 : j = e
          · subst e2; exact hc
          · exact hall j (by omega)⟩ (by omega)
      · have : ¬ keyV cl m s = keyV cl m t := fun hh => hc ((hk.1 hh).2 e hel)
        simp [hc, this]
    · obtain rfl : e = m.letters := by omega
      have : keyV cl m s = keyV cl m t := hk.2 ⟨h, hall⟩
      simp [this]
  · have : ¬ keyV cl m s = keyV cl m t := fun hh => h (hk.1 hh).1
    simp [h, this]
end Go.AM
