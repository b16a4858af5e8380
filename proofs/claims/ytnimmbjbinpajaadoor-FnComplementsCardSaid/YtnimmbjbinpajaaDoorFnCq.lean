/-
  Draws of the laws: words that an automaton mostly reads; equal automata.
-/
import Derived.Test.YtnimmbjbinpajaaDoorFnDi
import Derived.Test.YtnimmbjbinpajaaDoorFnAi
set_option linter.unusedVariables false
set_option linter.unusedSimpArgs false
set_option linter.unusedSectionVars false
set_option maxRecDepth 100000
set_option maxHeartbeats 1600000
namespace Go.AM
open Go.Proofs
def negA (m : AutV) (st a : Int) : Bool := decide (nth (nthR m.next st.toNat) a.toNat < 0)
def wdA (m : AutV) (st : Int) (l : List Int) : Nat → Src → Int → Src × Int
  | 0, s, a => (s, a)
  | f + 1, s, a => if negA m st a then (if 0 < nxN l s 16 then wdA m st l f (nxS l s 16) ((a + 1).tmod m.letters) else (nxS l s 16, a)) else (s, a)
def wdO (m : AutV) (l : List Int) : Nat → Src → Int → List Int → Src × List Int
  | 0, s, _, w => (s, w)
  | n + 1, s, st, w => if m.letters ≤ 0 then (s, w) else
    wdO m l n (wdA m st l m.letters.toNat (nxS l s m.letters) (nxN l s m.letters)).1
      (if 0 ≤ nth (nthR m.next st.toNat) (wdA m st l m.letters.toNat (nxS l s m.letters) (nxN l s m.letters)).2.toNat then nth (nthR m.next st.toNat) (wdA m st l m.letters.toNat (nxS l s m.letters) (nxN l s m.letters)).2.toNat else st)
      (w ++ [(wdA m st l m.letters.toNat (nxS l s m.letters) (nxN l s m.letters)).2])
theorem wdA_ok (m : AutV) (st : Int) (l : List Int) (hL : 0 < m.letters) : ∀ (f : Nat) (s : Src) (a : Int), SrcOk l s → 0 ≤ a ∧ a < m.letters → SrcOk l (wdA m st l f s a).1 ∧ 0 ≤ (wdA m st l f s a).2 ∧ (wdA m st l f s a).2 < m.letters
  | 0, s, a, hs, ha => ⟨hs, ha⟩
  | f + 1, s, a, hs, ha => by
    unfold wdA
    split
    · split
      · have e : (a + 1).tmod m.letters = (a + 1) % m.letters := Int.tmod_eq_emod_of_nonneg (by omega)
        refine wdA_ok m st l hL f _ _ (nxS_ok hs 16) ?_
        rw [e]
        exact ⟨Int.emod_nonneg _ (by omega), Int.emod_lt_of_pos _ hL⟩
      · exact ⟨nxS_ok hs 16, ha⟩
    · exact ⟨hs, ha⟩
theorem wdO_ok {m : AutV} (h : AutIs m) (l : List Int) : ∀ (n : Nat) (s : Src) (st : Int) (w : List Int), SrcOk l s → (0 ≤ st ∧ st ≤ (m.next.length : Int) - 1) → (∀ y ∈ w, 0 ≤ y ∧ y < m.letters) → SrcOk l (wdO m l n s st w).1 ∧ (wdO m l n s st w).2.length ≤ w.length + n ∧ ∀ y ∈ (wdO m l n s st w).2, 0 ≤ y ∧ y < m.letters
  | 0, s, st, w, hs, hst, hw => ⟨hs, by simp [wdO], hw⟩
  | n + 1, s, st, w, hs, hst, hw => by
    unfold wdO
    split
    · exact ⟨hs, by simp only; omega, hw⟩
    · rename_i hL
      have hb := nxN_rng hs m.letters
      obtain ⟨k1, k2, k3⟩ := wdA_ok m st l (by omega) m.letters.toNat _ _ (nxS_ok hs m.letters) (show 0 ≤ nxN l s m.letters ∧ nxN l s m.letters < m.letters by omega)
      generalize wdA m st l m.letters.toNat (nxS l s m.letters) (nxN l s m.letters) = p at *
      have hrl := h.rl st.toNat (by omega)
      have hrr := h.rr st.toNat (by omega) p.2.toNat (by omega)
      obtain ⟨g1, g2, g3⟩ := wdO_ok h l n p.1 (if 0 ≤ nth (nthR m.next st.toNat) p.2.toNat then nth (nthR m.next st.toNat) p.2.toNat else st) (w ++ [p.2]) k1 (by split <;> omega) (fun y hy => by
        rcases List.mem_append.1 hy with hy | hy
        · exact hw y hy
        · rw [List.mem_singleton] at hy; subst hy; exact ⟨k2, k3⟩)
      exact ⟨g1, by simp at g2; omega, g3⟩
theorem walk9_spec (nn : Bool) (l : List Int) (s : Src) (hs : SrcOk l s) (a b : Bool) (m : AutV) (hm : AutOk m) (most : Int) (h0 : 0 ≤ most) (h1 : most ≤ 1000) :
    ∃ s' w, SrcOk l s' ∧ w.length ≤ most.toNat ∧ (∀ y ∈ w, 0 ≤ y ∧ y < m.letters) ∧ ACalls2 Tryd.prog 27 [srcA nn l s, autSl a b m, iv most] [srcA nn l s', autSl a b m, iv most] (.own 1 true (ints w)) := by
  cases hi : isAutV m
  · refine ⟨s, [], hs, by simp, by simp, ?_⟩
    refine walkO (fun t => t == 4 || t == 2022 || t == 2035 || t == 2053) mixed Go.Proofs.Tryd.func27 rfl rfl rfl (by kernel_rfl) (by simp) (by simp) (by simp) (by kernel_rfl) ?_
    simp
    refine ⟨_, specIsAutomaton_spec a b m hm, ?_⟩
    simp [hi]
  · have h := autIs hi
    have hw1 : IntKind.i64.wrap (most + 1) = most + 1 := wrap_id _ (by omega) (by omega)
    have hb := nxN_rng hs (most + 1)
    have hs1 := nxS_ok hs (most + 1)
    have hbe := below_spec nn l s hs (most + 1) (by unfold I64; omega)
    generalize nxS l s (most + 1) = s1 at *
    generalize nxN l s (most + 1) = r at *
    obtain ⟨n0, rfl⟩ := Int.eq_ofNat_of_zero_le hb.1
    have hs0 := h.s0
    have hs2 := h.s1
    have hl8 := h.l8
    have hl0 := h.l0
    have h16 := h.n16
    obtain ⟨r1, r2, r3⟩ := wdO_ok h l n0 s1 m.start [] hs1 ⟨h.s0, h.s1⟩ (by simp)
    generalize hR : wdO m l n0 s1 m.start [] = R at *
    refine ⟨R.1, R.2, r1, by simp at r2; omega, r3, ?_⟩
    refine walkO (fun t => t == 4 || t == 2022 || t == 2035 || t == 2053) mixed Go.Proofs.Tryd.func27 rfl rfl rfl (by kernel_rfl) (by simp) (by simp) (by simp) (by kernel_rfl) ?_
    simp
    refine ⟨_, specIsAutomaton_spec a b m hm, ?_⟩
    simp [hi, hw1]
    refine ⟨_, _, hbe, ?_⟩
    simp
    refine awp_loop2 [0, 4] [] (fun q : Src × Nat × Int × List Int => [(9, iv q.2.1), (8, iv q.2.2.1), (7, .ref 200)]) (fun q => [(1000000000, srcA nn l q.1), (200, .own 1 true (ints q.2.2.2))])
      (fun q => SrcOk l q.1 ∧ (0 ≤ q.2.2.1 ∧ q.2.2.1 ≤ (m.next.length : Int) - 1) ∧ q.2.2.2.length + q.2.1 ≤ n0 ∧ wdO m l q.2.1 q.1 q.2.2.1 q.2.2.2 = R) (fun q => q.2.1) (s1, n0, m.start, []) (weak_mk (fun t => if t = 200 then some 12 else some t) (by simp) (by simp) rfl) ⟨hs1, ⟨h.s0, h.s1⟩, by simp, hR⟩ ?_
    rintro ⟨q, n, st, w⟩ ⟨hq, hst, hwl, hO⟩
    simp only at hq hst hwl hO
    cases n with
    | zero =>
      simp only [wdO] at hO
      subst hO
      simp
    | succ n =>
      by_cases hL : m.letters ≤ 0
      · rw [wdO, if_pos hL] at hO
        subst hO
        simp [show ¬ 0 < m.letters by omega, show (0 : Int) < (n : Int) + 1 by omega]
      · rw [wdO, if_neg hL] at hO
        have hb2 := nxN_rng hq m.letters
        have hq2 := nxS_ok hq m.letters
        have hbe2 := below_spec nn l q hq m.letters (by unfold I64; omega)
        have hrl := h.rl st.toNat (by omega)
        have hrr := h.rr st.toNat (by omega)
        generalize nxS l q m.letters = q1 at *
        generalize nxN l q m.letters = a0 at *
        have hA := wdA_ok m st l (by omega) m.letters.toNat q1 a0 hq2 (by omega)
        generalize hAe : wdA m st l m.letters.toNat q1 a0 = A at *
        simp [show 0 < m.letters by omega, show (0 : Int) < (n : Int) + 1 by omega]
        refine ⟨_, _, hbe2, ?_⟩
        simp
        refine awp_loop2 [0, 4, 7, 8, 9] [200] (fun z : Src × Nat × Int => [(10, iv z.2.2), (11, iv z.2.1)]) (fun z => [(1000000000, srcA nn l z.1)])
          (fun z => SrcOk l z.1 ∧ z.2.1 ≤ m.letters.toNat ∧ (0 ≤ z.2.2 ∧ z.2.2 < m.letters) ∧ wdA m st l (m.letters.toNat - z.2.1) z.1 z.2.2 = A) (fun z => m.letters.toNat - z.2.1) (q1, 0, a0) (weak_mk some (by simp) (by simp) rfl) ⟨hq2, by simp, by simp only; omega, by simpa using hAe⟩ ?_
        rintro ⟨z, k, c⟩ ⟨hz, hk, hc, hAz⟩
        simp only at hz hk hc hAz
        have hrc := hrr c.toNat (by omega)
        have hwn : IntKind.i64.wrap (n : Int) = n := wrap_id _ (by omega) (by omega)
        have fin2 : ∀ z, SrcOk l z → A = (z, c) → ∀ st' : Int, st' = (if 0 ≤ nth (nthR m.next st.toNat) c.toNat then nth (nthR m.next st.toNat) c.toNat else st) → SrcOk l z ∧ (0 ≤ st' ∧ st' ≤ (m.next.length : Int) - 1) ∧ (w ++ [c]).length + n ≤ n0 ∧ wdO m l n z st' (w ++ [c]) = R := fun z hz he st' hs' => by
          rw [he] at hO
          refine ⟨hz, ?_, by simp; omega, by rw [hs']; exact hO⟩
          rw [hs']; split <;> omega
        by_cases hkl : (k : Int) < m.letters
        · obtain ⟨f, hf⟩ : ∃ f, m.letters.toNat - k = f + 1 := ⟨m.letters.toNat - k - 1, by omega⟩
          rw [hf, wdA] at hAz
          by_cases hneg : nth (nthR m.next st.toNat) c.toNat < 0
          · have hng : negA m st c = true := by unfold negA; simpa using hneg
            rw [hng, if_pos rfl] at hAz
            have hbe3 := below_spec nn l z hz 16 (by unfold I64; omega)
            have hz2 := nxS_ok hz 16
            have hb3 := nxN_rng hz 16
            generalize nxS l z 16 = z1 at *
            generalize nxN l z 16 = u at *
            simp [hkl, hneg, hst.1, hc.1, hrl, show st.toNat < m.next.length by omega, show (c.toNat : Int) < m.letters by omega, show c.toNat < (nthR m.next st.toNat).length by omega]
            refine ⟨_, _, hbe3, ?_⟩
            by_cases hu : 0 < u
            · rw [if_pos hu] at hAz
              have e : (c + 1).tmod m.letters = (c + 1) % m.letters := Int.tmod_eq_emod_of_nonneg (by omega)
              have e1 := Int.emod_nonneg (c + 1) (show m.letters ≠ 0 by omega)
              have e2 := Int.emod_lt_of_pos (c + 1) (show 0 < m.letters by omega)
              have hwc : IntKind.i64.wrap (c + 1) = c + 1 := wrap_id _ (by omega) (by omega)
              simp [hu, hwc, show m.letters ≠ 0 by omega]
              simp only [wrap_id ((k : Int) + 1) (by omega) (by omega)]
              exact Round.mk (z1, k + 1, (c + 1).tmod m.letters) (weak_mk some (by simp) (by simp) rfl) ⟨hz2, by simp only; omega, by simp only; omega, by simp only; rw [show m.letters.toNat - (k + 1) = f by omega]; exact hAz⟩ (by simp only; omega)
            · rw [if_neg hu] at hAz
              simp [hu]
              have fin := fin2 z1 hz2
              by_cases hge : 0 ≤ nth (nthR m.next st.toNat) c.toNat
              · have hf := fin hAz.symm (nth (nthR m.next st.toNat) c.toNat) (by rw [if_pos hge])
                simp [hge, show ¬ nth (nthR m.next st.toNat) c.toNat < 0 by omega, hst.1, hc.1, hrl, show st.toNat < m.next.length by omega, show c.toNat < (nthR m.next st.toNat).length by omega]
                repeat (refine And.intro (by omega) ?_)
                try simp only [hwn]
                exact Round.mk (z1, n, nth (nthR m.next st.toNat) c.toNat, w ++ [c]) (weak_mk (fun t => if t = 200 then some 66 else some t) (by simp) (by simp) rfl) hf (by simp only; omega)
              · have hf := fin hAz.symm st (by rw [if_neg hge])
                simp [hge, show nth (nthR m.next st.toNat) c.toNat < 0 by omega, hst.1, hc.1, hrl, show st.toNat < m.next.length by omega, show c.toNat < (nthR m.next st.toNat).length by omega]
                repeat (refine And.intro (by omega) ?_)
                try simp only [hwn]
                exact Round.mk (z1, n, st, w ++ [c]) (weak_mk (fun t => if t = 200 then some 66 else some t) (by simp) (by simp) rfl) hf (by simp only; omega)
          · have hng : negA m st c = false := by unfold negA; simpa using hneg
            rw [hng] at hAz
            simp only [Bool.false_eq_true, if_false] at hAz
            simp [hkl, hneg, hst.1, hc.1, hrl, show st.toNat < m.next.length by omega, show c.toNat < (nthR m.next st.toNat).length by omega]
            have fin := fin2 z hz
            by_cases hge : 0 ≤ nth (nthR m.next st.toNat) c.toNat
            · have hf := fin hAz.symm (nth (nthR m.next st.toNat) c.toNat) (by rw [if_pos hge])
              simp [hge, show ¬ nth (nthR m.next st.toNat) c.toNat < 0 by omega, hst.1, hc.1, hrl, show st.toNat < m.next.length by omega, show c.toNat < (nthR m.next st.toNat).length by omega]
              repeat (refine And.intro (by omega) ?_)
              try simp only [hwn]
              exact Round.mk (z, n, nth (nthR m.next st.toNat) c.toNat, w ++ [c]) (weak_mk (fun t => if t = 200 then some 66 else some t) (by simp) (by simp) rfl) hf (by simp only; omega)
            · omega
        · rw [show m.letters.toNat - k = 0 by omega, wdA] at hAz
          simp [hkl]
          have fin := fin2 z hz
          by_cases hge : 0 ≤ nth (nthR m.next st.toNat) c.toNat
          · have hf := fin hAz.symm (nth (nthR m.next st.toNat) c.toNat) (by rw [if_pos hge])
            simp [hge, show ¬ nth (nthR m.next st.toNat) c.toNat < 0 by omega, hst.1, hc.1, hrl, show st.toNat < m.next.length by omega, show c.toNat < (nthR m.next st.toNat).length by omega]
            repeat (refine And.intro (by omega) ?_)
            try simp only [hwn]
            exact Round.mk (z, n, nth (nthR m.next st.toNat) c.toNat, w ++ [c]) (weak_mk (fun t => if t = 200 then some 66 else some t) (by simp) (by simp) rfl) hf (by simp only; omega)
          · have hf := fin hAz.symm st (by rw [if_neg hge])
            simp [hge, show nth (nthR m.next st.toNat) c.toNat < 0 by omega, hst.1, hc.1, hrl, show st.toNat < m.next.length by omega, show c.toNat < (nthR m.next st.toNat).length by omega]
            repeat (refine And.intro (by omega) ?_)
            try simp only [hwn]
            exact Round.mk (z, n, st, w ++ [c]) (weak_mk (fun t => if t = 200 then some 66 else some t) (by simp) (by simp) rfl) hf (by simp only; omega)
theorem same9_spec (a b c d : Bool) (m : AutV) (hn : m.next.length ≤ 1000000) (hr : ∀ r ∈ m.next, r.length < 1000000) : ACalls1 Tryd.prog 30 [autSl a b m, autSl c d m] (bv true) := by
  refine walk (fun t => t == 2 || t == 3) mixed Go.Proofs.Tryd.func30 rfl rfl rfl (by kernel_rfl) rfl (by simp) (by kernel_rfl) ?_
  simp
  refine awp_loop2 [2, 3] [] (fun k : Nat => [(5, iv k)]) (fun _ => []) (fun k => k ≤ m.next.length) (fun k => m.next.length - k) 0 (weak_mk some (by simp) (by simp) rfl) (by simp) ?_
  intro k hk
  by_cases hlt : k < m.next.length
  · simp [hlt]
    repeat (rw [exE_eq]; simp [hlt])
    refine ⟨_, likeInts_same b d _ (hr _ (nthR_mem hlt)), ?_⟩
    simp [wrap_id ((k : Int) + 1) (by omega) (by omega)]
    exact Round.mk (k + 1) (weak_mk some (by simp) (by simp) rfl) hlt (by omega)
  · obtain rfl : k = m.next.length := by omega
    simp
end Go.AM
