/-
  NewerByLabels, the program's side. The captured variables are frozen behind the region of slot 38.
-/
import Derived.Test.YtmpdpjpebekfkaaDoorFnGl
import Derived.Test.YtmpdpjpebekfkaaDoorAmWk
set_option linter.unusedVariables false
set_option linter.unusedSimpArgs false
set_option maxRecDepth 100000
set_option maxHeartbeats 1600000
namespace Go.AM
open Go.Proofs
theorem NewerByLabels_spec (n : Int) (hn : I64 n) (a : Bool) (pl : List Int) (hpl : ListOk pl) (b : Bool) (w : List Int) (hw : ListOk w) (p : Int) (hp : I64 p) (q : Int) (hq : I64 q) (r : Int) (hr : I64 r) : ACalls1 Tryd.prog 27 [iv n, .sl 1 a (ints pl), .sl 1 b (ints w), iv p, iv q, iv r] (.tup [iv (newerByLabelsV n pl w p q r).1, iv (newerByLabelsV n pl w p q r).2]) := by
  refine walkW (fun t => t == 4031 || t == 3039 || t == 3044 || t == 3049) 38 mixed Go.Proofs.Tryd.func27 rfl rfl rfl (by kernel_rfl) rfl (by simp) (by kernel_rfl) ?_
  simp
  unfold newerByLabelsV
  by_cases hc : gosCode n pl w [p, q, r] = 0
  · have hg := gosW_ok hc
    obtain ⟨c1, c2, c3⟩ := gosCode_zero hc
    obtain ⟨_, h1, h4⟩ := pl_len c1
    have hp' := proc_in c3 (x := p) (by simp)
    have hq' := proc_in c3 (x := q) (by simp)
    have hr' := proc_in c3 (x := r) (by simp)
    obtain ⟨p, rfl⟩ := Int.eq_ofNat_of_zero_le hp'.1
    obtain ⟨q, rfl⟩ := Int.eq_ofNat_of_zero_le hq'.1
    obtain ⟨r, rfl⟩ := Int.eq_ofNat_of_zero_le hr'.1
    have hgl := hg.len
    have hgp := hg.plen
    have hM := hg.past
    have B1 := latL_bd (g := gosW n pl w) (m := viewOn (gosW n pl w) (allOn (gosW n pl w)) p)
    have B2 := latL_bd (g := gosW n pl w) (m := viewOn (gosW n pl w) (allOn (gosW n pl w)) q)
    have l1 := latL_length (gosW n pl w) (viewOn (gosW n pl w) (allOn (gosW n pl w)) p)
    have l2 := latL_length (gosW n pl w) (viewOn (gosW n pl w) (allOn (gosW n pl w)) q)
    have hlab := labL_length (gosW n pl w) (gosW n pl w).f.length
    refine ⟨_, checkGossip_yes a b true n pl [(p : Int), (q : Int), (r : Int)] w (by simp [Fits]) hc, ?_⟩
    simp [hc]
    refine ⟨_, labels_spec a true true (gosW n pl w) hg (gosW_low hc), ?_⟩
    simp
    refine ⟨_, all_spec a true true (gosW n pl w) hg, ?_⟩
    simp
    refine ⟨_, latestIn_spec a true true (gosW n pl w) hg _ (allOn_M hg) p (by omega), ?_⟩
    simp
    refine ⟨_, all_spec a true true (gosW n pl w) hg, ?_⟩
    simp
    refine ⟨_, latestIn_spec a true true (gosW n pl w) hg _ (allOn_M hg) q (by omega), ?_⟩
    simp
    first | refine ⟨⟨by kernel_rfl, by kernel_rfl⟩, ?_⟩ | exact ⟨by kernel_rfl, by kernel_rfl⟩
    refine WkK.frz2 14 16 (X := ?X1) (Y := ?X2) ?h1 ?h2 ?h3 ?h4 ?h5
    case h1 => exact rfl
    case h2 => exact rfl
    case h3 => exact rfl
    case h4 => exact rfl
    simp only [gosW_n] at B1 B2 l1 l2
    obtain ⟨N, rfl⟩ := Int.eq_ofNat_of_zero_le (show 0 ≤ n by omega)
    simp only [Int.ofNat_eq_natCast, Int.toNat_natCast] at B1 B2 l1 l2 hlab hgl hgp hM ⊢
    generalize latL (gosW N pl w) (viewOn (gosW N pl w) (allOn (gosW N pl w)) p) = L1 at *
    generalize latL (gosW N pl w) (viewOn (gosW N pl w) (allOn (gosW N pl w)) q) = L2 at *
    generalize labL (gosW N pl w) (gosW N pl w).f.length = labs at *
    have hrN : r < N := by omega
    have b1 := B1 r hrN
    have b2 := B2 r hrN
    have hcl := fun e f he hf => newerBy1_spec a true true true (gosW N pl w) labs hlab e f he hf
    unfold newByF
    by_cases ha : nth L1 r < 0
    · by_cases hb : nth L2 r < 0
      · simp [hrN, l1, l2, ha, hb]
        repeat (rw [exE_eq]; simp [hrN, l1, l2, ha, hb])
      · have hmk : markB (gosW N pl w) labs (nth L1 r) (nth L2 r) = false := by
          rw [← Bool.not_eq_true]; intro h
          have := (markB_ge h).1; omega
        simp [hrN, l1, l2, ha, hb]
        repeat (rw [exE_eq]; simp [hrN, l1, l2, ha, hb])
        refine ⟨_, hcl _ _ b1.2 b2.2, ?_⟩
        simp [hmk, hrN, l1, l2, ha, hb]
    · simp [hrN, l1, l2, ha]
      repeat (rw [exE_eq]; simp [hrN, l1, l2, ha])
      refine ⟨_, hcl _ _ b1.2 b2.2, ?_⟩
      by_cases hmk : markB (gosW N pl w) labs (nth L1 r) (nth L2 r) = true
      · simp [hmk]
      · by_cases hb : nth L2 r < 0
        · simp [hmk, hrN, l1, l2, ha, hb]
        · obtain ⟨e, he⟩ := Int.eq_ofNat_of_zero_le (show 0 ≤ nth L1 r by omega)
          simp [hmk, hrN, l1, l2, ha, hb]
          refine awp_loop2 [5, 14, 17, 18, 19, 88, 89] [] (fun i : Nat => [(90, iv i)]) (fun _ => []) (fun i => i ≤ N ∧ ∀ i', i' < i → ∀ j, j < N → pairM (gosW N pl w) labs L1 L2 e i' j = false) (fun i => N - i) 0 (weak_mk some (by simp) (by simp) rfl) ⟨by simp, fun i' hi' => by omega⟩ ?_
          rintro i ⟨hi, hall⟩
          by_cases hil : i < N
          · have bi := B1 i hil
            simp [hil, l1, l2]
            refine awp_loop2 [5, 14, 17, 18, 19, 21, 88, 89, 90, 94, 95] [] (fun j : Nat => [(96, iv j)]) (fun _ => []) (fun j => j ≤ N ∧ ∀ j', j' < j → pairM (gosW N pl w) labs L1 L2 e i j' = false) (fun j => N - j) 0 (weak_mk some (by simp) (by simp) rfl) ⟨by simp, fun j' hj' => by omega⟩ ?_
            rintro j ⟨hj, hallj⟩
            by_cases hjl : j < N
            · have bj := B2 j hjl
              simp [hjl, l1, l2]
              refine ⟨_, hcl _ _ bi.2 bj.2, ?_⟩
              by_cases hm2 : markB (gosW N pl w) labs (nth L1 i) (nth L2 j) = true
              · obtain ⟨x, hx⟩ := Int.eq_ofNat_of_zero_le (markB_ge hm2).1
                have hxl : x < (gosW N pl w).f.length := by omega
                rw [hx] at hm2
                have hMx := (isM_spec (by omega) (hM x hxl)).1
                simp [hm2, hx, hxl, hgp, hrN, l1, he]
                repeat (rw [exE_eq]; simp [hm2, hx, hxl, hgp, hrN, l1, he])
                refine ⟨_, has_spec _ hMx e (by omega), ?_⟩
                cases hb3 : tb (nth (gosW N pl w).past x) e
                · simp [wrap_id ((j : Int) + 1) (by omega) (by omega)]
                  refine Round.mk (j + 1) (weak_mk some (by simp) (by simp) rfl) ⟨hjl, fun j' hj' => ?_⟩ (by omega)
                  by_cases e2 : j' = j
                  · subst e2; simp [pairM, hm2, hx, he, hb3]
                  · exact hallj j' (by omega)
                · have hany := anyB_t (T := pairM (gosW N pl w) labs L1 L2 e) hil hjl (by simp [pairM, hm2, hx, hb3])
                  simp [hany, he]
              · simp [hm2, wrap_id ((j : Int) + 1) (by omega) (by omega)]
                repeat (rw [exE_eq]; simp [hm2, wrap_id ((j : Int) + 1) (by omega) (by omega)])
                refine Round.mk (j + 1) (weak_mk some (by simp) (by simp) rfl) ⟨hjl, fun j' hj' => ?_⟩ (by omega)
                by_cases e2 : j' = j
                · subst e2; simp [pairM, hm2]
                · exact hallj j' (by omega)
            · obtain rfl : j = N := by omega
              simp [l2, wrap_id ((i : Int) + 1) (by omega) (by omega)]
              refine Round.mk (i + 1) (weak_mk some (by simp) (by simp) rfl) ⟨hil, fun i' hi' j' hj' => ?_⟩ (by omega)
              by_cases e2 : i' = i
              · subst e2; exact hallj j' hj'
              · exact hall i' (by omega) j' hj'
          · obtain rfl : i = N := by omega
            have hany := anyB_f hall
            simp [l1, hany, he]
  · refine ⟨_, checkGossip_no a b true n pl [p, q, r] w hpl.1 hw.1 (by simp [Fits]) hc, ?_⟩
    simp [hc]
end Go.AM
