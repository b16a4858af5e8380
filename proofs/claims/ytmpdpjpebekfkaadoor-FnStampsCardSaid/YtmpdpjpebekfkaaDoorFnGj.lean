/-
  PastByStamps.
-/
import Derived.Test.YtmpdpjpebekfkaaDoorFnGi
set_option linter.unusedVariables false
set_option linter.unusedSimpArgs false
set_option maxRecDepth 100000
set_option maxHeartbeats 1600000
namespace Go.AM
open Go.Proofs
def leUp (r s : List Int) : Nat → Bool
  | 0 => true
  | j + 1 => leUp r s j && decide (nth r j ≤ nth s j)
def pastByF (R : List (List Int)) (N i : Nat) : Int := orMask 0 (fun k => leUp (nthR R k) (nthR R i) N) R.length
def pastByStampsV (n : Int) (pl w : List Int) (p : Int) : Int × Int :=
  if (stampsOfV n pl w).2 = 0 then (if 0 ≤ p ∧ p ≤ (w.length : Int) - 1 then (pastByF (stampsOfV n pl w).1 n.toNat p.toNat, 0) else (0, 2)) else (0, (stampsOfV n pl w).2)
theorem gosW_len {n : Int} {pl w ps : List Int} (h : gosCode n pl w ps = 0) : (gosW n pl w).f.length = w.length := by
  obtain ⟨h1, h2, h3⟩ := gosCode_zero h
  obtain ⟨hw, hu, h24⟩ := overW_wn h2
  obtain ⟨h8, _⟩ := pl_len h1
  have hp := nf_perm (depP_ok h8) (wn w).length (u := wn w) rfl (fun a ha => by rw [depP_length]; exact hu.2 a ha)
  have hl : (nf (depP pl) (wn w)).length = (wn w).length := hp.length_eq
  have : (wn w).length = w.length := by simp [wn]
  show (nf (depP pl) (wn w)).length = w.length
  omega
theorem stamps_facts {n : Int} {pl w : List Int} (h : (stampsOfV n pl w).2 = 0) : (stampsOfV n pl w).1.length = w.length ∧ w.length ≤ 24 ∧ 1 ≤ n ∧ n ≤ 4 ∧ ∀ k, k < w.length → (nthR (stampsOfV n pl w).1 k).length = n.toNat := by
  have hc : gosCode n pl w [] = 0 := by
    unfold stampsOfV at h
    by_cases hc : gosCode n pl w [] = 0
    · exact hc
    · simp [hc] at h
  have hl := gosW_len hc
  have hg := gosW_ok hc
  have hlen := hg.len
  obtain ⟨_, h1, h4, _⟩ := gos_facts hg
  simp only [gosW_n] at h1 h4
  have e : (stampsOfV n pl w).1 = stampL (gosW n pl w) := by simp [stampsOfV, hc]
  rw [e]
  refine ⟨by simp [stampL, hl], by omega, h1, h4, fun k hk => ?_⟩
  rw [nthR_at (by simp [stampL, hl]; exact hk)]
  simp [stampL, countL]
theorem PastByStamps_spec (n : Int) (hn : I64 n) (a : Bool) (pl : List Int) (hpl : ListOk pl) (b : Bool) (w : List Int) (hw : ListOk w) (p : Int) (hp : I64 p) : ACalls1 Tryd.prog 32 [iv n, .sl 1 a (ints pl), .sl 1 b (ints w), iv p] (.tup [iv (pastByStampsV n pl w p).1, iv (pastByStampsV n pl w p).2]) := by
  have hst := stamps_facts (n := n) (pl := pl) (w := w)
  refine walk (fun t => t == 3022) mixed Go.Proofs.Tryd.func32 rfl rfl rfl (by kernel_rfl) rfl (by simp) (by kernel_rfl) ?_
  simp
  refine ⟨_, StampsOf_spec n hn a pl hpl b w hw, ?_⟩
  unfold pastByStampsV
  generalize stampsOfV n pl w = st at *
  obtain ⟨R, code⟩ := st
  simp only at hst ⊢
  by_cases h0 : code = 0
  · obtain ⟨h1, h2, h3, h4, h5⟩ := hst h0
    obtain ⟨N, rfl⟩ := Int.eq_ofNat_of_zero_le (show 0 ≤ n by omega)
    simp only [Int.ofNat_eq_natCast, Int.toNat_natCast] at h5 ⊢
    simp [h0]
    refine ⟨_, length_spec _ _ hw.1, ?_⟩
    simp [wrap_id ((w.length : Int) - 1) (by omega) (by omega)]
    refine ⟨_, inRange_spec _ _ _, ?_⟩
    by_cases hin : 0 ≤ p ∧ p ≤ (w.length : Int) - 1
    · obtain ⟨i, rfl⟩ := Int.eq_ofNat_of_zero_le hin.1
      have hil : i < w.length := by omega
      have hri := h5 i hil
      simp [hin, h1]
      refine awp_loop2 [3, 10, 34, 35] [] (fun k : Nat => [(12, iv (orMask 0 (fun k => leUp (nthR R k) (nthR R i) N) k)), (36, iv k)]) (fun _ => []) (fun k => k ≤ w.length) (fun k => w.length - k) 0 (weak_mk some (by simp [orMask]) (by simp) rfl) (by simp) ?_
      intro k hk
      by_cases hkl : k < w.length
      · have hrk := h5 k hkl
        simp [hkl, h1, hrk]
        refine awp_loop2 [3, 10, 12, 13, 34, 35, 36, 41, 42] [] (fun j : Nat => [(15, bv (leUp (nthR R k) (nthR R i) j)), (43, iv j)]) (fun _ => []) (fun j => j ≤ N) (fun j => N - j) 0 (weak_mk some (by simp [leUp]) (by simp) rfl) (by simp) ?_
        intro j hj
        by_cases hjl : j < N
        · cases hb : leUp (nthR R k) (nthR R i) j
          · simp [hjl, hrk, wrap_id ((j : Int) + 1) (by omega) (by omega)]
            repeat (rw [exE_eq]; simp [hjl, hrk, wrap_id ((j : Int) + 1) (by omega) (by omega)])
            exact Round.mk (j + 1) (weak_mk some (by simp [leUp, hb]) (by simp) rfl) hjl (by omega)
          · simp [hjl, hrk, hri, h1, hil, wrap_id ((j : Int) + 1) (by omega) (by omega)]
            repeat (rw [exE_eq]; simp [hjl, hrk, hri, h1, hil, wrap_id ((j : Int) + 1) (by omega) (by omega)])
            exact Round.mk (j + 1) (weak_mk some (by simp [leUp, hb]) (by simp) rfl) hjl (by omega)
        · obtain rfl : j = N := by omega
          cases hb : leUp (nthR R k) (nthR R i) j
          · simp [hrk, wrap_id ((k : Int) + 1) (by omega) (by omega)]
            exact Round.mk (k + 1) (weak_mk some (by simp [orMask, hb]) (by simp) rfl) hkl (by omega)
          · simp [hrk]
            refine ⟨_, one_spec k (by omega), ?_⟩
            simp [wrap_id ((k : Int) + 1) (by omega) (by omega)]
            exact Round.mk (k + 1) (weak_mk some (by simp [orMask, hb]) (by simp) rfl) hkl (by omega)
      · obtain rfl : k = w.length := by omega
        simp [pastByF, h1]
    · have hin' : (decide (0 ≤ p) && decide (p ≤ (w.length : Int) - 1)) = false := by
        rw [← Bool.not_eq_true, Bool.and_eq_true, decide_eq_true_eq, decide_eq_true_eq]; exact hin
      simp [hin', hin]
  · simp [h0]
end Go.AM
