/-
  Automata: the reference tells what they are.
-/
import Derived.Test.YtnimmbjbinpajaaDoorFnAt
set_option linter.unusedVariables false
set_option linter.unusedSimpArgs false
set_option linter.unusedSectionVars false
set_option maxRecDepth 100000
set_option maxHeartbeats 1600000
namespace Go.AM
open Go.Proofs
theorem l11States_spec (a b : Bool) (m : AutV) (hn : m.next.length ≤ 1000000) : ACalls1 Tryd.prog 93 [autSl a b m] (iv m.next.length) := by
  refine walk (fun t => t == 1) mixed Go.Proofs.Tryd.func93 rfl rfl rfl (by kernel_rfl) rfl (by simp) (by kernel_rfl) ?_
  simp
def rowUpTo (m : AutV) (r : List Int) (k : Nat) : Prop := ∀ j, j < k → -1 ≤ nth r j ∧ nth r j ≤ (m.next.length : Int) - 1
theorem l11Is_spec (a b : Bool) (m : AutV) (hm : AutOk m) : ACalls1 Tryd.prog 33 [autSl a b m] (bv (isAutV m)) := by
  have hn := hm.n
  have hw : IntKind.i64.wrap ((m.next.length : Int) - 1) = (m.next.length : Int) - 1 := wrap_id _ (by omega) (by omega)
  unfold isAutV
  refine walk (fun t => t == 1) mixed Go.Proofs.Tryd.func33 rfl rfl rfl (by kernel_rfl) rfl (by simp) (by kernel_rfl) ?_
  simp
  refine ⟨_, l11States_spec a b m (by omega), ?_⟩
  simp
  refine ⟨_, l01In_spec _ _ _, ?_⟩
  cases h1 : (decide (0 ≤ m.letters) && decide (m.letters ≤ 8))
  · simp [h1]
  simp [h1]
  refine ⟨_, l01In_spec _ _ _, ?_⟩
  have e2 : (decide ((1 : Int) ≤ (m.next.length : Int)) && decide ((m.next.length : Int) ≤ 16)) = (decide (1 ≤ m.next.length) && decide (m.next.length ≤ 16)) := by
    rw [Bool.eq_iff_iff]; simp only [Bool.and_eq_true, decide_eq_true_eq]; omega
  rw [e2]
  cases h2 : (decide (1 ≤ m.next.length) && decide (m.next.length ≤ 16))
  · simp [h1, h2]
  have h2' : 1 ≤ m.next.length ∧ m.next.length ≤ 16 := by simpa using h2
  simp [h2, hw]
  refine ⟨_, l01In_spec _ _ _, ?_⟩
  cases h3 : (decide (0 ≤ m.start) && decide (m.start ≤ (m.next.length : Int) - 1))
  · simp [h1, h2, h3]
  simp [h3]
  refine ⟨_, l01Full_spec _ (by unfold I64; omega), ?_⟩
  simp
  refine ⟨_, l01In_spec _ _ _, ?_⟩
  have e4 : (decide (0 ≤ m.final) && decide (m.final ≤ full m.next.length)) = isM m.next.length m.final := rfl
  rw [e4]
  cases h4 : isM m.next.length m.final
  · simp [h1, h2, h3, h4]
  simp [h4]
  have bad : ∀ i, i < m.next.length → rowB m (nthR m.next i) = false → m.next.all (rowB m) = false := fun i hi h => by
    rw [← Bool.not_eq_true, List.all_eq_true]
    intro hall
    rw [hall _ (nthR_mem hi)] at h; cases h
  have h1' : 0 ≤ m.letters ∧ m.letters ≤ 8 := by simpa using h1
  refine awp_loop2 [1, 3] [] (fun i : Nat => [(4, iv i)]) (fun _ => []) (fun i => i ≤ m.next.length ∧ ∀ j, j < i → rowB m (nthR m.next j) = true) (fun i => m.next.length - i) 0 (weak_mk some (by simp) (by simp) rfl) ⟨by simp, fun j hj => by omega⟩ ?_
  rintro i ⟨hi, hall⟩
  by_cases hil : i < m.next.length
  · have hfit := hm.r _ (nthR_mem hil)
    unfold Fits at hfit
    by_cases hrl : ((nthR m.next i).length : Int) = m.letters
    · simp [hil, hrl]
      refine awp_loop2 [1, 3, 4] [] (fun a : Nat => [(5, iv a)]) (fun _ => []) (fun a => a ≤ (nthR m.next i).length ∧ rowUpTo m (nthR m.next i) a) (fun a => (nthR m.next i).length - a) 0 (weak_mk some (by simp) (by simp) rfl) ⟨by simp, fun j hj => by omega⟩ ?_
      rintro c ⟨hc, hup⟩
      by_cases hcl : c < (nthR m.next i).length
      · simp [hil, hcl, hw, show (c : Int) < m.letters by omega]
        refine ⟨_, l01In_spec _ _ _, ?_⟩
        cases hin : (decide (-1 ≤ nth (nthR m.next i) c) && decide (nth (nthR m.next i) c ≤ (m.next.length : Int) - 1))
        · have hb : rowB m (nthR m.next i) = false := by
            unfold rowB
            rw [Bool.and_eq_false_iff]; right
            rw [← Bool.not_eq_true, List.all_eq_true]
            intro h
            rw [h _ (nth_mem hcl)] at hin; cases hin
          simp [bad i hil hb]
        · simp [wrap_id ((c : Int) + 1) (by omega) (by omega)]
          refine Round.mk (c + 1) (weak_mk some (by simp) (by simp) rfl) ⟨hcl, fun j hj => ?_⟩ (by omega)
          by_cases e : j = c
          · subst e; simpa using hin
          · exact hup j (by omega)
      · obtain rfl : c = (nthR m.next i).length := by omega
        simp [show ¬ ((nthR m.next i).length : Int) < m.letters by omega, wrap_id ((i : Int) + 1) (by omega) (by omega)]
        refine Round.mk (i + 1) (weak_mk some (by simp) (by simp) rfl) ⟨hil, fun j hj => ?_⟩ (by omega)
        by_cases e : j = i
        · subst e
          unfold rowB
          simp only [hrl, decide_true, Bool.true_and, List.all_eq_true, Bool.and_eq_true, decide_eq_true_eq]
          intro y hy
          obtain ⟨q, hq, rfl⟩ := List.mem_iff_getElem.1 hy
          rw [← nth_at hq]; exact hup q hq
        · exact hall j (by omega)
    · have hb : rowB m (nthR m.next i) = false := by unfold rowB; simp [hrl]
      simp [hil, hrl, bad i hil hb]
  · obtain rfl : i = m.next.length := by omega
    have : m.next.all (rowB m) = true := by
      rw [List.all_eq_true]
      intro r hr
      obtain ⟨q, hq, rfl⟩ := List.mem_iff_getElem.1 hr
      rw [← nthR_at hq]; exact hall q hq
    simp [this]
theorem specIsAutomaton_spec (a b : Bool) (m : AutV) (hm : AutOk m) : ACalls1 Tryd.prog 85 [autSl a b m] (bv (isAutV m)) := by
  refine walk (fun t => t == 1) mixed Go.Proofs.Tryd.func85 rfl rfl rfl (by kernel_rfl) rfl (by simp) (by kernel_rfl) ?_
  simp
  refine ⟨_, l11Is_spec a b m hm, ?_⟩
  simp
end Go.AM
