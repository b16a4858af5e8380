/-
  Contracts of the laws' counts of bits and parts.
-/
import Derived.Test.YtmpdpjpebekfkaaFnPop
set_option linter.unusedVariables false
set_option linter.unusedSimpArgs false
set_option maxRecDepth 100000
set_option maxHeartbeats 1600000
namespace Go.AM
open Go.Proofs
theorem popc_rec (n : Nat) (h : n ≠ 0) : popc n = n % 2 + popc (n / 2) := by rw [popc]; simp [h]
theorem popc_self (n : Nat) : popc n ≤ n := by
  induction n using Nat.strongRecOn with
  | _ n ih =>
    by_cases h : n = 0
    · subst h; rw [popc]; simp
    · rw [popc_rec n h]; have := ih (n / 2) (by omega); omega
theorem bits9_spec (m : Nat) (hm : m < 9223372036854775808) : ACalls1 Try.prog 12 [iv m] (iv (popc m)) := by
  refine walk (fun _ => false) mixed Go.Proofs.Try.func12 rfl rfl rfl (by kernel_rfl) rfl (by simp) (by kernel_rfl) ?_
  simp
  refine awp_loop2 [] [] (fun q : Nat × Nat => [(0, iv q.1), (3, iv q.2)]) (fun _ => []) (fun q => q.1 ≤ m ∧ q.2 + popc q.1 = popc m) (fun q => q.1) (m, 0) (weak_mk some (by simp) (by simp) rfl) (by simp) ?_
  rintro ⟨x, c⟩ ⟨hx, hc⟩
  simp only at hx hc
  have hp := popc_self m
  by_cases h : 0 < x
  · have h1 : ((x : Nat) : Int).tmod 2 = ((x % 2 : Nat) : Int) := by rw [Int.tmod_eq_emod_of_nonneg (by omega)]; omega
    have h2 : ((x : Nat) : Int).tdiv 2 = ((x / 2 : Nat) : Int) := by rw [Int.tdiv_eq_ediv_of_nonneg (by omega)]; omega
    have hr := popc_rec x (by omega)
    simp [h, h1, h2]
    rw [wrap_id _ (by omega) (by omega), wrap_id _ (by omega) (by omega)]
    exact Round.mk (x / 2, c + x % 2) (weak_mk some (by simp) (by simp) rfl) ⟨by simp only; omega, by simp only; omega⟩ (by simp only; omega)
  · obtain rfl : x = 0 := by omega
    rw [show popc 0 = 0 by rw [popc]; simp] at hc
    simp
    omega
theorem holds9_spec (nn : Bool) (l : List Int) (hl : l.length ≤ 1000000) (m : Int) : ACalls1 Try.prog 10 [.sl 1 nn (ints l), iv m] (iv ((l.filter fun p => ibits .andNot .i64 m p == 0).length)) := by
  refine walk (fun _ => false) mixed Go.Proofs.Try.func10 rfl rfl rfl (by kernel_rfl) rfl (by simp) (by kernel_rfl) ?_
  simp
  refine awp_loop2 [0, 1] [] (fun k : Nat => [(6, iv k), (5, iv ((l.take k).filter fun p => ibits .andNot .i64 m p == 0).length)]) (fun _ => []) (fun k => k ≤ l.length) (fun k => l.length - k) 0 (weak_mk some (by simp) (by simp) rfl) (by simp) ?_
  intro k hk
  have hle : ((l.take k).filter fun p => ibits .andNot .i64 m p == 0).length ≤ k := by
    have := List.length_filter_le (fun p => ibits .andNot .i64 m p == 0) (l.take k)
    simp at this ⊢
    omega
  by_cases hlt : k < l.length
  · have hs : l.take (k + 1) = l.take k ++ [nth l k] := by rw [take_succ _ _ hlt]; rfl
    simp [hlt]
    generalize hF : ((l.take k).filter fun p => ibits .andNot .i64 m p == 0).length = F at *
    refine ⟨fun he => ?_, fun he => ?_⟩
    · have hn : ((l.take (k + 1)).filter fun p => ibits .andNot .i64 m p == 0).length = F + 1 := by rw [hs, List.filter_append, List.length_append, hF]; simp [he]
      rw [wrap_id _ (by omega) (by omega), wrap_id _ (by omega) (by omega)]
      exact Round.mk (k + 1) (weak_mk some (by simp [hn]) (by simp) rfl) hlt (by omega)
    · have hn : ((l.take (k + 1)).filter fun p => ibits .andNot .i64 m p == 0).length = F := by rw [hs, List.filter_append, List.length_append, hF]; simp [he]
      rw [wrap_id _ (by omega) (by omega)]
      exact Round.mk (k + 1) (weak_mk some (by simp [hn]) (by simp) rfl) hlt (by omega)
  · obtain rfl : k = l.length := by omega
    simp
end Go.AM
