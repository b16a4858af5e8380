/-
  slices.Repeat of one number, at most eight times; the machine that accepts no word.
-/
import Derived.Test.YtnimmbjbinpajaaDoorFnNf
set_option linter.unusedVariables false
set_option linter.unusedSimpArgs false
set_option maxRecDepth 100000
set_option maxHeartbeats 1600000
namespace Go.AM
open Go.Proofs
theorem Mul64_one (n : Int) (h0 : 0 ≤ n) (h1 : n ≤ 8) : ACalls1 Tryd.prog 178 [.val (.int .u64 1), .val (.int .u64 n)] (.tup [.val (.int .u64 0), .val (.int .u64 n)]) := by
  have : n = 0 ∨ n = 1 ∨ n = 2 ∨ n = 3 ∨ n = 4 ∨ n = 5 ∨ n = 6 ∨ n = 7 ∨ n = 8 := by omega
  refine walk (fun _ => false) mixed Go.Proofs.Tryd.func178 rfl rfl rfl (by kernel_rfl) rfl (by simp) (by kernel_rfl) ?_
  rcases this with rfl | rfl | rfl | rfl | rfl | rfl | rfl | rfl | rfl
  all_goals
    simp
    try decide
theorem Mul_one (n : Int) (h0 : 0 ≤ n) (h1 : n ≤ 8) : ACalls1 Tryd.prog 171 [.val (.int .u64 1), .val (.int .u64 n)] (.tup [.val (.int .u64 0), .val (.int .u64 n)]) := by
  refine walk (fun _ => false) mixed Go.Proofs.Tryd.func171 rfl rfl rfl (by kernel_rfl) rfl (by simp) (by kernel_rfl) ?_
  simp
  refine ⟨_, Mul64_one n h0 h1, ?_⟩
  simp
@[simp ↓ high] theorem ints_isV (l : List Int) : (ints l).all isV = true := by simp [ints, isV, Value.oneCell']
def repR (n c : Nat) : List Int := List.replicate c (-1) ++ List.replicate (n - c) 0
theorem Repeat_spec (nn : Bool) (n : Nat) (h8 : n ≤ 8) : ACalls1 Tryd.prog 155 [.sl 1 nn (ints [-1]), iv n] (.own 1 true (ints (List.replicate n (-1)))) := by
  have hu : IntKind.u64.wrap (n : Int) = n := by
    have : n = 0 ∨ n = 1 ∨ n = 2 ∨ n = 3 ∨ n = 4 ∨ n = 5 ∨ n = 6 ∨ n = 7 ∨ n = 8 := by omega
    rcases this with rfl | rfl | rfl | rfl | rfl | rfl | rfl | rfl | rfl <;> decide
  have hu1 : IntKind.u64.wrap 1 = 1 := by decide
  have hi : IntKind.i64.wrap (n : Int) = n := wrap_id _ (by omega) (by omega)
  refine walk (fun t => t == 9044 || t == 1038) mixed Go.Proofs.Tryd.func155 rfl rfl rfl (by kernel_rfl) rfl (by simp) (by kernel_rfl) ?_
  simp
  rw [hu, hu1]
  refine ⟨_, Mul_one n (by omega) (by omega), ?_⟩
  simp [hi]
  refine ⟨by omega, fun _ => ⟨by omega, by omega, ?_⟩⟩
  have h1 : List.take (min 1 n) (ints [-1]) ++ List.drop (min 1 n) (ints (List.replicate n 0)) = ints (repR n (min 1 n)) := by
    cases n with
    | zero => rfl
    | succ n =>
      rw [show min 1 (n + 1) = 1 by omega, ints_drop, List.drop_replicate]
      unfold repR
      rw [ints_append]
      rfl
  rw [h1]
  refine awp_loop2 [7] [] (fun c : Nat => [(8, iv c)]) (fun c => [(30, .own 1 true (ints (repR n c)))]) (fun c => c ≤ n ∧ (0 < n → 0 < c)) (fun c => n - c) (min 1 n) (weak_mk some (by simp) (by simp) rfl) ⟨by omega, by omega⟩ ?_
  rintro c ⟨hc, hc0⟩
  have hl : (repR n c).length = n := by simp [repR]; omega
  by_cases hlt : c < n
  · have hw : IntKind.i64.wrap ((c : Int) + ((min c (n - c) : Nat) : Int)) = ((c + min c (n - c) : Nat) : Int) := by rw [wrap_id _ (by omega) (by omega)]; omega
    have hr : (ints (repR n c)).take c ++ ((ints (repR n c)).take (min c (n - c)) ++ (ints (repR n c)).drop (c + min c (n - c))) = ints (repR n (c + min c (n - c))) := by
      have e1 : (repR n c).take c = List.replicate c (-1) := by unfold repR; rw [List.take_left' (by simp)]
      have e2 : (repR n c).take (min c (n - c)) = List.replicate (min c (n - c)) (-1) := by
        unfold repR; rw [List.take_append_of_le_length (by simp; omega), List.take_replicate]; congr 1; omega
      have e3 : (repR n c).drop (c + min c (n - c)) = List.replicate (n - (c + min c (n - c))) 0 := by
        unfold repR; rw [List.drop_append, List.drop_eq_nil_of_le (by simp), List.drop_replicate]; simp; omega
      rw [ints_take, ints_take, ints_drop, e1, e2, e3, ← ints_append, ← ints_append]
      unfold repR
      rw [← List.append_assoc, List.replicate_append_replicate]
    simp [hlt, hl]
    refine ⟨by omega, ?_⟩
    first | refine ⟨⟨by kernel_rfl, by kernel_rfl⟩, ?_⟩ | exact ⟨by kernel_rfl, by kernel_rfl⟩
    rw [hw, hr]
    exact Round.mk (c + min c (n - c)) (weak_mk some (by simp) (by simp) rfl) ⟨by omega, by omega⟩ (by omega)
  · obtain rfl : c = n := by omega
    have : repR c c = List.replicate c (-1) := by simp [repR]
    simp [hl, this]
    done
theorem nothing_spec (L : Nat) (l : Lang) (h8 : L ≤ 8) (hv : Void l) : ACalls1 Tryd.prog 113 [iv L] (canO L l) := by
  have hc : (canM L l).fin = [false] ∧ (canM L l).next = [List.replicate L (-1)] := by
    have := canonOf_eq (canon_void (L := L) hv)
    unfold canM
    rw [this]; exact ⟨rfl, rfl⟩
  refine walk (fun _ => false) mixed Go.Proofs.Tryd.func113 rfl rfl rfl (by kernel_rfl) rfl (by simp) (by kernel_rfl) ?_
  simp
  refine ⟨_, Repeat_spec _ L h8, ?_⟩
  simp [hc.1, hc.2]
  exact .inl ⟨.ownNn _ _ _, .ownNn _ _ _⟩
end Go.AM
