/-
  Contracts: marks.
-/
import Derived.Test.YtmpdpjpebekfkaaDoorFnA
set_option linter.unusedVariables false
set_option linter.unusedSimpArgs false
set_option maxRecDepth 100000
set_option maxHeartbeats 1600000
namespace Go.AM
open Go.Proofs
/-- From `k` on. -/
def upFrom (k : Int) : Nat → List Int
  | 0 => []
  | n + 1 => k :: upFrom (k + 1) n
@[simp] theorem upFrom_length (k : Int) (n : Nat) : (upFrom k n).length = n := by
  induction n generalizing k with
  | zero => rfl
  | succ n ih => simp [upFrom, ih]
theorem upFrom_succ (k : Int) (n : Nat) : upFrom k (n + 1) = upFrom k n ++ [k + n] := by
  induction n generalizing k with
  | zero => simp [upFrom]
  | succ n ih => rw [upFrom, ih (k + 1), upFrom, List.cons_append]; congr 3; omega
theorem markInt64S_spec (nn : Bool) (l : List Int) (k : Int) (hl : Fits l) (h0 : 0 ≤ k) (h1 : k ≤ 1125899906842624) : ACalls2 Tryd.prog 16 [.own 1 nn (ints l), iv k] [.own 1 nn (ints (upFrom k l.length)), iv k] (iv (k + l.length)) := by
  unfold Fits at hl
  refine walkO (fun _ => false) mixed Go.Proofs.Tryd.func16 rfl rfl rfl (by kernel_rfl) (by simp) (by simp) (by simp) (by kernel_rfl) ?_
  simp
  refine awp_loop (fun s : Nat × List Int => ⟨asS [(0, .ref 1000000000), (1, iv (k + s.1)), (5, iv s.1)], asO [(1000000000, .own 1 nn (ints s.2))], 19⟩) (fun s => s.1 ≤ l.length ∧ s.2.length = l.length ∧ s.2.take s.1 = upFrom k s.1) (fun s => l.length - s.1) (0, l) ?_ ?_ ?_
  · exact weak_mk some (by simp) (by simp) rfl
  · simp [upFrom]
  · rintro ⟨i, m⟩ ⟨hk, hm, he⟩
    simp only at hk hm he
    by_cases hlt : i < l.length
    · simp [nth_at, hlt, hm, ints_put]
      rw [wrap_id _ (by omega) (by omega), wrap_id _ (by omega) (by omega)]
      repeat (refine And.intro (by omega) ?_)
      refine Round.mk (i + 1, m.set i (k + i)) (weak_mk some ?_ (by simp) rfl) ⟨hlt, by simpa using hm, ?_⟩ (by simp only; omega)
      · simp; omega
      · simp only
        rw [List.take_succ_eq_append_getElem (by simpa using by omega), List.take_set_of_le (by omega), he, List.getElem_set_self, upFrom_succ]
    · simp [nth_at, hlt, hm]
      obtain rfl : i = l.length := by omega
      rw [List.take_of_length_le (by omega)] at he
      exact ⟨.refl _, by rw [he]⟩
theorem heldInt64S_spec (nn : Bool) (n : Nat) (k : Int) (hl : n < 1099511627776) (h0 : 0 ≤ k) (h1 : k ≤ 1125899906842624) : ACalls1 Tryd.prog 17 [.sl 1 nn (ints (upFrom k n)), iv k] (iv (k + n)) := by
  refine walk (fun _ => false) mixed Go.Proofs.Tryd.func17 rfl rfl rfl (by kernel_rfl) rfl (by simp) (by kernel_rfl) ?_
  simp
  refine awp_loop (fun i : Nat => ⟨asS [(0, .sl 1 nn (ints (upFrom k n))), (1, iv (k + i)), (5, iv i)], asO [], 21⟩) (fun i => i ≤ n) (fun i => n - i) 0 ?_ ?_ ?_
  · exact weak_mk some (by simp) (by simp) rfl
  · simp
  · intro i hi
    by_cases hlt : i < n
    · have hg : (upFrom k n)[i]'(by simpa using hlt) = k + i := by
        clear hl h0 h1 hi
        induction n generalizing k i with
        | zero => omega
        | succ n ih =>
          cases i with
          | zero => simp [upFrom]
          | succ i => simp only [upFrom, List.getElem_cons_succ]; rw [ih (k + 1) i (by omega)]; omega
      simp [nth_at, hlt, hg]
      rw [wrap_id _ (by omega) (by omega), wrap_id _ (by omega) (by omega)]
      repeat (refine And.intro (by omega) ?_)
      refine Round.mk (i + 1) (weak_mk some ?_ (by simp) rfl) (show i + 1 ≤ n from hlt) (by omega)
      simp; omega
    · simp [nth_at, hlt]
      omega
end Go.AM
