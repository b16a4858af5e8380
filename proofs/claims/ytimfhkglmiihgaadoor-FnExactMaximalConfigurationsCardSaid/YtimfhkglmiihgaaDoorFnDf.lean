/-
  slices.DeleteFunc.
-/
import Derived.Test.YtimfhkglmiihgaaDoorFnF
set_option linter.unusedVariables false
set_option linter.unusedSimpArgs false
set_option maxRecDepth 100000
set_option maxHeartbeats 1600000
namespace Go.AM
open Go.Proofs
@[simp ↓ high] theorem ints_vals (l : List Int) : (∀ y, y ∈ ints l → ∃ v, y = AV.val v) = True := by
  refine eq_true fun y hy => ?_
  unfold ints at hy
  obtain ⟨x, _, rfl⟩ := List.mem_map.1 hy
  exact ⟨_, rfl⟩
theorem take_succ_filter {l : List Int} {p : Int → Bool} {j : Nat} (h : j < l.length) : (l.take (j + 1)).filter p = if p (nth l j) then (l.take j).filter p ++ [nth l j] else (l.take j).filter p := by
  rw [List.take_succ_eq_append_getElem h, List.filter_append, ← nth_at h]
  by_cases hp : p (nth l j) = true <;> simp [hp]
theorem drop_set_lt {l : List Int} {i j : Nat} {v : Int} (h : i < j) : (l.set i v).drop j = l.drop j := by
  rw [List.drop_set_of_lt h]
theorem nth_drop_eq {l m : List Int} {j : Nat} (hl : l.length = m.length) (h : l.drop j = m.drop j) (hj : j < m.length) : nth l j = nth m j := by
  rw [nth_at (by omega), nth_at hj]
  have : (l.drop j)[0]? = (m.drop j)[0]? := by rw [h]
  simpa [hj, show j < l.length by omega] using this
theorem drop_step {l m : List Int} {j : Nat} (h : l.drop j = m.drop j) : l.drop (j + 1) = m.drop (j + 1) := by
  have : (l.drop j).drop 1 = (m.drop j).drop 1 := by rw [h]
  simpa [List.drop_drop, Nat.add_comm] using this
theorem DeleteFunc_spec (nn : Bool) (l : List Int) (hl : l.length ≤ 1000000) (g : FuncId) (caps : List AV) (p : Int → Bool) (hg : ∀ n, n ∈ l → ACalls1 Tryd.prog g (iv n :: caps) (bv (p n))) (hc : immL caps = true) (hno : nrfL caps = true) :
    ACalls2 Tryd.prog 115 [.own 1 nn (ints l), .fn g caps] [.junk, .fn g caps] (.own 1 nn (ints (l.filter fun y => !p y))) := by
  refine walkJ (fun _ => false) [true, false] mixed Go.Proofs.Tryd.func115 rfl rfl rfl (by kernel_rfl) (by simp) (by simp) (by simp) (by kernel_rfl) ?_
  simp
  refine ⟨_, IndexFunc_spec nn l (by unfold Fits; omega) g caps p hg, ?_⟩
  cases h : l.findIdx? p with
  | none =>
    have : l.filter (fun y => !p y) = l := by
      rw [List.findIdx?_eq_none_iff] at h
      exact List.filter_eq_self.2 fun y hy => by simp [h y hy]
    simp [this]
  | some i0 =>
    rw [List.findIdx?_eq_some_iff_getElem] at h
    obtain ⟨hi0, hpi, hbef⟩ := h
    have hne : ¬ ((i0 : Int) = -1) := by omega
    simp [hne]
    rw [wrap_id _ (by omega) (by omega)]
    refine awp_loop2 [0, 1] [] (fun s : Nat × Nat × List Int => [(6, iv s.1), (5, iv s.2.1)]) (fun s => [(1000000000, .own 1 nn (ints s.2.2))]) (fun s => s.1 ≤ l.length ∧ s.2.1 < s.1 ∧ s.2.2.length = l.length ∧ s.2.2.take s.2.1 = (l.take s.1).filter (fun y => !p y) ∧ s.2.2.drop s.1 = l.drop s.1) (fun s => l.length - s.1) (i0 + 1, i0, l) (weak_mk some (by simp) (by simp) rfl) ⟨by simp only; omega, by simp only; omega, rfl, ?_, rfl⟩ ?_
    · simp only
      have e1 : (l.take i0).filter (fun y => !p y) = l.take i0 := List.filter_eq_self.2 fun y hy => by
        obtain ⟨k, hk, rfl⟩ := List.mem_iff_getElem.1 hy
        rw [List.length_take] at hk
        have := hbef k (by omega)
        rw [List.getElem_take]; simpa using this
      rw [take_succ_filter hi0, nth_at hi0, hpi]
      simp [e1]
    · rintro ⟨j, i, L⟩ ⟨hj, hij, hL, ht, hd⟩
      simp only at hj hij hL ht hd
      by_cases hjl : j < l.length
      · have hnj := nth_drop_eq hL hd hjl
        have hst := take_succ_filter (p := fun y => !p y) hjl
        simp [hjl, hL, hnj, show j + 1 ≤ l.length from hjl]
        refine ⟨_, hg _ (nth_mem hjl), ?_⟩
        cases hpj : p (nth l j)
        · rw [hpj] at hst
          simp [show i < l.length by omega, show i + 1 ≤ l.length by omega, hL, ints_put, wrap_id ((i : Int) + 1) (by omega) (by omega), wrap_id ((j : Int) + 1) (by omega) (by omega)]
          repeat (refine And.intro (by omega) ?_)
          refine Round.mk (j + 1, i + 1, L.set i (nth l j)) (weak_mk some (by simp) (by simp [ints_put, hL, show i < l.length by omega]) rfl) ⟨hjl, by simp only; omega, by simpa using hL, ?_, ?_⟩ (by simp only; omega)
          · simp only
            rw [hst]
            simp only [Bool.not_false, if_true]
            rw [← ht, List.take_succ_eq_append_getElem (by simp; omega), List.take_set_of_le (by omega), List.getElem_set_self]
          · simp only
            rw [drop_set_lt (by omega)]
            exact drop_step hd
        · rw [hpj] at hst
          simp [wrap_id ((j : Int) + 1) (by omega) (by omega)]
          exact Round.mk (j + 1, i, L) (weak_mk some (by simp) (by simp) rfl) ⟨hjl, by simp only; omega, hL, by simp only; rw [hst]; simpa using ht, drop_step hd⟩ (by simp only; omega)
      · obtain rfl : j = l.length := by omega
        rw [List.take_length] at ht
        simp [hL, hij]
        refine ⟨by omega, ?_⟩
        rw [ints_take, ← ints_append, ints_take, List.take_append_of_le_length (by simp; omega), List.take_take, Nat.min_self, ht]
        exact .refl _
end Go.AM
