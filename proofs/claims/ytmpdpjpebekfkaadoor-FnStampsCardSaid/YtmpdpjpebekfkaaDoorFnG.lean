/-
  Contracts: words over a number of letters, runs of nets, FireWord.
-/
import Derived.Test.YtmpdpjpebekfkaaDoorFnF
set_option linter.unusedVariables false
set_option linter.unusedSimpArgs false
set_option maxRecDepth 100000
set_option maxHeartbeats 1600000
namespace Go.AM
open Go.Proofs
/-- A word over so many letters. -/
def overW (n : Nat) (w : List Int) : Bool := decide ((w.length : Int) ≤ 24) && w.all fun x => decide (0 ≤ x) && decide (x ≤ (n : Int) - 1)
theorem l11Word_spec (n : Nat) (hn : n < 1099511627776) (nn : Bool) (w : List Int) (hw : Fits w) : ACalls1 Tryd.prog 55 [iv n, .sl 1 nn (ints w)] (bv (overW n w)) := by
  unfold Fits at hw
  refine walk (fun _ => false) mixed Go.Proofs.Tryd.func55 rfl rfl rfl (by kernel_rfl) rfl (by simp) (by kernel_rfl) ?_
  simp
  refine awp_loop2 [0, 1] [] (fun k : Nat => [(5, iv k)]) (fun _ => []) (fun k => k ≤ w.length ∧ ∀ i < k, 0 ≤ nth w i ∧ nth w i ≤ (n : Int) - 1) (fun k => w.length - k) 0 (weak_mk some (by simp) (by simp) rfl) (by simp) ?_
  rintro k ⟨hk, hi⟩
  by_cases hlt : k < w.length
  · simp [hlt, wrap_sub1 n hn]
    refine ⟨_, l01In_spec _ _ _, ?_⟩
    simp
    constructor
    · intro h
      unfold overW
      have : (w.all fun x => decide (0 ≤ x) && decide (x ≤ (n : Int) - 1)) = false := List.all_eq_false.2 ⟨nth w k, nth_mem hlt, by simp; omega⟩
      rw [this]; simp
    · intro h1 h2
      simp [wrap_id ((k : Int) + 1) (by omega) (by omega)]
      refine Round.mk (k + 1) (weak_mk some (by simp) (by simp) rfl) ⟨hlt, fun i h' => ?_⟩ (by omega)
      by_cases e : i = k
      · subst e; exact ⟨h1, h2⟩
      · exact hi i (by omega)
  · simp [hlt]
    unfold overW
    have : (w.all fun x => decide (0 ≤ x) && decide (x ≤ (n : Int) - 1)) = true := by
      rw [List.all_eq_true]
      intro x hx
      obtain ⟨i, h', rfl⟩ := List.mem_iff_getElem.1 hx
      have := hi i (by omega)
      rw [nth_at h'] at this
      simp; omega
    rw [this]; simp
theorem isOver_spec (n : Nat) (hn : n < 1099511627776) (nn : Bool) (w : List Int) (hw : Fits w) : ACalls1 Tryd.prog 61 [iv n, .sl 1 nn (ints w)] (bv (overW n w)) := by
  refine walk (fun _ => false) mixed Go.Proofs.Tryd.func61 rfl rfl rfl (by kernel_rfl) rfl (by simp) (by kernel_rfl) ?_
  unfold overW
  by_cases h : (w.length : Int) ≤ 24
  · simp [h, wrap_sub1 n hn]
    refine ⟨_, allIn_spec _ _ _ _ hw, ?_⟩
    simp
  · simp [h]
theorem overW_nth {n : Nat} {w : List Int} (h : overW n w = true) {i : Nat} (hi : i < w.length) : ∃ a : Nat, nth w i = a ∧ a < n := by
  unfold overW at h
  simp only [Bool.and_eq_true, decide_eq_true_eq, List.all_eq_true] at h
  have := h.2 _ (nth_mem hi)
  exact ⟨(nth w i).toNat, by omega, by omega⟩
theorem overW_len {n : Nat} {w : List Int} (h : overW n w = true) : w.length ≤ 24 := by
  unfold overW at h
  simp only [Bool.and_eq_true, decide_eq_true_eq] at h; omega
theorem drop_nth {w : List Int} {k : Nat} (h : k < w.length) : w.drop k = nth w k :: w.drop (k + 1) := by
  rw [nth_at h]; exact List.drop_eq_getElem_cons h
/-- The marking behind a word. -/
def runW (x : NetV) : Int → List Int → Option Int
  | m, [] => some m
  | m, a :: w => if fireBad x m a.toNat then none else runW x (fireTo x m a.toNat) w
theorem runW_M (x : NetV) (hx : ∀ i ∈ x.pre ++ x.post, M i) (hl : x.post.length = x.pre.length) : ∀ (w : List Int) (m m' : Int), (∀ a ∈ w, a.toNat < x.pre.length) → M m → runW x m w = some m' → M m'
  | [], m, m', _, hm, h => by simp [runW] at h; exact h ▸ hm
  | a :: w, m, m', hw, hm, h => by
    rw [runW] at h
    split at h
    · cases h
    · have ha := hw a (by simp)
      exact runW_M x hx hl w _ m' (fun b hb => hw b (by simp [hb])) (M_or (M_andNot hm (hx _ (List.mem_append_left _ (nth_mem ha)))) (hx _ (List.mem_append_right _ (nth_mem (by omega))))) h
/-- The marking behind a word, and the code. -/
def fireWordV (x : NetV) (m : Int) (w : List Int) : Int × Int :=
  if markCode x m = 0 then (if overW x.pre.length w then (match runW x m w with | some m' => (m', 0) | none => (0, 4)) else (0, 2)) else (0, markCode x m)
theorem overW_mem {n : Nat} {w : List Int} (h : overW n w = true) : ∀ a ∈ w, a.toNat < n := by
  unfold overW at h
  simp only [Bool.and_eq_true, decide_eq_true_eq, List.all_eq_true] at h
  intro a ha
  have := h.2 a ha
  omega
end Go.AM
