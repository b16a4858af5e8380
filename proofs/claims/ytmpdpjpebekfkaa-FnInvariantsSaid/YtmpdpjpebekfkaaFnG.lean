/-
  Contracts: words over a number of letters, runs of nets, FireWord.
-/
import Derived.Test.YtmpdpjpebekfkaaFnF
set_option linter.unusedVariables false
set_option linter.unusedSimpArgs false
set_option maxRecDepth 100000
set_option maxHeartbeats 1600000
namespace Go.AM
open Go.Proofs
/-- A word over so many letters. -/
def overW (n : Nat) (w : List Int) : Bool := decide ((w.length : Int) ≤ 24) && w.all fun x => decide (0 ≤ x) && decide (x ≤ (n : Int) - 1)
theorem isOver_spec (n : Nat) (hn : n < 1099511627776) (nn : Bool) (w : List Int) (hw : Fits w) : ACalls1 Try.prog 36 [iv n, .sl 1 nn (ints w)] (bv (overW n w)) := by
  refine walk (fun _ => false) mixed Go.Proofs.Try.func36 rfl rfl rfl (by kernel_rfl) rfl (by simp) (by kernel_rfl) ?_
  unfold overW
  by_cases h : (w.length : Int) ≤ 24
  · simp [h, wrap_sub1 n hn]
    refine ⟨_, allIn_spec _ _ _ _ hw, ?_⟩
    simp
  · simp [h]
theorem overW_nth {n : Nat} {w : List Int} (h : overW n w = true) {i : Nat} (hi : i < w.length) : ∃ a : Nat, nth w i = a ∧ a < n := by
  unfold overW at h
  simp only [Bool.and_eq_true, decide_eq_true_eq, List.all_eq_true] at h
  have := h.2 _ (nth_mem hi)
  exact ⟨(nth w i).toNat, by omega, by omega⟩
theorem overW_len {n : Nat} {w : List Int} (h : overW n w = true) : w.length ≤ 24 := by
  unfold overW at h
  simp only [Bool.and_eq_true, decide_eq_true_eq] at h; omega
theorem drop_nth {w : List Int} {k : Nat} (h : k < w.length) : w.drop k = nth w k :: w.drop (k + 1) := by
  rw [nth_at h]; exact List.drop_eq_getElem_cons h
/-- The marking behind a word. -/
def runW (x : NetV) : Int → List Int → Option Int
  | m, [] => some m
  | m, a :: w => if fireBad x m a.toNat then none else runW x (fireTo x m a.toNat) w
theorem run_spec (n1 n2 : Bool) (x : NetV) (m : Int) (nn : Bool) (w : List Int) (hl : x.post.length = x.pre.length) (hw : overW x.pre.length w = true) :
    ACalls1 Try.prog 38 [netSl n1 n2 x, iv m, .sl 1 nn (ints w)] (.tup [iv ((runW x m w).getD 0), bv (runW x m w).isSome]) := by
  have h24 := overW_len hw
  refine walk (fun t => t == 3) mixed Go.Proofs.Try.func38 rfl rfl rfl (by kernel_rfl) rfl (by simp) (by kernel_rfl) ?_
  simp
  refine awp_loop2 [3, 12, 13] [] (fun s : Nat × Int => [(14, iv s.1), (1, iv s.2)]) (fun _ => []) (fun s => s.1 ≤ w.length ∧ runW x s.2 (w.drop s.1) = runW x m w) (fun s => w.length - s.1) (0, m) (weak_mk some (by simp) (by simp) rfl) (by simp) ?_
  rintro ⟨k, m'⟩ ⟨hk, hr⟩
  simp only at hk hr
  by_cases hlt : k < w.length
  · obtain ⟨a, ha, han⟩ := overW_nth hw hlt
    simp [hlt, ha]
    refine ⟨_, fire_spec _ _ x m' a han (by omega), ?_⟩
    rw [drop_nth hlt, runW, ha, Int.toNat_natCast] at hr
    cases hb : fireBad x m' a
    · simp [wrap_id ((k : Int) + 1) (by omega) (by omega)]
      rw [hb] at hr
      exact Round.mk ((k + 1, fireTo x m' a)) (weak_mk some (by simp) (by simp) rfl) ⟨hlt, by simpa using hr⟩ (by simp only; omega)
    · simp
      rw [hb] at hr
      simp at hr
      simp [← hr]
  · simp [hlt]
    obtain rfl : k = w.length := by omega
    rw [List.drop_length, runW] at hr
    simp [← hr]
theorem runW_M (x : NetV) (hx : ∀ i ∈ x.pre ++ x.post, M i) (hl : x.post.length = x.pre.length) : ∀ (w : List Int) (m m' : Int), (∀ a ∈ w, a.toNat < x.pre.length) → M m → runW x m w = some m' → M m'
  | [], m, m', _, hm, h => by simp [runW] at h; exact h ▸ hm
  | a :: w, m, m', hw, hm, h => by
    rw [runW] at h
    split at h
    · cases h
    · have ha := hw a (by simp)
      exact runW_M x hx hl w _ m' (fun b hb => hw b (by simp [hb])) (M_or (M_andNot hm (hx _ (List.mem_append_left _ (nth_mem ha)))) (hx _ (List.mem_append_right _ (nth_mem (by omega))))) h
/-- The marking behind a word, and the code. -/
def fireWordV (x : NetV) (m : Int) (w : List Int) : Int × Int :=
  if markCode x m = 0 then (if overW x.pre.length w then (match runW x m w with | some m' => (m', 0) | none => (0, 4)) else (0, 2)) else (0, markCode x m)
theorem overW_mem {n : Nat} {w : List Int} (h : overW n w = true) : ∀ a ∈ w, a.toNat < n := by
  unfold overW at h
  simp only [Bool.and_eq_true, decide_eq_true_eq, List.all_eq_true] at h
  intro a ha
  have := h.2 a ha
  omega
theorem FireWord_spec (n1 n2 : Bool) (x : NetV) (hx : NetOk x) (m : Int) (hm : I64 m) (nn : Bool) (w : List Int) (hw : ListOk w) : ACalls1 Try.prog 11 [netSl n1 n2 x, iv m, .sl 1 nn (ints w)] (.tup [iv (fireWordV x m w).1, iv (fireWordV x m w).2]) := by
  refine walk (fun t => t == 3) mixed Go.Proofs.Try.func11 rfl rfl rfl (by kernel_rfl) rfl (by simp) (by kernel_rfl) ?_
  simp
  refine ⟨_, checkMarking_spec _ _ x m, ?_⟩
  unfold fireWordV
  by_cases h : markCode x m = 0
  · simp [h]
    have hn := markCode_zero h
    have hl := isNet_len hn.1
    refine ⟨_, length_spec _ _ hx.2.1.1, ?_⟩
    simp
    refine ⟨_, isOver_spec _ hx.2.1.1 _ w hw.1, ?_⟩
    cases ho : overW x.pre.length w
    · simp
    · simp
      refine ⟨_, run_spec _ _ x m _ w hl.1 ho, ?_⟩
      cases hr : runW x m w <;> simp
  · simp [h]
end Go.AM
