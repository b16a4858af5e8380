/-
  Contracts: transitions that fire.
-/
import Derived.Test.YtmpdpjpebekfkaaDoorFnE
set_option linter.unusedVariables false
set_option linter.unusedSimpArgs false
set_option maxRecDepth 100000
set_option maxHeartbeats 1600000
namespace Go.AM
open Go.Proofs
/-- A transition cannot fire. -/
def fireBad (x : NetV) (m : Int) (a : Nat) : Bool := (ibits .andNot .i64 (nth x.pre a) m != 0) || (ibits .and .i64 (ibits .andNot .i64 m (nth x.pre a)) (nth x.post a) != 0)
def fireTo (x : NetV) (m : Int) (a : Nat) : Int := ibits .or .i64 (ibits .andNot .i64 m (nth x.pre a)) (nth x.post a)
theorem nth_mem {l : List Int} {n : Nat} (h : n < l.length) : nth l n ∈ l := by
  rw [nth_at h]; exact List.getElem_mem h
theorem length_spec (nn : Bool) (l : List Int) (h : Fits l) : ACalls1 Tryd.prog 62 [.sl 1 nn (ints l)] (iv l.length) := by
  refine walk (fun _ => false) mixed Go.Proofs.Tryd.func62 rfl rfl rfl (by kernel_rfl) rfl (by simp) (by kernel_rfl) ?_
  unfold Fits at h
  simp
/-- The enabled transitions, in steps. -/
def enabUpTo (x : NetV) (m : Int) : Nat → Int
  | 0 => 0
  | k + 1 => if fireBad x m k then enabUpTo x m k else ibits .or .i64 (enabUpTo x m k) (pow1 k)
theorem fireTo_nonneg (x : NetV) (m : Int) (k : Nat) (hx : ∀ i ∈ x.pre ++ x.post, M i) (hm : M m) (h1 : k < x.pre.length) (h2 : k < x.post.length) : 0 ≤ fireTo x m k :=
  (M_or (M_andNot hm (hx _ (List.mem_append_left _ (nth_mem h1)))) (hx _ (List.mem_append_right _ (nth_mem h2)))).1
/-- What is told of a marking. -/
def markCode (x : NetV) (m : Int) : Int := if isNet x.p x.pre x.post x.s then (if decide (0 ≤ m) && decide (m ≤ full x.p) then 0 else 2) else 1
theorem isNet_len {x : NetV} (h : isNet x.p x.pre x.post x.s = true) : x.post.length = x.pre.length ∧ x.pre.length ≤ 8 ∧ 0 ≤ x.p ∧ x.p ≤ 12 := by
  unfold isNet at h
  simp at h; omega
theorem isNet_masks {x : NetV} (h : isNet x.p x.pre x.post x.s = true) : ∀ i ∈ x.pre ++ x.post, 0 ≤ i ∧ i ≤ full x.p := by
  have hl := isNet_len h
  unfold isNet at h
  simp only [Bool.and_eq_true, List.all_eq_true, List.mem_range] at h
  intro i hi
  rcases List.mem_append.1 hi with hi | hi <;> obtain ⟨k, hk, rfl⟩ := List.mem_iff_getElem.1 hi
  · have := h.2 k hk
    simp [isTr, hk] at this; omega
  · have := h.2 k (by omega)
    simp [isTr, hk] at this; omega
theorem isNet_M {x : NetV} (h : isNet x.p x.pre x.post x.s = true) : ∀ i ∈ x.pre ++ x.post, M i := by
  intro i hi
  have hl := isNet_len h
  obtain ⟨n, hn⟩ := Int.eq_ofNat_of_zero_le hl.2.2.1
  have := isNet_masks h i hi
  rw [hn] at this
  exact full_M (n := n) (by omega) this.1 this.2
theorem mark_M {x : NetV} {m : Int} (h : isNet x.p x.pre x.post x.s = true) (h0 : 0 ≤ m) (h1 : m ≤ full x.p) : M m := by
  have hl := isNet_len h
  obtain ⟨n, hn⟩ := Int.eq_ofNat_of_zero_le hl.2.2.1
  rw [hn] at h1
  exact full_M (n := n) (by omega) h0 h1
/-- The enabled transitions, and the code. -/
def enabledInV (x : NetV) (m : Int) : Int × Int := if markCode x m = 0 then (enabUpTo x m x.pre.length, 0) else (0, markCode x m)
theorem markCode_zero {x : NetV} {m : Int} (h : markCode x m = 0) : isNet x.p x.pre x.post x.s = true ∧ 0 ≤ m ∧ m ≤ full x.p := by
  unfold markCode at h
  grind
end Go.AM
