/-
  Numbers in ascending order.
-/
import Derived.Test.YtimfhkglmiihgaaDoorFnBits
set_option linter.unusedVariables false
set_option linter.unusedSimpArgs false
namespace Go.AM
def sortI (l : List Int) : List Int := l.mergeSort fun x y => decide (x ≤ y)
theorem sortI_perm (l : List Int) : (sortI l).Perm l := List.mergeSort_perm l _
theorem sortI_sorted (l : List Int) : (sortI l).Pairwise (· ≤ ·) := by
  have := List.pairwise_mergeSort (le := fun x y : Int => decide (x ≤ y)) (fun a b c h1 h2 => by simp at *; omega) (fun a b => by simp; omega) l
  exact this.imp fun h => by simpa using h
theorem sortI_eq {l m : List Int} (h : l.Perm m) (hm : m.Pairwise (· ≤ ·)) : sortI l = m :=
  List.Perm.eq_of_pairwise (le := (· ≤ ·)) (fun a b _ _ h1 h2 => Int.le_antisymm h1 h2) (sortI_sorted l) hm ((sortI_perm l).trans h)
@[simp] theorem sortI_length (l : List Int) : (sortI l).length = l.length := (sortI_perm l).length_eq
theorem sortI_mem {l : List Int} {y : Int} : y ∈ sortI l ↔ y ∈ l := (sortI_perm l).mem_iff
theorem sortI_nodup {l : List Int} (h : l.Nodup) : (sortI l).Nodup := (sortI_perm l).nodup_iff.2 h
/-- One more number, in its place. -/
def insI (n : Int) : List Int → List Int
  | [] => [n]
  | y :: l => if y < n then y :: insI n l else n :: y :: l
theorem insI_perm (n : Int) : ∀ l, (insI n l).Perm (n :: l)
  | [] => .refl _
  | y :: l => by
    unfold insI; split
    · exact ((insI_perm n l).cons y).trans (.swap n y l)
    · exact .refl _
theorem insI_sorted {n : Int} : ∀ {l : List Int}, l.Pairwise (· ≤ ·) → (insI n l).Pairwise (· ≤ ·)
  | [], _ => by simp [insI]
  | y :: l, h => by
    rw [List.pairwise_cons] at h
    unfold insI; split
    · rename_i hlt
      rw [List.pairwise_cons]
      refine ⟨fun a ha => ?_, insI_sorted h.2⟩
      have := (insI_perm n l).mem_iff.1 ha
      rcases List.mem_cons.1 this with rfl | ha
      · omega
      · exact h.1 a ha
    · rename_i hlt
      rw [List.pairwise_cons, List.pairwise_cons]
      refine ⟨fun a ha => ?_, h⟩
      rcases List.mem_cons.1 ha with rfl | ha
      · omega
      · have := h.1 a ha; omega
theorem sortI_snoc (l : List Int) (n : Int) : insI n (sortI l) = sortI (l ++ [n]) := by
  refine (sortI_eq ?_ (insI_sorted (sortI_sorted l))).symm
  refine .trans ?_ (insI_perm n (sortI l)).symm
  exact (List.perm_append_comm (l₁ := l) (l₂ := [n])).trans ((sortI_perm l).symm.cons n)
theorem sortI_nil : sortI [] = [] := by simp [sortI]
/-- How many stand ahead of a number. -/
def insAt (n : Int) : List Int → Nat
  | [] => 0
  | y :: l => if y < n then insAt n l + 1 else 0
theorem insAt_le (n : Int) : ∀ l, insAt n l ≤ l.length
  | [] => Nat.le_refl _
  | y :: l => by
    unfold insAt; split
    · have := insAt_le n l; simp; exact this
    · simp
theorem insAt_before {n : Int} : ∀ {l : List Int} {i : Nat}, i < insAt n l → nth l i < n
  | [], i, h => by simp [insAt] at h
  | y :: l, i, h => by
    unfold insAt at h
    split at h
    · cases i with
      | zero => simpa [nth]
      | succ i => have := insAt_before (n := n) (l := l) (i := i) (by omega); simpa [nth] using this
    · omega
theorem insAt_at {n : Int} : ∀ {l : List Int}, insAt n l < l.length → ¬ nth l (insAt n l) < n
  | [], h => by simp at h
  | y :: l, h => by
    unfold insAt at h ⊢
    split
    · rename_i hlt
      rw [if_pos hlt] at h
      have := insAt_at (l := l) (by simpa using h)
      simpa [nth] using this
    · rename_i hlt
      simpa [nth] using hlt
theorem insAt_eq {n : Int} {l : List Int} {k : Nat} (hk : k ≤ l.length) (h1 : ∀ i, i < k → nth l i < n) (h2 : k < l.length → ¬ nth l k < n) : k = insAt n l := by
  have h3 := insAt_le n l
  rcases Nat.lt_trichotomy k (insAt n l) with h | h | h
  · exact absurd (insAt_before h) (h2 (by omega))
  · exact h
  · exact absurd (h1 _ h) (insAt_at (by omega))
theorem insI_eq (n : Int) : ∀ l, insI n l = l.take (insAt n l) ++ n :: l.drop (insAt n l)
  | [] => rfl
  | y :: l => by
    unfold insI insAt; split
    · rw [insI_eq n l]; rfl
    · rfl
end Go.AM
