/-
  Lists in lexicographic order; a search by halves.
-/
import Derived.Test.YtmpdpjpebekfkaaDoorFnBits
set_option linter.unusedVariables false
set_option linter.unusedSimpArgs false
namespace Go.AM
def lexC : List Int → List Int → Int
  | [], [] => 0
  | [], _ :: _ => -1
  | _ :: _, [] => 1
  | a :: l, b :: m => if a < b then -1 else if b < a then 1 else lexC l m
theorem lexC_rng : ∀ l m, lexC l m = -1 ∨ lexC l m = 0 ∨ lexC l m = 1
  | [], [] => by simp [lexC]
  | [], _ :: _ => by simp [lexC]
  | _ :: _, [] => by simp [lexC]
  | a :: l, b :: m => by
    have := lexC_rng l m
    unfold lexC
    split
    · simp
    · split
      · simp
      · exact this
theorem lexC_self : ∀ l, lexC l l = 0
  | [] => rfl
  | a :: l => by unfold lexC; rw [if_neg (by omega), if_neg (by omega)]; exact lexC_self l
theorem lexC_zero : ∀ {l m}, lexC l m = 0 → l = m
  | [], [], _ => rfl
  | [], _ :: _, h => by simp [lexC] at h
  | _ :: _, [], h => by simp [lexC] at h
  | a :: l, b :: m, h => by
    unfold lexC at h
    split at h
    · simp at h
    · split at h
      · simp at h
      · rw [lexC_zero h, show a = b by omega]
theorem lexC_trans : ∀ {l m k}, lexC l m < 0 → lexC m k ≤ 0 → lexC l k < 0
  | [], [], _, h, _ => by simp [lexC] at h
  | [], _ :: _, [], _, h => by simp [lexC] at h
  | [], _ :: _, _ :: _, _, _ => by simp [lexC]
  | _ :: _, [], _, h, _ => by simp [lexC] at h
  | _ :: _, _ :: _, [], _, h => by simp [lexC] at h
  | a :: l, b :: m, c :: k, h1, h2 => by
    unfold lexC at h1 h2 ⊢
    by_cases e1 : a < b
    · by_cases e2 : b < c
      · rw [if_pos (by omega)]; omega
      · rw [if_neg e2] at h2
        by_cases e3 : c < b
        · rw [if_pos e3] at h2; omega
        · rw [if_pos (by omega)]; omega
    · rw [if_neg e1] at h1
      by_cases e4 : b < a
      · rw [if_pos e4] at h1; omega
      · rw [if_neg e4] at h1
        by_cases e2 : b < c
        · rw [if_pos (by omega)]; omega
        · rw [if_neg e2] at h2
          by_cases e3 : c < b
          · rw [if_pos e3] at h2; omega
          · rw [if_neg e3] at h2
            rw [if_neg (by omega), if_neg (by omega)]
            exact lexC_trans h1 h2
/-- At a place where the heads are the same. -/
theorem lexC_drop {l m : List Int} {i : Nat} (hl : i < l.length) (hm : i < m.length) : lexC (l.drop i) (m.drop i) = if nth l i < nth m i then -1 else if nth m i < nth l i then 1 else lexC (l.drop (i + 1)) (m.drop (i + 1)) := by
  rw [List.drop_eq_getElem_cons hl, List.drop_eq_getElem_cons hm, nth_at hl, nth_at hm]; rfl
theorem lexC_endl {l m : List Int} {i : Nat} (hl : l.length ≤ i) : lexC (l.drop i) (m.drop i) = if i < m.length then -1 else 0 := by
  rw [List.drop_eq_nil_of_le hl]
  split
  · rename_i h; rw [List.drop_eq_getElem_cons h]; rfl
  · rename_i h; rw [List.drop_eq_nil_of_le (by omega)]; rfl
theorem lexC_endr {l m : List Int} {i : Nat} (hl : i < l.length) (hm : m.length ≤ i) : lexC (l.drop i) (m.drop i) = 1 := by
  rw [List.drop_eq_getElem_cons hl, List.drop_eq_nil_of_le hm]; rfl
/-- The first place from `i` on that is not below. -/
def bsI (c : Nat → Int) (n : Nat) : Nat := ((List.range n).filter fun h => decide (c h < 0)).length
theorem bsI_of {c : Nat → Int} {i : Nat} : ∀ {n : Nat}, i ≤ n → (∀ h, h < i → c h < 0) → (∀ h, i ≤ h → h < n → ¬ c h < 0) → bsI c n = i
  | 0, h1, _, _ => by simp [bsI]; omega
  | n + 1, h1, h2, h3 => by
    unfold bsI
    rw [List.range_succ, List.filter_append, List.length_append]
    by_cases e : i = n + 1
    · have ih := bsI_of (c := c) (i := n) (n := n) (Nat.le_refl _) (fun h hh => h2 h (by omega)) (fun h a b => by omega)
      unfold bsI at ih
      rw [ih]
      simp [h2 n (by omega)]; omega
    · have ih := bsI_of (c := c) (i := i) (n := n) (by omega) h2 (fun h a b => h3 h a (by omega))
      unfold bsI at ih
      rw [ih]
      have := h3 n (by omega) (by omega)
      simp [this]
end Go.AM
