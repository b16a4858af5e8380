/-
  Rows in an order.
-/
import Derived.Test.YtmpdpjpebekfkaaDoorFnAs
set_option linter.unusedVariables false
set_option linter.unusedSimpArgs false
namespace Go.AM
/-- A total order of rows, told by a comparison. -/
structure TotC (c : List Int → List Int → Int) : Prop where
  self : ∀ a, c a a = 0
  zero : ∀ a b, c a b = 0 → a = b
  trans : ∀ a b d, c a b ≤ 0 → c b d ≤ 0 → c a d ≤ 0
  total : ∀ a b, c a b ≤ 0 ∨ c b a < 0
  anti : ∀ a b, c a b < 0 → ¬ c b a < 0
theorem TotC.asym {c : List Int → List Int → Int} (h : TotC c) {a b : List Int} (h1 : c a b ≤ 0) (h2 : c b a ≤ 0) : a = b := by
  by_cases e : c a b = 0
  · exact h.zero a b e
  · by_cases e2 : c b a = 0
    · exact (h.zero b a e2).symm
    · exact absurd (show c b a < 0 by omega) (h.anti a b (by omega))
theorem TotC.not_le {c : List Int → List Int → Int} (h : TotC c) {a b : List Int} : ¬ c a b ≤ 0 ↔ c b a < 0 := by
  constructor
  · intro h1
    rcases h.total a b with h2 | h2
    · exact absurd h2 h1
    · exact h2
  · intro h1 h2
    by_cases e : c a b = 0
    · rw [h.zero a b e, h.self] at h1; omega
    · exact h.anti a b (by omega) h1
theorem lexC_flip : ∀ l m, lexC m l = - lexC l m
  | [], [] => by simp [lexC]
  | [], _ :: _ => by simp [lexC]
  | _ :: _, [] => by simp [lexC]
  | a :: l, b :: m => by
    have := lexC_flip l m
    unfold lexC
    split <;> split <;> first | omega | (split <;> omega)
theorem lexC_tot : TotC lexC where
  self := lexC_self
  zero _ _ h := lexC_zero h
  trans a b d h1 h2 := by
    by_cases e : lexC a b = 0
    · rw [lexC_zero e]; exact h2
    · have := lexC_trans (l := a) (m := b) (k := d) (by omega) h2; omega
  total a b := by have := lexC_flip a b; omega
  anti a b h := by have := lexC_flip a b; omega
/-- Shorter rows first. -/
def cmpW (u v : List Int) : Int := if u.length ≠ v.length then (u.length : Int) - v.length else lexC u v
theorem cmpW_tot : TotC cmpW where
  self a := by simp [cmpW, lexC_self]
  zero a b h := by
    unfold cmpW at h
    split at h
    · omega
    · exact lexC_zero h
  trans a b d h1 h2 := by
    unfold cmpW at *
    by_cases e1 : a.length = b.length <;> by_cases e2 : b.length = d.length
    · rw [if_neg (by omega)] at h1 h2 ⊢
      exact lexC_tot.trans a b d h1 h2
    · rw [if_pos e2] at h2; rw [if_pos (by omega)]; omega
    · rw [if_pos e1] at h1; rw [if_pos (by omega)]; omega
    · rw [if_pos e1] at h1; rw [if_pos e2] at h2; rw [if_pos (by omega)]; omega
  total a b := by
    unfold cmpW
    by_cases e : a.length = b.length
    · rw [if_neg (by omega), if_neg (by omega)]; exact lexC_tot.total a b
    · rw [if_pos e, if_pos (by omega)]; omega
  anti a b h := by
    unfold cmpW at *
    by_cases e : a.length = b.length
    · rw [if_neg (by omega)] at h ⊢; exact lexC_tot.anti a b h
    · rw [if_pos e] at h; rw [if_pos (by omega)]; omega
def sortR (c : List Int → List Int → Int) (l : List (List Int)) : List (List Int) := l.mergeSort fun x y => decide (c x y ≤ 0)
theorem sortR_perm (c : List Int → List Int → Int) (l : List (List Int)) : (sortR c l).Perm l := List.mergeSort_perm l _
theorem sortR_sorted {c : List Int → List Int → Int} (h : TotC c) (l : List (List Int)) : (sortR c l).Pairwise fun x y => c x y ≤ 0 := by
  have := List.pairwise_mergeSort (le := fun x y => decide (c x y ≤ 0)) (fun a b d h1 h2 => by simp at *; exact h.trans a b d h1 h2) (fun a b => by
    have := h.total a b
    simp only [Bool.or_eq_true, decide_eq_true_eq]; omega) l
  exact this.imp fun h => by simpa using h
theorem sortR_eq {c : List Int → List Int → Int} (h : TotC c) {l m : List (List Int)} (hp : l.Perm m) (hm : m.Pairwise fun x y => c x y ≤ 0) : sortR c l = m :=
  List.Perm.eq_of_pairwise (le := fun x y => c x y ≤ 0) (fun a b _ _ h1 h2 => h.asym h1 h2) (sortR_sorted h l) hm ((sortR_perm c l).trans hp)
@[simp] theorem sortR_length (c : List Int → List Int → Int) (l : List (List Int)) : (sortR c l).length = l.length := (sortR_perm c l).length_eq
theorem sortR_mem {c : List Int → List Int → Int} {l : List (List Int)} {y : List Int} : y ∈ sortR c l ↔ y ∈ l := (sortR_perm c l).mem_iff
theorem sortR_nil (c : List Int → List Int → Int) : sortR c [] = [] := by simp [sortR]
/-- One more row, in its place. -/
def insR (c : List Int → List Int → Int) (n : List Int) : List (List Int) → List (List Int)
  | [] => [n]
  | y :: l => if c y n < 0 then y :: insR c n l else n :: y :: l
theorem insR_perm (c : List Int → List Int → Int) (n : List Int) : ∀ l, (insR c n l).Perm (n :: l)
  | [] => .refl _
  | y :: l => by
    unfold insR; split
    · exact ((insR_perm c n l).cons y).trans (.swap n y l)
    · exact .refl _
theorem insR_sorted {c : List Int → List Int → Int} (h : TotC c) {n : List Int} : ∀ {l : List (List Int)}, l.Pairwise (fun x y => c x y ≤ 0) → (insR c n l).Pairwise fun x y => c x y ≤ 0
  | [], _ => by simp [insR]
  | y :: l, hl => by
    rw [List.pairwise_cons] at hl
    unfold insR; split
    · rename_i hlt
      rw [List.pairwise_cons]
      refine ⟨fun a ha => ?_, insR_sorted h hl.2⟩
      have := (insR_perm c n l).mem_iff.1 ha
      rcases List.mem_cons.1 this with rfl | ha
      · omega
      · exact hl.1 a ha
    · rename_i hlt
      have hny : c n y ≤ 0 := by
        rcases h.total n y with h2 | h2
        · exact h2
        · exact absurd h2 hlt
      rw [List.pairwise_cons, List.pairwise_cons]
      refine ⟨fun a ha => ?_, hl⟩
      rcases List.mem_cons.1 ha with rfl | ha
      · exact hny
      · exact h.trans n y a hny (hl.1 a ha)
theorem sortR_snoc {c : List Int → List Int → Int} (h : TotC c) (l : List (List Int)) (n : List Int) : insR c n (sortR c l) = sortR c (l ++ [n]) := by
  refine (sortR_eq h ?_ (insR_sorted h (sortR_sorted h l))).symm
  refine .trans ?_ (insR_perm c n (sortR c l)).symm
  exact (List.perm_append_comm (l₁ := l) (l₂ := [n])).trans ((sortR_perm c l).symm.cons n)
/-- How many stand ahead of a row. -/
def insRAt (c : List Int → List Int → Int) (n : List Int) : List (List Int) → Nat
  | [] => 0
  | y :: l => if c y n < 0 then insRAt c n l + 1 else 0
theorem insRAt_le (c : List Int → List Int → Int) (n : List Int) : ∀ l, insRAt c n l ≤ l.length
  | [] => Nat.le_refl _
  | y :: l => by
    unfold insRAt; split
    · have := insRAt_le c n l; simp; exact this
    · simp
theorem insRAt_before {c : List Int → List Int → Int} {n : List Int} : ∀ {l : List (List Int)} {i : Nat}, i < insRAt c n l → c (nthR l i) n < 0
  | [], i, h => by simp [insRAt] at h
  | y :: l, i, h => by
    unfold insRAt at h
    split at h
    · cases i with
      | zero => simpa [nthR]
      | succ i => have := insRAt_before (c := c) (n := n) (l := l) (i := i) (by omega); simpa [nthR] using this
    · omega
theorem insRAt_at {c : List Int → List Int → Int} {n : List Int} : ∀ {l : List (List Int)}, insRAt c n l < l.length → ¬ c (nthR l (insRAt c n l)) n < 0
  | [], h => by simp at h
  | y :: l, h => by
    unfold insRAt at h ⊢
    split
    · rename_i hlt
      rw [if_pos hlt] at h
      have := insRAt_at (l := l) (by simpa using h)
      simpa [nthR] using this
    · rename_i hlt
      simpa [nthR] using hlt
theorem insRAt_eq {c : List Int → List Int → Int} {n : List Int} {l : List (List Int)} {k : Nat} (hk : k ≤ l.length) (h1 : ∀ i, i < k → c (nthR l i) n < 0) (h2 : k < l.length → ¬ c (nthR l k) n < 0) : k = insRAt c n l := by
  have h3 := insRAt_le c n l
  rcases Nat.lt_trichotomy k (insRAt c n l) with h | h | h
  · exact absurd (insRAt_before h) (h2 (by omega))
  · exact h
  · exact absurd (h1 _ h) (insRAt_at (by omega))
theorem insR_eq (c : List Int → List Int → Int) (n : List Int) : ∀ l, insR c n l = l.take (insRAt c n l) ++ n :: l.drop (insRAt c n l)
  | [] => rfl
  | y :: l => by
    unfold insR insRAt; split
    · rw [insR_eq c n l]; rfl
    · rfl
/-- Rows of one length: the order is the same. -/
theorem sortR_same {l : List (List Int)} {n : Nat} (h : ∀ r ∈ l, r.length = n) : sortR lexC l = sortR cmpW l := by
  refine sortR_eq lexC_tot (sortR_perm cmpW l).symm ?_
  have := sortR_sorted cmpW_tot l
  refine List.Pairwise.imp_of_mem (fun {a b} ha hb hab => ?_) this
  have ea := h a (sortR_mem.1 ha)
  have eb := h b (sortR_mem.1 hb)
  unfold cmpW at hab
  rw [if_neg (by omega)] at hab
  exact hab
end Go.AM
