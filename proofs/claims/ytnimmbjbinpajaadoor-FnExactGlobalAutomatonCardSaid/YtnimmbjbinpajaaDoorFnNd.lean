/-
  Lists without doubles.
-/
import Derived.Test.YtnimmbjbinpajaaDoorFnMgA
set_option linter.unusedVariables false
set_option linter.unusedSimpArgs false
namespace Go.AM
/-- A list without doubles whose members are below `N`. -/
theorem nodup_bound : ∀ (N : Nat) (l : List Nat), l.Nodup → (∀ x ∈ l, x < N) → l.length ≤ N
  | 0, l, _, h => by
    cases l with
    | nil => simp
    | cons x l => have := h x (by simp); omega
  | N + 1, l, hn, h => by
    have h1 : (l.filter fun x => x != N).length ≤ N := nodup_bound N _ (hn.filter _) (fun x hx => by
      simp only [List.mem_filter, bne_iff_ne] at hx
      have := h x hx.1; omega)
    have key : ∀ m : List Nat, m.Nodup → m.length ≤ (m.filter fun x => x != N).length + 1 := by
      intro m
      induction m with
      | nil => intro _; simp
      | cons y m ih =>
        intro hm
        obtain ⟨h2, h3⟩ := List.nodup_cons.1 hm
        by_cases e : y = N
        · subst e
          have : m.filter (fun x => x != y) = m := List.filter_eq_self.2 fun x hx => by
            simp only [bne_iff_ne]; rintro rfl; exact h2 hx
          simp [this]
        · have := ih h3
          simp [e]; omega
    have := key l hn
    omega
end Go.AM
