/-
  Turned neighbours have the same normal form.
-/
import Derived.Test.YthabclhldlikfaaGreatDoorFnGb
set_option linter.unusedVariables false
set_option linter.unusedSimpArgs false
set_option linter.unusedSectionVars false
set_option maxRecDepth 100000
set_option maxHeartbeats 1600000
namespace Go.AM
open Go.Proofs
/-- Neighbours that are independent change places. -/
inductive Sw (t : List Int) : List Nat → List Nat → Prop
  | refl (u : List Nat) : Sw t u u
  | sw (x y : Nat) (u : List Nat) : tb (nth t x) y = false → tb (nth t y) x = false → Sw t (x :: y :: u) (y :: x :: u)
  | cons (b : Nat) {u v : List Nat} : Sw t u v → Sw t (b :: u) (b :: v)
theorem Sw.free {t : List Int} {u v : List Nat} (h : Sw t u v) (a : Nat) : isFree t u a = isFree t v a := by
  induction h with
  | refl => rfl
  | sw x y u h1 h2 =>
    simp only [isFree]
    by_cases e1 : x = a
    · subst e1; simp [h2]
    · by_cases e2 : y = a
      · subst e2; simp [h1]
      · have f1 : (x == a) = false := by simpa using e1
        have f2 : (y == a) = false := by simpa using e2
        rw [f1, f2]
        cases tb (nth t x) a <;> cases tb (nth t y) a <;> simp
  | cons b _ ih => simp only [isFree, ih]
theorem Sw.perm {t : List Int} {u v : List Nat} (h : Sw t u v) : u.Perm v := by
  induction h with
  | refl => exact .refl _
  | sw x y u h1 h2 => exact .swap _ _ _
  | cons b _ ih => exact ih.cons _
theorem Sw.erase {t : List Int} {u v : List Nat} (h : Sw t u v) (a : Nat) : Sw t (u.erase a) (v.erase a) := by
  induction h with
  | refl => exact .refl _
  | sw x y u h1 h2 =>
    by_cases e : x = y
    · subst e; exact .refl _
    · simp only [List.erase_cons]
      by_cases e1 : x = a
      · subst e1
        have f2 : (y == x) = false := by simpa using fun h => e h.symm
        simp [f2]; exact .refl _
      · have f1 : (x == a) = false := by simpa using e1
        by_cases e2 : y = a
        · subst e2; simp [f1]; exact .refl _
        · have f2 : (y == a) = false := by simpa using e2
          simp [f1, f2]; exact .sw x y _ h1 h2
  | cons b h ih =>
    simp only [List.erase_cons]
    split
    · exact h
    · exact .cons _ ih
theorem Sw.lfree {t : List Int} (ht : TOk t) {u v : List Nat} (h : Sw t u v) (hu : ∀ a ∈ u, a < t.length) : lfree t u = lfree t v := by
  obtain ⟨m1, f1⟩ := firsts_spec' ht hu
  obtain ⟨m2, f2⟩ := firsts_spec' ht (u := v) fun a ha => hu a (h.perm.mem_iff.2 ha)
  have : (firstsF t u).1 = (firstsF t v).1 := tb_ext m1 m2 fun i _ => by rw [f1, f2, h.free]
  unfold Go.AM.lfree
  rw [this]
theorem Sw.nf {t : List Int} (ht : TOk t) : ∀ (k : Nat) {u v : List Nat}, u.length = k → (∀ a ∈ u, a < t.length) → Sw t u v → nf t u = nf t v
  | 0, u, v, h, _, hs => by
    have e : u = [] := List.eq_nil_of_length_eq_zero h
    have e2 : v = [] := List.eq_nil_of_length_eq_zero (by rw [← hs.perm.length_eq]; exact h)
    rw [e, e2]
  | k + 1, u, v, h, hu, hs => by
    have hne : u ≠ [] := by intro e; subst e; simp at h
    have hv : ∀ a ∈ v, a < t.length := fun a ha => hu a (hs.perm.mem_iff.2 ha)
    have hne2 : v ≠ [] := by intro e; have := hs.perm.length_eq; rw [e, h] at this; simp at this
    obtain ⟨hm, _⟩ := lfree_spec ht hu hne
    rw [nf_step ht hu hne, nf_step ht hv hne2, ← hs.lfree ht hu]
    rw [Sw.nf ht k (u := u.erase (Go.AM.lfree t u)) (by rw [List.length_erase_of_mem hm]; omega) (fun a ha => hu a (List.mem_of_mem_erase ha)) (hs.erase _)]
/-- Two neighbours change places. -/
def turnN (u : List Nat) (i : Nat) : List Nat := (u.set i (natAt u (i + 1))).set (i + 1) (natAt u i)
theorem Sw.turn {t : List Int} : ∀ (u : List Nat) (i : Nat), i + 1 < u.length → tb (nth t (natAt u i)) (natAt u (i + 1)) = false → tb (nth t (natAt u (i + 1))) (natAt u i) = false → Sw t u (turnN u i)
  | [], i, h, _, _ => by simp at h
  | [x], i, h, _, _ => by simp at h
  | x :: y :: u, 0, h, h1, h2 => .sw x y u h1 h2
  | x :: y :: u, i + 1, h, h1, h2 => by
    have := Sw.turn (t := t) (y :: u) i (by simpa using h) h1 h2
    exact .cons x this
theorem turnN_length (u : List Nat) (i : Nat) : (turnN u i).length = u.length := by simp [turnN]
theorem turnN_nats {u : List Nat} {i : Nat} (h : i + 1 < u.length) : ((nats u).set i (nth (nats u) (i + 1))).set (i + 1) (nth (nats u) i) = nats (turnN u i) := by
  rw [nats_nth h, nats_nth (by omega)]
  simp [turnN, nats, List.map_set]
end Go.AM
