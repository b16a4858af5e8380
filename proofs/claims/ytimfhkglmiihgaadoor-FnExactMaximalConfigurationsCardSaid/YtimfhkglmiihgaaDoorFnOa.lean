/-
  The plain law of CountOrders: ways counted from the front are ways counted from the back.
-/
import Derived.Test.YtimfhkglmiihgaaDoorFnBits
set_option linter.unusedVariables false
set_option linter.unusedSimpArgs false
namespace Go.AM
def sumN (f : Nat → Int) : Nat → Int
  | 0 => 0
  | k + 1 => sumN f k + f k
theorem sumN_congr {f g : Nat → Int} : ∀ {k : Nat}, (∀ e, e < k → f e = g e) → sumN f k = sumN g k
  | 0, _ => rfl
  | k + 1, h => by rw [sumN, sumN, sumN_congr (fun e he => h e (by omega)), h k (by omega)]
theorem sumN_zero : ∀ k, sumN (fun _ => 0) k = 0
  | 0 => rfl
  | k + 1 => by rw [sumN, sumN_zero k]; rfl
theorem sumN_add (f g : Nat → Int) : ∀ k, sumN (fun e => f e + g e) k = sumN f k + sumN g k
  | 0 => rfl
  | k + 1 => by rw [sumN, sumN, sumN, sumN_add f g k]; omega
theorem sumN_swap (f : Nat → Nat → Int) (m : Nat) : ∀ k, sumN (fun e => sumN (f e) m) k = sumN (fun i => sumN (fun e => f e i) k) m
  | 0 => by simp only [sumN]; exact (sumN_zero m).symm
  | k + 1 => by
    simp only [sumN]
    rw [sumN_swap f m k, ← sumN_add]
theorem sumN_if {b : Bool} {f : Nat → Int} {k : Nat} : (if b = true then sumN f k else 0) = sumN (fun e => if b = true then f e else 0) k := by
  cases b
  · simp [sumN_zero]
  · simp
/-- Steps forward and backward between states: `st a e`: `e` may be done at `a`, which leads to `up a e`; `sb b e`: `e` may have been the last at `b`, which came from `dn b e`. -/
structure Steps where
  n : Nat
  st : Int → Nat → Bool
  up : Int → Nat → Int
  sb : Int → Nat → Bool
  dn : Int → Nat → Int
  D : Int → Prop
  Dup : ∀ a e, e < n → D a → st a e = true → D (up a e)
  Ddn : ∀ b e, e < n → D b → sb b e = true → D (dn b e)
  iff : ∀ a b e, e < n → D a → D b → ((st a e = true ∧ up a e = b) ↔ (sb b e = true ∧ a = dn b e))
def pf (s : Steps) : Nat → Int → Int → Int
  | 0, a, b => if a = b then 1 else 0
  | k + 1, a, b => sumN (fun e => if s.st a e = true then pf s k (s.up a e) b else 0) s.n
def pb (s : Steps) : Nat → Int → Int → Int
  | 0, a, b => if a = b then 1 else 0
  | k + 1, a, b => sumN (fun e => if s.sb b e = true then pb s k a (s.dn b e) else 0) s.n
theorem pf_pb (s : Steps) : ∀ (k : Nat) (a b : Int), s.D a → s.D b → pf s k a b = pb s k a b
  | 0, _, _, _, _ => rfl
  | 1, a, b, ha, hb => by
    simp only [pf, pb]
    refine sumN_congr fun e he => ?_
    have h := s.iff a b e he ha hb
    by_cases h1 : s.st a e = true ∧ s.up a e = b
    · have h2 := h.1 h1
      rw [if_pos h1.1, if_pos h1.2, if_pos h2.1, if_pos h2.2]
    · have h2 : ¬ (s.sb b e = true ∧ a = s.dn b e) := fun h2 => h1 (h.2 h2)
      have l : (if s.st a e = true then (if s.up a e = b then (1 : Int) else 0) else 0) = 0 := by
        by_cases h3 : s.st a e = true
        · rw [if_pos h3, if_neg fun h4 => h1 ⟨h3, h4⟩]
        · rw [if_neg h3]
      have r : (if s.sb b e = true then (if a = s.dn b e then (1 : Int) else 0) else 0) = 0 := by
        by_cases h3 : s.sb b e = true
        · rw [if_pos h3, if_neg fun h4 => h2 ⟨h3, h4⟩]
        · rw [if_neg h3]
      rw [l, r]
  | k + 2, a, b, ha, hb => by
    have e1 : pf s (k + 2) a b = sumN (fun e => sumN (fun f => if s.st a e = true then (if s.sb b f = true then pb s k (s.up a e) (s.dn b f) else 0) else 0) s.n) s.n := by
      rw [pf]
      refine sumN_congr fun e he => ?_
      rw [← sumN_if (b := s.st a e)]
      by_cases h : s.st a e = true
      · rw [if_pos h, if_pos h, pf_pb s (k + 1) _ b (s.Dup a e he ha h) hb]; rfl
      · rw [if_neg h, if_neg h]
    have e2 : pb s (k + 2) a b = sumN (fun f => sumN (fun e => if s.st a e = true then (if s.sb b f = true then pb s k (s.up a e) (s.dn b f) else 0) else 0) s.n) s.n := by
      rw [pb]
      refine sumN_congr fun f hf => ?_
      by_cases h : s.sb b f = true
      · rw [if_pos h, ← pf_pb s (k + 1) a _ ha (s.Ddn b f hf hb h), pf]
        refine sumN_congr fun e he => ?_
        by_cases h3 : s.st a e = true
        · rw [if_pos h3, if_pos h3, if_pos h, pf_pb s k _ _ (s.Dup a e he ha h3) (s.Ddn b f hf hb h)]
        · rw [if_neg h3, if_neg h3]
      · rw [if_neg h]
        have : (fun e => if s.st a e = true then (if s.sb b f = true then pb s k (s.up a e) (s.dn b f) else 0) else (0 : Int)) = fun _ => 0 := by
          funext e; simp [h]
        rw [this, sumN_zero]
    rw [e1, e2, sumN_swap]
/-- How many they are at most: with `m` that bounds the steps from a state. -/
def facN : Nat → Int
  | 0 => 1
  | k + 1 => (k + 1) * facN k
theorem facN_pos : ∀ k, 1 ≤ facN k
  | 0 => Int.le_refl _
  | k + 1 => by
    have := facN_pos k
    rw [facN]
    have h2 : (1 : Int) * 1 ≤ (k + 1) * facN k := Int.mul_le_mul (by omega) this (by omega) (by omega)
    omega
theorem fac16 {k : Nat} (h : k ≤ 16) : facN k ≤ 20922789888000 := by
  rcases (by omega : k = 0 ∨ k = 1 ∨ k = 2 ∨ k = 3 ∨ k = 4 ∨ k = 5 ∨ k = 6 ∨ k = 7 ∨ k = 8 ∨ k = 9 ∨ k = 10 ∨ k = 11 ∨ k = 12 ∨ k = 13 ∨ k = 14 ∨ k = 15 ∨ k = 16) with rfl | rfl | rfl | rfl | rfl | rfl | rfl | rfl | rfl | rfl | rfl | rfl | rfl | rfl | rfl | rfl | rfl <;> decide
theorem sumN_le {f : Nat → Int} {p : Nat → Bool} {B : Int} : ∀ {k : Nat}, (∀ e, e < k → p e = true → f e ≤ B) → (∀ e, e < k → p e = false → f e = 0) → sumN f k ≤ ((List.range k).filter p).length * B
  | 0, _, _ => by simp [sumN]
  | k + 1, h1, h2 => by
    have ih := sumN_le (k := k) (fun e he => h1 e (by omega)) (fun e he => h2 e (by omega))
    rw [sumN, List.range_succ, List.filter_append, List.length_append]
    cases hp : p k
    · have := h2 k (by omega) hp
      simp [hp]; omega
    · have := h1 k (by omega) hp
      simp only [List.filter_cons, hp, if_true, List.filter_nil, List.length_cons, List.length_nil, Nat.zero_add]
      rw [Int.natCast_add, Int.add_mul]
      simp; omega
theorem sumN_nonneg {f : Nat → Int} : ∀ {k : Nat}, (∀ e, e < k → 0 ≤ f e) → 0 ≤ sumN f k
  | 0, _ => Int.le_refl _
  | k + 1, h => by
    have := sumN_nonneg (k := k) fun e he => h e (by omega)
    have := h k (by omega)
    rw [sumN]; omega
end Go.AM
