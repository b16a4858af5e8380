/-
  The smallest isomorphism: the value.
-/
import Derived.Test.YtimfhkglmiihgaaDoorFnW
set_option linter.unusedVariables false
set_option linter.unusedSimpArgs false
set_option maxRecDepth 100000
namespace Go.AM
open Go.Proofs
/-- The first that has one. -/
def fsN {α : Type} (g : Nat → Option α) : Nat → Option α
  | 0 => none
  | n + 1 => match fsN g n with
    | some r => some r
    | none => g n
theorem fsN_none {α : Type} {g : Nat → Option α} : ∀ {n : Nat}, (∀ f, f < n → g f = none) → fsN g n = none
  | 0, _ => rfl
  | n + 1, h => by rw [fsN, fsN_none (fun f hf => h f (by omega))]; exact h n (by omega)
theorem fsN_some {α : Type} {g : Nat → Option α} {f : Nat} {r : α} : ∀ {n : Nat}, f < n → (∀ k, k < f → g k = none) → g f = some r → fsN g n = some r
  | 0, h, _, _ => by omega
  | n + 1, h, hp, hf => by
    by_cases e : f = n
    · subst e; rw [fsN, fsN_none hp]; exact hf
    · rw [fsN, fsN_some (by omega) hp hf]
/-- Whether an image keeps all. -/
def fitV (x y : StrucV) (done : List Int) (f : Nat) : Bool :=
  (nth x.labels done.length == nth y.labels f) && !(decide ((f : Int) ∈ done)) && (List.range done.length).all fun d => relOf x d done.length == relOf y (nth done d).toNat f
/-- The first images, `k` still missing. -/
def growV (x y : StrucV) : Nat → List Int → Option (List Int)
  | 0, done => some done
  | k + 1, done => fsN (fun f => if fitV x y done f then growV x y k (done ++ [(f : Int)]) else none) y.labels.length
def isomorphismOfV (x y : StrucV) : List Int × Int :=
  if isStructureV x && isStructureV y then (if x.labels.length = y.labels.length then (match growV x y x.labels.length [] with | some l => (l, 0) | none => ([], 4)) else ([], 4)) else ([], 1)
/-- Images are events. -/
def imOk (y : StrucV) (done : List Int) : Prop := ∀ d, d < done.length → ∃ k : Nat, nth done d = k ∧ k < y.labels.length
theorem imOk_snoc {y : StrucV} {done : List Int} (h : imOk y done) {f : Nat} (hf : f < y.labels.length) : imOk y (done ++ [(f : Int)]) := by
  intro d hd
  rw [List.length_append, List.length_singleton] at hd
  by_cases e : d < done.length
  · obtain ⟨k, hk, hkn⟩ := h d e
    exact ⟨k, by rw [nth_at (by simp; omega), List.getElem_append_left e, ← nth_at e]; exact hk, hkn⟩
  · obtain rfl : d = done.length := by omega
    exact ⟨f, by rw [nth_at (by simp)]; simp, hf⟩
theorem imOk_nil (y : StrucV) : imOk y [] := fun d hd => by simp at hd
theorem growV_ok {x y : StrucV} : ∀ (k : Nat) (done l : List Int), imOk y done → growV x y k done = some l → imOk y l ∧ l.length = done.length + k
  | 0, done, l, h, hl => by
    simp only [growV, Option.some.injEq] at hl
    subst hl; exact ⟨h, rfl⟩
  | k + 1, done, l, h, hl => by
    have key : ∀ n, n ≤ y.labels.length → fsN (fun f => if fitV x y done f then growV x y k (done ++ [(f : Int)]) else none) n = some l → ∃ f, f < n ∧ growV x y k (done ++ [(f : Int)]) = some l := by
      intro n
      induction n with
      | zero => intro _ h; simp [fsN] at h
      | succ n ih =>
        intro hn h
        rw [fsN] at h
        cases hq : fsN (fun f => if fitV x y done f then growV x y k (done ++ [(f : Int)]) else none) n with
        | some r =>
          rw [hq] at h
          simp only [Option.some.injEq] at h
          subst h
          obtain ⟨f, hf, e⟩ := ih (by omega) hq
          exact ⟨f, by omega, e⟩
        | none =>
          rw [hq] at h
          simp only at h
          split at h
          · exact ⟨n, by omega, h⟩
          · cases h
    obtain ⟨f, hf, e⟩ := key _ (Nat.le_refl _) hl
    obtain ⟨h1, h2⟩ := growV_ok k _ l (imOk_snoc h hf) e
    exact ⟨h1, by rw [h2]; simp; omega⟩
theorem imOk_list {y : StrucV} (hn : y.labels.length ≤ 16) {l : List Int} (h : imOk y l) : ∀ z ∈ l, 0 ≤ z ∧ z < 16 := fun z hz => by
  obtain ⟨i, hi, rfl⟩ := List.mem_iff_getElem.1 hz
  obtain ⟨k, hk, hkn⟩ := h i hi
  rw [← nth_at hi, hk]; omega
theorem fitV_no {x y : StrucV} {done : List Int} {f d : Nat} (hd : d < done.length) (h : relOf x d done.length ≠ relOf y (nth done d).toNat f) : fitV x y done f = false := by
  unfold fitV
  rw [← Bool.not_eq_true]
  simp only [Bool.and_eq_true, List.all_eq_true, List.mem_range, beq_iff_eq]
  intro h2
  exact h (h2.2 d hd)
theorem fitV_yes {x y : StrucV} {done : List Int} {f : Nat} (h1 : nth x.labels done.length = nth y.labels f) (h2 : ¬ (f : Int) ∈ done) (h3 : ∀ d, d < done.length → relOf x d done.length = relOf y (nth done d).toNat f) : fitV x y done f = true := by
  unfold fitV
  simp only [Bool.and_eq_true, List.all_eq_true, List.mem_range, beq_iff_eq, Bool.not_eq_true', decide_eq_false_iff_not]
  exact ⟨⟨h1, h2⟩, h3⟩
end Go.AM
