/-
  Automata: their data.
-/
import Derived.Test.YtnimmbjbinpajaaDoorFnS
import Derived.Test.YtnimmbjbinpajaaDoorFnR
set_option linter.unusedVariables false
set_option linter.unusedSimpArgs false
namespace Go.AM
structure AutV where
  letters : Int
  start : Int
  final : Int
  next : List (List Int)
@[reducible] def autSl (a b : Bool) (m : AutV) : AV := .agg [iv m.letters, iv m.start, iv m.final, .sl 1 a (srows b m.next)]
@[reducible] def autOw (a b : Bool) (m : AutV) : AV := .agg [iv m.letters, iv m.start, iv m.final, .own 1 a (orows b m.next)]
/-- Numbers and lengths that fit. -/
structure AutOk (m : AutV) : Prop where
  l : I64 m.letters
  s : I64 m.start
  f : I64 m.final
  n : m.next.length ≤ 1000000
  r : ∀ r ∈ m.next, Fits r
def rowB (m : AutV) (r : List Int) : Bool := decide ((r.length : Int) = m.letters) && r.all fun y => decide (-1 ≤ y) && decide (y ≤ (m.next.length : Int) - 1)
def isAutV (m : AutV) : Bool := (decide (0 ≤ m.letters) && decide (m.letters ≤ 8)) && (decide (1 ≤ m.next.length) && decide (m.next.length ≤ 16)) && (decide (0 ≤ m.start) && decide (m.start ≤ (m.next.length : Int) - 1)) && isM m.next.length m.final && m.next.all (rowB m)
/-- Where a letter leads. -/
def stepM (m : AutV) (s a : Int) : Int := if s < 0 then -1 else nth (nthR m.next s.toNat) a.toNat
def readM (m : AutV) (s : Int) (w : List Int) : Int := w.foldl (stepM m) s
structure AutIs (m : AutV) : Prop where
  l8 : m.letters ≤ 8
  l0 : 0 ≤ m.letters
  n1 : 1 ≤ m.next.length
  n16 : m.next.length ≤ 16
  s0 : 0 ≤ m.start
  s1 : m.start ≤ (m.next.length : Int) - 1
  f : isM m.next.length m.final = true
  rl : ∀ i, i < m.next.length → ((nthR m.next i).length : Int) = m.letters
  rr : ∀ i, i < m.next.length → ∀ a, a < (nthR m.next i).length → -1 ≤ nth (nthR m.next i) a ∧ nth (nthR m.next i) a ≤ (m.next.length : Int) - 1
theorem autIs {m : AutV} (h : isAutV m = true) : AutIs m := by
  unfold isAutV at h
  simp only [Bool.and_eq_true, decide_eq_true_eq, List.all_eq_true] at h
  obtain ⟨⟨⟨⟨⟨a1, a2⟩, b1, b2⟩, c1, c2⟩, d⟩, e⟩ := h
  refine ⟨a2, a1, b1, b2, c1, c2, d, fun i hi => ?_, fun i hi a ha => ?_⟩
  · have := e _ (nthR_mem hi)
    unfold rowB at this
    simp only [Bool.and_eq_true, decide_eq_true_eq] at this
    exact this.1
  · have := e _ (nthR_mem hi)
    unfold rowB at this
    simp only [Bool.and_eq_true, decide_eq_true_eq, List.all_eq_true] at this
    exact this.2 _ (nth_mem ha)
theorem stepM_rng {m : AutV} (h : AutIs m) {s a : Int} (hs : s ≤ (m.next.length : Int) - 1) (h0 : 0 ≤ a) (h1 : a < m.letters) : -1 ≤ stepM m s a ∧ stepM m s a ≤ (m.next.length : Int) - 1 := by
  unfold stepM
  split
  · have := h.n1; omega
  · have hl := h.rl s.toNat (by omega)
    exact h.rr s.toNat (by omega) a.toNat (by omega)
end Go.AM
