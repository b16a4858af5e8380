/-
  Contracts: nets, first part.
-/
import Derived.Test.YtmpdpjpebekfkaaDoorFnA
set_option linter.unusedVariables false
set_option linter.unusedSimpArgs false
set_option maxRecDepth 100000
set_option maxHeartbeats 1600000
namespace Go.AM
open Go.Proofs

/-- A mask of `n` members. -/
def isMaskB (m n : Int) : Bool := (decide (0 ≤ n) && decide (n ≤ 24)) && (decide (0 ≤ m) && decide (m ≤ full n))
/-- What is left. -/
def szI (left : Int) (n : Nat) : Int := if left - n < 0 then -1 else left - n
theorem szInt64S_spec (nn : Bool) (l : List Int) (left : Int) (hl : l.length ≤ maxLen) (h0 : 0 ≤ left) (h1 : left ≤ 1048576) : ACalls1 Tryd.prog 50 [.sl 1 nn (ints l), iv left] (iv (szI left l.length)) := by
  unfold maxLen at hl
  refine walk (fun _ => false) mixed Go.Proofs.Tryd.func50 rfl rfl rfl (by kernel_rfl) rfl (by simp) (by kernel_rfl) ?_
  simp
  rw [wrap_id _ (by omega) (by omega)]
  unfold szI
  constructor
  · intro h; exact le_int (by simp; omega)
  · intro h; exact le_int (by rw [if_neg (by omega)])
@[reducible] def netA (n1 n2 : Bool) (p : Int) (pre post : List Int) (s : Int) : AV := .agg [iv p, .sl 1 n1 (ints pre), .sl 1 n2 (ints post), iv s]
/-- A net's data. -/
structure NetV where
  p : Int
  pre : List Int
  post : List Int
  s : Int
@[reducible] def netSl (n1 n2 : Bool) (x : NetV) : AV := netA n1 n2 x.p x.pre x.post x.s
@[reducible] def netOw (b1 b2 : Bool) (x : NetV) : AV := .agg [iv x.p, .own 1 b1 (ints x.pre), .own 1 b2 (ints x.post), iv x.s]
@[reducible] def netO (p : Int) (pre post : List Int) (s : Int) : AV := .agg [iv p, .own 1 true (ints pre), .own 1 true (ints post), iv s]
def szNetI (left : Int) (a b : Nat) : Int := if szI left a < 0 then -1 else szI (szI left a) b
theorem szNetI_le {left : Int} {a b : Nat} (h : ¬ szNetI left a b < 0) : a ≤ left ∧ b ≤ left := by
  unfold szNetI szI at h
  by_cases h1 : left - (a : Int) < 0
  · rw [if_pos h1] at h; omega
  · rw [if_neg h1, if_neg h1] at h
    by_cases h2 : left - (a : Int) - b < 0
    · rw [if_pos h2] at h; omega
    · omega
/-- One transition. -/
def isTr (p x y : Int) : Bool := (decide (0 ≤ x) && decide (x ≤ full p)) && (decide (0 ≤ y) && decide (y ≤ full p)) && (ibits .or .i64 x y != 0)
/-- A net. -/
def isNet (p : Int) (pre post : List Int) (s : Int) : Bool := (decide (0 ≤ p) && decide (p ≤ 12)) && ((pre.length : Int) == post.length) && decide ((pre.length : Int) ≤ 8) && (decide (0 ≤ s) && decide (s ≤ full p)) &&
  (List.range pre.length).all fun k => isTr p (pre.getD k 0) (post.getD k 0)
theorem isNet_end {p : Int} {pre post : List Int} {s : Int} (h1 : (decide (0 ≤ p) && decide (p ≤ 12)) = true) (h2 : pre.length = post.length) (h3 : pre.length ≤ 8) (h4 : (decide (0 ≤ s) && decide (s ≤ full p)) = true)
    (h : ∀ i < pre.length, isTr p (pre.getD i 0) (post.getD i 0) = true) : isNet p pre post s = true := by
  unfold isNet
  rw [h1, h4]
  simp only [Bool.and_eq_true, List.all_eq_true, List.mem_range]
  simp [h2] at h ⊢
  exact ⟨by omega, h⟩
theorem isNet_bad {p : Int} {pre post : List Int} {s : Int} (i : Nat) (hi : i < pre.length) (h : isTr p (pre.getD i 0) (post.getD i 0) = false) : isNet p pre post s = false := by
  unfold isNet
  have : ((List.range pre.length).all fun k => isTr p (pre.getD k 0) (post.getD k 0)) = false := by
    rw [List.all_eq_false]
    exact ⟨i, by simpa using hi, by rw [h]; simp⟩
  rw [this]; simp
end Go.AM
