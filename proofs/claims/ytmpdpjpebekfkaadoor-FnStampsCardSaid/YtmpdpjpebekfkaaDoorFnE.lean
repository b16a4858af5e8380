/-
  Contracts of the laws' helpers, all in one form: what is known of an argument, sizes, copies, equality, marks.
-/
import Derived.Test.YtmpdpjpebekfkaaDoorFnD
set_option linter.unusedVariables false
set_option linter.unusedSimpArgs false
set_option maxRecDepth 100000
set_option maxHeartbeats 1600000
namespace Go.AM
open Go.Proofs
theorem mark_pos1 (a : Nat) : (1 + (a : Int) < 0) = False := by simp; omega
theorem mark_pos2 (a b : Nat) : (1 + (a : Int) + b < 0) = False := by simp; omega
theorem mark_pos3 (a b c : Nat) : (1 + (a : Int) + b + c < 0) = False := by simp; omega
attribute [simp] mark_pos1 mark_pos2 mark_pos3
/-! Lists of numbers. -/
def ListOk (l : List Int) : Prop := Fits l ∧ ∀ x ∈ l, I64 x
def Int64SIn (l : List Int) : Prop := l.length ≤ maxLen ∧ ∀ x ∈ l, (Lit.int .i64 x).wf = true
theorem listOk_of {l : List Int} (h : Int64SIn l) (hl : (l.length : Int) ≤ 1048576) : ListOk l := ⟨by unfold Fits; omega, fun x hx => i64_of_wf (h.2 x hx)⟩
def szInt64SJ (left : Int) (l : List Int) : Int := szI left l.length
theorem szInt64SL (nn : Bool) (l : List Int) (left : Int) (h : Int64SIn l) (h0 : 0 ≤ left) (h1 : left ≤ 1048576) : ACalls1 Tryd.prog 50 [.sl 1 nn (ints l), iv left] (iv (szInt64SJ left l)) := szInt64S_spec nn l left h.1 h0 h1
theorem szInt64SL_le {l : List Int} {left : Int} (h : Int64SIn l) (h1 : left ≤ 1048576) (h2 : 0 ≤ szInt64SJ left l) : ListOk l ∧ szInt64SJ left l ≤ 1048576 := by
  unfold szInt64SJ szI at *
  split at h2
  · omega
  · rename_i h3
    rw [if_neg h3]
    exact ⟨listOk_of h (by omega), by omega⟩
theorem toInt64SL (nn : Bool) (l : List Int) (h : ListOk l) : ACalls1 Tryd.prog 11 [.sl 1 nn (ints l)] (.own 1 true (ints l)) := toInt64S_spec nn l h.1
theorem eqInt64SL (a b : Bool) (l : List Int) (h : ListOk l) : ACalls1 Tryd.prog 13 [.sl 1 a (ints l), .sl 1 b (ints l)] (bv true) := by
  have := eqInt64S_spec a b l l h.1
  simpa using this
theorem markInt64SL (nn : Bool) (l : List Int) (k : Int) (h : ListOk l) (h0 : 0 ≤ k) (h1 : k ≤ 1000) : ACalls2 Tryd.prog 16 [.own 1 nn (ints l), iv k] [.own 1 nn (ints (upFrom k l.length)), iv k] (iv (k + l.length)) := markInt64S_spec nn l k h.1 h0 (by omega)
theorem heldInt64SL (nn : Bool) (l : List Int) (k : Int) (h : ListOk l) (h0 : 0 ≤ k) (h1 : k ≤ 1000) : ACalls1 Tryd.prog 17 [.sl 1 nn (ints (upFrom k l.length)), iv k] (iv (k + l.length)) := heldInt64S_spec nn l.length k h.1 h0 (by omega)
/-! Nets. -/
def NetIn (x : NetV) : Prop := I64 x.p ∧ Int64SIn x.pre ∧ Int64SIn x.post ∧ I64 x.s
def NetOk (x : NetV) : Prop := I64 x.p ∧ ListOk x.pre ∧ ListOk x.post ∧ I64 x.s
def szNetJ (left : Int) (x : NetV) : Int := szNetI left x.pre.length x.post.length
theorem szNetL_le {x : NetV} {left : Int} (h : NetIn x) (h1 : left ≤ 1048576) (h2 : 0 ≤ szNetJ left x) : NetOk x ∧ szNetJ left x ≤ 1048576 := by
  unfold szNetJ at *
  have hh := szNetI_le (left := left) (a := x.pre.length) (b := x.post.length) (by omega)
  refine ⟨⟨h.1, listOk_of h.2.1 (by omega), listOk_of h.2.2.1 (by omega), h.2.2.2⟩, ?_⟩
  unfold szNetI szI at *
  split at h2
  · omega
  · rename_i h3; rw [if_neg h3]; split <;> (try split at *) <;> omega
end Go.AM
