/-
  Contracts of the laws' helpers for lists of lists of numbers.
-/
import Derived.Test.YthabclhldlikfaaDoorFnMgA
set_option linter.unusedVariables false
set_option linter.unusedSimpArgs false
set_option maxRecDepth 100000
set_option maxHeartbeats 1600000
namespace Go.AM
open Go.Proofs
/-- How many numbers there are. -/
def total : List (List Int) → Nat
  | [] => 0
  | r :: rs => r.length + total rs
/-- All numbers in their order, from `k` on. -/
def markRows (k : Int) : List (List Int) → List (List Int)
  | [] => []
  | r :: rs => upFrom k r.length :: markRows (k + r.length) rs
@[simp] theorem markRows_length (k : Int) (rs : List (List Int)) : (markRows k rs).length = rs.length := by
  induction rs generalizing k with
  | nil => rfl
  | cons r rs ih => simp [markRows, ih]
theorem total_append (rs : List (List Int)) (r : List Int) : total (rs ++ [r]) = total rs + r.length := by
  induction rs with
  | nil => simp [total]
  | cons x rs ih => simp [total, ih]; omega
theorem markRows_append (k : Int) (rs : List (List Int)) (r : List Int) : markRows k (rs ++ [r]) = markRows k rs ++ [upFrom (k + total rs) r.length] := by
  induction rs generalizing k with
  | nil => simp [markRows, total]
  | cons x rs ih => simp only [List.cons_append, markRows, ih, total]; congr 4; omega
theorem total_take_le (rs : List (List Int)) : ∀ i, total (rs.take i) ≤ total rs := by
  induction rs with
  | nil => intro i; simp [total]
  | cons r rs ih =>
    intro i
    cases i with
    | zero => simp [total]
    | succ i => simp only [List.take_succ_cons, total]; have := ih i; omega
theorem take_succ_row (rs : List (List Int)) (i : Nat) (h : i < rs.length) : rs.take (i + 1) = rs.take i ++ [nthR rs i] := by
  rw [List.take_succ_eq_append_getElem h, nthR_at h]
theorem drop_row (rs : List (List Int)) (i : Nat) (h : i < rs.length) : rs.drop i = nthR rs i :: rs.drop (i + 1) := by
  rw [nthR_at h]; exact List.drop_eq_getElem_cons h
theorem total_row (rs : List (List Int)) (i : Nat) (h : i < rs.length) : total (rs.take (i + 1)) = total (rs.take i) + (nthR rs i).length := by
  rw [take_succ_row rs i h, total_append]
def RowsOk (rs : List (List Int)) : Prop := rs.length ≤ 1048576 ∧ total rs ≤ 1000000000000 ∧ ∀ r ∈ rs, ListOk r
theorem nthR_mem {rs : List (List Int)} {i : Nat} (h : i < rs.length) : nthR rs i ∈ rs := by rw [nthR_at h]; exact List.getElem_mem h
theorem aload_mid {P : Program} {t : TypeId} {Al Cl : List AV} {x : AV} {off : Nat} {rd : Bool} {K : Eff → Prop} (h : Al.length = off) (hag : tagg P t = false) (hc : cpy x = true) : aload P t (Al ++ x :: Cl) off rd K = (tok P t = true ∧ K { val := x, rd := rd }) := by
  unfold aload
  have e : (Al ++ x :: Cl).getD off .junk = x := by
    subst h; simp
  have : off < (Al ++ x :: Cl).length := by rw [← h]; simp
  rw [hag]
  simp only [Bool.false_eq_true, if_false, e, hc, this, true_and]
end Go.AM
