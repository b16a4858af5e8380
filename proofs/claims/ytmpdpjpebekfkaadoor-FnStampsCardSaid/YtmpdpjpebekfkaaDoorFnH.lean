/-
  Contracts: alphabets of nets.
-/
import Derived.Test.YtmpdpjpebekfkaaDoorFnG
import Derived.Test.YtmpdpjpebekfkaaDoorFnTA
set_option linter.unusedVariables false
set_option linter.unusedSimpArgs false
set_option maxRecDepth 100000
set_option maxHeartbeats 1600000
namespace Go.AM
open Go.Proofs
/-- The masks of the first numbers. -/
def pows (n : Nat) : List Int := (List.range n).map fun (k : Nat) => pow1 k
theorem pows_succ (n : Nat) : pows (n + 1) = pows n ++ [pow1 n] := by simp [pows, List.range_succ]
@[simp] theorem pows_length (n : Nat) : (pows n).length = n := by simp [pows]
theorem loose_spec (n : Nat) (h : n ≤ 24) : ACalls1 Tryd.prog 133 [iv n] (.agg [iv n, .own 1 false (ints (pows n))]) := by
  refine walk (fun _ => false) mixed Go.Proofs.Tryd.func133 rfl rfl rfl (by kernel_rfl) rfl (by simp) (by kernel_rfl) ?_
  simp
  refine awp_loop2 [2, 3, 7] [2] (fun k : Nat => [(8, iv k)]) (fun k => [(3, .box [iv n, .ref 100]), (100, .own 1 false (ints (pows k)))]) (fun k => k ≤ n) (fun k => n - k) 0 (weak_mk (fun t => if t = 100 then none else some t) (by simp) (by simp [pows]) rfl) (by simp) ?_
  intro k hk
  by_cases hlt : k < n
  · simp [hlt]
    refine ⟨_, one_spec k (by omega), ?_⟩
    simp [wrap_id ((k : Int) + 1) (by omega) (by omega)]
    repeat (refine And.intro (by omega) ?_)
    first | refine ⟨⟨by kernel_rfl, by kernel_rfl⟩, ?_⟩ | exact ⟨by kernel_rfl, by kernel_rfl⟩
    exact Round.mk (k + 1) (weak_mk (fun t => if t = 100 then some 16 else some t) (by simp) (by simp [pows_succ]) rfl) hlt (by omega)
  · simp [hlt]
    rw [show k = n by omega]; simp
/-- Whether two transitions share places. -/
def touch (x : NetV) (a b : Nat) : Bool := ibits .and .i64 (ibits .or .i64 (nth x.pre a) (nth x.post a)) (ibits .or .i64 (nth x.pre b) (nth x.post b)) != 0
/-- The alphabet of a net. -/
def alphaOf (x : NetV) : AlphaV := ⟨x.pre.length, (List.range x.pre.length).map fun a => orMask 0 (fun b => a == b || touch x a b) x.pre.length⟩
/-- The alphabet of a net, and the code. -/
def alphabetOfNetV (x : NetV) : AlphaV × Int := if isNet x.p x.pre x.post x.s then (alphaOf x, 0) else (⟨0, []⟩, 1)
theorem AlphabetOfNet_fits (x : NetV) (hx : NetOk x) : AlphabetOk (alphabetOfNetV x).1 := by
  unfold alphabetOfNetV
  split
  · rename_i h
    have hl := isNet_len h
    refine ⟨by simp [alphaOf, I64]; omega, by simp [alphaOf, Fits]; omega, ?_⟩
    intro i hi
    simp only [alphaOf, List.mem_map, List.mem_range] at hi
    obtain ⟨a, ha, rfl⟩ := hi
    have := M_orMask (fun b => a == b || touch x a b) M_zero x.pre.length (by omega)
    unfold M at this; unfold I64; omega
  · simp [AlphabetOk, I64, ListOk, Fits]
end Go.AM
