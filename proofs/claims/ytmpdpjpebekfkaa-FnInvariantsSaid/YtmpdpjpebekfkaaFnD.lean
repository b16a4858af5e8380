/-
  Contracts: copies, nets turned round, marks on nets.
-/
import Derived.Test.YtmpdpjpebekfkaaFnB
import Derived.Test.YtmpdpjpebekfkaaFnC
set_option linter.unusedVariables false
set_option linter.unusedSimpArgs false
set_option maxRecDepth 100000
set_option maxHeartbeats 1600000
namespace Go.AM
open Go.Proofs
theorem l01Own_spec (nn : Bool) (l : List Int) (hl : Fits l) : ACalls1 Try.prog 61 [.sl 1 nn (ints l)] (.own 1 true (ints l)) := by
  unfold Fits at hl
  refine walk (fun _ => false) mixed Go.Proofs.Try.func61 rfl rfl rfl (by kernel_rfl) rfl (by simp) (by kernel_rfl) ?_
  simp
  omega
theorem Clone_spec (nn : Bool) (l : List Int) (hl : Fits l) : ACalls1 Try.prog 34 [.sl 1 nn (ints l)] (.own 1 false (ints l)) := by
  unfold Fits at hl
  refine walk (fun _ => false) mixed Go.Proofs.Try.func34 rfl rfl rfl (by kernel_rfl) rfl (by simp) (by kernel_rfl) ?_
  simp
  refine ⟨fun _ h => ?_, by omega, by omega⟩
  have : l = [] := by simpa [ints] using h
  subst this; simp
theorem markNet_spec (n1 n2 : Bool) (p : Int) (pre post : List Int) (s k : Int) (h1 : Fits pre) (h2 : Fits post) (h0 : 0 ≤ k) (hk : k ≤ 1000) :
    ACalls2 Try.prog 19 [.agg [iv p, .own 1 n1 (ints pre), .own 1 n2 (ints post), iv s], iv k] [.agg [iv p, .own 1 n1 (ints (upFrom k pre.length)), .own 1 n2 (ints (upFrom (k + pre.length) post.length)), iv s], iv k] (iv (k + pre.length + post.length)) := by
  have f1 := h1; have f2 := h2
  unfold Fits at h1 h2
  refine walkO (fun t => t == 2008 || t == 2012) mixed Go.Proofs.Try.func19 rfl rfl rfl (by kernel_rfl) (by simp) (by simp) (by simp) (by kernel_rfl) ?_
  simp
  refine ⟨_, _, markInt64S_spec n1 pre k f1 h0 (by omega), ?_⟩
  simp
  refine ⟨_, _, markInt64S_spec n2 post (k + pre.length) f2 (by omega) (by omega), ?_⟩
  simp
/-- The net with all arcs turned round, and the code. -/
def revNet (x : NetV) : NetV × Int := if isNet x.p x.pre x.post x.s then (⟨x.p, x.post, x.pre, x.s⟩, 0) else (⟨0, [], [], 0⟩, 1)
theorem ReverseNet_spec (n1 n2 : Bool) (x : NetV) (h1 : Fits x.pre) (h2 : Fits x.post) : ACalls1 Try.prog 9 [netSl n1 n2 x] (.tup [netOw false false (revNet x).1, iv (revNet x).2]) := by
  refine walk (fun t => t == 1) mixed Go.Proofs.Try.func9 rfl rfl rfl (by kernel_rfl) rfl (by simp) (by kernel_rfl) ?_
  simp
  refine ⟨_, IsNet_spec n1 n2 x.p x.pre x.post x.s, ?_⟩
  unfold revNet
  cases isNet x.p x.pre x.post x.s
  · simp
  · simp
    refine ⟨_, Clone_spec n2 x.post h2, ?_⟩
    simp
    refine ⟨_, Clone_spec n1 x.pre h1, ?_⟩
    simp
    exact ⟨by kernel_rfl, by kernel_rfl⟩
theorem eqNet_same (a b c d : Bool) (x : NetV) (h1 : Fits x.pre) (h2 : Fits x.post) : ACalls1 Try.prog 18 [netSl a b x, netSl c d x] (bv true) := by
  have := eqNet_spec a b c d x.p x.p x.pre x.post x.pre x.post x.s x.s h1 h2
  simpa using this
theorem revNet_fits (x : NetV) (h1 : Fits x.pre) (h2 : Fits x.post) : Fits (revNet x).1.pre ∧ Fits (revNet x).1.post := by
  unfold revNet; split
  · exact ⟨h2, h1⟩
  · simp [Fits]
end Go.AM
