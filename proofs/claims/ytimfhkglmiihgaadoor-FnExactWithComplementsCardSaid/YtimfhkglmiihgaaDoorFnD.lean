/-
  Contracts: copies, nets turned round, marks on nets.
-/
import Derived.Test.YtimfhkglmiihgaaDoorFnB
import Derived.Test.YtimfhkglmiihgaaDoorFnC
set_option linter.unusedVariables false
set_option linter.unusedSimpArgs false
set_option maxRecDepth 100000
set_option maxHeartbeats 1600000
namespace Go.AM
open Go.Proofs
theorem l01Own_spec (nn : Bool) (l : List Int) (hl : Fits l) : ACalls1 Tryd.prog 132 [.sl 1 nn (ints l)] (.own 1 true (ints l)) := by
  unfold Fits at hl
  refine walk (fun _ => false) mixed Go.Proofs.Tryd.func132 rfl rfl rfl (by kernel_rfl) rfl (by simp) (by kernel_rfl) ?_
  simp
  omega
theorem Clone_spec (nn : Bool) (l : List Int) (hl : Fits l) : ACalls1 Tryd.prog 127 [.sl 1 nn (ints l)] (.own 1 false (ints l)) := by
  unfold Fits at hl
  refine walk (fun _ => false) mixed Go.Proofs.Tryd.func127 rfl rfl rfl (by kernel_rfl) rfl (by simp) (by kernel_rfl) ?_
  simp
  refine ⟨fun _ h => ?_, by omega, by omega⟩
  have : l = [] := by simpa [ints] using h
  subst this; simp
theorem markNet_spec (n1 n2 : Bool) (p : Int) (pre post : List Int) (s k : Int) (h1 : Fits pre) (h2 : Fits post) (h0 : 0 ≤ k) (hk : k ≤ 1000) :
    ACalls2 Tryd.prog 60 [.agg [iv p, .own 1 n1 (ints pre), .own 1 n2 (ints post), iv s], iv k] [.agg [iv p, .own 1 n1 (ints (upFrom k pre.length)), .own 1 n2 (ints (upFrom (k + pre.length) post.length)), iv s], iv k] (iv (k + pre.length + post.length)) := by
  have f1 := h1; have f2 := h2
  unfold Fits at h1 h2
  refine walkO (fun t => t == 2008 || t == 2012) mixed Go.Proofs.Tryd.func60 rfl rfl rfl (by kernel_rfl) (by simp) (by simp) (by simp) (by kernel_rfl) ?_
  simp
  refine ⟨_, _, markInt64S_spec n1 pre k f1 h0 (by omega), ?_⟩
  simp
  refine ⟨_, _, markInt64S_spec n2 post (k + pre.length) f2 (by omega) (by omega), ?_⟩
  simp
theorem heldNet_spec (n1 n2 : Bool) (p : Int) (a b : Nat) (s k : Int) (h1 : a < 1099511627776) (h2 : b < 1099511627776) (h0 : 0 ≤ k) (hk : k ≤ 1000) :
    ACalls1 Tryd.prog 61 [netA n1 n2 p (upFrom k a) (upFrom (k + a) b) s, iv k] (iv (k + a + b)) := by
  refine walk (fun _ => false) mixed Go.Proofs.Tryd.func61 rfl rfl rfl (by kernel_rfl) rfl (by simp) (by kernel_rfl) ?_
  simp
  refine ⟨_, heldInt64S_spec n1 a k h1 h0 (by omega), ?_⟩
  simp [show ¬ k + a < 0 by omega]
  refine ⟨_, heldInt64S_spec n2 b (k + a) h2 (by omega) (by omega), ?_⟩
  simp [show ¬ k + a + b < 0 by omega]
/-- The net with all arcs turned round, and the code. -/
def revNet (x : NetV) : NetV × Int := if isNet x.p x.pre x.post x.s then (⟨x.p, x.post, x.pre, x.s⟩, 0) else (⟨0, [], [], 0⟩, 1)
theorem eqNet_same (a b c d : Bool) (x : NetV) (h1 : Fits x.pre) (h2 : Fits x.post) : ACalls1 Tryd.prog 59 [netSl a b x, netSl c d x] (bv true) := by
  have := eqNet_spec a b c d x.p x.p x.pre x.post x.pre x.post x.s x.s h1 h2
  simpa using this
theorem revNet_fits (x : NetV) (h1 : Fits x.pre) (h2 : Fits x.post) : Fits (revNet x).1.pre ∧ Fits (revNet x).1.post := by
  unfold revNet; split
  · exact ⟨h2, h1⟩
  · simp [Fits]
end Go.AM
