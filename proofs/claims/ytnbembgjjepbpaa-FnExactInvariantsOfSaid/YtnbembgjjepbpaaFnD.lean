/-
  Contracts: copies, nets turned round, marks on nets.
-/
import Derived.Test.YtnbembgjjepbpaaFnB
import Derived.Test.YtnbembgjjepbpaaFnC
set_option linter.unusedVariables false
set_option linter.unusedSimpArgs false
set_option maxRecDepth 100000
set_option maxHeartbeats 1600000
namespace Go.AM
open Go.Proofs
theorem l01Own_spec (nn : Bool) (l : List Int) (hl : Fits l) : ACalls1 Try.prog 47 [.sl 1 nn (ints l)] (.own 1 true (ints l)) := by
  unfold Fits at hl
  refine walk (fun _ => false) mixed Go.Proofs.Try.func47 rfl rfl rfl (by kernel_rfl) rfl (by simp) (by kernel_rfl) ?_
  simp
  omega
theorem Clone_spec (nn : Bool) (l : List Int) (hl : Fits l) : ACalls1 Try.prog 48 [.sl 1 nn (ints l)] (.own 1 false (ints l)) := by
  unfold Fits at hl
  refine walk (fun _ => false) mixed Go.Proofs.Try.func48 rfl rfl rfl (by kernel_rfl) rfl (by simp) (by kernel_rfl) ?_
  simp
  refine ⟨fun _ h => ?_, by omega, by omega⟩
  have : l = [] := by simpa [ints] using h
  subst this; simp
theorem markNet_spec (n1 n2 : Bool) (p : Int) (pre post : List Int) (s k : Int) (h1 : Fits pre) (h2 : Fits post) (h0 : 0 ≤ k) (hk : k ≤ 1000) :
    ACalls2 Try.prog 22 [.agg [iv p, .own 1 n1 (ints pre), .own 1 n2 (ints post), iv s], iv k] [.agg [iv p, .own 1 n1 (ints (upFrom k pre.length)), .own 1 n2 (ints (upFrom (k + pre.length) post.length)), iv s], iv k] (iv (k + pre.length + post.length)) := by
  have f1 := h1; have f2 := h2
  unfold Fits at h1 h2
  refine walkO (fun t => t == 2008 || t == 2012) mixed Go.Proofs.Try.func22 rfl rfl rfl (by kernel_rfl) (by simp) (by simp) (by simp) (by kernel_rfl) ?_
  simp
  refine ⟨_, _, markInt64S_spec n1 pre k f1 h0 (by omega), ?_⟩
  simp
  refine ⟨_, _, markInt64S_spec n2 post (k + pre.length) f2 (by omega) (by omega), ?_⟩
  simp
theorem heldNet_spec (n1 n2 : Bool) (p : Int) (a b : Nat) (s k : Int) (h1 : a < 1099511627776) (h2 : b < 1099511627776) (h0 : 0 ≤ k) (hk : k ≤ 1000) :
    ACalls1 Try.prog 23 [netA n1 n2 p (upFrom k a) (upFrom (k + a) b) s, iv k] (iv (k + a + b)) := by
  refine walk (fun _ => false) mixed Go.Proofs.Try.func23 rfl rfl rfl (by kernel_rfl) rfl (by simp) (by kernel_rfl) ?_
  simp
  refine ⟨_, heldInt64S_spec n1 a k h1 h0 (by omega), ?_⟩
  simp [show ¬ k + a < 0 by omega]
  refine ⟨_, heldInt64S_spec n2 b (k + a) h2 (by omega) (by omega), ?_⟩
  simp [show ¬ k + a + b < 0 by omega]
/-- The net with all arcs turned round, and the code. -/
def revNet (x : NetV) : NetV × Int := if isNet x.p x.pre x.post x.s then (⟨x.p, x.post, x.pre, x.s⟩, 0) else (⟨0, [], [], 0⟩, 1)
theorem ReverseNet_spec (n1 n2 : Bool) (x : NetV) (h1 : Fits x.pre) (h2 : Fits x.post) : ACalls1 Try.prog 21 [netSl n1 n2 x] (.tup [netOw false false (revNet x).1, iv (revNet x).2]) := by
  refine walk (fun t => t == 1) mixed Go.Proofs.Try.func21 rfl rfl rfl (by kernel_rfl) rfl (by simp) (by kernel_rfl) ?_
  simp
  refine ⟨_, IsNet_spec n1 n2 x.p x.pre x.post x.s, ?_⟩
  unfold revNet
  cases isNet x.p x.pre x.post x.s
  · simp
  · simp
    refine ⟨_, Clone_spec n2 x.post h2, ?_⟩
    simp
    refine ⟨_, Clone_spec n1 x.pre h1, ?_⟩
    simp
    exact ⟨by kernel_rfl, by kernel_rfl⟩
theorem specReverseNet_spec (n1 n2 : Bool) (x : NetV) (hp : I64 x.p) (h1 : Fits x.pre) (h2 : Fits x.post) : ACalls1 Try.prog 20 [netSl n1 n2 x] (.tup [netOw false false (revNet x).1, iv (revNet x).2]) := by
  refine walk (fun t => t == 1) mixed Go.Proofs.Try.func20 rfl rfl rfl (by kernel_rfl) rfl (by simp) (by kernel_rfl) ?_
  simp
  refine ⟨_, l17Is_spec n1 n2 x.p x.pre x.post x.s hp, ?_⟩
  unfold revNet
  cases isNet x.p x.pre x.post x.s
  · simp
  · simp
    refine ⟨_, l01Own_spec n2 x.post h2, ?_⟩
    simp
    refine ⟨_, l01Own_spec n1 x.pre h1, ?_⟩
    simp
    exact ⟨by kernel_rfl, by kernel_rfl⟩
theorem eqNet_same (a b c d : Bool) (x : NetV) (h1 : Fits x.pre) (h2 : Fits x.post) : ACalls1 Try.prog 19 [netSl a b x, netSl c d x] (bv true) := by
  have := eqNet_spec a b c d x.p x.p x.pre x.post x.pre x.post x.s x.s h1 h2
  simpa using this
theorem revNet_fits (x : NetV) (h1 : Fits x.pre) (h2 : Fits x.post) : Fits (revNet x).1.pre ∧ Fits (revNet x).1.post := by
  unfold revNet; split
  · exact ⟨h2, h1⟩
  · simp [Fits]
theorem FnExactReverseNet_spec (n1 n2 : Bool) (x : NetV) (hp : I64 x.p) (m1 : x.pre.length ≤ maxLen) (m2 : x.post.length ≤ maxLen) : ACalls1 Try.prog 5 [netSl n1 n2 x] (bv true) := by
  refine walk (fun t => t == 1 || t == 1041 || t == 2048 || t == 2064) mixed Go.Proofs.Try.func5 rfl rfl rfl (by kernel_rfl) rfl (by simp) (by kernel_rfl) ?_
  simp
  refine ⟨_, szNet_spec n1 n2 x.p x.pre x.post x.s _ m1 m2 (by omega) (by omega), ?_⟩
  simp
  intro h
  have hh := szNetI_le (left := 1048576) (a := x.pre.length) (b := x.post.length) (by omega)
  have f1 : Fits x.pre := by unfold Fits; omega
  have f2 : Fits x.post := by unfold Fits; omega
  obtain ⟨g1, g2⟩ := revNet_fits x f1 f2
  have G1 := g1; have G2 := g2
  unfold Fits at G1 G2
  refine ⟨_, toNet_spec n1 n2 x.p x.pre x.post x.s f1 f2, ?_⟩
  simp
  refine ⟨_, specReverseNet_spec _ _ x hp f1 f2, ?_⟩
  generalize hR : revNet x = R at *
  simp
  refine ⟨_, toNet_spec n1 n2 x.p x.pre x.post x.s f1 f2, ?_⟩
  simp
  refine ⟨_, ReverseNet_spec _ _ x f1 f2, ?_⟩
  rw [hR]
  simp
  refine ⟨_, eqNet_same _ _ _ _ R.1 g1 g2, ?_⟩
  simp
  refine ⟨_, toNet_spec n1 n2 x.p x.pre x.post x.s f1 f2, ?_⟩
  simp
  refine ⟨_, eqNet_same _ _ _ _ x f1 f2, ?_⟩
  simp
  first | refine ⟨⟨by kernel_rfl, by kernel_rfl⟩, ?_⟩ | exact ⟨by kernel_rfl, by kernel_rfl⟩
  refine ⟨_, _, markNet_spec _ _ _ _ _ _ 1 f1 f2 (by omega) (by omega), ?_⟩
  simp [show ¬ (1 + (x.pre.length : Int) + x.post.length < 0) by omega]
  refine ⟨_, eqNet_same _ _ _ _ R.1 g1 g2, ?_⟩
  simp
  refine ⟨_, _, markNet_spec _ _ _ _ _ _ 1 g1 g2 (by omega) (by omega), ?_⟩
  simp
  refine ⟨_, heldNet_spec _ _ _ _ _ _ 1 G1 G2 (by omega) (by omega), ?_⟩
  simp [show ¬ (1 + (R.1.pre.length : Int) + R.1.post.length < 0) by omega]
  refine ⟨_, toNet_spec n1 n2 x.p x.pre x.post x.s f1 f2, ?_⟩
  simp
  refine ⟨_, ReverseNet_spec _ _ x f1 f2, ?_⟩
  rw [hR]
  simp
  refine ⟨_, eqNet_same _ _ _ _ R.1 g1 g2, ?_⟩
  simp
  refine ⟨_, heldNet_spec _ _ _ _ _ _ 1 G1 G2 (by omega) (by omega), ?_⟩
  simp [show ¬ (1 + (R.1.pre.length : Int) + R.1.post.length < 0) by omega]
end Go.AM
