/-
  The law laws.FnExactReverseNet: for every input it returns true, and the input reads as it did: the statement Rows.FnExactReverseNetSaid, without any condition.
-/
import Derived.Test.YtnbembgjjepbpaaRows
import Derived.Test.YtnbembgjjepbpaaAmRow
import Derived.Test.YtnbembgjjepbpaaFnD
set_option linter.unusedVariables false
namespace Go.AM.LawOf
theorem fnExactReverseNet (a : (Int × (Bool × List Int) × (Bool × List Int) × Int × Unit) × Unit) (h : ((Lit.int .i64 a.1.1).wf = true ∧ (a.1.2.1.2.length ≤ maxLen ∧ ∀ x ∈ a.1.2.1.2, (Lit.int .i64 x).wf = true) ∧ (a.1.2.2.1.2.length ≤ maxLen ∧ ∀ x ∈ a.1.2.2.1.2, (Lit.int .i64 x).wf = true) ∧ (Lit.int .i64 a.1.2.2.2.1).wf = true ∧ True) ∧ True) :
    ACalls1 Go.Proofs.Try.prog 5 [.agg ([AV.val (.int .i64 a.1.1)] ++ ([.sl 1 a.1.2.1.1 (a.1.2.1.2.flatMap fun n => [AV.val (.int .i64 n)])] ++ ([.sl 1 a.1.2.2.1.1 (a.1.2.2.1.2.flatMap fun n => [AV.val (.int .i64 n)])] ++ ([AV.val (.int .i64 a.1.2.2.2.1)] ++ []))))] (bv true) := by
  obtain ⟨⟨p, ⟨n1, pre⟩, ⟨n2, post⟩, s, _⟩, _⟩ := a
  simp only [flat_ints]
  exact FnExactReverseNet_spec n1 n2 ⟨p, pre, post, s⟩ (i64_of_wf h.1.1) h.1.2.1.1 h.1.2.2.1.1
end Go.AM.LawOf
namespace Go.Proofs.Ytnbembgjjepbpaa.fnExactReverseNet
open Go.ChangeShapes Go.WideShapes Go.ChangeAt Go.RowKit Go.AM

theorem own : ownKnob Try.prog.godebug = none := by kernel_rfl
theorem laidOut : laidOutB Try.prog = true := by kernel_rfl

set_option maxRecDepth 100000 in
theorem lifted (os : Os) (started : os.Started) (H : Type) (enc : TypeId × Value → H) :
    ReturnsInHanded {} Try.checked os 5 .any (Rows.fnExactReverseNetSpec.pre6 enc Try.prog Try.f5 Rows.fnExactReverseNetRow.domain false) (Rows.fnExactReverseNetSpec.post enc Try.prog Try.f5 false true false false) := by
  have hopen := (show OpensL Try.prog [27] _ _ from (opensL_cons (opensA_struct Try.underlying27 (opens_struct Try.underlying27 (by kernel_rfl) (opensF_cons (n := 1) rfl (by kernel_rfl) (opens_int (k := .i64) Try.underlying2) (opensF_cons (n := 1) rfl (by kernel_rfl) (opens_slice (n := 1) Try.underlying22 (by kernel_rfl) (opens_int (k := .i64) Try.underlying2) (fun _ => rfl)) (opensF_cons (n := 1) rfl (by kernel_rfl) (opens_slice (n := 1) Try.underlying22 (by kernel_rfl) (opens_int (k := .i64) Try.underlying2) (fun _ => rfl)) (opensF_cons (n := 1) rfl (by kernel_rfl) (opens_int (k := .i64) Try.underlying2) opensF_nil)))))) opensL_nil))
  refine lift_of (rt := 4) (C := Try.checked) (fn := Try.f5) hopen (fun a h => LawOf.fnExactReverseNet a h) ?_ own started Try.func5 rfl (by kernel_rfl) rfl Try.underlying4 laidOut (by kernel_rfl)
    (ChangeSpec.witness6 (enc := enc) (C := Try.checked) false ⟨#[], #[(Value.agg #[(Value.int .i64 0), (Value.slice none 0 0), (Value.slice none 0 0), (Value.int .i64 0)])], []⟩ 8 (by kernel_rfl) (by kernel_rfl) (by kernel_rfl) (by kernel_rfl))
  intro H ds hds
  match ds, hds with
  | [d0], _ => exact ⟨rfl, rfl, rfl⟩
theorem over : Rows.fnExactReverseNetRow.holds Try.pinned (OpenSpec.ofChange Rows.fnExactReverseNetSpec) :=
  OpenClaim.holds_of_wide 5 Try.f5 rfl rfl rfl rfl rfl rfl rfl ⟨rfl, rfl, rfl, rfl, rfl⟩ rfl rfl rfl rfl rfl (by kernel_rfl) Try.func5 (by kernel_rfl)
    (of_decide_eq_true (by kernel_rfl)) (by unfold Func.isWrapper; first | (rw [if_pos (by decide +kernel)]; kernel_rfl) | (rw [if_neg (by decide +kernel)]; exact ⟨rfl, rfl⟩))
    (fun os started H enc _ => lifted os started H enc)
end Go.Proofs.Ytnbembgjjepbpaa.fnExactReverseNet
namespace Go.Proofs.Ytnbembgjjepbpaa
/-- The row. -/
theorem fnExactReverseNet_holds : Rows.FnExactReverseNetSaid := fnExactReverseNet.over
#print axioms fnExactReverseNet_holds
end Go.Proofs.Ytnbembgjjepbpaa
