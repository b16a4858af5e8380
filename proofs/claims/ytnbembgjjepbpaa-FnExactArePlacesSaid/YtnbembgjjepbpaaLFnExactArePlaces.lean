/-
  The law laws.FnExactArePlaces: for every input it returns true, and the input reads as it did: the statement Rows.FnExactArePlacesSaid, without any condition.
-/
import Derived.Test.YtnbembgjjepbpaaRows
import Derived.Test.YtnbembgjjepbpaaAmRow
import Derived.Test.YtnbembgjjepbpaaFnA
set_option linter.unusedVariables false
namespace Go.AM.LawOf
theorem fnExactArePlaces (a : Int × (Bool × List Int) × Unit) (h : (Lit.int .i64 a.1).wf = true ∧ (a.2.1.2.length ≤ maxLen ∧ ∀ x ∈ a.2.1.2, (Lit.int .i64 x).wf = true) ∧ True) :
    ACalls1 Go.Proofs.Try.prog 3 [.val (.int .i64 a.1), .sl 1 a.2.1.1 (a.2.1.2.flatMap fun n => [AV.val (.int .i64 n)])] (bv true) := by
  obtain ⟨n, ⟨nn, l⟩, _⟩ := a
  simp only [flat_ints]
  exact FnExactArePlaces_spec n (i64_of_wf h.1) nn l h.2.1.1
end Go.AM.LawOf
namespace Go.Proofs.Ytnbembgjjepbpaa.fnExactArePlaces
open Go.ChangeShapes Go.WideShapes Go.ChangeAt Go.RowKit Go.AM

theorem own : ownKnob Try.prog.godebug = none := by kernel_rfl
theorem laidOut : laidOutB Try.prog = true := by kernel_rfl

set_option maxRecDepth 100000 in
theorem lifted (os : Os) (started : os.Started) (H : Type) (enc : TypeId × Value → H) :
    ReturnsInHanded {} Try.checked os 3 .any (Rows.fnExactArePlacesSpec.pre6 enc Try.prog Try.f3 Rows.fnExactArePlacesRow.domain false) (Rows.fnExactArePlacesSpec.post enc Try.prog Try.f3 false true false false) := by
  have hopen := (show OpensL Try.prog [2, 22] _ _ from (opensL_cons (opensA_int (k := .i64) Try.underlying2) (opensL_cons (opensA_slice Try.underlying22 (opens_slice (n := 1) Try.underlying22 (by kernel_rfl) (opens_int (k := .i64) Try.underlying2) (fun _ => rfl))) opensL_nil)))
  refine lift_of (rt := 4) (C := Try.checked) (fn := Try.f3) hopen (fun a h => LawOf.fnExactArePlaces a h) ?_ own started Try.func3 rfl (by kernel_rfl) rfl Try.underlying4 laidOut (by kernel_rfl)
    (ChangeSpec.witness6 (enc := enc) (C := Try.checked) false ⟨#[], #[(Value.int .i64 0), (Value.slice none 0 0)], []⟩ 8 (by kernel_rfl) (by kernel_rfl) (by kernel_rfl) (by kernel_rfl))
  intro H ds hds
  match ds, hds with
  | [d0, d1], _ => exact ⟨rfl, rfl, rfl⟩
theorem over : Rows.fnExactArePlacesRow.holds Try.pinned (OpenSpec.ofChange Rows.fnExactArePlacesSpec) :=
  OpenClaim.holds_of_wide 3 Try.f3 rfl rfl rfl rfl rfl rfl rfl ⟨rfl, rfl, rfl, rfl, rfl⟩ rfl rfl rfl rfl rfl (by kernel_rfl) Try.func3 (by kernel_rfl)
    (of_decide_eq_true (by kernel_rfl)) (by unfold Func.isWrapper; first | (rw [if_pos (by decide +kernel)]; kernel_rfl) | (rw [if_neg (by decide +kernel)]; exact ⟨rfl, rfl⟩))
    (fun os started H enc _ => lifted os started H enc)
end Go.Proofs.Ytnbembgjjepbpaa.fnExactArePlaces
namespace Go.Proofs.Ytnbembgjjepbpaa
/-- The row. -/
theorem fnExactArePlaces_holds : Rows.FnExactArePlacesSaid := fnExactArePlaces.over
#print axioms fnExactArePlaces_holds
end Go.Proofs.Ytnbembgjjepbpaa
