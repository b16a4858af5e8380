/-
  The law laws.FnExactDeadMarkings: for every input it returns true, and the input reads as it did: the statement Rows.FnExactDeadMarkingsSaid, without any condition.
-/
import Derived.Test.YtimfhkglmiihgaaRows
import Derived.Test.YtimfhkglmiihgaaAmRow
import Derived.Test.YtimfhkglmiihgaaFnMd
set_option linter.unusedVariables false
set_option linter.unusedSimpArgs false
set_option maxRecDepth 100000
set_option maxHeartbeats 1600000
namespace Go.AM
open Go.Proofs
theorem FnExactDeadMarkings_spec (n0 n1 : Bool) (n : NetV) (h_n : NetIn n) : ACalls1 Try.prog 5 [netSl n0 n1 n] (bv true) := by
  refine walk (fun t => t == 1 || t == 1041 || t == 2048 || t == 2064) mixed Go.Proofs.Try.func5 rfl rfl rfl (by kernel_rfl) rfl (by simp) (by kernel_rfl) ?_
  simp
  refine ⟨_, szNetL _ _ n _ h_n (by omega) (by omega), ?_⟩
  simp
  intro hs_n
  obtain ⟨k_n, z_n⟩ := szNetL_le h_n (by omega) hs_n
  refine ⟨_, toNetL _ _ n k_n, ?_⟩
  simp
  refine ⟨_, specDeadMarkings_spec _ _ n k_n, ?_⟩
  have fit := DeadMarkings_fits n k_n
  generalize hR : deadMarkingsV n = R at *
  simp
  refine ⟨_, toNetL _ _ n k_n, ?_⟩
  simp
  refine ⟨_, DeadMarkings_spec _ _ n k_n, ?_⟩
  rw [hR]
  simp
  refine ⟨_, eqInt64SL _ _ R.1 fit, ?_⟩
  simp
  refine ⟨_, toNetL _ _ n k_n, ?_⟩
  simp
  refine ⟨_, eqNetL _ _ _ _ n k_n, ?_⟩
  simp
  first | refine ⟨⟨by kernel_rfl, by kernel_rfl⟩, ?_⟩ | exact ⟨by kernel_rfl, by kernel_rfl⟩
  refine ⟨_, _, markNetL _ _ n _ k_n (by omega) (by omega), ?_⟩
  simp
  refine ⟨_, eqInt64SL _ _ R.1 fit, ?_⟩
  simp
  refine ⟨_, _, markInt64S_spec _ R.1 _ fit.1 (by omega) (by omega), ?_⟩
  simp
  refine ⟨_, heldInt64S_spec _ (R.1).length _ fit.1 (by omega) (by omega), ?_⟩
  simp
  refine ⟨_, toNetL _ _ n k_n, ?_⟩
  simp
  refine ⟨_, DeadMarkings_spec _ _ n k_n, ?_⟩
  rw [hR]
  simp
  refine ⟨_, eqInt64SL _ _ R.1 fit, ?_⟩
  simp
  refine ⟨_, heldInt64S_spec _ (R.1).length _ fit.1 (by omega) (by omega), ?_⟩
  simp
namespace LawOf
theorem fnExactDeadMarkings (a : (Int × (Bool × List Int) × (Bool × List Int) × Int × Unit) × Unit) (h : ((Lit.int .i64 a.1.1).wf = true ∧ (a.1.2.1.2.length ≤ maxLen ∧ ∀ x1 ∈ a.1.2.1.2, (Lit.int .i64 x1).wf = true) ∧ (a.1.2.2.1.2.length ≤ maxLen ∧ ∀ x2 ∈ a.1.2.2.1.2, (Lit.int .i64 x2).wf = true) ∧ (Lit.int .i64 a.1.2.2.2.1).wf = true ∧ True) ∧ True) :
    ACalls1 Go.Proofs.Try.prog 5 [AV.agg ([AV.val (.int .i64 a.1.1)] ++ ([AV.sl 1 a.1.2.1.1 (a.1.2.1.2.flatMap fun y3 => [AV.val (.int .i64 y3)])] ++ ([AV.sl 1 a.1.2.2.1.1 (a.1.2.2.1.2.flatMap fun y4 => [AV.val (.int .i64 y4)])] ++ ([AV.val (.int .i64 a.1.2.2.2.1)] ++ []))))] (bv true) := by
  obtain ⟨⟨n_0, ⟨n0, n_1⟩, ⟨n1, n_2⟩, n_3, _⟩, _⟩ := a
  simp only [flat_ints, flat_rows]
  exact FnExactDeadMarkings_spec n0 n1 ⟨n_0, n_1, n_2, n_3⟩ ⟨i64_of_wf h.1.1, h.1.2.1, h.1.2.2.1, i64_of_wf h.1.2.2.2.1⟩
end LawOf
end Go.AM
namespace Go.Proofs.Ytimfhkglmiihgaa.fnExactDeadMarkings
open Go.ChangeShapes Go.WideShapes Go.ChangeAt Go.RowKit Go.AM

theorem own : ownKnob Try.prog.godebug = none := by kernel_rfl
theorem laidOut : laidOutB Try.prog = true := by kernel_rfl

set_option maxRecDepth 100000 in
theorem lifted (os : Os) (started : os.Started) (H : Type) (enc : TypeId × Value → H) :
    ReturnsInHanded {} Try.checked os 5 .any (Rows.fnExactDeadMarkingsSpec.pre6 enc Try.prog Try.f5 Rows.fnExactDeadMarkingsRow.domain false) (Rows.fnExactDeadMarkingsSpec.post enc Try.prog Try.f5 false true false false) := by
  have hopen := (show OpensL Try.prog [37] _ _ from (opensL_cons (opensA_struct Try.underlying37 (opens_struct Try.underlying37 (by kernel_rfl) (opensF_cons (n := 1) rfl (by kernel_rfl) (opens_int (k := .i64) Try.underlying2) (opensF_cons (n := 1) rfl (by kernel_rfl) (opens_slice (n := 1) Try.underlying24 (by kernel_rfl) (opens_int (k := .i64) Try.underlying2) (fun _ => rfl)) (opensF_cons (n := 1) rfl (by kernel_rfl) (opens_slice (n := 1) Try.underlying24 (by kernel_rfl) (opens_int (k := .i64) Try.underlying2) (fun _ => rfl)) (opensF_cons (n := 1) rfl (by kernel_rfl) (opens_int (k := .i64) Try.underlying2) opensF_nil)))))) opensL_nil))
  refine lift_of (rt := 4) (C := Try.checked) (fn := Try.f5) hopen (fun a h => LawOf.fnExactDeadMarkings a h) (by kernel_rfl) ?_ own started Try.func5 rfl (by kernel_rfl) rfl Try.underlying4 laidOut (by kernel_rfl)
    (ChangeSpec.witness6 (enc := enc) (C := Try.checked) false ⟨#[], #[(Value.agg #[(Value.int .i64 0), (Value.slice none 0 0), (Value.slice none 0 0), (Value.int .i64 0)])], []⟩ 8 (by kernel_rfl) (by kernel_rfl) (by kernel_rfl) (by kernel_rfl))
  intro H ds hds
  match ds, hds with
  | [d0], _ => exact ⟨rfl, rfl, rfl⟩
theorem over : Rows.fnExactDeadMarkingsRow.holds Try.pinned (OpenSpec.ofChange Rows.fnExactDeadMarkingsSpec) :=
  OpenClaim.holds_of_wide 5 Try.f5 rfl rfl rfl rfl rfl rfl rfl ⟨rfl, rfl, rfl, rfl, rfl⟩ rfl rfl rfl rfl rfl (by kernel_rfl) Try.func5 (by kernel_rfl)
    (of_decide_eq_true (by kernel_rfl)) (by unfold Func.isWrapper; first | (rw [if_pos (by decide +kernel)]; kernel_rfl) | (rw [if_neg (by decide +kernel)]; exact ⟨rfl, rfl⟩))
    (fun os started H enc _ => lifted os started H enc)
end Go.Proofs.Ytimfhkglmiihgaa.fnExactDeadMarkings
namespace Go.Proofs.Ytimfhkglmiihgaa
/-- The row. -/
theorem fnExactDeadMarkings_holds : Rows.FnExactDeadMarkingsSaid := fnExactDeadMarkings.over
#print axioms fnExactDeadMarkings_holds
end Go.Proofs.Ytimfhkglmiihgaa
