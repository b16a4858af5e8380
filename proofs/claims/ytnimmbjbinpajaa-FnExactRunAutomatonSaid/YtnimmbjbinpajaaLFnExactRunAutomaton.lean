/-
  The law laws.FnExactRunAutomaton: for every input it returns true, and the input reads as it did: the statement Rows.FnExactRunAutomatonSaid, without any condition.
-/
import Derived.Test.YtnimmbjbinpajaaRows
import Derived.Test.YtnimmbjbinpajaaAmRow
import Derived.Test.YtnimmbjbinpajaaFnNo
set_option linter.unusedVariables false
set_option linter.unusedSimpArgs false
set_option maxRecDepth 100000
set_option maxHeartbeats 1600000
namespace Go.AM
open Go.Proofs
theorem FnExactRunAutomaton_spec (n0 n1 : Bool) (n : NetV) (h_n : NetIn n) : ACalls1 Try.prog 4 [netSl n0 n1 n] (bv true) := by
  refine walk (fun t => t == 1 || t == 1041 || t == 2048 || t == 2064) mixed Go.Proofs.Try.func4 rfl rfl rfl (by kernel_rfl) rfl (by simp) (by kernel_rfl) ?_
  simp
  refine ⟨_, szNetL _ _ n _ h_n (by omega) (by omega), ?_⟩
  simp
  intro hs_n
  obtain ⟨k_n, z_n⟩ := szNetL_le h_n (by omega) hs_n
  refine ⟨_, toNetL _ _ n k_n, ?_⟩
  simp
  refine ⟨_, specRunAutomaton_spec _ _ n k_n, ?_⟩
  have fit := RunAutomaton_fits n k_n
  generalize hR : runAutV n = R at *
  simp
  refine ⟨_, toNetL _ _ n k_n, ?_⟩
  simp
  refine ⟨_, RunAutomaton_spec _ _ n k_n, ?_⟩
  rw [hR]
  simp
  refine ⟨_, eqAutomatonL _ _ _ _ R.1 fit, ?_⟩
  simp
  refine ⟨_, toNetL _ _ n k_n, ?_⟩
  simp
  refine ⟨_, eqNetL _ _ _ _ n k_n, ?_⟩
  simp
  first | refine ⟨⟨by kernel_rfl, by kernel_rfl⟩, ?_⟩ | exact ⟨by kernel_rfl, by kernel_rfl⟩
  refine ⟨_, _, markNetL _ _ n _ k_n (by omega) (by omega), ?_⟩
  simp
  refine ⟨_, eqAutomatonL _ _ _ _ R.1 fit, ?_⟩
  simp
  refine ⟨_, _, markAutomatonL _ _ R.1 _ fit (by omega) (by omega), ?_⟩
  simp
  refine ⟨_, heldAutomatonL _ _ R.1 _ fit (by omega) (by omega), ?_⟩
  simp
  refine ⟨_, toNetL _ _ n k_n, ?_⟩
  simp
  refine ⟨_, RunAutomaton_spec _ _ n k_n, ?_⟩
  rw [hR]
  simp
  refine ⟨_, eqAutomatonL _ _ _ _ R.1 fit, ?_⟩
  simp
  refine ⟨_, heldAutomatonL _ _ R.1 _ fit (by omega) (by omega), ?_⟩
  simp
namespace LawOf
theorem fnExactRunAutomaton (a : (Int × (Bool × List Int) × (Bool × List Int) × Int × Unit) × Unit) (h : ((Lit.int .i64 a.1.1).wf = true ∧ (a.1.2.1.2.length ≤ maxLen ∧ ∀ x1 ∈ a.1.2.1.2, (Lit.int .i64 x1).wf = true) ∧ (a.1.2.2.1.2.length ≤ maxLen ∧ ∀ x2 ∈ a.1.2.2.1.2, (Lit.int .i64 x2).wf = true) ∧ (Lit.int .i64 a.1.2.2.2.1).wf = true ∧ True) ∧ True) :
    ACalls1 Go.Proofs.Try.prog 4 [AV.agg ([AV.val (.int .i64 a.1.1)] ++ ([AV.sl 1 a.1.2.1.1 (a.1.2.1.2.flatMap fun y3 => [AV.val (.int .i64 y3)])] ++ ([AV.sl 1 a.1.2.2.1.1 (a.1.2.2.1.2.flatMap fun y4 => [AV.val (.int .i64 y4)])] ++ ([AV.val (.int .i64 a.1.2.2.2.1)] ++ []))))] (bv true) := by
  obtain ⟨⟨n_0, ⟨n0, n_1⟩, ⟨n1, n_2⟩, n_3, _⟩, _⟩ := a
  simp only [flat_ints, flat_rows]
  exact FnExactRunAutomaton_spec n0 n1 ⟨n_0, n_1, n_2, n_3⟩ ⟨i64_of_wf h.1.1, h.1.2.1, h.1.2.2.1, i64_of_wf h.1.2.2.2.1⟩
end LawOf
end Go.AM
namespace Go.Proofs.Ytnimmbjbinpajaa.fnExactRunAutomaton
open Go.ChangeShapes Go.WideShapes Go.ChangeAt Go.RowKit Go.AM

theorem own : ownKnob Try.prog.godebug = none := by kernel_rfl
theorem laidOut : laidOutB Try.prog = true := by kernel_rfl

set_option maxRecDepth 100000 in
theorem lifted (os : Os) (started : os.Started) (H : Type) (enc : TypeId × Value → H) :
    ReturnsInHanded {} Try.checked os 4 .any (Rows.fnExactRunAutomatonSpec.pre6 enc Try.prog Try.f4 Rows.fnExactRunAutomatonRow.domain false) (Rows.fnExactRunAutomatonSpec.post enc Try.prog Try.f4 false true false false) := by
  have hopen := (show OpensL Try.prog [24] _ _ from (opensL_cons (opensA_struct Try.underlying24 (opens_struct Try.underlying24 (by kernel_rfl) (opensF_cons (n := 1) rfl (by kernel_rfl) (opens_int (k := .i64) Try.underlying2) (opensF_cons (n := 1) rfl (by kernel_rfl) (opens_slice (n := 1) Try.underlying22 (by kernel_rfl) (opens_int (k := .i64) Try.underlying2) (fun _ => rfl)) (opensF_cons (n := 1) rfl (by kernel_rfl) (opens_slice (n := 1) Try.underlying22 (by kernel_rfl) (opens_int (k := .i64) Try.underlying2) (fun _ => rfl)) (opensF_cons (n := 1) rfl (by kernel_rfl) (opens_int (k := .i64) Try.underlying2) opensF_nil)))))) opensL_nil))
  refine lift_of (rt := 4) (C := Try.checked) (fn := Try.f4) hopen (fun a h => LawOf.fnExactRunAutomaton a h) (by kernel_rfl) ?_ own started Try.func4 rfl (by kernel_rfl) rfl Try.underlying4 laidOut (by kernel_rfl)
    (ChangeSpec.witness6 (enc := enc) (C := Try.checked) false ⟨#[], #[(Value.agg #[(Value.int .i64 0), (Value.slice none 0 0), (Value.slice none 0 0), (Value.int .i64 0)])], []⟩ 8 (by kernel_rfl) (by kernel_rfl) (by kernel_rfl) (by kernel_rfl))
  intro H ds hds
  match ds, hds with
  | [d0], _ => exact ⟨rfl, rfl, rfl⟩
theorem over : Rows.fnExactRunAutomatonRow.holds Try.pinned (OpenSpec.ofChange Rows.fnExactRunAutomatonSpec) :=
  OpenClaim.holds_of_wide 4 Try.f4 rfl rfl rfl rfl rfl rfl rfl ⟨rfl, rfl, rfl, rfl, rfl⟩ rfl rfl rfl rfl rfl (by kernel_rfl) Try.func4 (by kernel_rfl)
    (of_decide_eq_true (by kernel_rfl)) (by unfold Func.isWrapper; first | (rw [if_pos (by decide +kernel)]; kernel_rfl) | (rw [if_neg (by decide +kernel)]; exact ⟨rfl, rfl⟩))
    (fun os started H enc _ => lifted os started H enc)
end Go.Proofs.Ytnimmbjbinpajaa.fnExactRunAutomaton
namespace Go.Proofs.Ytnimmbjbinpajaa
/-- The row. -/
theorem fnExactRunAutomaton_holds : Rows.FnExactRunAutomatonSaid := fnExactRunAutomaton.over
#print axioms fnExactRunAutomaton_holds
end Go.Proofs.Ytnimmbjbinpajaa
