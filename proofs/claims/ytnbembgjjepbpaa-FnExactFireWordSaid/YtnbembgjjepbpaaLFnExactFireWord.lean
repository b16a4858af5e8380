/-
  The law laws.FnExactFireWord: for every input it returns true, and the input reads as it did: the statement Rows.FnExactFireWordSaid, without any condition.
-/
import Derived.Test.YtnbembgjjepbpaaRows
import Derived.Test.YtnbembgjjepbpaaAmRow
import Derived.Test.YtnbembgjjepbpaaFnG
set_option linter.unusedVariables false
set_option linter.unusedSimpArgs false
set_option maxRecDepth 100000
set_option maxHeartbeats 1600000
namespace Go.AM
open Go.Proofs
theorem FnExactFireWord_spec (n0 n1 : Bool) (n : NetV) (h_n : NetIn n) (marking : Int) (h_marking : I64 marking) (wb : Bool) (w : List Int) (h_w : Int64SIn w) : ACalls1 Try.prog 8 [netSl n0 n1 n, iv marking, .sl 1 wb (ints w)] (bv true) := by
  refine walk (fun t => t == 3 || t == 1050) mixed Go.Proofs.Try.func8 rfl rfl rfl (by kernel_rfl) rfl (by simp) (by kernel_rfl) ?_
  simp
  intro hs_w
  have k_w : ListOk w := listOk_of h_w (by omega)
  refine ⟨_, szNetL _ _ n _ h_n (by omega) (by omega), ?_⟩
  simp
  intro hs_n
  obtain ⟨k_n, z_n⟩ := szNetL_le h_n (by omega) hs_n
  refine ⟨_, toNetL _ _ n k_n, ?_⟩
  simp
  refine ⟨_, toInt64SL _ w k_w, ?_⟩
  simp
  refine ⟨_, specFireWord_spec _ _ n k_n marking h_marking _ w k_w, ?_⟩
  generalize hR : fireWordV n marking w = R at *
  simp
  refine ⟨_, toNetL _ _ n k_n, ?_⟩
  simp
  refine ⟨_, toInt64SL _ w k_w, ?_⟩
  simp
  refine ⟨_, FireWord_spec _ _ n k_n marking h_marking _ w k_w, ?_⟩
  rw [hR]
  simp
  refine ⟨_, toNetL _ _ n k_n, ?_⟩
  simp
  refine ⟨_, eqNetL _ _ _ _ n k_n, ?_⟩
  simp
  first | refine ⟨⟨by kernel_rfl, by kernel_rfl⟩, ?_⟩ | exact ⟨by kernel_rfl, by kernel_rfl⟩
  refine ⟨_, toInt64SL _ w k_w, ?_⟩
  simp
  refine ⟨_, eqInt64SL _ _ w k_w, ?_⟩
  simp
namespace LawOf
theorem fnExactFireWord (a : (Int × (Bool × List Int) × (Bool × List Int) × Int × Unit) × Int × (Bool × List Int) × Unit) (h : ((Lit.int .i64 a.1.1).wf = true ∧ (a.1.2.1.2.length ≤ maxLen ∧ ∀ x1 ∈ a.1.2.1.2, (Lit.int .i64 x1).wf = true) ∧ (a.1.2.2.1.2.length ≤ maxLen ∧ ∀ x2 ∈ a.1.2.2.1.2, (Lit.int .i64 x2).wf = true) ∧ (Lit.int .i64 a.1.2.2.2.1).wf = true ∧ True) ∧ (Lit.int .i64 a.2.1).wf = true ∧ (a.2.2.1.2.length ≤ maxLen ∧ ∀ x5 ∈ a.2.2.1.2, (Lit.int .i64 x5).wf = true) ∧ True) :
    ACalls1 Go.Proofs.Try.prog 8 [AV.agg ([AV.val (.int .i64 a.1.1)] ++ ([AV.sl 1 a.1.2.1.1 (a.1.2.1.2.flatMap fun y3 => [AV.val (.int .i64 y3)])] ++ ([AV.sl 1 a.1.2.2.1.1 (a.1.2.2.1.2.flatMap fun y4 => [AV.val (.int .i64 y4)])] ++ ([AV.val (.int .i64 a.1.2.2.2.1)] ++ [])))), AV.val (.int .i64 a.2.1), AV.sl 1 a.2.2.1.1 (a.2.2.1.2.flatMap fun y6 => [AV.val (.int .i64 y6)])] (bv true) := by
  obtain ⟨⟨n_0, ⟨n0, n_1⟩, ⟨n1, n_2⟩, n_3, _⟩, marking, ⟨wb, w⟩, _⟩ := a
  simp only [flat_ints, flat_rows]
  exact FnExactFireWord_spec n0 n1 ⟨n_0, n_1, n_2, n_3⟩ ⟨i64_of_wf h.1.1, h.1.2.1, h.1.2.2.1, i64_of_wf h.1.2.2.2.1⟩ marking (i64_of_wf h.2.1) wb w h.2.2.1
end LawOf
end Go.AM
namespace Go.Proofs.Ytnbembgjjepbpaa.fnExactFireWord
open Go.ChangeShapes Go.WideShapes Go.ChangeAt Go.RowKit Go.AM

theorem own : ownKnob Try.prog.godebug = none := by kernel_rfl
theorem laidOut : laidOutB Try.prog = true := by kernel_rfl

set_option maxRecDepth 100000 in
theorem lifted (os : Os) (started : os.Started) (H : Type) (enc : TypeId × Value → H) :
    ReturnsInHanded {} Try.checked os 8 .any (Rows.fnExactFireWordSpec.pre6 enc Try.prog Try.f8 Rows.fnExactFireWordRow.domain false) (Rows.fnExactFireWordSpec.post enc Try.prog Try.f8 false true false false) := by
  have hopen := (show OpensL Try.prog [27, 2, 22] _ _ from (opensL_cons (opensA_struct Try.underlying27 (opens_struct Try.underlying27 (by kernel_rfl) (opensF_cons (n := 1) rfl (by kernel_rfl) (opens_int (k := .i64) Try.underlying2) (opensF_cons (n := 1) rfl (by kernel_rfl) (opens_slice (n := 1) Try.underlying22 (by kernel_rfl) (opens_int (k := .i64) Try.underlying2) (fun _ => rfl)) (opensF_cons (n := 1) rfl (by kernel_rfl) (opens_slice (n := 1) Try.underlying22 (by kernel_rfl) (opens_int (k := .i64) Try.underlying2) (fun _ => rfl)) (opensF_cons (n := 1) rfl (by kernel_rfl) (opens_int (k := .i64) Try.underlying2) opensF_nil)))))) (opensL_cons (opensA_int (k := .i64) Try.underlying2) (opensL_cons (opensA_slice Try.underlying22 (opens_slice (n := 1) Try.underlying22 (by kernel_rfl) (opens_int (k := .i64) Try.underlying2) (fun _ => rfl))) opensL_nil))))
  refine lift_of (rt := 4) (C := Try.checked) (fn := Try.f8) hopen (fun a h => LawOf.fnExactFireWord a h) ?_ own started Try.func8 rfl (by kernel_rfl) rfl Try.underlying4 laidOut (by kernel_rfl)
    (ChangeSpec.witness6 (enc := enc) (C := Try.checked) false ⟨#[], #[(Value.agg #[(Value.int .i64 0), (Value.slice none 0 0), (Value.slice none 0 0), (Value.int .i64 0)]), (Value.int .i64 0), (Value.slice none 0 0)], []⟩ 8 (by kernel_rfl) (by kernel_rfl) (by kernel_rfl) (by kernel_rfl))
  intro H ds hds
  match ds, hds with
  | [d0, d1, d2], _ => exact ⟨rfl, rfl, rfl⟩
theorem over : Rows.fnExactFireWordRow.holds Try.pinned (OpenSpec.ofChange Rows.fnExactFireWordSpec) :=
  OpenClaim.holds_of_wide 8 Try.f8 rfl rfl rfl rfl rfl rfl rfl ⟨rfl, rfl, rfl, rfl, rfl⟩ rfl rfl rfl rfl rfl (by kernel_rfl) Try.func8 (by kernel_rfl)
    (of_decide_eq_true (by kernel_rfl)) (by unfold Func.isWrapper; first | (rw [if_pos (by decide +kernel)]; kernel_rfl) | (rw [if_neg (by decide +kernel)]; exact ⟨rfl, rfl⟩))
    (fun os started H enc _ => lifted os started H enc)
end Go.Proofs.Ytnbembgjjepbpaa.fnExactFireWord
namespace Go.Proofs.Ytnbembgjjepbpaa
/-- The row. -/
theorem fnExactFireWord_holds : Rows.FnExactFireWordSaid := fnExactFireWord.over
#print axioms fnExactFireWord_holds
end Go.Proofs.Ytnbembgjjepbpaa
