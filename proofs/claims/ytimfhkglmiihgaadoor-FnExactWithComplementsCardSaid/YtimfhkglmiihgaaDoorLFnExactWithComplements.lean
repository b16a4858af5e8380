/-
  The law laws.FnExactWithComplements: for every input it returns true, and the input reads as it did, where the table math/bits.deBruijn64tab holds what the program lays: the statement Rows.FnExactWithComplementsCardSaid.
  The condition on the table is tied to the text by the given tie; the project is a pruned copy.
-/
import Derived.Test.YtimfhkglmiihgaaDoorRows
import Derived.Test.YtimfhkglmiihgaaDoorCards
import Derived.Test.YtimfhkglmiihgaaDoorTie
import Derived.Test.YtimfhkglmiihgaaDoorAmRow
import Derived.Test.YtimfhkglmiihgaaDoorFnWc
set_option linter.unusedVariables false
set_option linter.unusedSimpArgs false
set_option maxRecDepth 100000
set_option maxHeartbeats 1600000
namespace Go.AM
open Go.Proofs
theorem FnExactWithComplements_spec (n0 n1 : Bool) (n : NetV) (h_n : NetIn n) : ACalls1 Tryd.prog 10 [netSl n0 n1 n] (bv true) := by
  refine walk (fun t => t == 1 || t == 1041 || t == 2048 || t == 2064) mixed Go.Proofs.Tryd.func10 rfl rfl rfl (by kernel_rfl) rfl (by simp) (by kernel_rfl) ?_
  simp
  refine ⟨_, szNetL _ _ n _ h_n (by omega) (by omega), ?_⟩
  simp
  intro hs_n
  obtain ⟨k_n, z_n⟩ := szNetL_le h_n (by omega) hs_n
  refine ⟨_, toNetL _ _ n k_n, ?_⟩
  simp
  refine ⟨_, specWithComplements_spec _ _ n k_n, ?_⟩
  have fit := WithComplements_fits n k_n
  generalize hR : withComplementsV n = R at *
  simp
  refine ⟨_, toNetL _ _ n k_n, ?_⟩
  simp
  refine ⟨_, WithComplements_spec _ _ n k_n, ?_⟩
  rw [hR]
  simp
  refine ⟨_, eqNetL _ _ _ _ R.1 fit, ?_⟩
  simp
  refine ⟨_, toNetL _ _ n k_n, ?_⟩
  simp
  refine ⟨_, eqNetL _ _ _ _ n k_n, ?_⟩
  simp
  first | refine ⟨⟨by kernel_rfl, by kernel_rfl⟩, ?_⟩ | exact ⟨by kernel_rfl, by kernel_rfl⟩
  refine ⟨_, _, markNetL _ _ n _ k_n (by omega) (by omega), ?_⟩
  simp
  refine ⟨_, eqNetL _ _ _ _ R.1 fit, ?_⟩
  simp
  refine ⟨_, _, markNetL _ _ R.1 _ fit (by omega) (by omega), ?_⟩
  simp
  refine ⟨_, heldNetL _ _ R.1 _ fit (by omega) (by omega), ?_⟩
  simp
  refine ⟨_, toNetL _ _ n k_n, ?_⟩
  simp
  refine ⟨_, WithComplements_spec _ _ n k_n, ?_⟩
  rw [hR]
  simp
  refine ⟨_, eqNetL _ _ _ _ R.1 fit, ?_⟩
  simp
  refine ⟨_, heldNetL _ _ R.1 _ fit (by omega) (by omega), ?_⟩
  simp
namespace LawOf
theorem fnExactWithComplements (a : (Int × (Bool × List Int) × (Bool × List Int) × Int × Unit) × Unit) (h : ((Lit.int .i64 a.1.1).wf = true ∧ (a.1.2.1.2.length ≤ maxLen ∧ ∀ x1 ∈ a.1.2.1.2, (Lit.int .i64 x1).wf = true) ∧ (a.1.2.2.1.2.length ≤ maxLen ∧ ∀ x2 ∈ a.1.2.2.1.2, (Lit.int .i64 x2).wf = true) ∧ (Lit.int .i64 a.1.2.2.2.1).wf = true ∧ True) ∧ True) :
    ACalls1 Go.Proofs.Tryd.prog 10 [AV.agg ([AV.val (.int .i64 a.1.1)] ++ ([AV.sl 1 a.1.2.1.1 (a.1.2.1.2.flatMap fun y3 => [AV.val (.int .i64 y3)])] ++ ([AV.sl 1 a.1.2.2.1.1 (a.1.2.2.1.2.flatMap fun y4 => [AV.val (.int .i64 y4)])] ++ ([AV.val (.int .i64 a.1.2.2.2.1)] ++ []))))] (bv true) := by
  obtain ⟨⟨n_0, ⟨n0, n_1⟩, ⟨n1, n_2⟩, n_3, _⟩, _⟩ := a
  simp only [flat_ints, flat_rows]
  exact FnExactWithComplements_spec n0 n1 ⟨n_0, n_1, n_2, n_3⟩ ⟨i64_of_wf h.1.1, h.1.2.1, h.1.2.2.1, i64_of_wf h.1.2.2.2.1⟩
end LawOf
end Go.AM
namespace Go.Proofs.YtimfhkglmiihgaaDoor.fnExactWithComplements
open Go.ChangeShapes Go.WideShapes Go.ChangeAt Go.RowKit Go.AM
theorem own : ownKnob Tryd.prog.godebug = none := by kernel_rfl
theorem laidOut : laidOutB Tryd.prog = true := by kernel_rfl
theorem gN : Tryd.prog.globalNamed "math/bits.deBruijn64tab" = some 0 := by kernel_rfl
theorem gTy : (Tryd.prog.globals[0]?).map (·.type) = some 191 := by kernel_rfl
theorem gok (W : World) (h : laidMetH Tryd.prog [("math/bits.deBruijn64tab", Rows.laid_math_bits_deBruijn64tab)] W) : GOK Tryd.prog W (oldI W) := by
  rw [MakeChecks.laidMetH_plain _ _ _ (by kernel_rfl)] at h
  exact gok_tz gN (Lib.tabIs_of_head (rest := []) gN gTy Tryd.underlying191 Tryd.underlying5 (by kernel_rfl) (by kernel_rfl) h)
theorem door_met (os : Os) (args : Array Value) : laidMetH Tryd.prog [("math/bits.deBruijn64tab", Rows.laid_math_bits_deBruijn64tab)] ((World.doorLaid Tryd.prog 14 os).forCall (fun _ _ => 0) ⟨#[], args, []⟩).memory :=
  laidMetH_of_parts3 (fuel := 8) (laidMet_of_run' 8 (by kernel_rfl) (by kernel_rfl)) (by kernel_rfl) (by kernel_rfl)
theorem lifted (os : Os) (started : os.Started) (H : Type) (enc : TypeId × Value → H) :
    ReturnsInHanded {} Tryd.checked os 10 .any (fun w args => (Rows.fnExactWithComplementsSpec.pre enc Tryd.prog Tryd.f10 [] false w args ∧ laidMetH Tryd.prog [("math/bits.deBruijn64tab", Rows.laid_math_bits_deBruijn64tab)] w) ∧ sizedMet enc Tryd.prog Tryd.f10 (OpenSpec.ofChange Rows.fnExactWithComplementsSpec) false w args)
      (Rows.fnExactWithComplementsSpec.post enc Tryd.prog Tryd.f10 false true false false) := by
  have hopen := (show OpensL Tryd.prog [74] _ _ from (opensL_cons (opensA_struct Tryd.underlying74 (opens_struct Tryd.underlying74 (by kernel_rfl) (opensF_cons (n := 1) rfl (by kernel_rfl) (opens_int (k := .i64) Tryd.underlying2) (opensF_cons (n := 1) rfl (by kernel_rfl) (opens_slice (n := 1) Tryd.underlying22 (by kernel_rfl) (opens_int (k := .i64) Tryd.underlying2) (fun _ => rfl)) (opensF_cons (n := 1) rfl (by kernel_rfl) (opens_slice (n := 1) Tryd.underlying22 (by kernel_rfl) (opens_int (k := .i64) Tryd.underlying2) (fun _ => rfl)) (opensF_cons (n := 1) rfl (by kernel_rfl) (opens_int (k := .i64) Tryd.underlying2) opensF_nil)))))) opensL_nil))
  refine lift_laid (L := [("math/bits.deBruijn64tab", Rows.laid_math_bits_deBruijn64tab)]) (rt := 4) (C := Tryd.checked) (fn := Tryd.f10) hopen (fun a h => LawOf.fnExactWithComplements a h) gok ?_ own started Tryd.func10 rfl (by kernel_rfl) rfl Tryd.underlying4 laidOut (by kernel_rfl)
    (ChangeSpec.witness_shaped (enc := enc) (C := Tryd.checked) (os := os) (X := fun w _ => laidMetH Tryd.prog [("math/bits.deBruijn64tab", Rows.laid_math_bits_deBruijn64tab)] w) false (World.doorLaid Tryd.prog 14 os) #[(Value.agg #[(Value.int .i64 0), (Value.slice none 0 0), (Value.slice none 0 0), (Value.int .i64 0)])] 8 rfl (World.shaped_of_RefB (by kernel_rfl) (by kernel_rfl)) (by kernel_rfl) (by kernel_rfl) (by kernel_rfl) (door_met os _))
  intro H ds hds
  match ds, hds with
  | [d0], _ => exact ⟨rfl, rfl, rfl⟩
theorem over : Rows.fnExactWithComplementsRow.holds Tryd.pinned (OpenSpec.ofChange Rows.fnExactWithComplementsSpec) :=
  OpenClaim.holds_of_wide 10 Tryd.f10 rfl rfl rfl rfl rfl rfl rfl ⟨rfl, rfl, rfl, rfl, rfl⟩ rfl rfl rfl rfl rfl (by kernel_rfl) Tryd.func10 (by kernel_rfl)
    (of_decide_eq_true (by kernel_rfl)) (by unfold Func.isWrapper; first | (rw [if_pos (by decide +kernel)]; kernel_rfl) | (rw [if_neg (by decide +kernel)]; exact ⟨rfl, rfl⟩))
    (fun os started H enc _ => lifted os started H enc)
end Go.Proofs.YtimfhkglmiihgaaDoor.fnExactWithComplements
namespace Go.Proofs.YtimfhkglmiihgaaDoor
/-- The card. -/
theorem fnExactWithComplementsCard_holds : Rows.FnExactWithComplementsCardSaid :=
  Claim7.holds_tied_plain_at .later [] [.data] true (true, "ae8f3ee079bba0f46adf8c9914f86e792da0b45ef39f5f82ff9f3721d406fdaa") false fnExactWithComplements.over (fun _ h => by cases h) (by kernel_rfl) (fun _ h => by cases h) fnExactWithComplements_row_tie rfl ⟨rfl, rfl⟩ (by kernel_rfl) rfl
    (fun f fn hf hfn => by
      obtain rfl : f = 10 := Option.some.inj ((show Tryd.prog.funcNamed "loop.example/g01094/laws.FnExactWithComplements" = some 10 by kernel_rfl).symm.trans hf) |>.symm
      obtain rfl : fn = Tryd.f10 := (Option.some.inj (Tryd.func10.symm.trans hfn)).symm
      exact ⟨by kernel_rfl, fun j t ht => by
        rw [show Tryd.f10.params = #[74] by kernel_rfl] at ht
        have hm : t ∈ [74] := by simpa using Array.mem_of_getElem? ht
        have hall : ([74].all fun u => !Tryd.prog.wantsStandIn u) = true := by kernel_rfl
        exact (show Tryd.prog.wantsStandIn t = false by simpa using List.all_eq_true.1 hall t hm)⟩)
    (by kernel_rfl)
#print axioms fnExactWithComplementsCard_holds
end Go.Proofs.YtimfhkglmiihgaaDoor
