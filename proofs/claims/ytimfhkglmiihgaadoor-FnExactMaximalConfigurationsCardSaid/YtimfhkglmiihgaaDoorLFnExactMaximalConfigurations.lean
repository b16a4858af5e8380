/-
  The law laws.FnExactMaximalConfigurations: for every input it returns true, and the input reads as it did, where the table math/bits.deBruijn64tab holds what the program lays: the statement Rows.FnExactMaximalConfigurationsCardSaid.
  The condition on the table is tied to the text by the given tie; the project is a pruned copy.
-/
import Derived.Test.YtimfhkglmiihgaaDoorRows
import Derived.Test.YtimfhkglmiihgaaDoorCards
import Derived.Test.YtimfhkglmiihgaaDoorTie
import Derived.Test.YtimfhkglmiihgaaDoorAmRow
import Derived.Test.YtimfhkglmiihgaaDoorFnCd
set_option linter.unusedVariables false
set_option linter.unusedSimpArgs false
set_option maxRecDepth 100000
set_option maxHeartbeats 1600000
namespace Go.AM
open Go.Proofs
theorem FnExactMaximalConfigurations_spec (s0 s1 s2 : Bool) (s : StrucV) (h_s : StructureIn s) : ACalls1 Tryd.prog 9 [strucSl s0 s1 s2 s] (bv true) := by
  refine walk (fun t => t == 1 || t == 1041 || t == 2048 || t == 2064) mixed Go.Proofs.Tryd.func9 rfl rfl rfl (by kernel_rfl) rfl (by simp) (by kernel_rfl) ?_
  simp
  refine ⟨_, szStructureL _ _ _ s _ h_s (by omega) (by omega), ?_⟩
  simp
  intro hs_s
  obtain ⟨k_s, z_s⟩ := szStructureL_le h_s (by omega) hs_s
  refine ⟨_, toStructureL _ _ _ s k_s, ?_⟩
  simp
  refine ⟨_, specMaximalConfigurations_spec _ _ _ s k_s, ?_⟩
  have fit := MaximalConfigurations_fits s k_s
  generalize hR : maximalConfigurationsV s = R at *
  simp
  refine ⟨_, toStructureL _ _ _ s k_s, ?_⟩
  simp
  refine ⟨_, MaximalConfigurations_spec _ _ _ s k_s, ?_⟩
  rw [hR]
  simp
  refine ⟨_, eqInt64SL _ _ R.1 fit, ?_⟩
  simp
  refine ⟨_, toStructureL _ _ _ s k_s, ?_⟩
  simp
  refine ⟨_, eqStructureL _ _ _ _ _ _ s k_s, ?_⟩
  simp
  first | refine ⟨⟨by kernel_rfl, by kernel_rfl⟩, ?_⟩ | exact ⟨by kernel_rfl, by kernel_rfl⟩
  refine ⟨_, _, markStructureL _ _ _ s _ k_s (by omega) (by omega), ?_⟩
  simp
  refine ⟨_, eqInt64SL _ _ R.1 fit, ?_⟩
  simp
  refine ⟨_, _, markInt64S_spec _ R.1 _ fit.1 (by omega) (by omega), ?_⟩
  simp
  refine ⟨_, heldInt64S_spec _ (R.1).length _ fit.1 (by omega) (by omega), ?_⟩
  simp
  refine ⟨_, toStructureL _ _ _ s k_s, ?_⟩
  simp
  refine ⟨_, MaximalConfigurations_spec _ _ _ s k_s, ?_⟩
  rw [hR]
  simp
  refine ⟨_, eqInt64SL _ _ R.1 fit, ?_⟩
  simp
  refine ⟨_, heldInt64S_spec _ (R.1).length _ fit.1 (by omega) (by omega), ?_⟩
  simp
namespace LawOf
theorem fnExactMaximalConfigurations (a : ((Bool × List Int) × (Bool × List Int) × (Bool × List Int) × Unit) × Unit) (h : ((a.1.1.2.length ≤ maxLen ∧ ∀ x1 ∈ a.1.1.2, (Lit.int .i64 x1).wf = true) ∧ (a.1.2.1.2.length ≤ maxLen ∧ ∀ x2 ∈ a.1.2.1.2, (Lit.int .i64 x2).wf = true) ∧ (a.1.2.2.1.2.length ≤ maxLen ∧ ∀ x3 ∈ a.1.2.2.1.2, (Lit.int .i64 x3).wf = true) ∧ True) ∧ True) :
    ACalls1 Go.Proofs.Tryd.prog 9 [AV.agg ([AV.sl 1 a.1.1.1 (a.1.1.2.flatMap fun y4 => [AV.val (.int .i64 y4)])] ++ ([AV.sl 1 a.1.2.1.1 (a.1.2.1.2.flatMap fun y5 => [AV.val (.int .i64 y5)])] ++ ([AV.sl 1 a.1.2.2.1.1 (a.1.2.2.1.2.flatMap fun y6 => [AV.val (.int .i64 y6)])] ++ [])))] (bv true) := by
  obtain ⟨⟨⟨s0, s_0⟩, ⟨s1, s_1⟩, ⟨s2, s_2⟩, _⟩, _⟩ := a
  simp only [flat_ints, flat_rows]
  exact FnExactMaximalConfigurations_spec s0 s1 s2 ⟨s_0, s_1, s_2⟩ ⟨h.1.1, h.1.2.1, h.1.2.2.1⟩
end LawOf
end Go.AM
namespace Go.Proofs.YtimfhkglmiihgaaDoor.fnExactMaximalConfigurations
open Go.ChangeShapes Go.WideShapes Go.ChangeAt Go.RowKit Go.AM
theorem own : ownKnob Tryd.prog.godebug = none := by kernel_rfl
theorem laidOut : laidOutB Tryd.prog = true := by kernel_rfl
theorem gN : Tryd.prog.globalNamed "math/bits.deBruijn64tab" = some 0 := by kernel_rfl
theorem gTy : (Tryd.prog.globals[0]?).map (·.type) = some 191 := by kernel_rfl
theorem gok (W : World) (h : laidMetH Tryd.prog [("math/bits.deBruijn64tab", Rows.laid_math_bits_deBruijn64tab)] W) : GOK Tryd.prog W (oldI W) := by
  rw [MakeChecks.laidMetH_plain _ _ _ (by kernel_rfl)] at h
  exact gok_tz gN (Lib.tabIs_of_head (rest := []) gN gTy Tryd.underlying191 Tryd.underlying5 (by kernel_rfl) (by kernel_rfl) h)
theorem door_met (os : Os) (args : Array Value) : laidMetH Tryd.prog [("math/bits.deBruijn64tab", Rows.laid_math_bits_deBruijn64tab)] ((World.doorLaid Tryd.prog 14 os).forCall (fun _ _ => 0) ⟨#[], args, []⟩).memory :=
  laidMetH_of_parts3 (fuel := 8) (laidMet_of_run' 8 (by kernel_rfl) (by kernel_rfl)) (by kernel_rfl) (by kernel_rfl)
theorem lifted (os : Os) (started : os.Started) (H : Type) (enc : TypeId × Value → H) :
    ReturnsInHanded {} Tryd.checked os 9 .any (fun w args => (Rows.fnExactMaximalConfigurationsSpec.pre enc Tryd.prog Tryd.f9 [] false w args ∧ laidMetH Tryd.prog [("math/bits.deBruijn64tab", Rows.laid_math_bits_deBruijn64tab)] w) ∧ sizedMet enc Tryd.prog Tryd.f9 (OpenSpec.ofChange Rows.fnExactMaximalConfigurationsSpec) false w args)
      (Rows.fnExactMaximalConfigurationsSpec.post enc Tryd.prog Tryd.f9 false true false false) := by
  have hopen := (show OpensL Tryd.prog [24] _ _ from (opensL_cons (opensA_struct Tryd.underlying24 (opens_struct Tryd.underlying24 (by kernel_rfl) (opensF_cons (n := 1) rfl (by kernel_rfl) (opens_slice (n := 1) Tryd.underlying22 (by kernel_rfl) (opens_int (k := .i64) Tryd.underlying2) (fun _ => rfl)) (opensF_cons (n := 1) rfl (by kernel_rfl) (opens_slice (n := 1) Tryd.underlying22 (by kernel_rfl) (opens_int (k := .i64) Tryd.underlying2) (fun _ => rfl)) (opensF_cons (n := 1) rfl (by kernel_rfl) (opens_slice (n := 1) Tryd.underlying22 (by kernel_rfl) (opens_int (k := .i64) Tryd.underlying2) (fun _ => rfl)) opensF_nil))))) opensL_nil))
  refine lift_laid (L := [("math/bits.deBruijn64tab", Rows.laid_math_bits_deBruijn64tab)]) (rt := 4) (C := Tryd.checked) (fn := Tryd.f9) hopen (fun a h => LawOf.fnExactMaximalConfigurations a h) gok ?_ own started Tryd.func9 rfl (by kernel_rfl) rfl Tryd.underlying4 laidOut (by kernel_rfl)
    (ChangeSpec.witness_shaped (enc := enc) (C := Tryd.checked) (os := os) (X := fun w _ => laidMetH Tryd.prog [("math/bits.deBruijn64tab", Rows.laid_math_bits_deBruijn64tab)] w) false (World.doorLaid Tryd.prog 14 os) #[(Value.agg #[(Value.slice none 0 0), (Value.slice none 0 0), (Value.slice none 0 0)])] 8 rfl (World.shaped_of_RefB (by kernel_rfl) (by kernel_rfl)) (by kernel_rfl) (by kernel_rfl) (by kernel_rfl) (door_met os _))
  intro H ds hds
  match ds, hds with
  | [d0], _ => exact ⟨rfl, rfl, rfl⟩
theorem over : Rows.fnExactMaximalConfigurationsRow.holds Tryd.pinned (OpenSpec.ofChange Rows.fnExactMaximalConfigurationsSpec) :=
  OpenClaim.holds_of_wide 9 Tryd.f9 rfl rfl rfl rfl rfl rfl rfl ⟨rfl, rfl, rfl, rfl, rfl⟩ rfl rfl rfl rfl rfl (by kernel_rfl) Tryd.func9 (by kernel_rfl)
    (of_decide_eq_true (by kernel_rfl)) (by unfold Func.isWrapper; first | (rw [if_pos (by decide +kernel)]; kernel_rfl) | (rw [if_neg (by decide +kernel)]; exact ⟨rfl, rfl⟩))
    (fun os started H enc _ => lifted os started H enc)
end Go.Proofs.YtimfhkglmiihgaaDoor.fnExactMaximalConfigurations
namespace Go.Proofs.YtimfhkglmiihgaaDoor
/-- The card. -/
theorem fnExactMaximalConfigurationsCard_holds : Rows.FnExactMaximalConfigurationsCardSaid :=
  Claim7.holds_tied_plain_at .later [] [.data] true (true, "ae8f3ee079bba0f46adf8c9914f86e792da0b45ef39f5f82ff9f3721d406fdaa") false fnExactMaximalConfigurations.over (fun _ h => by cases h) (by kernel_rfl) (fun _ h => by cases h) fnExactMaximalConfigurations_row_tie rfl ⟨rfl, rfl⟩ (by kernel_rfl) rfl
    (fun f fn hf hfn => by
      obtain rfl : f = 9 := Option.some.inj ((show Tryd.prog.funcNamed "loop.example/g01094/laws.FnExactMaximalConfigurations" = some 9 by kernel_rfl).symm.trans hf) |>.symm
      obtain rfl : fn = Tryd.f9 := (Option.some.inj (Tryd.func9.symm.trans hfn)).symm
      exact ⟨by kernel_rfl, fun j t ht => by
        rw [show Tryd.f9.params = #[24] by kernel_rfl] at ht
        have hm : t ∈ [24] := by simpa using Array.mem_of_getElem? ht
        have hall : ([24].all fun u => !Tryd.prog.wantsStandIn u) = true := by kernel_rfl
        exact (show Tryd.prog.wantsStandIn t = false by simpa using List.all_eq_true.1 hall t hm)⟩)
    (by kernel_rfl)
#print axioms fnExactMaximalConfigurationsCard_holds
end Go.Proofs.YtimfhkglmiihgaaDoor
