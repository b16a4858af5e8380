/-
  The law laws.FnExactGlobalStates: for every input it returns true, and the input reads as it did, where the table math/bits.deBruijn64tab holds what the program lays: the statement Rows.FnExactGlobalStatesCardSaid.
  The condition on the table is tied to the text by the given tie; the project is a pruned copy.
-/
import Derived.Test.YtmpdpjpebekfkaaDoorRows
import Derived.Test.YtmpdpjpebekfkaaDoorCards
import Derived.Test.YtmpdpjpebekfkaaDoorTie
import Derived.Test.YtmpdpjpebekfkaaDoorAmRow
import Derived.Test.YtmpdpjpebekfkaaDoorFnBf
import Derived.Test.YtmpdpjpebekfkaaDoorFnGsc
import Derived.Test.YtmpdpjpebekfkaaDoorFnR
set_option linter.unusedVariables false
set_option linter.unusedSimpArgs false
set_option maxRecDepth 100000
set_option maxHeartbeats 1600000
namespace Go.AM
open Go.Proofs
theorem FnExactGlobalStates_spec (z0 z1 z2 z3 z4 : Bool) (z : AsyI) (h_z : AsynchronousIn z) : ACalls1 Tryd.prog 7 [asyIn z0 z1 z2 z3 z4 z] (bv true) := by
  refine walk (fun t => t == 1 || t == 1041 || t == 2048 || t == 2064 || t == 3021) mixed Go.Proofs.Tryd.func7 rfl rfl rfl (by kernel_rfl) rfl (by simp) (by kernel_rfl) ?_
  simp
  refine ⟨_, szAsynchronousL _ _ _ _ _ z _ h_z (by omega) (by omega), ?_⟩
  simp
  intro hs_z
  obtain ⟨k_z, z_z⟩ := szAsynchronousL_le h_z (by omega) hs_z
  obtain ⟨t0_z, t1_z, t2_z⟩ := asy_tot k_z
  refine ⟨_, toAsynchronousL _ _ _ _ _ z k_z, ?_⟩
  simp
  refine ⟨_, specGlobalStates_spec z.v k_z.2.2.1, ?_⟩
  have fit := GlobalStates_fits z.v k_z.2.2.1
  generalize hR : globalStatesV z.v = R at *
  simp
  refine ⟨_, toAsynchronousL _ _ _ _ _ z k_z, ?_⟩
  simp
  refine ⟨_, GlobalStates_spec z.v k_z.2.2.1, ?_⟩
  rw [hR]
  simp
  refine ⟨_, eqInt64SSL _ _ _ _ R.1 fit, ?_⟩
  simp
  refine ⟨_, toAsynchronousL _ _ _ _ _ z k_z, ?_⟩
  simp
  refine ⟨_, eqAsynchronousL  z.v k_z.2.2.1, ?_⟩
  simp
  first | refine ⟨⟨by kernel_rfl, by kernel_rfl⟩, ?_⟩ | exact ⟨by kernel_rfl, by kernel_rfl⟩
  refine ⟨_, _, markAsynchronousL  z _ k_z (by omega) (by omega), ?_⟩
  have hpos : 0 ≤ 1 + (z.places.length : Int) + z.sizes.length + z.start.length + totK z.v.joints + total z.v.final := by omega
  simp [hpos]
  refine ⟨_, eqInt64SSL _ _ _ _ R.1 fit, ?_⟩
  simp
  refine ⟨_, _, markInt64SSL _ _ R.1 _ fit (by omega) (by omega), ?_⟩
  simp
  refine ⟨_, heldInt64SSL _ _ R.1 _ fit (by omega) (by omega), ?_⟩
  simp
  refine ⟨_, toAsynchronousL _ _ _ _ _ z k_z, ?_⟩
  simp
  refine ⟨_, GlobalStates_spec z.v k_z.2.2.1, ?_⟩
  rw [hR]
  simp
  refine ⟨_, eqInt64SSL _ _ _ _ R.1 fit, ?_⟩
  simp
  refine ⟨_, heldInt64SSL _ _ R.1 _ fit (by omega) (by omega), ?_⟩
  simp
namespace LawOf
theorem fnExactGlobalStates (a : ((Bool × List Int) × (Bool × List Int) × (Bool × List Int) × (Bool × List (Int × (Bool × List Int) × (Bool × List Int) × Unit)) × (Bool × List (Bool × List Int)) × Unit) × Unit) (h : ((a.1.1.2.length ≤ maxLen ∧ ∀ x1 ∈ a.1.1.2, (Lit.int .i64 x1).wf = true) ∧ (a.1.2.1.2.length ≤ maxLen ∧ ∀ x2 ∈ a.1.2.1.2, (Lit.int .i64 x2).wf = true) ∧ (a.1.2.2.1.2.length ≤ maxLen ∧ ∀ x3 ∈ a.1.2.2.1.2, (Lit.int .i64 x3).wf = true) ∧ (a.1.2.2.2.1.2.length ≤ maxLen ∧ ∀ x4 ∈ a.1.2.2.2.1.2, ((Lit.int .i64 x4.1).wf = true ∧ (x4.2.1.2.length ≤ maxLen ∧ ∀ x5 ∈ x4.2.1.2, (Lit.int .i64 x5).wf = true) ∧ (x4.2.2.1.2.length ≤ maxLen ∧ ∀ x6 ∈ x4.2.2.1.2, (Lit.int .i64 x6).wf = true) ∧ True)) ∧ (a.1.2.2.2.2.1.2.length ≤ maxLen ∧ ∀ x7 ∈ a.1.2.2.2.2.1.2, (x7.2.length ≤ maxLen ∧ ∀ x8 ∈ x7.2, (Lit.int .i64 x8).wf = true)) ∧ True) ∧ True) :
    ACalls1 Go.Proofs.Tryd.prog 7 [AV.agg ([AV.sl 1 a.1.1.1 (a.1.1.2.flatMap fun y9 => [AV.val (.int .i64 y9)])] ++ ([AV.sl 1 a.1.2.1.1 (a.1.2.1.2.flatMap fun y10 => [AV.val (.int .i64 y10)])] ++ ([AV.sl 1 a.1.2.2.1.1 (a.1.2.2.1.2.flatMap fun y11 => [AV.val (.int .i64 y11)])] ++ ([AV.sl 3 a.1.2.2.2.1.1 (a.1.2.2.2.1.2.flatMap fun y12 => ([AV.val (.int .i64 y12.1)] ++ ([AV.sl 1 y12.2.1.1 (y12.2.1.2.flatMap fun y13 => [AV.val (.int .i64 y13)])] ++ ([AV.sl 1 y12.2.2.1.1 (y12.2.2.1.2.flatMap fun y14 => [AV.val (.int .i64 y14)])] ++ []))))] ++ ([AV.sl 1 a.1.2.2.2.2.1.1 (a.1.2.2.2.2.1.2.flatMap fun y15 => [AV.sl 1 y15.1 (y15.2.flatMap fun y16 => [AV.val (.int .i64 y16)])])] ++ [])))))] (bv true) := by
  obtain ⟨⟨⟨z0, z_0⟩, ⟨z1, z_1⟩, ⟨z2, z_2⟩, ⟨z3, z_3⟩, ⟨z4, z_4⟩, _⟩, _⟩ := a
  simp only [flat_ints, flat_rows]
  exact FnExactGlobalStates_spec z0 z1 z2 z3 z4 ⟨z_0, z_1, z_2, z_3, z_4⟩ ⟨h.1.1, h.1.2.1, h.1.2.2.1, (jointsIn_of h.1.2.2.2.1), h.1.2.2.2.2.1⟩
end LawOf
end Go.AM
namespace Go.Proofs.YtmpdpjpebekfkaaDoor.fnExactGlobalStates
open Go.ChangeShapes Go.WideShapes Go.ChangeAt Go.RowKit Go.AM
theorem own : ownKnob Tryd.prog.godebug = none := by kernel_rfl
theorem laidOut : laidOutB Tryd.prog = true := by kernel_rfl
theorem gN : Tryd.prog.globalNamed "math/bits.deBruijn64tab" = some 0 := by kernel_rfl
theorem gTy : (Tryd.prog.globals[0]?).map (·.type) = some 202 := by kernel_rfl
theorem gok (W : World) (h : laidMetH Tryd.prog [("math/bits.deBruijn64tab", Rows.laid_math_bits_deBruijn64tab)] W) : GOK Tryd.prog W (oldI W) := by
  rw [MakeChecks.laidMetH_plain _ _ _ (by kernel_rfl)] at h
  exact gok_tz gN (Lib.tabIs_of_head (rest := []) gN gTy Tryd.underlying202 Tryd.underlying5 (by kernel_rfl) (by kernel_rfl) h)
theorem door_met (os : Os) (args : Array Value) : laidMetH Tryd.prog [("math/bits.deBruijn64tab", Rows.laid_math_bits_deBruijn64tab)] ((World.doorLaid Tryd.prog 14 os).forCall (fun _ _ => 0) ⟨#[], args, []⟩).memory :=
  laidMetH_of_parts3 (fuel := 8) (laidMet_of_run' 8 (by kernel_rfl) (by kernel_rfl)) (by kernel_rfl) (by kernel_rfl)
theorem lifted (os : Os) (started : os.Started) (H : Type) (enc : TypeId × Value → H) :
    ReturnsInHanded {} Tryd.checked os 7 .any (fun w args => (Rows.fnExactGlobalStatesSpec.pre enc Tryd.prog Tryd.f7 [] false w args ∧ laidMetH Tryd.prog [("math/bits.deBruijn64tab", Rows.laid_math_bits_deBruijn64tab)] w) ∧ sizedMet enc Tryd.prog Tryd.f7 (OpenSpec.ofChange Rows.fnExactGlobalStatesSpec) false w args)
      (Rows.fnExactGlobalStatesSpec.post enc Tryd.prog Tryd.f7 false true false false) := by
  have hopen := (show OpensL Tryd.prog [26] _ _ from (opensL_cons (opensA_struct Tryd.underlying26 (opens_struct Tryd.underlying26 (by kernel_rfl) (opensF_cons (n := 1) rfl (by kernel_rfl) (opens_slice (n := 1) Tryd.underlying22 (by kernel_rfl) (opens_int (k := .i64) Tryd.underlying2) (fun _ => rfl)) (opensF_cons (n := 1) rfl (by kernel_rfl) (opens_slice (n := 1) Tryd.underlying22 (by kernel_rfl) (opens_int (k := .i64) Tryd.underlying2) (fun _ => rfl)) (opensF_cons (n := 1) rfl (by kernel_rfl) (opens_slice (n := 1) Tryd.underlying22 (by kernel_rfl) (opens_int (k := .i64) Tryd.underlying2) (fun _ => rfl)) (opensF_cons (n := 1) rfl (by kernel_rfl) (opens_slice (n := 3) Tryd.underlying23 (by kernel_rfl) (opens_struct Tryd.underlying130 (by kernel_rfl) (opensF_cons (n := 1) rfl (by kernel_rfl) (opens_int (k := .i64) Tryd.underlying2) (opensF_cons (n := 1) rfl (by kernel_rfl) (opens_slice (n := 1) Tryd.underlying22 (by kernel_rfl) (opens_int (k := .i64) Tryd.underlying2) (fun _ => rfl)) (opensF_cons (n := 1) rfl (by kernel_rfl) (opens_slice (n := 1) Tryd.underlying22 (by kernel_rfl) (opens_int (k := .i64) Tryd.underlying2) (fun _ => rfl)) opensF_nil)))) (fun _ => rfl)) (opensF_cons (n := 1) rfl (by kernel_rfl) (opens_slice (n := 1) Tryd.underlying24 (by kernel_rfl) (opens_slice (n := 1) Tryd.underlying22 (by kernel_rfl) (opens_int (k := .i64) Tryd.underlying2) (fun _ => rfl)) (fun _ => rfl)) opensF_nil))))))) opensL_nil))
  refine lift_laid (L := [("math/bits.deBruijn64tab", Rows.laid_math_bits_deBruijn64tab)]) (rt := 4) (C := Tryd.checked) (fn := Tryd.f7) hopen (fun a h => LawOf.fnExactGlobalStates a h) gok ?_ own started Tryd.func7 rfl (by kernel_rfl) rfl Tryd.underlying4 laidOut (by kernel_rfl)
    (ChangeSpec.witness_shaped (enc := enc) (C := Tryd.checked) (os := os) (X := fun w _ => laidMetH Tryd.prog [("math/bits.deBruijn64tab", Rows.laid_math_bits_deBruijn64tab)] w) false (World.doorLaid Tryd.prog 14 os) #[(Value.agg #[(Value.slice none 0 0), (Value.slice none 0 0), (Value.slice none 0 0), (Value.slice none 0 0), (Value.slice none 0 0)])] 8 rfl (World.shaped_of_RefB (by kernel_rfl) (by kernel_rfl)) (by kernel_rfl) (by kernel_rfl) (by kernel_rfl) (door_met os _))
  intro H ds hds
  match ds, hds with
  | [d0], _ => exact ⟨rfl, rfl, rfl⟩
theorem over : Rows.fnExactGlobalStatesRow.holds Tryd.pinned (OpenSpec.ofChange Rows.fnExactGlobalStatesSpec) :=
  OpenClaim.holds_of_wide 7 Tryd.f7 rfl rfl rfl rfl rfl rfl rfl ⟨rfl, rfl, rfl, rfl, rfl⟩ rfl rfl rfl rfl rfl (by kernel_rfl) Tryd.func7 (by kernel_rfl)
    (of_decide_eq_true (by kernel_rfl)) (by unfold Func.isWrapper; first | (rw [if_pos (by decide +kernel)]; kernel_rfl) | (rw [if_neg (by decide +kernel)]; exact ⟨rfl, rfl⟩))
    (fun os started H enc _ => lifted os started H enc)
end Go.Proofs.YtmpdpjpebekfkaaDoor.fnExactGlobalStates
namespace Go.Proofs.YtmpdpjpebekfkaaDoor
/-- The card. -/
theorem fnExactGlobalStatesCard_holds : Rows.FnExactGlobalStatesCardSaid :=
  Claim7.holds_tied_plain_at .later [] [.data] true (true, "1d6496233a4ec3ec329a60a5d23141867875d9893b43087e1993e6d5bd6b4401") false fnExactGlobalStates.over (fun _ h => by cases h) (by kernel_rfl) (fun _ h => by cases h) fnExactGlobalStates_row_tie rfl ⟨rfl, rfl⟩ (by kernel_rfl) rfl
    (fun f fn hf hfn => by
      obtain rfl : f = 7 := Option.some.inj ((show Tryd.prog.funcNamed "loop.example/g01094/laws.FnExactGlobalStates" = some 7 by kernel_rfl).symm.trans hf) |>.symm
      obtain rfl : fn = Tryd.f7 := (Option.some.inj (Tryd.func7.symm.trans hfn)).symm
      exact ⟨by kernel_rfl, fun j t ht => by
        rw [show Tryd.f7.params = #[26] by kernel_rfl] at ht
        have hm : t ∈ [26] := by simpa using Array.mem_of_getElem? ht
        have hall : ([26].all fun u => !Tryd.prog.wantsStandIn u) = true := by kernel_rfl
        exact (show Tryd.prog.wantsStandIn t = false by simpa using List.all_eq_true.1 hall t hm)⟩)
    (by kernel_rfl)
#print axioms fnExactGlobalStatesCard_holds
end Go.Proofs.YtmpdpjpebekfkaaDoor
