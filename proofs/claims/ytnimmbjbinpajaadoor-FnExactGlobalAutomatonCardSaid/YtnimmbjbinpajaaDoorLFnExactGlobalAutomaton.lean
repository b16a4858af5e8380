/-
  The law laws.FnExactGlobalAutomaton: for every input it returns true, and the input reads as it did, where the table math/bits.deBruijn64tab holds what the program lays: the statement Rows.FnExactGlobalAutomatonCardSaid.
  The condition on the table is tied to the text by the given tie; the project is a pruned copy.
-/
import Derived.Test.YtnimmbjbinpajaaDoorRows
import Derived.Test.YtnimmbjbinpajaaDoorCards
import Derived.Test.YtnimmbjbinpajaaDoorTie
import Derived.Test.YtnimmbjbinpajaaDoorAmRow
import Derived.Test.YtnimmbjbinpajaaDoorFnBf
import Derived.Test.YtnimmbjbinpajaaDoorFnNr
import Derived.Test.YtnimmbjbinpajaaDoorFnNn
set_option linter.unusedVariables false
set_option linter.unusedSimpArgs false
set_option maxRecDepth 100000
set_option maxHeartbeats 1600000
namespace Go.AM
open Go.Proofs
theorem FnExactGlobalAutomaton_spec (z0 z1 z2 z3 z4 : Bool) (z : AsyI) (h_z : AsynchronousIn z) : ACalls1 Tryd.prog 4 [asyIn z0 z1 z2 z3 z4 z] (bv true) := by
  refine walk (fun t => t == 1 || t == 1041 || t == 2048 || t == 2064) mixed Go.Proofs.Tryd.func4 rfl rfl rfl (by kernel_rfl) rfl (by simp) (by kernel_rfl) ?_
  simp
  refine ⟨_, szAsynchronousL _ _ _ _ _ z _ h_z (by omega) (by omega), ?_⟩
  simp
  intro hs_z
  obtain ⟨k_z, z_z⟩ := szAsynchronousL_le h_z (by omega) hs_z
  obtain ⟨t0_z, t1_z, t2_z⟩ := asy_tot k_z
  refine ⟨_, toAsynchronousL _ _ _ _ _ z k_z, ?_⟩
  simp
  refine ⟨_, specGlobalAutomaton_spec z.v k_z.2.2.1, ?_⟩
  have fit := GlobalAutomaton_fits z.v k_z.2.2.1
  generalize hR : globalAutV z.v = R at *
  simp
  refine ⟨_, toAsynchronousL _ _ _ _ _ z k_z, ?_⟩
  simp
  refine ⟨_, GlobalAutomaton_spec z.v k_z.2.2.1, ?_⟩
  rw [hR]
  simp
  refine ⟨_, eqAutomatonL _ _ _ _ R.1 fit, ?_⟩
  simp
  refine ⟨_, toAsynchronousL _ _ _ _ _ z k_z, ?_⟩
  simp
  refine ⟨_, eqAsynchronousL  z.v k_z.2.2.1, ?_⟩
  simp
  first | refine ⟨⟨by kernel_rfl, by kernel_rfl⟩, ?_⟩ | exact ⟨by kernel_rfl, by kernel_rfl⟩
  refine ⟨_, _, markAsynchronousL  z _ k_z (by omega) (by omega), ?_⟩
  have hpos : 0 ≤ 1 + (z.places.length : Int) + z.sizes.length + z.start.length + totK z.v.joints + total z.v.final := by omega
  simp [hpos]
  refine ⟨_, eqAutomatonL _ _ _ _ R.1 fit, ?_⟩
  simp
  refine ⟨_, _, markAutomatonL _ _ R.1 _ fit (by omega) (by omega), ?_⟩
  simp
  refine ⟨_, heldAutomatonL _ _ R.1 _ fit (by omega) (by omega), ?_⟩
  simp
  refine ⟨_, toAsynchronousL _ _ _ _ _ z k_z, ?_⟩
  simp
  refine ⟨_, GlobalAutomaton_spec z.v k_z.2.2.1, ?_⟩
  rw [hR]
  simp
  refine ⟨_, eqAutomatonL _ _ _ _ R.1 fit, ?_⟩
  simp
  refine ⟨_, heldAutomatonL _ _ R.1 _ fit (by omega) (by omega), ?_⟩
  simp
namespace LawOf
theorem fnExactGlobalAutomaton (a : ((Bool × List Int) × (Bool × List Int) × (Bool × List Int) × (Bool × List (Int × (Bool × List Int) × (Bool × List Int) × Unit)) × (Bool × List (Bool × List Int)) × Unit) × Unit) (h : ((a.1.1.2.length ≤ maxLen ∧ ∀ x1 ∈ a.1.1.2, (Lit.int .i64 x1).wf = true) ∧ (a.1.2.1.2.length ≤ maxLen ∧ ∀ x2 ∈ a.1.2.1.2, (Lit.int .i64 x2).wf = true) ∧ (a.1.2.2.1.2.length ≤ maxLen ∧ ∀ x3 ∈ a.1.2.2.1.2, (Lit.int .i64 x3).wf = true) ∧ (a.1.2.2.2.1.2.length ≤ maxLen ∧ ∀ x4 ∈ a.1.2.2.2.1.2, ((Lit.int .i64 x4.1).wf = true ∧ (x4.2.1.2.length ≤ maxLen ∧ ∀ x5 ∈ x4.2.1.2, (Lit.int .i64 x5).wf = true) ∧ (x4.2.2.1.2.length ≤ maxLen ∧ ∀ x6 ∈ x4.2.2.1.2, (Lit.int .i64 x6).wf = true) ∧ True)) ∧ (a.1.2.2.2.2.1.2.length ≤ maxLen ∧ ∀ x7 ∈ a.1.2.2.2.2.1.2, (x7.2.length ≤ maxLen ∧ ∀ x8 ∈ x7.2, (Lit.int .i64 x8).wf = true)) ∧ True) ∧ True) :
    ACalls1 Go.Proofs.Tryd.prog 4 [AV.agg ([AV.sl 1 a.1.1.1 (a.1.1.2.flatMap fun y9 => [AV.val (.int .i64 y9)])] ++ ([AV.sl 1 a.1.2.1.1 (a.1.2.1.2.flatMap fun y10 => [AV.val (.int .i64 y10)])] ++ ([AV.sl 1 a.1.2.2.1.1 (a.1.2.2.1.2.flatMap fun y11 => [AV.val (.int .i64 y11)])] ++ ([AV.sl 3 a.1.2.2.2.1.1 (a.1.2.2.2.1.2.flatMap fun y12 => ([AV.val (.int .i64 y12.1)] ++ ([AV.sl 1 y12.2.1.1 (y12.2.1.2.flatMap fun y13 => [AV.val (.int .i64 y13)])] ++ ([AV.sl 1 y12.2.2.1.1 (y12.2.2.1.2.flatMap fun y14 => [AV.val (.int .i64 y14)])] ++ []))))] ++ ([AV.sl 1 a.1.2.2.2.2.1.1 (a.1.2.2.2.2.1.2.flatMap fun y15 => [AV.sl 1 y15.1 (y15.2.flatMap fun y16 => [AV.val (.int .i64 y16)])])] ++ [])))))] (bv true) := by
  obtain ⟨⟨⟨z0, z_0⟩, ⟨z1, z_1⟩, ⟨z2, z_2⟩, ⟨z3, z_3⟩, ⟨z4, z_4⟩, _⟩, _⟩ := a
  simp only [flat_ints, flat_rows]
  exact FnExactGlobalAutomaton_spec z0 z1 z2 z3 z4 ⟨z_0, z_1, z_2, z_3, z_4⟩ ⟨h.1.1, h.1.2.1, h.1.2.2.1, (jointsIn_of h.1.2.2.2.1), h.1.2.2.2.2.1⟩
end LawOf
end Go.AM
namespace Go.Proofs.YtnimmbjbinpajaaDoor.fnExactGlobalAutomaton
open Go.ChangeShapes Go.WideShapes Go.ChangeAt Go.RowKit Go.AM
theorem own : ownKnob Tryd.prog.godebug = none := by kernel_rfl
theorem laidOut : laidOutB Tryd.prog = true := by kernel_rfl
theorem gN : Tryd.prog.globalNamed "math/bits.deBruijn64tab" = some 0 := by kernel_rfl
theorem gTy : (Tryd.prog.globals[0]?).map (·.type) = some 197 := by kernel_rfl
theorem gok (W : World) (h : laidMetH Tryd.prog [("math/bits.deBruijn64tab", Rows.laid_math_bits_deBruijn64tab)] W) : GOK Tryd.prog W (oldI W) := by
  rw [MakeChecks.laidMetH_plain _ _ _ (by kernel_rfl)] at h
  exact gok_tz gN (Lib.tabIs_of_head (rest := []) gN gTy Tryd.underlying197 Tryd.underlying5 (by kernel_rfl) (by kernel_rfl) h)
theorem door_met (os : Os) (args : Array Value) : laidMetH Tryd.prog [("math/bits.deBruijn64tab", Rows.laid_math_bits_deBruijn64tab)] ((World.doorLaid Tryd.prog 14 os).forCall (fun _ _ => 0) ⟨#[], args, []⟩).memory :=
  laidMetH_of_parts3 (fuel := 8) (laidMet_of_run' 8 (by kernel_rfl) (by kernel_rfl)) (by kernel_rfl) (by kernel_rfl)
theorem lifted (os : Os) (started : os.Started) (H : Type) (enc : TypeId × Value → H) :
    ReturnsInHanded {} Tryd.checked os 4 .any (fun w args => (Rows.fnExactGlobalAutomatonSpec.pre enc Tryd.prog Tryd.f4 [] false w args ∧ laidMetH Tryd.prog [("math/bits.deBruijn64tab", Rows.laid_math_bits_deBruijn64tab)] w) ∧ sizedMet enc Tryd.prog Tryd.f4 (OpenSpec.ofChange Rows.fnExactGlobalAutomatonSpec) false w args)
      (Rows.fnExactGlobalAutomatonSpec.post enc Tryd.prog Tryd.f4 false true false false) := by
  have hopen := (show OpensL Tryd.prog [37] _ _ from (opensL_cons (opensA_struct Tryd.underlying37 (opens_struct Tryd.underlying37 (by kernel_rfl) (opensF_cons (n := 1) rfl (by kernel_rfl) (opens_slice (n := 1) Tryd.underlying22 (by kernel_rfl) (opens_int (k := .i64) Tryd.underlying2) (fun _ => rfl)) (opensF_cons (n := 1) rfl (by kernel_rfl) (opens_slice (n := 1) Tryd.underlying22 (by kernel_rfl) (opens_int (k := .i64) Tryd.underlying2) (fun _ => rfl)) (opensF_cons (n := 1) rfl (by kernel_rfl) (opens_slice (n := 1) Tryd.underlying22 (by kernel_rfl) (opens_int (k := .i64) Tryd.underlying2) (fun _ => rfl)) (opensF_cons (n := 1) rfl (by kernel_rfl) (opens_slice (n := 3) Tryd.underlying35 (by kernel_rfl) (opens_struct Tryd.underlying145 (by kernel_rfl) (opensF_cons (n := 1) rfl (by kernel_rfl) (opens_int (k := .i64) Tryd.underlying2) (opensF_cons (n := 1) rfl (by kernel_rfl) (opens_slice (n := 1) Tryd.underlying22 (by kernel_rfl) (opens_int (k := .i64) Tryd.underlying2) (fun _ => rfl)) (opensF_cons (n := 1) rfl (by kernel_rfl) (opens_slice (n := 1) Tryd.underlying22 (by kernel_rfl) (opens_int (k := .i64) Tryd.underlying2) (fun _ => rfl)) opensF_nil)))) (fun _ => rfl)) (opensF_cons (n := 1) rfl (by kernel_rfl) (opens_slice (n := 1) Tryd.underlying23 (by kernel_rfl) (opens_slice (n := 1) Tryd.underlying22 (by kernel_rfl) (opens_int (k := .i64) Tryd.underlying2) (fun _ => rfl)) (fun _ => rfl)) opensF_nil))))))) opensL_nil))
  refine lift_laid (L := [("math/bits.deBruijn64tab", Rows.laid_math_bits_deBruijn64tab)]) (rt := 4) (C := Tryd.checked) (fn := Tryd.f4) hopen (fun a h => LawOf.fnExactGlobalAutomaton a h) gok ?_ own started Tryd.func4 rfl (by kernel_rfl) rfl Tryd.underlying4 laidOut (by kernel_rfl)
    (ChangeSpec.witness_shaped (enc := enc) (C := Tryd.checked) (os := os) (X := fun w _ => laidMetH Tryd.prog [("math/bits.deBruijn64tab", Rows.laid_math_bits_deBruijn64tab)] w) false (World.doorLaid Tryd.prog 14 os) #[(Value.agg #[(Value.slice none 0 0), (Value.slice none 0 0), (Value.slice none 0 0), (Value.slice none 0 0), (Value.slice none 0 0)])] 8 rfl (World.shaped_of_RefB (by kernel_rfl) (by kernel_rfl)) (by kernel_rfl) (by kernel_rfl) (by kernel_rfl) (door_met os _))
  intro H ds hds
  match ds, hds with
  | [d0], _ => exact ⟨rfl, rfl, rfl⟩
theorem over : Rows.fnExactGlobalAutomatonRow.holds Tryd.pinned (OpenSpec.ofChange Rows.fnExactGlobalAutomatonSpec) :=
  OpenClaim.holds_of_wide 4 Tryd.f4 rfl rfl rfl rfl rfl rfl rfl ⟨rfl, rfl, rfl, rfl, rfl⟩ rfl rfl rfl rfl rfl (by kernel_rfl) Tryd.func4 (by kernel_rfl)
    (of_decide_eq_true (by kernel_rfl)) (by unfold Func.isWrapper; first | (rw [if_pos (by decide +kernel)]; kernel_rfl) | (rw [if_neg (by decide +kernel)]; exact ⟨rfl, rfl⟩))
    (fun os started H enc _ => lifted os started H enc)
end Go.Proofs.YtnimmbjbinpajaaDoor.fnExactGlobalAutomaton
namespace Go.Proofs.YtnimmbjbinpajaaDoor
/-- The card. -/
theorem fnExactGlobalAutomatonCard_holds : Rows.FnExactGlobalAutomatonCardSaid :=
  Claim7.holds_tied_plain_at .later [] [.data] true (true, "bdad98c0bdd52574cb2b5cad38dfdb117306ce9ff376b3df8cbc4cc5fe63900d") false fnExactGlobalAutomaton.over (fun _ h => by cases h) (by kernel_rfl) (fun _ h => by cases h) fnExactGlobalAutomaton_row_tie rfl ⟨rfl, rfl⟩ (by kernel_rfl) rfl
    (fun f fn hf hfn => by
      obtain rfl : f = 4 := Option.some.inj ((show Tryd.prog.funcNamed "loop.example/g01094/laws.FnExactGlobalAutomaton" = some 4 by kernel_rfl).symm.trans hf) |>.symm
      obtain rfl : fn = Tryd.f4 := (Option.some.inj (Tryd.func4.symm.trans hfn)).symm
      exact ⟨by kernel_rfl, fun j t ht => by
        rw [show Tryd.f4.params = #[37] by kernel_rfl] at ht
        have hm : t ∈ [37] := by simpa using Array.mem_of_getElem? ht
        have hall : ([37].all fun u => !Tryd.prog.wantsStandIn u) = true := by kernel_rfl
        exact (show Tryd.prog.wantsStandIn t = false by simpa using List.all_eq_true.1 hall t hm)⟩)
    (by kernel_rfl)
#print axioms fnExactGlobalAutomatonCard_holds
end Go.Proofs.YtnimmbjbinpajaaDoor
