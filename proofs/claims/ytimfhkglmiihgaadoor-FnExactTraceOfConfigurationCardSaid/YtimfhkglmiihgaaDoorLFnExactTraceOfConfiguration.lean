/-
  The law laws.FnExactTraceOfConfiguration: for every input it returns true, and the input reads as it did, where the table math/bits.deBruijn64tab holds what the program lays: the statement Rows.FnExactTraceOfConfigurationCardSaid.
  The condition on the table is tied to the text by the given tie; the project is a pruned copy.
-/
import Derived.Test.YtimfhkglmiihgaaDoorRows
import Derived.Test.YtimfhkglmiihgaaDoorCards
import Derived.Test.YtimfhkglmiihgaaDoorTie
import Derived.Test.YtimfhkglmiihgaaDoorAmRow
import Derived.Test.YtimfhkglmiihgaaDoorFnP
import Derived.Test.YtimfhkglmiihgaaDoorFnIt
set_option linter.unusedVariables false
set_option linter.unusedSimpArgs false
set_option maxRecDepth 100000
set_option maxHeartbeats 1600000
namespace Go.AM
open Go.Proofs
theorem FnExactTraceOfConfiguration_spec (xb : Bool) (x : AlphaV) (h_x : AlphabetIn x) (s0 s1 s2 : Bool) (s : StrucV) (h_s : StructureIn s) (c : Int) (h_c : I64 c) : ACalls1 Tryd.prog 5 [alphaSl xb x, strucSl s0 s1 s2 s, iv c] (bv true) := by
  refine walk (fun t => t == 3 || t == 4 || t == 1030 || t == 1058 || t == 1063 || t == 1099 || t == 2070 || t == 2073 || t == 2089) mixed Go.Proofs.Tryd.func5 rfl rfl rfl (by kernel_rfl) rfl (by simp) (by kernel_rfl) ?_
  simp
  refine ⟨_, szAlphabetL _ x _ h_x (by omega) (by omega), ?_⟩
  simp
  intro hs_x
  obtain ⟨k_x, z_x⟩ := szAlphabetL_le h_x (by omega) hs_x
  refine ⟨_, szStructureL _ _ _ s _ h_s (by omega) (by omega), ?_⟩
  simp
  intro hs_s
  obtain ⟨k_s, z_s⟩ := szStructureL_le h_s (by omega) hs_s
  refine ⟨_, toAlphabetL _ x k_x, ?_⟩
  simp
  refine ⟨_, toStructureL _ _ _ s k_s, ?_⟩
  simp
  refine ⟨_, specTraceOfConfiguration_spec _ x k_x _ _ _ s k_s c h_c, ?_⟩
  have fit := TraceOfConfiguration_fits x k_x s k_s c h_c
  generalize hR : traceOfConfigurationV x s c = R at *
  simp
  first | refine ⟨⟨by kernel_rfl, by kernel_rfl⟩, ?_⟩ | exact ⟨by kernel_rfl, by kernel_rfl⟩
  refine ⟨_, toAlphabetL _ x k_x, ?_⟩
  simp
  refine ⟨_, toStructureL _ _ _ s k_s, ?_⟩
  simp
  refine ⟨_, TraceOfConfiguration_spec _ x k_x _ _ _ s k_s c h_c, ?_⟩
  rw [hR]
  simp
  refine ⟨_, eqInt64SL _ _ R.1 fit, ?_⟩
  simp
  refine ⟨_, toAlphabetL _ x k_x, ?_⟩
  simp
  refine ⟨_, eqAlphabetL _ _ x k_x, ?_⟩
  simp
  first | refine ⟨⟨by kernel_rfl, by kernel_rfl⟩, ?_⟩ | exact ⟨by kernel_rfl, by kernel_rfl⟩
  refine ⟨_, toStructureL _ _ _ s k_s, ?_⟩
  simp
  refine ⟨_, eqStructureL _ _ _ _ _ _ s k_s, ?_⟩
  simp
  first | refine ⟨⟨by kernel_rfl, by kernel_rfl⟩, ?_⟩ | exact ⟨by kernel_rfl, by kernel_rfl⟩
  refine ⟨_, _, markAlphabetL _ x _ k_x (by omega) (by omega), ?_⟩
  simp
  have f0 := k_x.2.1
  have f1 := k_s.1.1
  have f2 := k_s.2.1.1
  have f3 := k_s.2.2.1
  unfold Fits at f0 f1 f2 f3
  have hk : 0 ≤ 1 + (x.depends.length : Int) + s.below.length + s.clash.length + s.labels.length := by omega
  refine ⟨_, _, markStructureX _ _ _ s _ k_s (by omega) (by omega), ?_⟩
  simp [hk]
  refine ⟨_, eqInt64SL _ _ R.1 fit, ?_⟩
  simp
  refine ⟨_, _, markInt64S_spec _ R.1 _ fit.1 (by omega) (by omega), ?_⟩
  simp
  refine ⟨_, heldInt64S_spec _ (R.1).length _ fit.1 (by omega) (by omega), ?_⟩
  simp
  refine ⟨_, toAlphabetL _ x k_x, ?_⟩
  simp
  refine ⟨_, toStructureL _ _ _ s k_s, ?_⟩
  simp
  refine ⟨_, TraceOfConfiguration_spec _ x k_x _ _ _ s k_s c h_c, ?_⟩
  rw [hR]
  simp
  first | refine ⟨⟨by kernel_rfl, by kernel_rfl⟩, ?_⟩ | exact ⟨by kernel_rfl, by kernel_rfl⟩
  refine ⟨_, eqInt64SL _ _ R.1 fit, ?_⟩
  simp
  refine ⟨_, heldInt64S_spec _ (R.1).length _ fit.1 (by omega) (by omega), ?_⟩
  simp
namespace LawOf
theorem fnExactTraceOfConfiguration (a : (Int × (Bool × List Int) × Unit) × ((Bool × List Int) × (Bool × List Int) × (Bool × List Int) × Unit) × Int × Unit) (h : ((Lit.int .i64 a.1.1).wf = true ∧ (a.1.2.1.2.length ≤ maxLen ∧ ∀ x1 ∈ a.1.2.1.2, (Lit.int .i64 x1).wf = true) ∧ True) ∧ ((a.2.1.1.2.length ≤ maxLen ∧ ∀ x3 ∈ a.2.1.1.2, (Lit.int .i64 x3).wf = true) ∧ (a.2.1.2.1.2.length ≤ maxLen ∧ ∀ x4 ∈ a.2.1.2.1.2, (Lit.int .i64 x4).wf = true) ∧ (a.2.1.2.2.1.2.length ≤ maxLen ∧ ∀ x5 ∈ a.2.1.2.2.1.2, (Lit.int .i64 x5).wf = true) ∧ True) ∧ (Lit.int .i64 a.2.2.1).wf = true ∧ True) :
    ACalls1 Go.Proofs.Tryd.prog 5 [AV.agg ([AV.val (.int .i64 a.1.1)] ++ ([AV.sl 1 a.1.2.1.1 (a.1.2.1.2.flatMap fun y2 => [AV.val (.int .i64 y2)])] ++ [])), AV.agg ([AV.sl 1 a.2.1.1.1 (a.2.1.1.2.flatMap fun y6 => [AV.val (.int .i64 y6)])] ++ ([AV.sl 1 a.2.1.2.1.1 (a.2.1.2.1.2.flatMap fun y7 => [AV.val (.int .i64 y7)])] ++ ([AV.sl 1 a.2.1.2.2.1.1 (a.2.1.2.2.1.2.flatMap fun y8 => [AV.val (.int .i64 y8)])] ++ []))), AV.val (.int .i64 a.2.2.1)] (bv true) := by
  obtain ⟨⟨x_0, ⟨xb, x_1⟩, _⟩, ⟨⟨s0, s_0⟩, ⟨s1, s_1⟩, ⟨s2, s_2⟩, _⟩, c, _⟩ := a
  simp only [flat_ints, flat_rows]
  exact FnExactTraceOfConfiguration_spec xb ⟨x_0, x_1⟩ ⟨i64_of_wf h.1.1, h.1.2.1⟩ s0 s1 s2 ⟨s_0, s_1, s_2⟩ ⟨h.2.1.1, h.2.1.2.1, h.2.1.2.2.1⟩ c (i64_of_wf h.2.2.1)
end LawOf
end Go.AM
namespace Go.Proofs.YtimfhkglmiihgaaDoor.fnExactTraceOfConfiguration
open Go.ChangeShapes Go.WideShapes Go.ChangeAt Go.RowKit Go.AM
theorem own : ownKnob Tryd.prog.godebug = none := by kernel_rfl
theorem laidOut : laidOutB Tryd.prog = true := by kernel_rfl
theorem gN : Tryd.prog.globalNamed "math/bits.deBruijn64tab" = some 0 := by kernel_rfl
theorem gTy : (Tryd.prog.globals[0]?).map (·.type) = some 191 := by kernel_rfl
theorem gok (W : World) (h : laidMetH Tryd.prog [("math/bits.deBruijn64tab", Rows.laid_math_bits_deBruijn64tab)] W) : GOK Tryd.prog W (oldI W) := by
  rw [MakeChecks.laidMetH_plain _ _ _ (by kernel_rfl)] at h
  exact gok_tz gN (Lib.tabIs_of_head (rest := []) gN gTy Tryd.underlying191 Tryd.underlying5 (by kernel_rfl) (by kernel_rfl) h)
theorem door_met (os : Os) (args : Array Value) : laidMetH Tryd.prog [("math/bits.deBruijn64tab", Rows.laid_math_bits_deBruijn64tab)] ((World.doorLaid Tryd.prog 14 os).forCall (fun _ _ => 0) ⟨#[], args, []⟩).memory :=
  laidMetH_of_parts3 (fuel := 8) (laidMet_of_run' 8 (by kernel_rfl) (by kernel_rfl)) (by kernel_rfl) (by kernel_rfl)
theorem lifted (os : Os) (started : os.Started) (H : Type) (enc : TypeId × Value → H) :
    ReturnsInHanded {} Tryd.checked os 5 .any (fun w args => (Rows.fnExactTraceOfConfigurationSpec.pre enc Tryd.prog Tryd.f5 [] false w args ∧ laidMetH Tryd.prog [("math/bits.deBruijn64tab", Rows.laid_math_bits_deBruijn64tab)] w) ∧ sizedMet enc Tryd.prog Tryd.f5 (OpenSpec.ofChange Rows.fnExactTraceOfConfigurationSpec) false w args)
      (Rows.fnExactTraceOfConfigurationSpec.post enc Tryd.prog Tryd.f5 false true false false) := by
  have hopen := (show OpensL Tryd.prog [42, 24, 2] _ _ from (opensL_cons (opensA_struct Tryd.underlying42 (opens_struct Tryd.underlying42 (by kernel_rfl) (opensF_cons (n := 1) rfl (by kernel_rfl) (opens_int (k := .i64) Tryd.underlying2) (opensF_cons (n := 1) rfl (by kernel_rfl) (opens_slice (n := 1) Tryd.underlying22 (by kernel_rfl) (opens_int (k := .i64) Tryd.underlying2) (fun _ => rfl)) opensF_nil)))) (opensL_cons (opensA_struct Tryd.underlying24 (opens_struct Tryd.underlying24 (by kernel_rfl) (opensF_cons (n := 1) rfl (by kernel_rfl) (opens_slice (n := 1) Tryd.underlying22 (by kernel_rfl) (opens_int (k := .i64) Tryd.underlying2) (fun _ => rfl)) (opensF_cons (n := 1) rfl (by kernel_rfl) (opens_slice (n := 1) Tryd.underlying22 (by kernel_rfl) (opens_int (k := .i64) Tryd.underlying2) (fun _ => rfl)) (opensF_cons (n := 1) rfl (by kernel_rfl) (opens_slice (n := 1) Tryd.underlying22 (by kernel_rfl) (opens_int (k := .i64) Tryd.underlying2) (fun _ => rfl)) opensF_nil))))) (opensL_cons (opensA_int (k := .i64) Tryd.underlying2) opensL_nil))))
  refine lift_laid (L := [("math/bits.deBruijn64tab", Rows.laid_math_bits_deBruijn64tab)]) (rt := 4) (C := Tryd.checked) (fn := Tryd.f5) hopen (fun a h => LawOf.fnExactTraceOfConfiguration a h) gok ?_ own started Tryd.func5 rfl (by kernel_rfl) rfl Tryd.underlying4 laidOut (by kernel_rfl)
    (ChangeSpec.witness_shaped (enc := enc) (C := Tryd.checked) (os := os) (X := fun w _ => laidMetH Tryd.prog [("math/bits.deBruijn64tab", Rows.laid_math_bits_deBruijn64tab)] w) false (World.doorLaid Tryd.prog 14 os) #[(Value.agg #[(Value.int .i64 0), (Value.slice none 0 0)]), (Value.agg #[(Value.slice none 0 0), (Value.slice none 0 0), (Value.slice none 0 0)]), (Value.int .i64 0)] 8 rfl (World.shaped_of_RefB (by kernel_rfl) (by kernel_rfl)) (by kernel_rfl) (by kernel_rfl) (by kernel_rfl) (door_met os _))
  intro H ds hds
  match ds, hds with
  | [d0, d1, d2], _ => exact ⟨rfl, rfl, rfl⟩
theorem over : Rows.fnExactTraceOfConfigurationRow.holds Tryd.pinned (OpenSpec.ofChange Rows.fnExactTraceOfConfigurationSpec) :=
  OpenClaim.holds_of_wide 5 Tryd.f5 rfl rfl rfl rfl rfl rfl rfl ⟨rfl, rfl, rfl, rfl, rfl⟩ rfl rfl rfl rfl rfl (by kernel_rfl) Tryd.func5 (by kernel_rfl)
    (of_decide_eq_true (by kernel_rfl)) (by unfold Func.isWrapper; first | (rw [if_pos (by decide +kernel)]; kernel_rfl) | (rw [if_neg (by decide +kernel)]; exact ⟨rfl, rfl⟩))
    (fun os started H enc _ => lifted os started H enc)
end Go.Proofs.YtimfhkglmiihgaaDoor.fnExactTraceOfConfiguration
namespace Go.Proofs.YtimfhkglmiihgaaDoor
/-- The card. -/
theorem fnExactTraceOfConfigurationCard_holds : Rows.FnExactTraceOfConfigurationCardSaid :=
  Claim7.holds_tied_plain_at .later [] [.data] true (true, "ae8f3ee079bba0f46adf8c9914f86e792da0b45ef39f5f82ff9f3721d406fdaa") false fnExactTraceOfConfiguration.over (fun _ h => by cases h) (by kernel_rfl) (fun _ h => by cases h) fnExactTraceOfConfiguration_row_tie rfl ⟨rfl, rfl⟩ (by kernel_rfl) rfl
    (fun f fn hf hfn => by
      obtain rfl : f = 5 := Option.some.inj ((show Tryd.prog.funcNamed "loop.example/g01094/laws.FnExactTraceOfConfiguration" = some 5 by kernel_rfl).symm.trans hf) |>.symm
      obtain rfl : fn = Tryd.f5 := (Option.some.inj (Tryd.func5.symm.trans hfn)).symm
      exact ⟨by kernel_rfl, fun j t ht => by
        rw [show Tryd.f5.params = #[42, 24, 2] by kernel_rfl] at ht
        have hm : t ∈ [42, 24, 2] := by simpa using Array.mem_of_getElem? ht
        have hall : ([42, 24, 2].all fun u => !Tryd.prog.wantsStandIn u) = true := by kernel_rfl
        exact (show Tryd.prog.wantsStandIn t = false by simpa using List.all_eq_true.1 hall t hm)⟩)
    (by kernel_rfl)
#print axioms fnExactTraceOfConfigurationCard_holds
end Go.Proofs.YtimfhkglmiihgaaDoor
