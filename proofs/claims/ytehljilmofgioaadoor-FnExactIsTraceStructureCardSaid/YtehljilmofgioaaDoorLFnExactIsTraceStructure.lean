/-
  The law laws.FnExactIsTraceStructure: for every input it returns true, and the input reads as it did, where the table math/bits.deBruijn64tab holds what the program lays: the statement Rows.FnExactIsTraceStructureCardSaid.
  The condition on the table is tied to the text by the given tie; the project is a pruned copy.
-/
import Derived.Test.YtehljilmofgioaaDoorRows
import Derived.Test.YtehljilmofgioaaDoorCards
import Derived.Test.YtehljilmofgioaaDoorTie
import Derived.Test.YtehljilmofgioaaDoorAmRow
import Derived.Test.YtehljilmofgioaaDoorAmRep
import Derived.Test.YtehljilmofgioaaDoorAmState
import Derived.Test.YtehljilmofgioaaDoorAmOps
import Derived.Test.YtehljilmofgioaaDoorAmCall
import Derived.Test.YtehljilmofgioaaDoorAmOwn
import Derived.Test.YtehljilmofgioaaDoorAmCode
import Derived.Test.YtehljilmofgioaaDoorAmDraw
import Derived.Test.YtehljilmofgioaaDoorAmPure
import Derived.Test.YtehljilmofgioaaDoorAmOut
import Derived.Test.YtehljilmofgioaaDoorAmTac
import Derived.Test.YtehljilmofgioaaDoorAmRow
import Derived.Test.YtehljilmofgioaaDoorAmList
import Derived.Test.YtehljilmofgioaaDoorAmTy
import Derived.Test.YtehljilmofgioaaDoorFnBits
import Derived.Test.YtehljilmofgioaaDoorFnA
import Derived.Test.YtehljilmofgioaaDoorFnC
import Derived.Test.YtehljilmofgioaaDoorFnPop
import Derived.Test.YtehljilmofgioaaDoorFnB
import Derived.Test.YtehljilmofgioaaDoorFnD
import Derived.Test.YtehljilmofgioaaDoorFnE
import Derived.Test.YtehljilmofgioaaDoorFnF
import Derived.Test.YtehljilmofgioaaDoorFnL
import Derived.Test.YtehljilmofgioaaDoorFnK
import Derived.Test.YtehljilmofgioaaDoorFnTS
import Derived.Test.YtehljilmofgioaaDoorFnS
import Derived.Test.YtehljilmofgioaaDoorFnU
import Derived.Test.YtehljilmofgioaaDoorFnV
import Derived.Test.YtehljilmofgioaaDoorFnM
import Derived.Test.YtehljilmofgioaaDoorFnW
import Derived.Test.YtehljilmofgioaaDoorFnX
import Derived.Test.YtehljilmofgioaaDoorFnY
import Derived.Test.YtehljilmofgioaaDoorFnZ
import Derived.Test.YtehljilmofgioaaDoorFnR
import Derived.Test.YtehljilmofgioaaDoorFnQ
import Derived.Test.YtehljilmofgioaaDoorFnTA
import Derived.Test.YtehljilmofgioaaDoorFnN
import Derived.Test.YtehljilmofgioaaDoorFnO
set_option linter.unusedVariables false
set_option linter.unusedSimpArgs false
set_option maxRecDepth 100000
set_option maxHeartbeats 1600000
namespace Go.AM
open Go.Proofs
theorem FnExactIsTraceStructure_spec (xb : Bool) (x : AlphaV) (h_x : AlphabetIn x) (s0 s1 s2 : Bool) (s : StrucV) (h_s : StructureIn s) : ACalls1 Tryd.prog 8 [alphaSl xb x, strucSl s0 s1 s2 s] (bv true) := by
  refine walk (fun t => t == 2 || t == 3 || t == 1023 || t == 1048 || t == 1053) mixed Go.Proofs.Tryd.func8 rfl rfl rfl (by kernel_rfl) rfl (by simp) (by kernel_rfl) ?_
  simp
  refine ⟨_, szAlphabetL _ x _ h_x (by omega) (by omega), ?_⟩
  simp
  intro hs_x
  obtain ⟨k_x, z_x⟩ := szAlphabetL_le h_x (by omega) hs_x
  refine ⟨_, szStructureL _ _ _ s _ h_s (by omega) (by omega), ?_⟩
  simp
  intro hs_s
  obtain ⟨k_s, z_s⟩ := szStructureL_le h_s (by omega) hs_s
  refine ⟨_, toAlphabetL _ x k_x, ?_⟩
  simp
  refine ⟨_, toStructureL _ _ _ s k_s, ?_⟩
  simp
  refine ⟨_, specIsTraceStructure_spec _ x k_x _ _ _ s k_s, ?_⟩
  generalize hR : isTraceStructureV x s = R at *
  simp
  first | refine ⟨⟨by kernel_rfl, by kernel_rfl⟩, ?_⟩ | exact ⟨by kernel_rfl, by kernel_rfl⟩
  refine ⟨_, toAlphabetL _ x k_x, ?_⟩
  simp
  refine ⟨_, toStructureL _ _ _ s k_s, ?_⟩
  simp
  refine ⟨_, IsTraceStructure_spec _ x k_x _ _ _ s k_s, ?_⟩
  rw [hR]
  simp
  refine ⟨_, toAlphabetL _ x k_x, ?_⟩
  simp
  refine ⟨_, eqAlphabetL _ _ x k_x, ?_⟩
  simp
  first | refine ⟨⟨by kernel_rfl, by kernel_rfl⟩, ?_⟩ | exact ⟨by kernel_rfl, by kernel_rfl⟩
  refine ⟨_, toStructureL _ _ _ s k_s, ?_⟩
  simp
  refine ⟨_, eqStructureL _ _ _ _ _ _ s k_s, ?_⟩
  simp
  first | refine ⟨⟨by kernel_rfl, by kernel_rfl⟩, ?_⟩ | exact ⟨by kernel_rfl, by kernel_rfl⟩
namespace LawOf
theorem fnExactIsTraceStructure (a : (Int × (Bool × List Int) × Unit) × ((Bool × List Int) × (Bool × List Int) × (Bool × List Int) × Unit) × Unit) (h : ((Lit.int .i64 a.1.1).wf = true ∧ (a.1.2.1.2.length ≤ maxLen ∧ ∀ x1 ∈ a.1.2.1.2, (Lit.int .i64 x1).wf = true) ∧ True) ∧ ((a.2.1.1.2.length ≤ maxLen ∧ ∀ x3 ∈ a.2.1.1.2, (Lit.int .i64 x3).wf = true) ∧ (a.2.1.2.1.2.length ≤ maxLen ∧ ∀ x4 ∈ a.2.1.2.1.2, (Lit.int .i64 x4).wf = true) ∧ (a.2.1.2.2.1.2.length ≤ maxLen ∧ ∀ x5 ∈ a.2.1.2.2.1.2, (Lit.int .i64 x5).wf = true) ∧ True) ∧ True) :
    ACalls1 Go.Proofs.Tryd.prog 8 [AV.agg ([AV.val (.int .i64 a.1.1)] ++ ([AV.sl 1 a.1.2.1.1 (a.1.2.1.2.flatMap fun y2 => [AV.val (.int .i64 y2)])] ++ [])), AV.agg ([AV.sl 1 a.2.1.1.1 (a.2.1.1.2.flatMap fun y6 => [AV.val (.int .i64 y6)])] ++ ([AV.sl 1 a.2.1.2.1.1 (a.2.1.2.1.2.flatMap fun y7 => [AV.val (.int .i64 y7)])] ++ ([AV.sl 1 a.2.1.2.2.1.1 (a.2.1.2.2.1.2.flatMap fun y8 => [AV.val (.int .i64 y8)])] ++ [])))] (bv true) := by
  obtain ⟨⟨x_0, ⟨xb, x_1⟩, _⟩, ⟨⟨s0, s_0⟩, ⟨s1, s_1⟩, ⟨s2, s_2⟩, _⟩, _⟩ := a
  simp only [flat_ints, flat_rows]
  exact FnExactIsTraceStructure_spec xb ⟨x_0, x_1⟩ ⟨i64_of_wf h.1.1, h.1.2.1⟩ s0 s1 s2 ⟨s_0, s_1, s_2⟩ ⟨h.2.1.1, h.2.1.2.1, h.2.1.2.2.1⟩
end LawOf
end Go.AM
namespace Go.Proofs.YtehljilmofgioaaDoor.fnExactIsTraceStructure
open Go.ChangeShapes Go.WideShapes Go.ChangeAt Go.RowKit Go.AM
theorem own : ownKnob Tryd.prog.godebug = none := by kernel_rfl
theorem laidOut : laidOutB Tryd.prog = true := by kernel_rfl
theorem gN : Tryd.prog.globalNamed "math/bits.deBruijn64tab" = some 0 := by kernel_rfl
theorem gTy : (Tryd.prog.globals[0]?).map (·.type) = some 95 := by kernel_rfl
theorem gok (W : World) (h : laidMetH Tryd.prog [("math/bits.deBruijn64tab", Rows.laid_math_bits_deBruijn64tab)] W) : GOK Tryd.prog W (oldI W) := by
  rw [MakeChecks.laidMetH_plain _ _ _ (by kernel_rfl)] at h
  exact gok_tz gN (Lib.tabIs_of_head (rest := []) gN gTy Tryd.underlying95 Tryd.underlying5 (by kernel_rfl) (by kernel_rfl) h)
theorem door_met (os : Os) (args : Array Value) : laidMetH Tryd.prog [("math/bits.deBruijn64tab", Rows.laid_math_bits_deBruijn64tab)] ((World.doorLaid Tryd.prog 14 os).forCall (fun _ _ => 0) ⟨#[], args, []⟩).memory :=
  laidMetH_of_parts3 (fuel := 8) (laidMet_of_run' 8 (by kernel_rfl) (by kernel_rfl)) (by kernel_rfl) (by kernel_rfl)
theorem lifted (os : Os) (started : os.Started) (H : Type) (enc : TypeId × Value → H) :
    ReturnsInHanded {} Tryd.checked os 8 .any (fun w args => (Rows.fnExactIsTraceStructureSpec.pre enc Tryd.prog Tryd.f8 [] false w args ∧ laidMetH Tryd.prog [("math/bits.deBruijn64tab", Rows.laid_math_bits_deBruijn64tab)] w) ∧ sizedMet enc Tryd.prog Tryd.f8 (OpenSpec.ofChange Rows.fnExactIsTraceStructureSpec) false w args)
      (Rows.fnExactIsTraceStructureSpec.post enc Tryd.prog Tryd.f8 false true false false) := by
  have hopen := (show OpensL Tryd.prog [49, 24] _ _ from (opensL_cons (opensA_struct Tryd.underlying49 (opens_struct Tryd.underlying49 (by kernel_rfl) (opensF_cons (n := 1) rfl (by kernel_rfl) (opens_int (k := .i64) Tryd.underlying2) (opensF_cons (n := 1) rfl (by kernel_rfl) (opens_slice (n := 1) Tryd.underlying22 (by kernel_rfl) (opens_int (k := .i64) Tryd.underlying2) (fun _ => rfl)) opensF_nil)))) (opensL_cons (opensA_struct Tryd.underlying24 (opens_struct Tryd.underlying24 (by kernel_rfl) (opensF_cons (n := 1) rfl (by kernel_rfl) (opens_slice (n := 1) Tryd.underlying22 (by kernel_rfl) (opens_int (k := .i64) Tryd.underlying2) (fun _ => rfl)) (opensF_cons (n := 1) rfl (by kernel_rfl) (opens_slice (n := 1) Tryd.underlying22 (by kernel_rfl) (opens_int (k := .i64) Tryd.underlying2) (fun _ => rfl)) (opensF_cons (n := 1) rfl (by kernel_rfl) (opens_slice (n := 1) Tryd.underlying22 (by kernel_rfl) (opens_int (k := .i64) Tryd.underlying2) (fun _ => rfl)) opensF_nil))))) opensL_nil)))
  refine lift_laid (L := [("math/bits.deBruijn64tab", Rows.laid_math_bits_deBruijn64tab)]) (rt := 4) (C := Tryd.checked) (fn := Tryd.f8) hopen (fun a h => LawOf.fnExactIsTraceStructure a h) gok ?_ own started Tryd.func8 rfl (by kernel_rfl) rfl Tryd.underlying4 laidOut (by kernel_rfl)
    (ChangeSpec.witness_shaped (enc := enc) (C := Tryd.checked) (os := os) (X := fun w _ => laidMetH Tryd.prog [("math/bits.deBruijn64tab", Rows.laid_math_bits_deBruijn64tab)] w) false (World.doorLaid Tryd.prog 14 os) #[(Value.agg #[(Value.int .i64 0), (Value.slice none 0 0)]), (Value.agg #[(Value.slice none 0 0), (Value.slice none 0 0), (Value.slice none 0 0)])] 8 rfl (World.shaped_of_RefB (by kernel_rfl) (by kernel_rfl)) (by kernel_rfl) (by kernel_rfl) (by kernel_rfl) (door_met os _))
  intro H ds hds
  match ds, hds with
  | [d0, d1], _ => exact ⟨rfl, rfl, rfl⟩
theorem over : Rows.fnExactIsTraceStructureRow.holds Tryd.pinned (OpenSpec.ofChange Rows.fnExactIsTraceStructureSpec) :=
  OpenClaim.holds_of_wide 8 Tryd.f8 rfl rfl rfl rfl rfl rfl rfl ⟨rfl, rfl, rfl, rfl, rfl⟩ rfl rfl rfl rfl rfl (by kernel_rfl) Tryd.func8 (by kernel_rfl)
    (of_decide_eq_true (by kernel_rfl)) (by unfold Func.isWrapper; first | (rw [if_pos (by decide +kernel)]; kernel_rfl) | (rw [if_neg (by decide +kernel)]; exact ⟨rfl, rfl⟩))
    (fun os started H enc _ => lifted os started H enc)
end Go.Proofs.YtehljilmofgioaaDoor.fnExactIsTraceStructure
namespace Go.Proofs.YtehljilmofgioaaDoor
/-- The card. -/
theorem fnExactIsTraceStructureCard_holds : Rows.FnExactIsTraceStructureCardSaid :=
  Claim7.holds_tied_plain_at .later [] [.data] true (true, "6956cb0492c8ddf85c8cf2a704f599cd7b5fcaea89231372dbd96791aeb0122b") false fnExactIsTraceStructure.over (fun _ h => by cases h) (by kernel_rfl) (fun _ h => by cases h) fnExactIsTraceStructure_row_tie rfl ⟨rfl, rfl⟩ (by kernel_rfl) rfl
    (fun f fn hf hfn => by
      obtain rfl : f = 8 := Option.some.inj ((show Tryd.prog.funcNamed "loop.example/g01094/laws.FnExactIsTraceStructure" = some 8 by kernel_rfl).symm.trans hf) |>.symm
      obtain rfl : fn = Tryd.f8 := (Option.some.inj (Tryd.func8.symm.trans hfn)).symm
      exact ⟨by kernel_rfl, fun j t ht => by
        rw [show Tryd.f8.params = #[49, 24] by kernel_rfl] at ht
        have hm : t ∈ [49, 24] := by simpa using Array.mem_of_getElem? ht
        have hall : ([49, 24].all fun u => !Tryd.prog.wantsStandIn u) = true := by kernel_rfl
        exact (show Tryd.prog.wantsStandIn t = false by simpa using List.all_eq_true.1 hall t hm)⟩)
    (by kernel_rfl)
#print axioms fnExactIsTraceStructureCard_holds
end Go.Proofs.YtehljilmofgioaaDoor
