/-
  The law laws.FnExactCountOrders: for every input it returns true, and the input reads as it did, where the table math/bits.deBruijn64tab holds what the program lays: the statement Rows.FnExactCountOrdersCardSaid.
  The condition on the table is tied to the text by the given tie; the project is a pruned copy.
-/
import Derived.Test.YtehljilmofgioaaDoorRows
import Derived.Test.YtehljilmofgioaaDoorCards
import Derived.Test.YtehljilmofgioaaDoorTie
import Derived.Test.YtehljilmofgioaaDoorAmRow
import Derived.Test.YtehljilmofgioaaDoorAmRep
import Derived.Test.YtehljilmofgioaaDoorAmState
import Derived.Test.YtehljilmofgioaaDoorAmOps
import Derived.Test.YtehljilmofgioaaDoorAmCall
import Derived.Test.YtehljilmofgioaaDoorAmOwn
import Derived.Test.YtehljilmofgioaaDoorAmCode
import Derived.Test.YtehljilmofgioaaDoorAmDraw
import Derived.Test.YtehljilmofgioaaDoorAmPure
import Derived.Test.YtehljilmofgioaaDoorAmOut
import Derived.Test.YtehljilmofgioaaDoorAmTac
import Derived.Test.YtehljilmofgioaaDoorAmRow
import Derived.Test.YtehljilmofgioaaDoorAmList
import Derived.Test.YtehljilmofgioaaDoorAmTy
import Derived.Test.YtehljilmofgioaaDoorFnBits
import Derived.Test.YtehljilmofgioaaDoorFnA
import Derived.Test.YtehljilmofgioaaDoorFnC
import Derived.Test.YtehljilmofgioaaDoorFnPop
import Derived.Test.YtehljilmofgioaaDoorFnB
import Derived.Test.YtehljilmofgioaaDoorFnD
import Derived.Test.YtehljilmofgioaaDoorFnE
import Derived.Test.YtehljilmofgioaaDoorFnF
import Derived.Test.YtehljilmofgioaaDoorFnL
import Derived.Test.YtehljilmofgioaaDoorFnK
import Derived.Test.YtehljilmofgioaaDoorFnTS
import Derived.Test.YtehljilmofgioaaDoorFnS
import Derived.Test.YtehljilmofgioaaDoorFnU
import Derived.Test.YtehljilmofgioaaDoorFnV
import Derived.Test.YtehljilmofgioaaDoorFnM
import Derived.Test.YtehljilmofgioaaDoorFnW
import Derived.Test.YtehljilmofgioaaDoorFnX
import Derived.Test.YtehljilmofgioaaDoorFnOa
import Derived.Test.YtehljilmofgioaaDoorFnOb
import Derived.Test.YtehljilmofgioaaDoorFnOc
import Derived.Test.YtehljilmofgioaaDoorFnOd
import Derived.Test.YtehljilmofgioaaDoorFnOe
import Derived.Test.YtehljilmofgioaaDoorFnOf
set_option linter.unusedVariables false
set_option linter.unusedSimpArgs false
set_option maxRecDepth 100000
set_option maxHeartbeats 1600000
namespace Go.AM
open Go.Proofs
theorem FnExactCountOrders_spec (s0 s1 s2 : Bool) (s : StrucV) (h_s : StructureIn s) (c : Int) (h_c : I64 c) : ACalls1 Tryd.prog 4 [strucSl s0 s1 s2 s, iv c] (bv true) := by
  refine walk (fun t => t == 2 || t == 1039) mixed Go.Proofs.Tryd.func4 rfl rfl rfl (by kernel_rfl) rfl (by simp) (by kernel_rfl) ?_
  simp
  refine ⟨_, szStructureL _ _ _ s _ h_s (by omega) (by omega), ?_⟩
  simp
  intro hs_s
  obtain ⟨k_s, z_s⟩ := szStructureL_le h_s (by omega) hs_s
  refine ⟨_, toStructureL _ _ _ s k_s, ?_⟩
  simp
  refine ⟨_, specCountOrders_spec _ _ _ s k_s c h_c, ?_⟩
  generalize hR : countOrdersV s c = R at *
  simp
  refine ⟨_, toStructureL _ _ _ s k_s, ?_⟩
  simp
  refine ⟨_, CountOrders_spec _ _ _ s k_s c h_c, ?_⟩
  rw [hR]
  simp
  refine ⟨_, toStructureL _ _ _ s k_s, ?_⟩
  simp
  refine ⟨_, eqStructureL _ _ _ _ _ _ s k_s, ?_⟩
  simp
  first | refine ⟨⟨by kernel_rfl, by kernel_rfl⟩, ?_⟩ | exact ⟨by kernel_rfl, by kernel_rfl⟩
namespace LawOf
theorem fnExactCountOrders (a : ((Bool × List Int) × (Bool × List Int) × (Bool × List Int) × Unit) × Int × Unit) (h : ((a.1.1.2.length ≤ maxLen ∧ ∀ x1 ∈ a.1.1.2, (Lit.int .i64 x1).wf = true) ∧ (a.1.2.1.2.length ≤ maxLen ∧ ∀ x2 ∈ a.1.2.1.2, (Lit.int .i64 x2).wf = true) ∧ (a.1.2.2.1.2.length ≤ maxLen ∧ ∀ x3 ∈ a.1.2.2.1.2, (Lit.int .i64 x3).wf = true) ∧ True) ∧ (Lit.int .i64 a.2.1).wf = true ∧ True) :
    ACalls1 Go.Proofs.Tryd.prog 4 [AV.agg ([AV.sl 1 a.1.1.1 (a.1.1.2.flatMap fun y4 => [AV.val (.int .i64 y4)])] ++ ([AV.sl 1 a.1.2.1.1 (a.1.2.1.2.flatMap fun y5 => [AV.val (.int .i64 y5)])] ++ ([AV.sl 1 a.1.2.2.1.1 (a.1.2.2.1.2.flatMap fun y6 => [AV.val (.int .i64 y6)])] ++ []))), AV.val (.int .i64 a.2.1)] (bv true) := by
  obtain ⟨⟨⟨s0, s_0⟩, ⟨s1, s_1⟩, ⟨s2, s_2⟩, _⟩, c, _⟩ := a
  simp only [flat_ints, flat_rows]
  exact FnExactCountOrders_spec s0 s1 s2 ⟨s_0, s_1, s_2⟩ ⟨h.1.1, h.1.2.1, h.1.2.2.1⟩ c (i64_of_wf h.2.1)
end LawOf
end Go.AM
namespace Go.Proofs.YtehljilmofgioaaDoor.fnExactCountOrders
open Go.ChangeShapes Go.WideShapes Go.ChangeAt Go.RowKit Go.AM
theorem own : ownKnob Tryd.prog.godebug = none := by kernel_rfl
theorem laidOut : laidOutB Tryd.prog = true := by kernel_rfl
theorem gN : Tryd.prog.globalNamed "math/bits.deBruijn64tab" = some 0 := by kernel_rfl
theorem gTy : (Tryd.prog.globals[0]?).map (·.type) = some 95 := by kernel_rfl
theorem gok (W : World) (h : laidMetH Tryd.prog [("math/bits.deBruijn64tab", Rows.laid_math_bits_deBruijn64tab)] W) : GOK Tryd.prog W (oldI W) := by
  rw [MakeChecks.laidMetH_plain _ _ _ (by kernel_rfl)] at h
  exact gok_tz gN (Lib.tabIs_of_head (rest := []) gN gTy Tryd.underlying95 Tryd.underlying5 (by kernel_rfl) (by kernel_rfl) h)
theorem door_met (os : Os) (args : Array Value) : laidMetH Tryd.prog [("math/bits.deBruijn64tab", Rows.laid_math_bits_deBruijn64tab)] ((World.doorLaid Tryd.prog 14 os).forCall (fun _ _ => 0) ⟨#[], args, []⟩).memory :=
  laidMetH_of_parts3 (fuel := 8) (laidMet_of_run' 8 (by kernel_rfl) (by kernel_rfl)) (by kernel_rfl) (by kernel_rfl)
theorem lifted (os : Os) (started : os.Started) (H : Type) (enc : TypeId × Value → H) :
    ReturnsInHanded {} Tryd.checked os 4 .any (fun w args => (Rows.fnExactCountOrdersSpec.pre enc Tryd.prog Tryd.f4 [] false w args ∧ laidMetH Tryd.prog [("math/bits.deBruijn64tab", Rows.laid_math_bits_deBruijn64tab)] w) ∧ sizedMet enc Tryd.prog Tryd.f4 (OpenSpec.ofChange Rows.fnExactCountOrdersSpec) false w args)
      (Rows.fnExactCountOrdersSpec.post enc Tryd.prog Tryd.f4 false true false false) := by
  have hopen := (show OpensL Tryd.prog [24, 2] _ _ from (opensL_cons (opensA_struct Tryd.underlying24 (opens_struct Tryd.underlying24 (by kernel_rfl) (opensF_cons (n := 1) rfl (by kernel_rfl) (opens_slice (n := 1) Tryd.underlying22 (by kernel_rfl) (opens_int (k := .i64) Tryd.underlying2) (fun _ => rfl)) (opensF_cons (n := 1) rfl (by kernel_rfl) (opens_slice (n := 1) Tryd.underlying22 (by kernel_rfl) (opens_int (k := .i64) Tryd.underlying2) (fun _ => rfl)) (opensF_cons (n := 1) rfl (by kernel_rfl) (opens_slice (n := 1) Tryd.underlying22 (by kernel_rfl) (opens_int (k := .i64) Tryd.underlying2) (fun _ => rfl)) opensF_nil))))) (opensL_cons (opensA_int (k := .i64) Tryd.underlying2) opensL_nil)))
  refine lift_laid (L := [("math/bits.deBruijn64tab", Rows.laid_math_bits_deBruijn64tab)]) (rt := 4) (C := Tryd.checked) (fn := Tryd.f4) hopen (fun a h => LawOf.fnExactCountOrders a h) gok ?_ own started Tryd.func4 rfl (by kernel_rfl) rfl Tryd.underlying4 laidOut (by kernel_rfl)
    (ChangeSpec.witness_shaped (enc := enc) (C := Tryd.checked) (os := os) (X := fun w _ => laidMetH Tryd.prog [("math/bits.deBruijn64tab", Rows.laid_math_bits_deBruijn64tab)] w) false (World.doorLaid Tryd.prog 14 os) #[(Value.agg #[(Value.slice none 0 0), (Value.slice none 0 0), (Value.slice none 0 0)]), (Value.int .i64 0)] 8 rfl (World.shaped_of_RefB (by kernel_rfl) (by kernel_rfl)) (by kernel_rfl) (by kernel_rfl) (by kernel_rfl) (door_met os _))
  intro H ds hds
  match ds, hds with
  | [d0, d1], _ => exact ⟨rfl, rfl, rfl⟩
theorem over : Rows.fnExactCountOrdersRow.holds Tryd.pinned (OpenSpec.ofChange Rows.fnExactCountOrdersSpec) :=
  OpenClaim.holds_of_wide 4 Tryd.f4 rfl rfl rfl rfl rfl rfl rfl ⟨rfl, rfl, rfl, rfl, rfl⟩ rfl rfl rfl rfl rfl (by kernel_rfl) Tryd.func4 (by kernel_rfl)
    (of_decide_eq_true (by kernel_rfl)) (by unfold Func.isWrapper; first | (rw [if_pos (by decide +kernel)]; kernel_rfl) | (rw [if_neg (by decide +kernel)]; exact ⟨rfl, rfl⟩))
    (fun os started H enc _ => lifted os started H enc)
end Go.Proofs.YtehljilmofgioaaDoor.fnExactCountOrders
namespace Go.Proofs.YtehljilmofgioaaDoor
/-- The card. -/
theorem fnExactCountOrdersCard_holds : Rows.FnExactCountOrdersCardSaid :=
  Claim7.holds_tied_plain_at .later [] [.data] true (true, "6956cb0492c8ddf85c8cf2a704f599cd7b5fcaea89231372dbd96791aeb0122b") false fnExactCountOrders.over (fun _ h => by cases h) (by kernel_rfl) (fun _ h => by cases h) fnExactCountOrders_row_tie rfl ⟨rfl, rfl⟩ (by kernel_rfl) rfl
    (fun f fn hf hfn => by
      obtain rfl : f = 4 := Option.some.inj ((show Tryd.prog.funcNamed "loop.example/g01094/laws.FnExactCountOrders" = some 4 by kernel_rfl).symm.trans hf) |>.symm
      obtain rfl : fn = Tryd.f4 := (Option.some.inj (Tryd.func4.symm.trans hfn)).symm
      exact ⟨by kernel_rfl, fun j t ht => by
        rw [show Tryd.f4.params = #[24, 2] by kernel_rfl] at ht
        have hm : t ∈ [24, 2] := by simpa using Array.mem_of_getElem? ht
        have hall : ([24, 2].all fun u => !Tryd.prog.wantsStandIn u) = true := by kernel_rfl
        exact (show Tryd.prog.wantsStandIn t = false by simpa using List.all_eq_true.1 hall t hm)⟩)
    (by kernel_rfl)
#print axioms fnExactCountOrdersCard_holds
end Go.Proofs.YtehljilmofgioaaDoor
