/-
  The law laws.FnExactNewerByLabels: for every input it returns true, and the input reads as it did, where the table math/bits.deBruijn64tab holds what the program lays: the statement Rows.FnExactNewerByLabelsCardSaid.
  The condition on the table is tied to the text by the given tie; the project is a pruned copy.
-/
import Derived.Test.YtfkplolefaijiaaDoorRows
import Derived.Test.YtfkplolefaijiaaDoorCards
import Derived.Test.YtfkplolefaijiaaDoorTie
import Derived.Test.YtfkplolefaijiaaDoorAmRow
import Derived.Test.YtfkplolefaijiaaDoorAmRep
import Derived.Test.YtfkplolefaijiaaDoorAmState
import Derived.Test.YtfkplolefaijiaaDoorAmOps
import Derived.Test.YtfkplolefaijiaaDoorAmCall
import Derived.Test.YtfkplolefaijiaaDoorAmOwn
import Derived.Test.YtfkplolefaijiaaDoorAmCode
import Derived.Test.YtfkplolefaijiaaDoorAmDraw
import Derived.Test.YtfkplolefaijiaaDoorAmPure
import Derived.Test.YtfkplolefaijiaaDoorAmOut
import Derived.Test.YtfkplolefaijiaaDoorAmTac
import Derived.Test.YtfkplolefaijiaaDoorAmRow
import Derived.Test.YtfkplolefaijiaaDoorAmList
import Derived.Test.YtfkplolefaijiaaDoorAmTy
import Derived.Test.YtfkplolefaijiaaDoorFnBits
import Derived.Test.YtfkplolefaijiaaDoorFnA
import Derived.Test.YtfkplolefaijiaaDoorFnC
import Derived.Test.YtfkplolefaijiaaDoorFnPop
import Derived.Test.YtfkplolefaijiaaDoorFnB
import Derived.Test.YtfkplolefaijiaaDoorFnD
import Derived.Test.YtfkplolefaijiaaDoorFnE
import Derived.Test.YtfkplolefaijiaaDoorFnF
import Derived.Test.YtfkplolefaijiaaDoorFnG
import Derived.Test.YtfkplolefaijiaaDoorFnTA
import Derived.Test.YtfkplolefaijiaaDoorFnH
import Derived.Test.YtfkplolefaijiaaDoorFnL
import Derived.Test.YtfkplolefaijiaaDoorFnK
import Derived.Test.YtfkplolefaijiaaDoorFnTS
import Derived.Test.YtfkplolefaijiaaDoorFnS
import Derived.Test.YtfkplolefaijiaaDoorFnM
import Derived.Test.YtfkplolefaijiaaDoorFnGa
import Derived.Test.YtfkplolefaijiaaDoorFnGb
import Derived.Test.YtfkplolefaijiaaDoorFnGc
import Derived.Test.YtfkplolefaijiaaDoorFnGd
import Derived.Test.YtfkplolefaijiaaDoorFnGe
import Derived.Test.YtfkplolefaijiaaDoorFnGf
import Derived.Test.YtfkplolefaijiaaDoorFnGg
import Derived.Test.YtfkplolefaijiaaDoorFnGh
import Derived.Test.YtfkplolefaijiaaDoorFnR
import Derived.Test.YtfkplolefaijiaaDoorFnGi
import Derived.Test.YtfkplolefaijiaaDoorFnGj
import Derived.Test.YtfkplolefaijiaaDoorFnGk
import Derived.Test.YtfkplolefaijiaaDoorFnGl
import Derived.Test.YtfkplolefaijiaaDoorAmWk
import Derived.Test.YtfkplolefaijiaaDoorFnGm
set_option linter.unusedVariables false
set_option linter.unusedSimpArgs false
set_option maxRecDepth 100000
set_option maxHeartbeats 1600000
namespace Go.AM
open Go.Proofs
theorem FnExactNewerByLabels_spec (n : Int) (h_n : I64 n) (placesb : Bool) (places : List Int) (h_places : Int64SIn places) (wb : Bool) (w : List Int) (h_w : Int64SIn w) (p : Int) (h_p : I64 p) (q : Int) (h_q : I64 q) (r : Int) (h_r : I64 r) : ACalls1 Tryd.prog 11 [iv n, .sl 1 placesb (ints places), .sl 1 wb (ints w), iv p, iv q, iv r] (bv true) := by
  refine walk (fun _ => false) mixed Go.Proofs.Tryd.func11 rfl rfl rfl (by kernel_rfl) rfl (by simp) (by kernel_rfl) ?_
  simp
  intro hs_places
  have k_places : ListOk places := listOk_of h_places (by omega)
  intro hs_w
  have k_w : ListOk w := listOk_of h_w (by omega)
  refine ⟨_, toInt64SL _ places k_places, ?_⟩
  simp
  refine ⟨_, toInt64SL _ w k_w, ?_⟩
  simp
  refine ⟨_, specNewerByLabels_spec n h_n _ places k_places _ w k_w p h_p q h_q r h_r, ?_⟩
  generalize hR : newerByLabelsV n places w p q r = R at *
  simp
  refine ⟨_, toInt64SL _ places k_places, ?_⟩
  simp
  refine ⟨_, toInt64SL _ w k_w, ?_⟩
  simp
  refine ⟨_, NewerByLabels_spec n h_n _ places k_places _ w k_w p h_p q h_q r h_r, ?_⟩
  rw [hR]
  simp
  refine ⟨_, toInt64SL _ places k_places, ?_⟩
  simp
  refine ⟨_, eqInt64SL _ _ places k_places, ?_⟩
  simp
  refine ⟨_, toInt64SL _ w k_w, ?_⟩
  simp
  refine ⟨_, eqInt64SL _ _ w k_w, ?_⟩
  simp
namespace LawOf
theorem fnExactNewerByLabels (a : Int × (Bool × List Int) × (Bool × List Int) × Int × Int × Int × Unit) (h : (Lit.int .i64 a.1).wf = true ∧ (a.2.1.2.length ≤ maxLen ∧ ∀ x1 ∈ a.2.1.2, (Lit.int .i64 x1).wf = true) ∧ (a.2.2.1.2.length ≤ maxLen ∧ ∀ x3 ∈ a.2.2.1.2, (Lit.int .i64 x3).wf = true) ∧ (Lit.int .i64 a.2.2.2.1).wf = true ∧ (Lit.int .i64 a.2.2.2.2.1).wf = true ∧ (Lit.int .i64 a.2.2.2.2.2.1).wf = true ∧ True) :
    ACalls1 Go.Proofs.Tryd.prog 11 [AV.val (.int .i64 a.1), AV.sl 1 a.2.1.1 (a.2.1.2.flatMap fun y2 => [AV.val (.int .i64 y2)]), AV.sl 1 a.2.2.1.1 (a.2.2.1.2.flatMap fun y4 => [AV.val (.int .i64 y4)]), AV.val (.int .i64 a.2.2.2.1), AV.val (.int .i64 a.2.2.2.2.1), AV.val (.int .i64 a.2.2.2.2.2.1)] (bv true) := by
  obtain ⟨n, ⟨placesb, places⟩, ⟨wb, w⟩, p, q, r, _⟩ := a
  simp only [flat_ints, flat_rows]
  exact FnExactNewerByLabels_spec n (i64_of_wf h.1) placesb places h.2.1 wb w h.2.2.1 p (i64_of_wf h.2.2.2.1) q (i64_of_wf h.2.2.2.2.1) r (i64_of_wf h.2.2.2.2.2.1)
end LawOf
end Go.AM
namespace Go.Proofs.YtfkplolefaijiaaDoor.fnExactNewerByLabels
open Go.ChangeShapes Go.WideShapes Go.ChangeAt Go.RowKit Go.AM
theorem own : ownKnob Tryd.prog.godebug = none := by kernel_rfl
theorem laidOut : laidOutB Tryd.prog = true := by kernel_rfl
theorem gN : Tryd.prog.globalNamed "math/bits.deBruijn64tab" = some 0 := by kernel_rfl
theorem gTy : (Tryd.prog.globals[0]?).map (·.type) = some 89 := by kernel_rfl
theorem gok (W : World) (h : laidMetH Tryd.prog [("math/bits.deBruijn64tab", Rows.laid_math_bits_deBruijn64tab)] W) : GOK Tryd.prog W (oldI W) := by
  rw [MakeChecks.laidMetH_plain _ _ _ (by kernel_rfl)] at h
  exact gok_tz gN (Lib.tabIs_of_head (rest := []) gN gTy Tryd.underlying89 Tryd.underlying5 (by kernel_rfl) (by kernel_rfl) h)
theorem door_met (os : Os) (args : Array Value) : laidMetH Tryd.prog [("math/bits.deBruijn64tab", Rows.laid_math_bits_deBruijn64tab)] ((World.doorLaid Tryd.prog 14 os).forCall (fun _ _ => 0) ⟨#[], args, []⟩).memory :=
  laidMetH_of_parts3 (fuel := 8) (laidMet_of_run' 8 (by kernel_rfl) (by kernel_rfl)) (by kernel_rfl) (by kernel_rfl)
theorem lifted (os : Os) (started : os.Started) (H : Type) (enc : TypeId × Value → H) :
    ReturnsInHanded {} Tryd.checked os 11 .any (fun w args => (Rows.fnExactNewerByLabelsSpec.pre enc Tryd.prog Tryd.f11 [] false w args ∧ laidMetH Tryd.prog [("math/bits.deBruijn64tab", Rows.laid_math_bits_deBruijn64tab)] w) ∧ sizedMet enc Tryd.prog Tryd.f11 (OpenSpec.ofChange Rows.fnExactNewerByLabelsSpec) false w args)
      (Rows.fnExactNewerByLabelsSpec.post enc Tryd.prog Tryd.f11 false true false false) := by
  have hopen := (show OpensL Tryd.prog [2, 22, 22, 2, 2, 2] _ _ from (opensL_cons (opensA_int (k := .i64) Tryd.underlying2) (opensL_cons (opensA_slice Tryd.underlying22 (opens_slice (n := 1) Tryd.underlying22 (by kernel_rfl) (opens_int (k := .i64) Tryd.underlying2) (fun _ => rfl))) (opensL_cons (opensA_slice Tryd.underlying22 (opens_slice (n := 1) Tryd.underlying22 (by kernel_rfl) (opens_int (k := .i64) Tryd.underlying2) (fun _ => rfl))) (opensL_cons (opensA_int (k := .i64) Tryd.underlying2) (opensL_cons (opensA_int (k := .i64) Tryd.underlying2) (opensL_cons (opensA_int (k := .i64) Tryd.underlying2) opensL_nil)))))))
  refine lift_laid (L := [("math/bits.deBruijn64tab", Rows.laid_math_bits_deBruijn64tab)]) (rt := 4) (C := Tryd.checked) (fn := Tryd.f11) hopen (fun a h => LawOf.fnExactNewerByLabels a h) gok ?_ own started Tryd.func11 rfl (by kernel_rfl) rfl Tryd.underlying4 laidOut (by kernel_rfl)
    (ChangeSpec.witness_shaped (enc := enc) (C := Tryd.checked) (os := os) (X := fun w _ => laidMetH Tryd.prog [("math/bits.deBruijn64tab", Rows.laid_math_bits_deBruijn64tab)] w) false (World.doorLaid Tryd.prog 14 os) #[(Value.int .i64 0), (Value.slice none 0 0), (Value.slice none 0 0), (Value.int .i64 0), (Value.int .i64 0), (Value.int .i64 0)] 8 rfl (World.shaped_of_RefB (by kernel_rfl) (by kernel_rfl)) (by kernel_rfl) (by kernel_rfl) (by kernel_rfl) (door_met os _))
  intro H ds hds
  match ds, hds with
  | [d0, d1, d2, d3, d4, d5], _ => exact ⟨rfl, rfl, rfl⟩
theorem over : Rows.fnExactNewerByLabelsRow.holds Tryd.pinned (OpenSpec.ofChange Rows.fnExactNewerByLabelsSpec) :=
  OpenClaim.holds_of_wide 11 Tryd.f11 rfl rfl rfl rfl rfl rfl rfl ⟨rfl, rfl, rfl, rfl, rfl⟩ rfl rfl rfl rfl rfl (by kernel_rfl) Tryd.func11 (by kernel_rfl)
    (of_decide_eq_true (by kernel_rfl)) (by unfold Func.isWrapper; first | (rw [if_pos (by decide +kernel)]; kernel_rfl) | (rw [if_neg (by decide +kernel)]; exact ⟨rfl, rfl⟩))
    (fun os started H enc _ => lifted os started H enc)
end Go.Proofs.YtfkplolefaijiaaDoor.fnExactNewerByLabels
namespace Go.Proofs.YtfkplolefaijiaaDoor
/-- The card. -/
theorem fnExactNewerByLabelsCard_holds : Rows.FnExactNewerByLabelsCardSaid :=
  Claim7.holds_tied_plain_at .later [] [.data] true (true, "d90f89bb11f097944a787038959fc2fc6077f768a3d5eebb9347fe332144e229") false fnExactNewerByLabels.over (fun _ h => by cases h) (by kernel_rfl) (fun _ h => by cases h) fnExactNewerByLabels_row_tie rfl ⟨rfl, rfl⟩ (by kernel_rfl) rfl
    (fun f fn hf hfn => by
      obtain rfl : f = 11 := Option.some.inj ((show Tryd.prog.funcNamed "loop.example/g01094/laws.FnExactNewerByLabels" = some 11 by kernel_rfl).symm.trans hf) |>.symm
      obtain rfl : fn = Tryd.f11 := (Option.some.inj (Tryd.func11.symm.trans hfn)).symm
      exact ⟨by kernel_rfl, fun j t ht => by
        rw [show Tryd.f11.params = #[2, 22, 22, 2, 2, 2] by kernel_rfl] at ht
        have hm : t ∈ [2, 22, 22, 2, 2, 2] := by simpa using Array.mem_of_getElem? ht
        have hall : ([2, 22, 22, 2, 2, 2].all fun u => !Tryd.prog.wantsStandIn u) = true := by kernel_rfl
        exact (show Tryd.prog.wantsStandIn t = false by simpa using List.all_eq_true.1 hall t hm)⟩)
    (by kernel_rfl)
#print axioms fnExactNewerByLabelsCard_holds
end Go.Proofs.YtfkplolefaijiaaDoor
