/-
  The law laws.FnExactStructureOfTraces: for every input it returns true, and the input reads as it did, where the table math/bits.deBruijn64tab holds what the program lays: the statement Rows.FnExactStructureOfTracesCardSaid.
  The condition on the table is tied to the text by the given tie; the project is a pruned copy.
-/
import Derived.Test.YthabclhldlikfaaGreatDoorRows
import Derived.Test.YthabclhldlikfaaGreatDoorCards
import Derived.Test.YthabclhldlikfaaGreatDoorTie
import Derived.Test.YthabclhldlikfaaGreatDoorAmRow
import Derived.Test.YthabclhldlikfaaGreatDoorFnMgM
import Derived.Test.YthabclhldlikfaaGreatDoorFnTA
import Derived.Test.YthabclhldlikfaaGreatDoorFnTS
import Derived.Test.YthabclhldlikfaaGreatDoorFnR
import Derived.Test.YthabclhldlikfaaGreatDoorFnUj
set_option linter.unusedVariables false
set_option linter.unusedSimpArgs false
set_option maxRecDepth 100000
set_option maxHeartbeats 1600000
namespace Go.AM
open Go.Proofs
theorem szInt64SS_le {l : List (Bool × List Int)} {left : Int} (h : RowsIn l) (h1 : left ≤ 1048576) (h2 : 0 ≤ szI left (l.length + totF l)) : RowsOkF l ∧ RowsOk (l.map Prod.snd) ∧ szI left (l.length + totF l) ≤ 1048576 := by
  have e : szI left (l.length + totF l) = left - (l.length + totF l : Nat) := by unfold szI at *; split <;> omega
  rw [e] at h2 ⊢
  have hk : RowsOkF l := ⟨by omega, fun r hr => by
    have := totF_mem r hr
    exact listOk_of (h.2 r hr) (by omega)⟩
  refine ⟨hk, ⟨by simp; omega, by rw [total_totF]; omega, fun r hr => ?_⟩, by omega⟩
  obtain ⟨p, hp, rfl⟩ := List.mem_map.1 hr
  exact hk.2 p hp
theorem StructureOfTraces_fits (x : AlphaV) (rs : List (List Int)) : StructureOk (structV x rs).1 := by
  by_cases hf : isFin x rs = true
  · have hal := (isFin_rows hf).1
    have hs := structV_sm (rs := rs) hal
    have hk := hs.k
    have hb := hs.b
    have hc := hs.c
    refine ⟨⟨by unfold Fits; omega, fun y hy => ?_⟩, ⟨by unfold Fits; omega, fun y hy => ?_⟩, ⟨by unfold Fits; omega, fun y hy => ?_⟩⟩
    · obtain ⟨i, hi, rfl⟩ := List.mem_iff_getElem.1 hy
      rw [← nth_at hi]; exact I64_of_M (hs.m i (by omega))
    · obtain ⟨i, hi, rfl⟩ := List.mem_iff_getElem.1 hy
      rw [← nth_at hi]; exact I64_of_M (hs.cm i (by omega))
    · obtain ⟨i, hi, rfl⟩ := List.mem_iff_getElem.1 hy
      rw [← nth_at hi]; exact hs.li i hi
  · unfold structV
    rw [if_neg hf]
    simp [StructureOk, ListOk, Fits]
theorem FnExactStructureOfTraces_spec (xb : Bool) (x : AlphaV) (h_x : AlphabetIn x) (l0 : Bool) (l : List (Bool × List Int)) (h_l : RowsIn l) : ACalls1 Tryz.prog 3 [alphaSl xb x, .sl 1 l0 (rin l)] (bv true) := by
  refine walk (fun t => t == 2 || t == 1054 || t == 2066 || t == 2069 || t == 2085) mixed Go.Proofs.Tryz.func3 rfl rfl rfl (by kernel_rfl) rfl (by simp) (by kernel_rfl) ?_
  simp
  refine ⟨_, szAlphabetL _ x _ h_x (by omega) (by omega), ?_⟩
  simp
  intro hs_x
  obtain ⟨k_x, z_x⟩ := szAlphabetL_le h_x (by omega) hs_x
  refine ⟨_, szInt64SSL _ l _ h_l (by omega) (by omega), ?_⟩
  simp
  intro hs_l
  obtain ⟨f_l, k_l, z_l⟩ := szInt64SS_le h_l (by omega) hs_l
  have hd : Fits x.depends := k_x.2.1
  have hdl : x.depends.length ≤ 1048576 := by
    unfold szAlphabetJ szI at hs_x
    split at hs_x
    · omega
    · omega
  have hrl : ∀ r ∈ l.map Prod.snd, Fits r := fun r hr => (k_l.2.2 r hr).1
  have hll : (l.map Prod.snd).length ≤ 1048576 := k_l.1
  have hto := toInt64SSL l0 l f_l
  have hbig : (l.map Prod.snd).length ≤ 2000000 := by omega
  refine ⟨_, toAlphabetL _ x k_x, ?_⟩
  simp
  refine ⟨_, hto, ?_⟩
  have hS1 := fun q => specStructureOfTraces_spec q true true x k_x.1 hd (l.map Prod.snd) hbig hrl
  have hS2 := fun q => StructureOfTraces_spec q true true x k_x.1 hd (l.map Prod.snd) hbig hrl
  have fit := StructureOfTraces_fits x (l.map Prod.snd)
  generalize structV x (l.map Prod.snd) = R at *
  generalize l.map Prod.snd = rs at *
  simp
  refine ⟨_, hS1 _, ?_⟩
  simp
  refine ⟨_, toAlphabetL _ x k_x, ?_⟩
  simp
  refine ⟨_, hto, ?_⟩
  simp
  refine ⟨_, hS2 _, ?_⟩
  simp
  refine ⟨_, eqStructureL _ _ _ _ _ _ R.1 fit, ?_⟩
  simp
  refine ⟨_, toAlphabetL _ x k_x, ?_⟩
  simp
  refine ⟨_, eqAlphabetL _ _ x k_x, ?_⟩
  simp
  first | refine ⟨⟨by kernel_rfl, by kernel_rfl⟩, ?_⟩ | exact ⟨by kernel_rfl, by kernel_rfl⟩
  refine ⟨_, hto, ?_⟩
  simp
  refine ⟨_, eqInt64SSL _ _ _ _ rs k_l, ?_⟩
  simp
  refine ⟨_, _, markAlphabetL _ x _ k_x (by omega) (by omega), ?_⟩
  simp
  refine ⟨_, _, markInt64SSL _ _ rs _ k_l (by omega) (by omega), ?_⟩
  simp
  refine ⟨_, eqStructureL _ _ _ _ _ _ R.1 fit, ?_⟩
  simp
  refine ⟨_, _, markStructureL _ _ _ R.1 _ fit (by omega) (by omega), ?_⟩
  simp
  refine ⟨_, heldStructureL _ _ _ R.1 _ fit (by omega) (by omega), ?_⟩
  simp
  refine ⟨_, toAlphabetL _ x k_x, ?_⟩
  simp
  refine ⟨_, hto, ?_⟩
  simp
  refine ⟨_, hS2 _, ?_⟩
  simp
  refine ⟨_, eqStructureL _ _ _ _ _ _ R.1 fit, ?_⟩
  simp
  refine ⟨_, heldStructureL _ _ _ R.1 _ fit (by omega) (by omega), ?_⟩
  simp
namespace LawOf
theorem fnExactStructureOfTraces (a : (Int × (Bool × List Int) × Unit) × (Bool × List (Bool × List Int)) × Unit) (h : ((Lit.int .i64 a.1.1).wf = true ∧ (a.1.2.1.2.length ≤ maxLen ∧ ∀ x1 ∈ a.1.2.1.2, (Lit.int .i64 x1).wf = true) ∧ True) ∧ (a.2.1.2.length ≤ maxLen ∧ ∀ x3 ∈ a.2.1.2, (x3.2.length ≤ maxLen ∧ ∀ x4 ∈ x3.2, (Lit.int .i64 x4).wf = true)) ∧ True) :
    ACalls1 Go.Proofs.Tryz.prog 3 [AV.agg ([AV.val (.int .i64 a.1.1)] ++ ([AV.sl 1 a.1.2.1.1 (a.1.2.1.2.flatMap fun y2 => [AV.val (.int .i64 y2)])] ++ [])), AV.sl 1 a.2.1.1 (a.2.1.2.flatMap fun y5 => [AV.sl 1 y5.1 (y5.2.flatMap fun y6 => [AV.val (.int .i64 y6)])])] (bv true) := by
  obtain ⟨⟨x_0, ⟨xb, x_1⟩, _⟩, ⟨l0, l⟩, _⟩ := a
  simp only [flat_ints]
  rw [show (List.flatMap (fun y5 => [AV.sl 1 y5.fst (List.map iv y5.snd)]) l) = rin l from rfl]
  exact FnExactStructureOfTraces_spec xb ⟨x_0, x_1⟩ ⟨i64_of_wf h.1.1, h.1.2.1⟩ l0 l h.2.1
end LawOf
end Go.AM
namespace Go.Proofs.YthabclhldlikfaaGreatDoor.fnExactStructureOfTraces
open Go.ChangeShapes Go.WideShapes Go.ChangeAt Go.RowKit Go.AM
theorem own : ownKnob Tryz.prog.godebug = none := by kernel_rfl
theorem laidOut : laidOutB Tryz.prog = true := by kernel_rfl
theorem gN : Tryz.prog.globalNamed "math/bits.deBruijn64tab" = some 0 := by kernel_rfl
theorem gTy : (Tryz.prog.globals[0]?).map (·.type) = some 198 := by kernel_rfl
theorem gok (W : World) (h : laidMetH Tryz.prog [("math/bits.deBruijn64tab", Rows.laid_math_bits_deBruijn64tab)] W) : GOK Tryz.prog W (oldI W) := by
  rw [MakeChecks.laidMetH_plain _ _ _ (by kernel_rfl)] at h
  exact gok_tz gN (Lib.tabIs_of_head (rest := []) gN gTy Tryz.underlying198 Tryz.underlying5 (by kernel_rfl) (by kernel_rfl) h)
theorem door_met (os : Os) (args : Array Value) : laidMetH Tryz.prog [("math/bits.deBruijn64tab", Rows.laid_math_bits_deBruijn64tab)] ((World.doorLaid Tryz.prog 14 os).forCall (fun _ _ => 0) ⟨#[], args, []⟩).memory :=
  laidMetH_of_parts3 (fuel := 8) (laidMet_of_run' 8 (by kernel_rfl) (by kernel_rfl)) (by kernel_rfl) (by kernel_rfl)
theorem lifted (os : Os) (started : os.Started) (H : Type) (enc : TypeId × Value → H) :
    ReturnsInHanded {} Tryz.checked os 3 .any (fun w args => (Rows.fnExactStructureOfTracesSpec.pre enc Tryz.prog Tryz.f3 [] false w args ∧ laidMetH Tryz.prog [("math/bits.deBruijn64tab", Rows.laid_math_bits_deBruijn64tab)] w) ∧ sizedMet enc Tryz.prog Tryz.f3 (OpenSpec.ofChange Rows.fnExactStructureOfTracesSpec) false w args)
      (Rows.fnExactStructureOfTracesSpec.post enc Tryz.prog Tryz.f3 false true false false) := by
  have hopen := (show OpensL Tryz.prog [24, 25] _ _ from (opensL_cons (opensA_struct Tryz.underlying24 (opens_struct Tryz.underlying24 (by kernel_rfl) (opensF_cons (n := 1) rfl (by kernel_rfl) (opens_int (k := .i64) Tryz.underlying2) (opensF_cons (n := 1) rfl (by kernel_rfl) (opens_slice (n := 1) Tryz.underlying22 (by kernel_rfl) (opens_int (k := .i64) Tryz.underlying2) (fun _ => rfl)) opensF_nil)))) (opensL_cons (opensA_slice Tryz.underlying25 (opens_slice (n := 1) Tryz.underlying25 (by kernel_rfl) (opens_slice (n := 1) Tryz.underlying22 (by kernel_rfl) (opens_int (k := .i64) Tryz.underlying2) (fun _ => rfl)) (fun _ => rfl))) opensL_nil)))
  refine lift_laid (L := [("math/bits.deBruijn64tab", Rows.laid_math_bits_deBruijn64tab)]) (rt := 4) (C := Tryz.checked) (fn := Tryz.f3) hopen (fun a h => LawOf.fnExactStructureOfTraces a h) gok ?_ own started Tryz.func3 rfl (by kernel_rfl) rfl Tryz.underlying4 laidOut (by kernel_rfl)
    (ChangeSpec.witness_shaped (enc := enc) (C := Tryz.checked) (os := os) (X := fun w _ => laidMetH Tryz.prog [("math/bits.deBruijn64tab", Rows.laid_math_bits_deBruijn64tab)] w) false (World.doorLaid Tryz.prog 14 os) #[(Value.agg #[(Value.int .i64 0), (Value.slice none 0 0)]), (Value.slice none 0 0)] 8 rfl (World.shaped_of_RefB (by kernel_rfl) (by kernel_rfl)) (by kernel_rfl) (by kernel_rfl) (by kernel_rfl) (door_met os _))
  intro H ds hds
  match ds, hds with
  | [d0, d1], _ => exact ⟨rfl, rfl, rfl⟩
theorem over : Rows.fnExactStructureOfTracesRow.holds Tryz.pinned (OpenSpec.ofChange Rows.fnExactStructureOfTracesSpec) :=
  OpenClaim.holds_of_wide 3 Tryz.f3 rfl rfl rfl rfl rfl rfl rfl ⟨rfl, rfl, rfl, rfl, rfl⟩ rfl rfl rfl rfl rfl (by kernel_rfl) Tryz.func3 (by kernel_rfl)
    (of_decide_eq_true (by kernel_rfl)) (by unfold Func.isWrapper; first | (rw [if_pos (by decide +kernel)]; kernel_rfl) | (rw [if_neg (by decide +kernel)]; exact ⟨rfl, rfl⟩))
    (fun os started H enc _ => lifted os started H enc)
end Go.Proofs.YthabclhldlikfaaGreatDoor.fnExactStructureOfTraces
namespace Go.Proofs.YthabclhldlikfaaGreatDoor
/-- The card. -/
theorem fnExactStructureOfTracesCard_holds : Rows.FnExactStructureOfTracesCardSaid :=
  Claim7.holds_tied_plain_at .later [] [.data] true (true, "74247c04aa4733983e0e43a80e9bb559cf15dd0b05887c89031cd735b998c015") false fnExactStructureOfTraces.over (fun _ h => by cases h) (by kernel_rfl) (fun _ h => by cases h) fnExactStructureOfTraces_row_tie rfl ⟨rfl, rfl⟩ (by kernel_rfl) rfl
    (fun f fn hf hfn => by
      obtain rfl : f = 3 := Option.some.inj ((show Tryz.prog.funcNamed "loop.example/g01094/laws.FnExactStructureOfTraces" = some 3 by kernel_rfl).symm.trans hf) |>.symm
      obtain rfl : fn = Tryz.f3 := (Option.some.inj (Tryz.func3.symm.trans hfn)).symm
      exact ⟨by kernel_rfl, fun j t ht => by
        rw [show Tryz.f3.params = #[24, 25] by kernel_rfl] at ht
        have hm : t ∈ [24, 25] := by simpa using Array.mem_of_getElem? ht
        have hall : ([24, 25].all fun u => !Tryz.prog.wantsStandIn u) = true := by kernel_rfl
        exact (show Tryz.prog.wantsStandIn t = false by simpa using List.all_eq_true.1 hall t hm)⟩)
    (by kernel_rfl)
#print axioms fnExactStructureOfTracesCard_holds
end Go.Proofs.YthabclhldlikfaaGreatDoor
