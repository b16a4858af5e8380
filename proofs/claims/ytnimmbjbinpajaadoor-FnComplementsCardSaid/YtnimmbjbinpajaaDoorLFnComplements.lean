/-
  The law laws.FnComplements: for every input it returns true, and the input reads as it did, where the table math/bits.deBruijn64tab holds what the program lays: the statement Rows.FnComplementsCardSaid.
  The condition on the table is tied to the text by the given tie; the project is a pruned copy.
-/
import Derived.Test.YtnimmbjbinpajaaDoorRows
import Derived.Test.YtnimmbjbinpajaaDoorCards
import Derived.Test.YtnimmbjbinpajaaDoorTie
import Derived.Test.YtnimmbjbinpajaaDoorAmRow
import Derived.Test.YtnimmbjbinpajaaDoorFnCp
import Derived.Test.YtnimmbjbinpajaaDoorFnCq
import Derived.Test.YtnimmbjbinpajaaDoorFnCr
import Derived.Test.YtnimmbjbinpajaaDoorFnNo
set_option linter.unusedVariables false
set_option linter.unusedSimpArgs false
set_option maxRecDepth 100000
set_option maxHeartbeats 1600000
namespace Go.AM
open Go.Proofs
theorem FnComplements_spec (nn : Bool) (l : List Int) (hl : CodeIn l) : ACalls1 Tryd.prog 5 [.sl 1 nn (bys l)] (bv true) := by
  refine walk (fun t => t == 7026 || t == 1093 || t == 2096 || t == 3078) mixed Go.Proofs.Tryd.func5 rfl rfl rfl (by kernel_rfl) rfl (by simp) (by kernel_rfl) ?_
  simp
  refine ⟨_, big_spec nn l, ?_⟩
  simp
  intro hb
  refine ⟨_, DrawWithComplements_spec nn l (bysOk_of hl (by omega)), ?_⟩
  rintro _ _ ⟨x, ⟨x1, x2, x3, x4, x5, x6, x7⟩, rfl⟩
  have hx : NetOk x := ⟨by unfold I64; omega, ⟨by unfold Fits; omega, x6⟩, ⟨by unfold Fits; omega, x7⟩, x3⟩
  have hf := WithComplements_fits x hx
  have hz : (withComplementsV x).2 ≠ 0 → (withComplementsV x).1 = ⟨0, [], [], 0⟩ := by
    unfold withComplementsV; split
    · split <;> simp
    · simp
  simp
  refine ⟨_, WithComplements_spec _ _ x hx, ?_⟩
  simp
  refine ⟨_, specWithComplements_spec _ _ x hx, ?_⟩
  simp
  refine ⟨fun h0 => ?_, fun h0 => ?_⟩
  · rw [hz h0]; simp
  have hc4 := co_contact h0
  have hcn := co_none h0
  obtain ⟨P, hA, hmz, hce⟩ := coAll h0
  have haut := co_runAut hA
  generalize hout : (withComplementsV x).1 = out at *
  refine ⟨_, ContactOf_spec _ _ out hf, ?_⟩
  simp
  refine ⟨_, ContactOf_spec _ _ x hx, ?_⟩
  simp [hc4]
  have hxs : I64 x.s := x3
  have hfs : I64 out.s := hf.2.2.2
  refine ⟨fun hq => ⟨hcn hq, fun _ => ?_⟩, fun hq => ?_⟩
  all_goals
    refine ⟨_, RunAutomaton_spec _ _ x hx, ?_⟩
    simp
    refine ⟨_, RunAutomaton_spec _ _ out hf, ?_⟩
    rw [haut]
    simp
    rcases co_code hA with ⟨e0, eL, eN⟩ | e3
    rotate_left
    · simp [e3]
    have hst : AutOk (runAutV x).1 := by
      obtain ⟨a1, a2, a3, a4, a5, a6⟩ := RunAutomaton_fits x hx
      exact ⟨a1, a2, a3, by omega, fun r hr => (a6 r hr).1⟩
    have hlb := bysOk_of hl (by omega)
    obtain ⟨s', w, hs', hwl, hwr, hW⟩ := walk9_spec nn l (roll0 172 l) (roll0_ok hlb) false true (runAutV x).1 hst 8 (by omega) (by omega)
    have hwl' : w.length ≤ 8 := hwl
    have hwOk : ListOk w := ⟨by unfold Fits; omega, fun y hy => by have := hwr y hy; rw [eL] at this; unfold I64; omega⟩
    obtain ⟨f1, f2⟩ := co_fire hA w (by omega) fun y hy => by have := hwr y hy; rw [eL] at this; exact this
    simp [e0]
    refine ⟨_, roll_spec nn l hlb 172 (by omega) (by omega), ?_⟩
    simp
    refine ⟨_, _, hW, ?_⟩
    simp
    first | refine ⟨⟨by kernel_rfl, by kernel_rfl⟩, ?_⟩ | exact ⟨by kernel_rfl, by kernel_rfl⟩
    refine ⟨_, FireWord_spec _ _ x hx _ hxs _ w hwOk, ?_⟩
    simp
    refine ⟨_, FireWord_spec _ _ out hf _ hfs _ w hwOk, ?_⟩
    simp
    refine ⟨_, same9_spec _ _ _ _ (runAutV x).1 (by omega) (co_rows hA), ?_⟩
    rw [f1]
    simp
    intro hz0
    have hp := hA.hP
    have h12 := hA.l12
    have e := f2 hz0
    refine ⟨by omega, ?_⟩
    rw [← e]
    congr 1
    unfold full pow1
    rw [if_pos (by omega), show min x.p.toNat 64 = x.p.toNat by omega]
namespace LawOf
theorem fnComplements (a : (Bool × List Int) × Unit) (h : (a.1.2.length ≤ maxLen ∧ ∀ x1 ∈ a.1.2, (Lit.int .u8 x1).wf = true) ∧ True) :
    ACalls1 Go.Proofs.Tryd.prog 5 [AV.sl 1 a.1.1 (a.1.2.flatMap fun y3 => [AV.val (.int .u8 y3)])] (bv true) := by
  obtain ⟨⟨nn, l⟩, _⟩ := a
  simp only [flat_bys]
  exact FnComplements_spec nn l h.1
end LawOf
end Go.AM
namespace Go.Proofs.YtnimmbjbinpajaaDoor.fnComplements
open Go.ChangeShapes Go.WideShapes Go.ChangeAt Go.RowKit Go.AM
theorem own : ownKnob Tryd.prog.godebug = none := by kernel_rfl
theorem laidOut : laidOutB Tryd.prog = true := by kernel_rfl
theorem gN : Tryd.prog.globalNamed "math/bits.deBruijn64tab" = some 0 := by kernel_rfl
theorem gTy : (Tryd.prog.globals[0]?).map (·.type) = some 197 := by kernel_rfl
theorem gok (W : World) (h : laidMetH Tryd.prog [("math/bits.deBruijn64tab", Rows.laid_math_bits_deBruijn64tab)] W) : GOK Tryd.prog W (oldI W) := by
  rw [MakeChecks.laidMetH_plain _ _ _ (by kernel_rfl)] at h
  exact gok_tz gN (Lib.tabIs_of_head (rest := []) gN gTy Tryd.underlying197 Tryd.underlying5 (by kernel_rfl) (by kernel_rfl) h)
theorem door_met (os : Os) (args : Array Value) : laidMetH Tryd.prog [("math/bits.deBruijn64tab", Rows.laid_math_bits_deBruijn64tab)] ((World.doorLaid Tryd.prog 14 os).forCall (fun _ _ => 0) ⟨#[], args, []⟩).memory :=
  laidMetH_of_parts3 (fuel := 8) (laidMet_of_run' 8 (by kernel_rfl) (by kernel_rfl)) (by kernel_rfl) (by kernel_rfl)
theorem lifted (os : Os) (started : os.Started) (H : Type) (enc : TypeId × Value → H) :
    ReturnsInHanded {} Tryd.checked os 5 .any (fun w args => (Rows.fnComplementsSpec.pre enc Tryd.prog Tryd.f5 [] false w args ∧ laidMetH Tryd.prog [("math/bits.deBruijn64tab", Rows.laid_math_bits_deBruijn64tab)] w) ∧ sizedMet enc Tryd.prog Tryd.f5 (OpenSpec.ofChange Rows.fnComplementsSpec) false w args)
      (Rows.fnComplementsSpec.post enc Tryd.prog Tryd.f5 false true false false) := by
  have hopen := (show OpensL Tryd.prog [49] _ _ from (opensL_cons (opensA_slice Tryd.underlying49 (opens_slice (n := 1) Tryd.underlying49 (by kernel_rfl) (opens_int (k := .u8) Tryd.underlying5) (fun _ => rfl))) opensL_nil))
  refine lift_laid (L := [("math/bits.deBruijn64tab", Rows.laid_math_bits_deBruijn64tab)]) (rt := 4) (C := Tryd.checked) (fn := Tryd.f5) hopen (fun a h => LawOf.fnComplements a h) gok ?_ own started Tryd.func5 rfl (by kernel_rfl) rfl Tryd.underlying4 laidOut (by kernel_rfl)
    (ChangeSpec.witness_shaped (enc := enc) (C := Tryd.checked) (os := os) (X := fun w _ => laidMetH Tryd.prog [("math/bits.deBruijn64tab", Rows.laid_math_bits_deBruijn64tab)] w) false (World.doorLaid Tryd.prog 14 os) #[(Value.slice none 0 0)] 8 rfl (World.shaped_of_RefB (by kernel_rfl) (by kernel_rfl)) (by kernel_rfl) (by kernel_rfl) (by kernel_rfl) (door_met os _))
  intro H ds hds
  match ds, hds with
  | [d0], _ => exact ⟨rfl, rfl, rfl⟩
theorem over : Rows.fnComplementsRow.holds Tryd.pinned (OpenSpec.ofChange Rows.fnComplementsSpec) :=
  OpenClaim.holds_of_wide 5 Tryd.f5 rfl rfl rfl rfl rfl rfl rfl ⟨rfl, rfl, rfl, rfl, rfl⟩ rfl rfl rfl rfl rfl (by kernel_rfl) Tryd.func5 (by kernel_rfl)
    (of_decide_eq_true (by kernel_rfl)) (by unfold Func.isWrapper; first | (rw [if_pos (by decide +kernel)]; kernel_rfl) | (rw [if_neg (by decide +kernel)]; exact ⟨rfl, rfl⟩))
    (fun os started H enc _ => lifted os started H enc)
end Go.Proofs.YtnimmbjbinpajaaDoor.fnComplements
namespace Go.Proofs.YtnimmbjbinpajaaDoor
/-- The card. -/
theorem fnComplementsCard_holds : Rows.FnComplementsCardSaid :=
  Claim7.holds_tied_plain_at .later [] [.data] true (true, "bdad98c0bdd52574cb2b5cad38dfdb117306ce9ff376b3df8cbc4cc5fe63900d") false fnComplements.over (fun _ h => by cases h) (by kernel_rfl) (fun _ h => by cases h) fnComplements_row_tie rfl ⟨rfl, rfl⟩ (by kernel_rfl) rfl
    (fun f fn hf hfn => by
      obtain rfl : f = 5 := Option.some.inj ((show Tryd.prog.funcNamed "loop.example/g01094/laws.FnComplements" = some 5 by kernel_rfl).symm.trans hf) |>.symm
      obtain rfl : fn = Tryd.f5 := (Option.some.inj (Tryd.func5.symm.trans hfn)).symm
      exact ⟨by kernel_rfl, fun j t ht => by
        rw [show Tryd.f5.params = #[49] by kernel_rfl] at ht
        have hm : t ∈ [49] := by simpa using Array.mem_of_getElem? ht
        have hall : ([49].all fun u => !Tryd.prog.wantsStandIn u) = true := by kernel_rfl
        exact (show Tryd.prog.wantsStandIn t = false by simpa using List.all_eq_true.1 hall t hm)⟩)
    (by kernel_rfl)
#print axioms fnComplementsCard_holds
end Go.Proofs.YtnimmbjbinpajaaDoor
