/-
  The law laws.FnStructureOfTraces: for every input it returns true, and the input reads as it did, where the table math/bits.deBruijn64tab holds what the program lays: the statement Rows.FnStructureOfTracesCardSaid.
  The condition on the table is tied to the text by the given tie; the project is a pruned copy.
-/
import Derived.Test.YthabclhldlikfaaGreatDoorRows
import Derived.Test.YthabclhldlikfaaGreatDoorCards
import Derived.Test.YthabclhldlikfaaGreatDoorTie
import Derived.Test.YthabclhldlikfaaGreatDoorAmRow
import Derived.Test.YthabclhldlikfaaGreatDoorFnMgM
import Derived.Test.YthabclhldlikfaaGreatDoorFnMgQ
set_option linter.unusedVariables false
set_option linter.unusedSimpArgs false
set_option maxRecDepth 100000
set_option maxHeartbeats 1600000
namespace Go.AM
open Go.Proofs
theorem structV_zero {x : AlphaV} {rs : List (List Int)} (h : (structV x rs).2 = 0) : isFin x rs = true ∧ (primesS x.depends rs rs.length).length ≤ 16 ∧ structV x rs = (structP x.depends rs (primesS x.depends rs rs.length), 0) := by
  by_cases h1 : isFin x rs = true
  · by_cases h2 : (primesS x.depends rs rs.length).length ≤ 16
    · exact ⟨h1, h2, by unfold structV; rw [if_pos h1, if_pos h2]⟩
    · unfold structV at h; rw [if_pos h1, if_neg h2] at h; simp at h
  · unfold structV at h; rw [if_neg h1] at h; simp at h
theorem structV_bad {x : AlphaV} {rs : List (List Int)} (h : (structV x rs).2 ≠ 0) : (structV x rs).1 = ⟨[], [], []⟩ := by
  unfold structV at h ⊢
  by_cases h1 : isFin x rs = true
  · by_cases h2 : (primesS x.depends rs rs.length).length ≤ 16
    · rw [if_pos h1, if_pos h2] at h; simp at h
    · rw [if_pos h1, if_neg h2]
  · rw [if_neg h1]
theorem FnStructureOfTraces_spec (nn : Bool) (l : List Int) (hl : CodeIn l) : ACalls1 Tryz.prog 4 [.sl 1 nn (bys l)] (bv true) := by
  refine walk (fun t => t == 7022 || t == 1091) mixed Go.Proofs.Tryz.func4 rfl rfl rfl (by kernel_rfl) rfl (by simp) (by kernel_rfl) ?_
  simp
  refine ⟨_, big_spec nn l, ?_⟩
  simp
  intro hb
  refine ⟨_, DrawStructureOfTraces_spec nn l (bysOk_of hl (by omega)), ?_⟩
  rintro _ _ ⟨x, rs, ⟨hx, hx4⟩, h61, hfit, rfl, rfl⟩
  have hok := alOk_of hx
  have hxl : I64 x.letters := by rw [hok.let_]; unfold I64; omega
  have hd : Fits x.depends := by unfold Fits; omega
  have hS1 := fun b c => StructureOfTraces_spec true b c x hxl hd rs (by omega) hfit
  have hS2 := fun b c => specStructureOfTraces_spec true b c x hxl hd rs (by omega) hfit
  simp
  refine ⟨_, hS1 _ _, ?_⟩
  simp
  refine ⟨_, hS2 _ _, ?_⟩
  by_cases h0 : (structV x rs).2 = 0
  · obtain ⟨f1, f2, f3⟩ := structV_zero h0
    obtain ⟨_, hov, h40⟩ := isFin_rows f1
    have hPS := prS_of hx hov f2
    have hP := primesS_ok hPS.sy.ok hov rs.length (Nat.le_refl _)
    have hxo : AlphabetOk x := ⟨hxl, hd, fun y hy => by
      obtain ⟨i, hi, rfl⟩ := List.mem_iff_getElem.1 hy
      rw [← nth_at hi]; exact I64_of_M (alOk_M hok hi).1⟩
    have hst := hPS.struc
    have hso := structP_ok hx hPS
    have hp9 := fun b c d => primes9_yes true b c d x hx rs _ hPS
    have hcm := fun w => hPS.cm w
    have hlen := hPS.len
    have hTc : ∀ w ∈ rs, traceOfConfigurationV x (structP x.depends rs (primesS x.depends rs rs.length)) (cmask x.depends (primesS x.depends rs rs.length) (wn w)) = (nats (nf x.depends (wn w)), 0) := fun w hw => hPS.tconf hx (hPS.w w hw).1 (hPS.w w hw).2 hw (Pre.of_sws (.refl _))
    have hCf : ∀ w ∈ rs, isConfigurationV (structP x.depends rs (primesS x.depends rs rs.length)) (cmask x.depends (primesS x.depends rs rs.length) (wn w)) = (true, 0) := fun w hw => by
      unfold isConfigurationV setCode
      rw [hPS.conf (hPS.w w hw).1 hw (Pre.of_sws (.refl _))]
      simp [hst, hlen, (hcm (wn w)).1]
    rw [f3]
    generalize structP x.depends rs (primesS x.depends rs rs.length) = s at *
    generalize hPP : primesS x.depends rs rs.length = P at *
    have hPo : ∀ r ∈ P, overW x.depends.length r = true := fun r hr => (hP.ok r hr).1
    have hPl : ∀ r ∈ P, r.length < 1000000 := fun r hr => by have := overW_len (hPo r hr); omega
    simp
    refine ⟨_, IsStructure_spec _ _ _ s hso, ?_⟩
    simp [hst]
    refine ⟨_, hp9 _ _ _, ?_⟩
    simp
    refine ⟨_, rising9_yes _ false P (by omega) hPl hP.st, ?_⟩
    simp
    refine awp_loop2 [3, 4, 5, 9] [3, 5, 29001000, 29001001, 29001002, 53000] (fun k : Nat => [(11, iv k)]) (fun _ => []) (fun k => k ≤ rs.length) (fun k => rs.length - k) 0 (weak_mk some (by simp) (by simp) rfl) (by simp) ?_
    intro k hk
    by_cases hlk : k < rs.length
    · have hm := nthR_mem hlk
      have how := hov _ hm
      have hW := within9_yes true true true x hx P f2 hPo (nthR rs k) how
      have hcI : I64 (cmask x.depends P (wn (nthR rs k))) := I64_of_M (isM_spec (by omega) (hcm _).1).1
      have hC := IsConfiguration_spec false false false s hso _ hcI
      rw [hCf _ hm] at hC
      have hT := TraceOfConfiguration_spec true x hxo false false false s hso _ hcI
      rw [hTc _ hm] at hT
      have hN := normal9_spec true true x hx (nthR rs k) how
      have hnl : (nats (nf x.depends (wn (nthR rs k)))).length < 1000000 := by
        rw [(nfw_over hPS.sy.ok how).2]; have := overW_len how; omega
      generalize cmask x.depends P (wn (nthR rs k)) = c at *
      generalize nats (nf x.depends (wn (nthR rs k))) = u at *
      simp [hlk]
      repeat (rw [exE_eq]; simp [hlk])
      refine ⟨_, hW, ?_⟩
      simp
      refine ⟨_, hC, ?_⟩
      simp
      refine ⟨_, hT, ?_⟩
      simp [hlk]
      repeat (rw [exE_eq]; simp [hlk])
      refine ⟨_, hN, ?_⟩
      simp
      refine ⟨_, likeInts_sameW _ _ u hnl, ?_⟩
      simp
      first | refine ⟨⟨by kernel_rfl, by kernel_rfl⟩, ?_⟩ | exact ⟨by kernel_rfl, by kernel_rfl⟩
      try simp [wrap_id ((k : Int) + 1) (by omega) (by omega)]
      exact Round.mk (k + 1) (weak_mk some (by simp) (by simp) rfl) hlk (by omega)
    · obtain rfl : k = rs.length := by omega
      simp
  · have hbad := structV_bad h0
    generalize structV x rs = R at *
    simp [h0, hbad]
namespace LawOf
theorem fnStructureOfTraces (a : (Bool × List Int) × Unit) (h : (a.1.2.length ≤ maxLen ∧ ∀ x1 ∈ a.1.2, (Lit.int .u8 x1).wf = true) ∧ True) :
    ACalls1 Go.Proofs.Tryz.prog 4 [AV.sl 1 a.1.1 (a.1.2.flatMap fun y3 => [AV.val (.int .u8 y3)])] (bv true) := by
  obtain ⟨⟨nn, l⟩, _⟩ := a
  simp only [flat_bys]
  exact FnStructureOfTraces_spec nn l h.1
end LawOf
end Go.AM
namespace Go.Proofs.YthabclhldlikfaaGreatDoor.fnStructureOfTraces
open Go.ChangeShapes Go.WideShapes Go.ChangeAt Go.RowKit Go.AM
theorem own : ownKnob Tryz.prog.godebug = none := by kernel_rfl
theorem laidOut : laidOutB Tryz.prog = true := by kernel_rfl
theorem gN : Tryz.prog.globalNamed "math/bits.deBruijn64tab" = some 0 := by kernel_rfl
theorem gTy : (Tryz.prog.globals[0]?).map (·.type) = some 198 := by kernel_rfl
theorem gok (W : World) (h : laidMetH Tryz.prog [("math/bits.deBruijn64tab", Rows.laid_math_bits_deBruijn64tab)] W) : GOK Tryz.prog W (oldI W) := by
  rw [MakeChecks.laidMetH_plain _ _ _ (by kernel_rfl)] at h
  exact gok_tz gN (Lib.tabIs_of_head (rest := []) gN gTy Tryz.underlying198 Tryz.underlying5 (by kernel_rfl) (by kernel_rfl) h)
theorem door_met (os : Os) (args : Array Value) : laidMetH Tryz.prog [("math/bits.deBruijn64tab", Rows.laid_math_bits_deBruijn64tab)] ((World.doorLaid Tryz.prog 14 os).forCall (fun _ _ => 0) ⟨#[], args, []⟩).memory :=
  laidMetH_of_parts3 (fuel := 8) (laidMet_of_run' 8 (by kernel_rfl) (by kernel_rfl)) (by kernel_rfl) (by kernel_rfl)
theorem lifted (os : Os) (started : os.Started) (H : Type) (enc : TypeId × Value → H) :
    ReturnsInHanded {} Tryz.checked os 4 .any (fun w args => (Rows.fnStructureOfTracesSpec.pre enc Tryz.prog Tryz.f4 [] false w args ∧ laidMetH Tryz.prog [("math/bits.deBruijn64tab", Rows.laid_math_bits_deBruijn64tab)] w) ∧ sizedMet enc Tryz.prog Tryz.f4 (OpenSpec.ofChange Rows.fnStructureOfTracesSpec) false w args)
      (Rows.fnStructureOfTracesSpec.post enc Tryz.prog Tryz.f4 false true false false) := by
  have hopen := (show OpensL Tryz.prog [41] _ _ from (opensL_cons (opensA_slice Tryz.underlying41 (opens_slice (n := 1) Tryz.underlying41 (by kernel_rfl) (opens_int (k := .u8) Tryz.underlying5) (fun _ => rfl))) opensL_nil))
  refine lift_laid (L := [("math/bits.deBruijn64tab", Rows.laid_math_bits_deBruijn64tab)]) (rt := 4) (C := Tryz.checked) (fn := Tryz.f4) hopen (fun a h => LawOf.fnStructureOfTraces a h) gok ?_ own started Tryz.func4 rfl (by kernel_rfl) rfl Tryz.underlying4 laidOut (by kernel_rfl)
    (ChangeSpec.witness_shaped (enc := enc) (C := Tryz.checked) (os := os) (X := fun w _ => laidMetH Tryz.prog [("math/bits.deBruijn64tab", Rows.laid_math_bits_deBruijn64tab)] w) false (World.doorLaid Tryz.prog 14 os) #[(Value.slice none 0 0)] 8 rfl (World.shaped_of_RefB (by kernel_rfl) (by kernel_rfl)) (by kernel_rfl) (by kernel_rfl) (by kernel_rfl) (door_met os _))
  intro H ds hds
  match ds, hds with
  | [d0], _ => exact ⟨rfl, rfl, rfl⟩
theorem over : Rows.fnStructureOfTracesRow.holds Tryz.pinned (OpenSpec.ofChange Rows.fnStructureOfTracesSpec) :=
  OpenClaim.holds_of_wide 4 Tryz.f4 rfl rfl rfl rfl rfl rfl rfl ⟨rfl, rfl, rfl, rfl, rfl⟩ rfl rfl rfl rfl rfl (by kernel_rfl) Tryz.func4 (by kernel_rfl)
    (of_decide_eq_true (by kernel_rfl)) (by unfold Func.isWrapper; first | (rw [if_pos (by decide +kernel)]; kernel_rfl) | (rw [if_neg (by decide +kernel)]; exact ⟨rfl, rfl⟩))
    (fun os started H enc _ => lifted os started H enc)
end Go.Proofs.YthabclhldlikfaaGreatDoor.fnStructureOfTraces
namespace Go.Proofs.YthabclhldlikfaaGreatDoor
/-- The card. -/
theorem fnStructureOfTracesCard_holds : Rows.FnStructureOfTracesCardSaid :=
  Claim7.holds_tied_plain_at .later [] [.data] true (true, "74247c04aa4733983e0e43a80e9bb559cf15dd0b05887c89031cd735b998c015") false fnStructureOfTraces.over (fun _ h => by cases h) (by kernel_rfl) (fun _ h => by cases h) fnStructureOfTraces_row_tie rfl ⟨rfl, rfl⟩ (by kernel_rfl) rfl
    (fun f fn hf hfn => by
      obtain rfl : f = 4 := Option.some.inj ((show Tryz.prog.funcNamed "loop.example/g01094/laws.FnStructureOfTraces" = some 4 by kernel_rfl).symm.trans hf) |>.symm
      obtain rfl : fn = Tryz.f4 := (Option.some.inj (Tryz.func4.symm.trans hfn)).symm
      exact ⟨by kernel_rfl, fun j t ht => by
        rw [show Tryz.f4.params = #[41] by kernel_rfl] at ht
        have hm : t ∈ [41] := by simpa using Array.mem_of_getElem? ht
        have hall : ([41].all fun u => !Tryz.prog.wantsStandIn u) = true := by kernel_rfl
        exact (show Tryz.prog.wantsStandIn t = false by simpa using List.all_eq_true.1 hall t hm)⟩)
    (by kernel_rfl)
#print axioms fnStructureOfTracesCard_holds
end Go.Proofs.YthabclhldlikfaaGreatDoor
