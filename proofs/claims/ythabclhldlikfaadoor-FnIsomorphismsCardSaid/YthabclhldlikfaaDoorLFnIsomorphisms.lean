/-
  The law laws.FnIsomorphisms: for every input it returns true, and the input reads as it did, where the table math/bits.deBruijn64tab holds what the program lays: the statement Rows.FnIsomorphismsCardSaid.
  The condition on the table is tied to the text by the given tie; the project is a pruned copy.
-/
import Derived.Test.YthabclhldlikfaaDoorRows
import Derived.Test.YthabclhldlikfaaDoorCards
import Derived.Test.YthabclhldlikfaaDoorTie
import Derived.Test.YthabclhldlikfaaDoorAmRow
import Derived.Test.YthabclhldlikfaaDoorFnBig
import Derived.Test.YthabclhldlikfaaDoorFnUl
import Derived.Test.YthabclhldlikfaaDoorFnMgD
set_option linter.unusedVariables false
set_option linter.unusedSimpArgs false
set_option maxRecDepth 100000
set_option maxHeartbeats 1600000
namespace Go.AM
open Go.Proofs
theorem FnIsomorphisms_spec (nn : Bool) (l : List Int) (hl : CodeIn l) : ACalls1 Tryd.prog 3 [.sl 1 nn (bys l)] (bv true) := by
  refine walk (fun t => t == 7023) mixed Go.Proofs.Tryd.func3 rfl rfl rfl (by kernel_rfl) rfl (by simp) (by kernel_rfl) ?_
  simp
  refine ⟨_, big_spec nn l, ?_⟩
  simp
  intro hb
  refine ⟨_, DrawIsomorphismOf_spec nn l (bysOk_of hl (by omega)), ?_⟩
  rintro _ _ ⟨x, y, hx, hy, rfl, rfl⟩
  have hxo : StructureOk x := ⟨⟨by have := hx.b; unfold Fits; omega, hx.bi⟩, ⟨by have := hx.c; unfold Fits; omega, hx.ci⟩, ⟨by have := hx.d; unfold Fits; omega, hx.di⟩⟩
  have hyo : StructureOk y := ⟨⟨by have := hy.b; unfold Fits; omega, hy.bi⟩, ⟨by have := hy.c; unfold Fits; omega, hy.ci⟩, ⟨by have := hy.d; unfold Fits; omega, hy.di⟩⟩
  simp
  refine ⟨_, IsomorphismOf_spec _ _ _ x hxo _ _ _ y hyo, ?_⟩
  simp
  refine ⟨_, specIsomorphismOf_spec _ _ _ x hxo _ _ _ y hyo, ?_⟩
  by_cases h0 : (isomorphismOfV x y).2 = 0
  · obtain ⟨s1, s2, s3, s4, s5⟩ := iso_found h0
    obtain ⟨b1, b2⟩ := iso_back h0
    have hI := iso_self s1
    have hd := hx.d
    simp [h0]
    refine ⟨_, IsomorphismOf_spec _ _ _ y hyo _ _ _ x hxo, ?_⟩
    rw [b1]
    simp
    refine ⟨_, IsomorphismOf_spec _ _ _ x hxo _ _ _ x hxo, ?_⟩
    rw [hI]
    generalize (isomorphismOfV x y).1 = L at *
    generalize (isomorphismOfV y x).1 = L2 at *
    simp [s5, b2, s3]
    have hev : ∀ (z : StrucV) (a b : Nat), isStructureV z = true → a < z.labels.length → b < z.labels.length → relationOfV z a b = (relOf z a b, 0) := fun z a b hz ha hb => by
      have h9 : evCode z [(a : Int), (b : Int)] = 0 := by
        unfold evCode evIn
        simp [hz]
        omega
      unfold relationOfV
      rw [if_pos h9]
      simp
    refine awp_loop2 [3, 4, 5, 11] [3, 4, 24001000, 24001001, 24002000, 24002001, 24002002, 30000, 56000] (fun i : Nat => [(13, iv i)]) (fun _ => []) (fun i => i ≤ L.length) (fun i => L.length - i) 0 (weak_mk some (by simp) (by simp) rfl) (by simp) ?_
    intro i hi
    by_cases hli : i < L.length
    · obtain ⟨p, p1, p2⟩ := s4.im i hli
      have hlab := s4.lab i hli
      rw [p1] at hlab
      simp only [Int.toNat_natCast] at hlab
      have hid := idL_nth (n := y.labels.length) (e := i) (by omega)
      have hil := idL_length y.labels.length
      have c1 : ¬ (y.labels.length : Int) ≤ (p : Int) := by omega
      have c2 : ¬ (p : Int) < 0 := by omega
      have c3 : i < x.labels.length := by omega
      have c4 : i < y.labels.length := by omega
      simp [hli, hid, hil, p1, c1, c2, c3, c4, p2, hlab, show i + 1 ≤ L.length from hli, show i + 1 ≤ y.labels.length from c4, show p + 1 ≤ y.labels.length from p2]
      repeat (rw [exE_eq]; simp [hli, hid, hil, p1, c1, c2, c3, c4, p2, hlab, show i + 1 ≤ L.length from hli, show i + 1 ≤ y.labels.length from c4, show p + 1 ≤ y.labels.length from p2])
      refine awp_loop2 [3, 4, 5, 11, 13] [3, 4, 24001000, 24001001, 24002000, 24002001, 24002002, 30000, 56000] (fun j : Nat => [(14, iv j)]) (fun _ => []) (fun j => j ≤ L.length) (fun j => L.length - j) 0 (weak_mk some (by simp) (by simp) rfl) (by simp) ?_
      intro j hj
      by_cases hlj : j < L.length
      · obtain ⟨q, q1, q2⟩ := s4.im j hlj
        have hr := part_rel s1 s2 s4 (by omega) hli hlj
        rw [p1, q1] at hr
        simp only [Int.toNat_natCast] at hr
        have e1 := hev x i j s1 (by omega) (by omega)
        have e2 := hev y p q s2 p2 q2
        have r1 := RelationOf_spec false false false x hxo i (by unfold I64; omega) j (by unfold I64; omega)
        have r2 := RelationOf_spec false false false y hyo p (by unfold I64; omega) q (by unfold I64; omega)
        rw [e1] at r1
        rw [e2] at r2
        simp [hlj]
        refine ⟨_, r1, ?_⟩
        simp [hli, hlj, p1, q1, show i + 1 ≤ L.length from hli, show j + 1 ≤ L.length from hlj]
        repeat (rw [exE_eq]; simp [hli, hlj, p1, q1, show i + 1 ≤ L.length from hli, show j + 1 ≤ L.length from hlj])
        refine ⟨_, r2, ?_⟩
        simp [hr]
        try rw [wrap_id ((j : Int) + 1) (by omega) (by omega)]
        exact Round.mk (j + 1) (weak_mk some (by simp) (by simp) rfl) hlj (by omega)
      · obtain rfl : j = L.length := by omega
        simp
        rw [wrap_id ((i : Int) + 1) (by omega) (by omega)]
        exact Round.mk (i + 1) (weak_mk some (by simp) (by simp) rfl) hli (by omega)
    · obtain rfl : i = L.length := by omega
      simp
  · have := iso_bad h0
    rw [this]
    simp [h0]
namespace LawOf
theorem fnIsomorphisms (a : (Bool × List Int) × Unit) (h : (a.1.2.length ≤ maxLen ∧ ∀ x1 ∈ a.1.2, (Lit.int .u8 x1).wf = true) ∧ True) :
    ACalls1 Go.Proofs.Tryd.prog 3 [AV.sl 1 a.1.1 (a.1.2.flatMap fun y3 => [AV.val (.int .u8 y3)])] (bv true) := by
  obtain ⟨⟨nn, l⟩, _⟩ := a
  simp only [flat_bys]
  exact FnIsomorphisms_spec nn l h.1
end LawOf
end Go.AM
namespace Go.Proofs.YthabclhldlikfaaDoor.fnIsomorphisms
open Go.ChangeShapes Go.WideShapes Go.ChangeAt Go.RowKit Go.AM
theorem own : ownKnob Tryd.prog.godebug = none := by kernel_rfl
theorem laidOut : laidOutB Tryd.prog = true := by kernel_rfl
theorem gN : Tryd.prog.globalNamed "math/bits.deBruijn64tab" = some 0 := by kernel_rfl
theorem gTy : (Tryd.prog.globals[0]?).map (·.type) = some 98 := by kernel_rfl
theorem gok (W : World) (h : laidMetH Tryd.prog [("math/bits.deBruijn64tab", Rows.laid_math_bits_deBruijn64tab)] W) : GOK Tryd.prog W (oldI W) := by
  rw [MakeChecks.laidMetH_plain _ _ _ (by kernel_rfl)] at h
  exact gok_tz gN (Lib.tabIs_of_head (rest := []) gN gTy Tryd.underlying98 Tryd.underlying5 (by kernel_rfl) (by kernel_rfl) h)
theorem door_met (os : Os) (args : Array Value) : laidMetH Tryd.prog [("math/bits.deBruijn64tab", Rows.laid_math_bits_deBruijn64tab)] ((World.doorLaid Tryd.prog 14 os).forCall (fun _ _ => 0) ⟨#[], args, []⟩).memory :=
  laidMetH_of_parts3 (fuel := 8) (laidMet_of_run' 8 (by kernel_rfl) (by kernel_rfl)) (by kernel_rfl) (by kernel_rfl)
theorem lifted (os : Os) (started : os.Started) (H : Type) (enc : TypeId × Value → H) :
    ReturnsInHanded {} Tryd.checked os 3 .any (fun w args => (Rows.fnIsomorphismsSpec.pre enc Tryd.prog Tryd.f3 [] false w args ∧ laidMetH Tryd.prog [("math/bits.deBruijn64tab", Rows.laid_math_bits_deBruijn64tab)] w) ∧ sizedMet enc Tryd.prog Tryd.f3 (OpenSpec.ofChange Rows.fnIsomorphismsSpec) false w args)
      (Rows.fnIsomorphismsSpec.post enc Tryd.prog Tryd.f3 false true false false) := by
  have hopen := (show OpensL Tryd.prog [22] _ _ from (opensL_cons (opensA_slice Tryd.underlying22 (opens_slice (n := 1) Tryd.underlying22 (by kernel_rfl) (opens_int (k := .u8) Tryd.underlying5) (fun _ => rfl))) opensL_nil))
  refine lift_laid (L := [("math/bits.deBruijn64tab", Rows.laid_math_bits_deBruijn64tab)]) (rt := 4) (C := Tryd.checked) (fn := Tryd.f3) hopen (fun a h => LawOf.fnIsomorphisms a h) gok ?_ own started Tryd.func3 rfl (by kernel_rfl) rfl Tryd.underlying4 laidOut (by kernel_rfl)
    (ChangeSpec.witness_shaped (enc := enc) (C := Tryd.checked) (os := os) (X := fun w _ => laidMetH Tryd.prog [("math/bits.deBruijn64tab", Rows.laid_math_bits_deBruijn64tab)] w) false (World.doorLaid Tryd.prog 14 os) #[(Value.slice none 0 0)] 8 rfl (World.shaped_of_RefB (by kernel_rfl) (by kernel_rfl)) (by kernel_rfl) (by kernel_rfl) (by kernel_rfl) (door_met os _))
  intro H ds hds
  match ds, hds with
  | [d0], _ => exact ⟨rfl, rfl, rfl⟩
theorem over : Rows.fnIsomorphismsRow.holds Tryd.pinned (OpenSpec.ofChange Rows.fnIsomorphismsSpec) :=
  OpenClaim.holds_of_wide 3 Tryd.f3 rfl rfl rfl rfl rfl rfl rfl ⟨rfl, rfl, rfl, rfl, rfl⟩ rfl rfl rfl rfl rfl (by kernel_rfl) Tryd.func3 (by kernel_rfl)
    (of_decide_eq_true (by kernel_rfl)) (by unfold Func.isWrapper; first | (rw [if_pos (by decide +kernel)]; kernel_rfl) | (rw [if_neg (by decide +kernel)]; exact ⟨rfl, rfl⟩))
    (fun os started H enc _ => lifted os started H enc)
end Go.Proofs.YthabclhldlikfaaDoor.fnIsomorphisms
namespace Go.Proofs.YthabclhldlikfaaDoor
/-- The card. -/
theorem fnIsomorphismsCard_holds : Rows.FnIsomorphismsCardSaid :=
  Claim7.holds_tied_plain_at .later [] [.data] true (true, "c0e8d2eeff5f23c6c75103a3aa06e7833875fcf675cdbc38e1345f2dc421e83b") false fnIsomorphisms.over (fun _ h => by cases h) (by kernel_rfl) (fun _ h => by cases h) fnIsomorphisms_row_tie rfl ⟨rfl, rfl⟩ (by kernel_rfl) rfl
    (fun f fn hf hfn => by
      obtain rfl : f = 3 := Option.some.inj ((show Tryd.prog.funcNamed "loop.example/g01094/laws.FnIsomorphisms" = some 3 by kernel_rfl).symm.trans hf) |>.symm
      obtain rfl : fn = Tryd.f3 := (Option.some.inj (Tryd.func3.symm.trans hfn)).symm
      exact ⟨by kernel_rfl, fun j t ht => by
        rw [show Tryd.f3.params = #[22] by kernel_rfl] at ht
        have hm : t ∈ [22] := by simpa using Array.mem_of_getElem? ht
        have hall : ([22].all fun u => !Tryd.prog.wantsStandIn u) = true := by kernel_rfl
        exact (show Tryd.prog.wantsStandIn t = false by simpa using List.all_eq_true.1 hall t hm)⟩)
    (by kernel_rfl)
#print axioms fnIsomorphismsCard_holds
end Go.Proofs.YthabclhldlikfaaDoor
