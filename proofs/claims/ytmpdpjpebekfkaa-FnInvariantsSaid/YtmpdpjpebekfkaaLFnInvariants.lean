/-
  The law laws.FnInvariants: for every input it returns true, and the input reads as it did: the statement Rows.FnInvariantsSaid, without any condition.
-/
import Derived.Test.YtmpdpjpebekfkaaRows
import Derived.Test.YtmpdpjpebekfkaaAmRow
import Derived.Test.YtmpdpjpebekfkaaFnBig
import Derived.Test.YtmpdpjpebekfkaaFnDo
import Derived.Test.YtmpdpjpebekfkaaFnIv
import Derived.Test.YtmpdpjpebekfkaaFnIw
set_option linter.unusedVariables false
set_option linter.unusedSimpArgs false
set_option maxRecDepth 100000
set_option maxHeartbeats 1600000
namespace Go.AM
open Go.Proofs
theorem FnInvariants_spec (nn : Bool) (l : List Int) (hl : CodeIn l) : ACalls1 Try.prog 3 [.sl 1 nn (bys l)] (bv true) := by
  refine walk (fun t => t == 7024) mixed Go.Proofs.Try.func3 rfl rfl rfl (by kernel_rfl) rfl (by simp) (by kernel_rfl) ?_
  simp
  refine ⟨_, big_spec nn l, ?_⟩
  simp
  intro hb
  refine ⟨_, DrawFireWord_spec nn l (bysOk_of hl (by omega)), ?_⟩
  rintro _ _ ⟨x, m, w, ⟨x1, x2, x3, x4, x5, x6, x7⟩, hm, hw9, hwi, rfl⟩
  have hx : NetOk x := ⟨by unfold I64; omega, ⟨by unfold Fits; omega, x6⟩, ⟨by unfold Fits; omega, x7⟩, x3⟩
  have hw : ListOk w := ⟨by unfold Fits; omega, hwi⟩
  simp
  refine ⟨_, InvariantsOf_spec _ _ x hx, ?_⟩
  simp
  refine ⟨_, specInvariantsOf_spec _ _ x hx, ?_⟩
  simp
  refine ⟨_, ReverseNet_spec _ _ x hx.2.1.1 hx.2.2.1.1, ?_⟩
  by_cases h0 : (invariantsOfV x).2 = 0
  · obtain ⟨hs, hn, hlen⟩ := invariants_law h0
    have hrev : revNet x = (turned x, 0) := by unfold revNet turned; rw [if_pos hn]
    rw [hrev, h0]
    generalize (invariantsOfV x).1 = sets at *
    simp
    refine awp_loop2 [3, 4, 5, 6, 10, 11] [3, 10, 25001001, 25001002, 25002, 31000, 44001001, 44001002] (fun k : Nat => [(12, iv k)]) (fun _ => []) (fun k => k ≤ sets.length) (fun k => sets.length - k) 0 (weak_mk some (by simp) (by simp) rfl) (by simp) ?_
    intro k hk
    by_cases hlt : k < sets.length
    · obtain ⟨s1, s2, s3, s4⟩ := hs _ (nth_mem hlt)
      simp [hlt, show k + 1 ≤ sets.length from hlt]
      refine ⟨_, holds9_spec _ sets (by omega) _, ?_⟩
      rw [s4]
      simp [hlt, s2, show k + 1 ≤ sets.length from hlt]
      rw [wrap_id ((k : Int) + 1) (by omega) (by omega)]
      exact Round.mk (k + 1) (weak_mk some (by simp) (by simp) rfl) hlt (by omega)
    · obtain rfl : k = sets.length := by omega
      simp
      refine ⟨_, FireWord_spec _ _ x hx m hm _ w hw, ?_⟩
      by_cases hz : (fireWordV x m w).2 = 0
      · obtain ⟨e1, e2⟩ := fireWord_back (x := x) (m := m) (m' := (fireWordV x m w).1) (w := w) (by rw [← hz])
        have hmM : M m ∧ M (fireWordV x m w).1 := by
          have := markM_of hz
          exact this
        rw [hz]
        generalize (fireWordV x m w).1 = m' at *
        simp
        refine awp_loop2 [4, 5, 6, 10, 13] [3, 10, 25001001, 25001002, 25002, 31000, 44001001, 44001002] (fun k : Nat => [(15, iv k)]) (fun _ => []) (fun k => k ≤ sets.length) (fun k => sets.length - k) 0 (weak_mk some (by simp) (by simp) rfl) (by simp) ?_
        intro k hk
        by_cases hlt : k < sets.length
        · obtain ⟨s1, s2, s3, s4⟩ := hs _ (nth_mem hlt)
          have q1 := M_and s1 hmM.1
          have q2 := M_and s1 hmM.2
          have q3 := e2 _ s1 s3
          obtain ⟨b1, hb1, hb1'⟩ := M_nat q1
          obtain ⟨b2, hb2, hb2'⟩ := M_nat q2
          rw [p63] at hb1' hb2'
          have hb9 : popc b2 = popc b1 := by
            have := q3
            rw [hb1, hb2] at this
            simpa [pcI] using this
          simp [hlt, show k + 1 ≤ sets.length from hlt]
          repeat (rw [exE_eq]; simp [hlt, show k + 1 ≤ sets.length from hlt, hb1])
          refine ⟨_, bits9_spec b1 hb1', ?_⟩
          simp [hlt, show k + 1 ≤ sets.length from hlt]
          repeat (rw [exE_eq]; simp [hlt, show k + 1 ≤ sets.length from hlt, hb2])
          refine ⟨_, bits9_spec b2 hb2', ?_⟩
          simp [hb9]
          rw [wrap_id ((k : Int) + 1) (by omega) (by omega)]
          exact Round.mk (k + 1) (weak_mk some (by simp) (by simp) rfl) hlt (by omega)
        · obtain rfl : k = sets.length := by omega
          simp
          rw [wrap_id ((w.length : Int) - 1) (by omega) (by omega)]
          refine awp_loop2 [4, 5, 10, 13] [10, 25002, 44001001, 44001002] (fun k : Nat => [(17, iv ((w.length : Int) - 1 - k)), (16, .ref 200)]) (fun k => [(200, .own 1 true (ints (w.reverse.take k)))]) (fun k => k ≤ w.length) (fun k => w.length - k) 0 (weak_mk (fun t => if t = 200 then some 116 else some t) (by simp) (by simp) rfl) (by simp) ?_
          intro k hk
          by_cases hlt : k < w.length
          · have hs1 : w.reverse.take (k + 1) = w.reverse.take k ++ [nth w (w.length - 1 - k)] := by
              rw [take_succ _ _ (by simpa using hlt)]
              congr 2
              rw [List.getD_eq_getElem?_getD, List.getElem?_reverse hlt]
              unfold nth
              rw [List.getD_eq_getElem?_getD]
            have hix : ((w.length : Int) - 1 - k) = ((w.length - 1 - k : Nat) : Int) := by omega
            have hpos : (0 : Int) ≤ (w.length : Int) - 1 - k := by omega
            rw [hix] at hpos ⊢
            simp [show w.length - 1 - k < w.length by omega, show w.length - 1 - k + 1 ≤ w.length by omega]
            refine ⟨by omega, by omega, ?_⟩
            rw [wrap_id _ (by omega) (by omega), show ((w.length - 1 - k : Nat) : Int) - 1 = (w.length : Int) - 1 - ((k + 1 : Nat) : Int) by omega]
            exact Round.mk (k + 1) (weak_mk (fun t => if t = 200 then some 130 else some t) (by simp) (by simp [hs1]) rfl) hlt (by omega)
          · obtain rfl : k = w.length := by omega
            rw [List.take_of_length_le (by simp)]
            have ht : NetOk (turned x) := ⟨hx.1, hx.2.2.1, hx.2.1, hx.2.2.2⟩
            simp [show ¬ ((w.length : Int) ≤ (w.length : Int) - 1) by omega, show ((w.length : Int) - 1 < (w.length : Int)) by omega]
            refine ⟨_, FireWord_spec _ _ (turned x) ht m' (by have := hmM.2; unfold M at this; unfold I64; omega) _ w.reverse ⟨by have := hw.1; unfold Fits at *; simpa using this, fun y hy => hw.2 y (by simpa using hy)⟩, ?_⟩
            rw [e1]
            simp
      · simp [hz]
  · obtain ⟨h1, h2⟩ := invariants_bad h0
    rw [h1]
    simp [h0]
    intro h; rw [h2 h, h]
namespace LawOf
theorem fnInvariants (a : (Bool × List Int) × Unit) (h : (a.1.2.length ≤ maxLen ∧ ∀ x1 ∈ a.1.2, (Lit.int .u8 x1).wf = true) ∧ True) :
    ACalls1 Go.Proofs.Try.prog 3 [AV.sl 1 a.1.1 (a.1.2.flatMap fun y3 => [AV.val (.int .u8 y3)])] (bv true) := by
  obtain ⟨⟨nn, l⟩, _⟩ := a
  simp only [flat_bys]
  exact FnInvariants_spec nn l h.1
end LawOf
end Go.AM
namespace Go.Proofs.Ytmpdpjpebekfkaa.fnInvariants
open Go.ChangeShapes Go.WideShapes Go.ChangeAt Go.RowKit Go.AM

theorem own : ownKnob Try.prog.godebug = none := by kernel_rfl
theorem laidOut : laidOutB Try.prog = true := by kernel_rfl

set_option maxRecDepth 100000 in
theorem lifted (os : Os) (started : os.Started) (H : Type) (enc : TypeId × Value → H) :
    ReturnsInHanded {} Try.checked os 3 .any (Rows.fnInvariantsSpec.pre6 enc Try.prog Try.f3 Rows.fnInvariantsRow.domain false) (Rows.fnInvariantsSpec.post enc Try.prog Try.f3 false true false false) := by
  have hopen := (show OpensL Try.prog [22] _ _ from (opensL_cons (opensA_slice Try.underlying22 (opens_slice (n := 1) Try.underlying22 (by kernel_rfl) (opens_int (k := .u8) Try.underlying5) (fun _ => rfl))) opensL_nil))
  refine lift_of (rt := 4) (C := Try.checked) (fn := Try.f3) hopen (fun a h => LawOf.fnInvariants a h) (by kernel_rfl) ?_ own started Try.func3 rfl (by kernel_rfl) rfl Try.underlying4 laidOut (by kernel_rfl)
    (ChangeSpec.witness6 (enc := enc) (C := Try.checked) false ⟨#[], #[(Value.slice none 0 0)], []⟩ 8 (by kernel_rfl) (by kernel_rfl) (by kernel_rfl) (by kernel_rfl))
  intro H ds hds
  match ds, hds with
  | [d0], _ => exact ⟨rfl, rfl, rfl⟩
theorem over : Rows.fnInvariantsRow.holds Try.pinned (OpenSpec.ofChange Rows.fnInvariantsSpec) :=
  OpenClaim.holds_of_wide 3 Try.f3 rfl rfl rfl rfl rfl rfl rfl ⟨rfl, rfl, rfl, rfl, rfl⟩ rfl rfl rfl rfl rfl (by kernel_rfl) Try.func3 (by kernel_rfl)
    (of_decide_eq_true (by kernel_rfl)) (by unfold Func.isWrapper; first | (rw [if_pos (by decide +kernel)]; kernel_rfl) | (rw [if_neg (by decide +kernel)]; exact ⟨rfl, rfl⟩))
    (fun os started H enc _ => lifted os started H enc)
end Go.Proofs.Ytmpdpjpebekfkaa.fnInvariants
namespace Go.Proofs.Ytmpdpjpebekfkaa
/-- The row. -/
theorem fnInvariants_holds : Rows.FnInvariantsSaid := fnInvariants.over
#print axioms fnInvariants_holds
end Go.Proofs.Ytmpdpjpebekfkaa
