/-
  RunFrom: a run whose rows may be written; both sides.
-/
import Derived.Test.YtmpdpjpebekfkaaDoorFnBe
import Derived.Test.YtmpdpjpebekfkaaDoorAmWk
set_option linter.unusedVariables false
set_option linter.unusedSimpArgs false
set_option maxRecDepth 100000
set_option maxHeartbeats 1600000
namespace Go.AM
open Go.Proofs
theorem initA_cons2 (x y : AV) (l : List AV) : initA (x :: y :: l) = x :: initA (y :: l) := rfl
theorem lastA_cons2 (x y : AV) (l : List AV) : lastA (x :: y :: l) = lastA (y :: l) := by simp [lastA, List.getLastD_eq_getLast?]
attribute [simp] initA_cons2 lastA_cons2
@[simp] theorem noRL_app (d : Nat) (l l' : List AV) : noRL d (l ++ l') = (noRL d l && noRL d l') := by
  induction l with
  | nil => simp [noRL]
  | cons x l ih => simp only [List.cons_append, noRL, ih, Bool.and_assoc]
@[simp] theorem orows_noRL (d : Nat) (b : Bool) (rs : List (List Int)) : noRL d (orows b rs) = true := noRL_of_nrfL d _ (orows_nrf b rs)
/-- Where a run is: at its first state, or behind some letters. -/
def rfS (b : Bool) (g : List Int) : Option (Nat × List Int) → List (Nat × AV)
  | none => [(18, iv 0), (1, .sl 1 b (ints g)), (8, .ref 200)]
  | some (k, _) => [(18, iv (k + 1 : Nat)), (1, .ref 201), (8, .ref 200)]
def rfO (z : AsyV) (g w : List Int) : Option (Nat × List Int) → List (Nat × AV)
  | none => [(200, .own 1 true (orows false [g]))]
  | some (k, cur) => [(200, .opw 1 (orows false (sts z g w k) ++ [.ref 201])), (201, .own 1 false (ints cur))]
theorem runOwn_spec (z : AsyV) (hz : isAsy z = true) (ho : AsyOk z) (b c : Bool) (g : List Int) (hg : g.length = z.sizes.length) (w : List Int) (hw : overW z.places.length w = true) :
    ACalls1 Tryd.prog 63 [asySl z, .sl 1 b (ints g), .sl 1 c (ints w)] (.tup [.own 1 false (orows false (if (runV z g w).isSome then sts z g w w.length else [])), bv (runV z g w).isSome]) := by
  have hf := (isAsy_facts hz).1.1
  obtain ⟨w1, w2⟩ := overW_facts hw
  refine walk (fun t => t == 3 || t == 8034 || t == 6023 || t == 6037) mixed Go.Proofs.Tryd.func63 rfl rfl rfl (by kernel_rfl) rfl (by simp) (by kernel_rfl) ?_
  simp
  refine ⟨_, Clone_spec b g (by unfold Fits; omega), ?_⟩
  simp
  refine awp_loop2 [3, 16, 17] [] (rfS b g) (rfO z g w) (fun s => match s with | none => True | some (k, cur) => k + 1 ≤ w.length ∧ runV z g (w.take (k + 1)) = some cur) (fun s => match s with | none => w.length + 1 | some (k, _) => w.length - (k + 1)) none (weak_mk (fun t => if t = 200 then some 15 else some t) (by simp [rfS]) (by simp [rfO, orows]) rfl) trivial ?_
  rintro (_ | ⟨k, cur⟩) hr
  · by_cases hlt : 0 < w.length
    · obtain ⟨a, ha1, ha2⟩ := w2 0 hlt
      simp [rfS, rfO, hlt, ha1]
      refine ⟨_, move_spec z hz ho _ g hg a ha2, ?_⟩
      have hn := runV_succ z g w hlt
      rw [List.take_zero, ha1] at hn
      simp only [runV, Option.bind_some, Int.toNat_natCast] at hn
      cases hs : stepV z g a with
      | none =>
        rw [hs] at hn
        rw [runV_fail hn]
        simp
        exact WkK.mk (fun {P} c a w h => h) (by simp)
      | some g' =>
        rw [hs] at hn
        simp
        refine WkK.mk (fun {P} c a w h => h) ?_
        simp
        rw [wrap_id 1 (by omega) (by omega)]
        exact Round.mk (some (0, g')) (weak_mk (fun t => if t = 200 then some 35 else if t = 201 then some 27000 else some t) (by simp) (by simp [sts_zero]) rfl) ⟨hlt, hn⟩ (by simp only; omega)
    · have hw0 : w = [] := List.eq_nil_of_length_eq_zero (by omega)
      subst hw0
      simp [rfS, rfO, runV, sts_zero]
      refine WkK.mk (fun {P} c a w h => h) ?_
      simp [orows]
  · simp only at hr
    obtain ⟨hk, hr⟩ := hr
    have hcl := runV_len hr
    by_cases hlt : k + 1 < w.length
    · obtain ⟨a, ha1, ha2⟩ := w2 (k + 1) hlt
      simp [rfS, rfO, hlt, ha1, show (k : Int) + 1 < w.length by omega, show (0 : Int) ≤ (k : Int) + 1 by omega]
      refine ⟨_, move_spec z hz ho _ cur (by omega) a ha2, ?_⟩
      have hn := runV_succ z g w hlt
      rw [hr, ha1] at hn
      simp only [Option.bind_some, Int.toNat_natCast] at hn
      cases hs : stepV z cur a with
      | none =>
        rw [hs] at hn
        rw [runV_fail hn]
        simp
        exact WkK.mk (fun {P} c a w h => h) (by simp)
      | some g' =>
        rw [hs] at hn
        simp
        refine WkK.mk (weak_close (sz := 1) (s := 1) (nn' := false) (r := ints cur) 200 201 (orows false (sts z g w k)) [] (by simp) (by simp) (by omega) (orows_nrf _ _) rfl) ?_
        have hss : orows false (sts z g w k) ++ [AV.own 1 false (ints cur)] = orows false (sts z g w (k + 1)) := by
          rw [orows_snoc, sts_succ, hr]; rfl
        simp [del', -orows_snoc, hss]
        rw [wrap_id ((k : Int) + 1 + 1) (by omega) (by omega)]
        refine ⟨by omega, by omega, ?_⟩
        exact Round.mk (some (k + 1, g')) (weak_mk (fun t => if t = 200 then some 35 else if t = 201 then some 27000 else some t) (by simp) (by simp) rfl) ⟨hlt, hn⟩ (by simp only; omega)
    · have hkw : k + 1 = w.length := by omega
      have hr' := hr
      rw [hkw, List.take_length] at hr'
      have hss : orows false (sts z g w k) ++ [AV.own 1 false (ints cur)] = orows false (sts z g w w.length) := by
        rw [orows_snoc, ← hkw, sts_succ, hr]; rfl
      simp [rfS, rfO, show ¬ ((k : Int) + 1 < w.length) by omega, hr', -orows_snoc]
      refine WkK.mk (weak_close (sz := 1) (s := 1) (nn' := false) (r := ints cur) 200 201 (orows false (sts z g w k)) [] (by simp) (by simp) (by omega) (orows_nrf _ _) rfl) ?_
      simp [del', -orows_snoc, hss]
def runFromV (z : AsyV) (g w : List Int) : List Int × Int :=
  if isAsy z then (if isGlob z.sizes g && overW z.places.length w then (match runV z g w with | some g' => (g', 0) | none => ([], 4)) else ([], 2)) else ([], 1)
theorem rf0 {z : AsyV} {g w : List Int} (hz : isAsy z = false) : runFromV z g w = ([], 1) := by simp [runFromV, hz]
theorem rf1 {z : AsyV} {g w : List Int} (hz : isAsy z = true) (h : (isGlob z.sizes g && overW z.places.length w) = false) : runFromV z g w = ([], 2) := by simp only [runFromV, hz, h]; rfl
theorem rf2 {z : AsyV} {g w : List Int} (hz : isAsy z = true) (h : (isGlob z.sizes g && overW z.places.length w) = true) (hr : runV z g w = none) : runFromV z g w = ([], 4) := by simp only [runFromV, hz, h, hr]; rfl
theorem rf3 {z : AsyV} {g w g' : List Int} (hz : isAsy z = true) (h : (isGlob z.sizes g && overW z.places.length w) = true) (hr : runV z g w = some g') : runFromV z g w = (g', 0) := by simp only [runFromV, hz, h, hr]; rfl
theorem specRunFrom_spec (z : AsyV) (ho : AsyOk z) (b : Bool) (g : List Int) (hg : ListOk g) (c : Bool) (w : List Int) (hw : ListOk w) : ACalls1 Tryd.prog 9 [asySl z, .sl 1 b (ints g), .sl 1 c (ints w)] (.tup [.own 1 false (ints (runFromV z g w).1), iv (runFromV z g w).2]) := by
  have hpl := ho.1.1
  unfold Fits at hpl
  refine walk (fun t => t == 3) mixed Go.Proofs.Tryd.func9 rfl rfl rfl (by kernel_rfl) rfl (by simp) (by kernel_rfl) ?_
  simp
  refine ⟨_, specIsAsynchronous_spec z ho, ?_⟩
  cases hz : isAsy z
  · simp [rf0 hz]
  · have hf := isAsy_facts hz
    have hsz := hf.1
    simp
    refine ⟨_, l14Global_spec z b g hsz hg.1, ?_⟩
    cases hgl : isGlob z.sizes g
    · simp [rf1 hz (by rw [hgl]; rfl)]
    · simp
      refine ⟨_, l11Word_spec z.places.length hpl _ w hw.1, ?_⟩
      cases hv : overW z.places.length w
      · simp [rf1 hz (by rw [hgl, hv]; rfl)]
      · simp
        refine ⟨_, l14Run_spec z hz ho _ _ g (isGlob_len hgl) w hv, ?_⟩
        cases hr : runV z g w with
        | none => simp [rf2 hz (by rw [hgl, hv]; rfl) hr]
        | some g' => simp [rf3 hz (by rw [hgl, hv]; rfl) hr]
theorem RunFrom_spec (z : AsyV) (ho : AsyOk z) (b : Bool) (g : List Int) (hg : ListOk g) (c : Bool) (w : List Int) (hw : ListOk w) : ACalls1 Tryd.prog 12 [asySl z, .sl 1 b (ints g), .sl 1 c (ints w)] (.tup [.own 1 false (ints (runFromV z g w).1), iv (runFromV z g w).2]) := by
  have hpl := ho.1.1
  have hpl' := hpl
  unfold Fits at hpl'
  refine walk (fun t => t == 3 || t == 6029) mixed Go.Proofs.Tryd.func12 rfl rfl rfl (by kernel_rfl) rfl (by simp) (by kernel_rfl) ?_
  simp
  refine ⟨_, IsAsynchronous_spec z ho, ?_⟩
  cases hz : isAsy z
  · simp [rf0 hz]
  · have hf := isAsy_facts hz
    have hsz := hf.1
    simp
    refine ⟨_, isGlobal_spec _ b _ _ hsz hg.1, ?_⟩
    cases hgl : isGlob z.sizes g
    · simp [rf1 hz (by rw [hgl]; rfl)]
    · simp
      refine ⟨_, length_spec _ _ hpl, ?_⟩
      simp
      refine ⟨_, isOver_spec z.places.length hpl' _ w hw.1, ?_⟩
      cases hv : overW z.places.length w
      · simp [rf1 hz (by rw [hgl, hv]; rfl)]
      · simp
        refine ⟨_, runOwn_spec z hz ho _ _ g (isGlob_len hgl) w hv, ?_⟩
        cases hr : runV z g w with
        | none =>
          simp [rf2 hz (by rw [hgl, hv]; rfl) hr]
          exact WkK.mk (fun {P} c a w h => h) (by simp)
        | some g' =>
          rw [rf3 hz (by rw [hgl, hv]; rfl) hr]
          have hsp : sts z g w w.length = (sts z g w w.length).dropLast ++ [g'] := by
            have : sts z g w w.length = (List.range w.length).map (fun i => (runV z g (w.take i)).getD []) ++ [g'] := by
              unfold sts; rw [List.range_succ, List.map_append, List.map_singleton, List.take_length, hr]; rfl
            rw [this, List.dropLast_concat]
          have hdl : (sts z g w w.length).dropLast.length = w.length := by simp
          generalize (sts z g w w.length).dropLast = A at *
          rw [hsp]
          simp
          refine WkK.mk (weak_open (sz := 1) (s := 1) (nn := false) (nn' := false) (r := ints g') 33000 500 (orows false A) [] (by rw [← orows_snoc]; simp) (by simp) ⟨by omega, by simp, by simp⟩) ?_
          simp [hdl, -orows_snoc]
theorem RunFrom_fits (z : AsyV) (ho : AsyOk z) (g : List Int) (hg : ListOk g) (w : List Int) (hw : ListOk w) : ListOk (runFromV z g w).1 := by
  have hn : ListOk ([] : List Int) := ⟨by simp [Fits], by intro x hx; cases hx⟩
  unfold runFromV
  split
  · split
    · split
      · rename_i h1 h2 g' hr
        have hl := runV_len hr
        exact ⟨by have := hg.1; unfold Fits at *; simp only; omega, runV_all ho hg.2 hr⟩
      · exact hn
    · exact hn
  · exact hn
end Go.AM
