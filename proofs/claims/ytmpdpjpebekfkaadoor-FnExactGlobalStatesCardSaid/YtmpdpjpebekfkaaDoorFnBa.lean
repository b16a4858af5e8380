/-
  Asynchronous automata: the walks of the reference: validity, steps, runs.
-/
import Derived.Test.YtmpdpjpebekfkaaDoorFnAx
set_option linter.unusedVariables false
set_option linter.unusedSimpArgs false
set_option maxRecDepth 100000
set_option maxHeartbeats 1600000
namespace Go.AM
open Go.Proofs
theorem specIsAsynchronous_spec (z : AsyV) (ho : AsyOk z) : ACalls1 Tryd.prog 53 [asySl z] (bv (isAsy z)) := by
  have ho' := ho
  obtain ⟨⟨o1, _⟩, ⟨o2, o2'⟩, ⟨o3, _⟩, ⟨o4, o5⟩, o6, o7⟩ := ho'
  unfold Fits at o2
  refine walk (fun t => t == 1) mixed Go.Proofs.Tryd.func53 rfl rfl rfl (by kernel_rfl) rfl (by simp) (by kernel_rfl) ?_
  simp
  refine ⟨_, l14Places_spec _ (by unfold I64; omega) _ _ o1, ?_⟩
  cases hp : arePl z.sizes.length z.places
  · simp [isAsy, hp]
  · simp
    have hp4 : z.sizes.length ≤ 4 := by simp [arePl] at hp; omega
    have hpm : ∀ a, a < z.places.length → M (nth z.places a) := fun a ha => by
      simp only [arePl, Bool.and_eq_true, List.all_eq_true, decide_eq_true_eq] at hp
      have := hp.2 _ (nth_mem ha)
      exact full_M (n := z.sizes.length) (by omega) (by omega) this.2
    refine awp_loop2 [1] [] (fun i : Nat => [(3, iv i)]) (fun _ => []) (fun i => i ≤ z.sizes.length ∧ ∀ j, j < i → 1 ≤ nth z.sizes j ∧ nth z.sizes j ≤ 4) (fun i => z.sizes.length - i) 0 (weak_mk some (by simp) (by simp) rfl) (by simp) ?_
    rintro i ⟨hi, hall⟩
    by_cases hlt : i < z.sizes.length
    · simp [hlt]
      refine ⟨_, l01In_spec _ _ _, ?_⟩
      simp
      refine ⟨fun hb => ?_, fun h1 h2 => ?_⟩
      · have : sizesOk z = false := by
          unfold sizesOk
          exact List.all_eq_false.2 ⟨nth z.sizes i, nth_mem hlt, by simp; omega⟩
        simp [isAsy, this]
      · rw [wrap_id _ (by omega) (by omega)]
        refine Round.mk (i + 1) (weak_mk some (by simp) (by simp) rfl) ⟨hlt, fun j hj => ?_⟩ (by omega)
        by_cases e : j = i
        · subst e; exact ⟨h1, h2⟩
        · exact hall j (by omega)
    · obtain rfl : i = z.sizes.length := by omega
      have hz : SzOk z := ⟨hp4, fun x hx => by
        obtain ⟨j, hj, rfl⟩ := List.mem_iff_getElem.1 hx
        have := hall j hj
        rwa [nth_at hj] at this⟩
      have hsz : sizesOk z = true := by
        unfold sizesOk
        rw [List.all_eq_true]
        intro x hx
        have := hz.2 x hx
        simpa using this
      simp
      refine ⟨_, l14Global_spec z true z.start hz o3, ?_⟩
      cases hs : isGlob z.sizes z.start
      · simp [isAsy, hs]
      · simp
        refine ⟨_, l14Joints_spec z hz ho hpm, ?_⟩
        cases hj : jointsOk z
        · simp [isAsy, hj]
        · simp
          have hv : isAsy z = finalOk z := by simp [isAsy, hp, hsz, hs, hj]
          refine awp_loop2 [1] [] (fun i : Nat => [(4, iv i)]) (fun _ => []) (fun i => i ≤ z.final.length ∧ ∀ j, j < i → fOk z j = true) (fun i => z.final.length - i) 0 (weak_mk some (by simp) (by simp) rfl) (by simp) ?_
          rintro i ⟨hi, hall⟩
          by_cases hlt : i < z.final.length
          · have hf := o7 _ (nthR_mem hlt)
            have bad : fOk z i = false → isAsy z = false := fun hb => by
              rw [hv]
              unfold finalOk
              rw [show (List.range z.final.length).all (fOk z) = false from List.all_eq_false.2 ⟨i, by simpa using hlt, by simp [hb]⟩]; rfl
            have done : fOk z i = true → ∀ j, j < i + 1 → fOk z j = true := fun hb j hj2 => by
              by_cases e : j = i
              · subst e; exact hb
              · exact hall j (by omega)
            simp [hlt]
            refine ⟨_, l14Global_spec z true _ hz hf.1, ?_⟩
            cases hg : isGlob z.sizes (nthR z.final i)
            · rw [bad (by unfold fOk; simp [hg])]
              simp
            · by_cases h0 : i = 0
              · simp [h0]
                refine Round.mk (i + 1) (weak_mk some (by simp [h0]; decide) (by simp) rfl) ⟨hlt, done (by unfold fOk; rw [hg, h0]; simp)⟩ (by omega)
              · obtain ⟨k, hk⟩ : ∃ k, i = k + 1 := ⟨i - 1, by omega⟩
                have hwi : IntKind.i64.wrap ((i : Int) - 1) = (k : Int) := by rw [wrap_id _ (by omega) (by omega)]; omega
                have hkl : k < z.final.length := by omega
                have hfk := o7 _ (nthR_mem hkl)
                have hfv : fOk z i = decide (lexC (nthR z.final k) (nthR z.final i) < 0) := by
                  unfold fOk
                  rw [show i - 1 = k by omega, hg]
                  simp [h0]
                simp [show 0 < i by omega, h0, hwi, hkl, hlt]
                refine ⟨_, l01Less_spec _ _ _ _ hfk.1 hf.1, ?_⟩
                simp
                refine ⟨fun hb => bad (by rw [hfv]; simpa using hb), fun hb => ?_⟩
                rw [wrap_id _ (by omega) (by omega)]
                exact Round.mk (i + 1) (weak_mk some (by simp) (by simp) rfl) ⟨hlt, done (by rw [hfv]; simpa using hb)⟩ (by omega)
          · obtain rfl : i = z.final.length := by omega
            have : (List.range z.final.length).all (fOk z) = true := by simpa using hall
            rw [hv]
            simp [finalOk, this]
            omega
theorem l14Part_spec (b : Bool) (g : List Int) (m : Int) (hm : M m) (hg : g.length ≤ 4) : ACalls1 Tryd.prog 152 [.sl 1 b (ints g), iv m] (.own 1 true (ints (pick g m g.length))) := by
  refine walk (fun _ => false) mixed Go.Proofs.Tryd.func152 rfl rfl rfl (by kernel_rfl) rfl (by simp) (by kernel_rfl) ?_
  simp
  refine awp_loop2 [0, 1] [] (fun p : Nat => [(6, iv p), (5, .ref 200)]) (fun p => [(200, .own 1 true (ints (pick g m p)))]) (fun p => p ≤ g.length) (fun p => g.length - p) 0 (weak_mk (fun t => if t = 200 then some 7 else some t) (by simp) (by simp [pick]) rfl) (by simp) ?_
  intro p hp
  by_cases hlt : p < g.length
  · simp [hlt]
    refine ⟨_, l01Bit_spec m hm p (by omega), ?_⟩
    have hl := pick_length g m p
    cases ht : tb m p
    · simp [wrap_id ((p : Int) + 1) (by omega) (by omega)]
      exact Round.mk (p + 1) (weak_mk (fun t => if t = 200 then some 200 else some t) (by simp) (by simp [pick_succ, ht]) rfl) hlt (by omega)
    · simp [hlt]
      repeat (refine And.intro (by omega) ?_)
      rw [wrap_id _ (by omega) (by omega)]
      exact Round.mk (p + 1) (weak_mk (fun t => if t = 200 then some 23 else some t) (by simp) (by simp [pick_succ, ht]) rfl) hlt (by omega)
  · obtain rfl : p = g.length := by omega
    simp
theorem l12Has_spec (a b : Bool) (rs : List (List Int)) (hl : rs.length ≤ 1048576) (h : ∀ r ∈ rs, ListOk r) (g : List Int) (hg : Fits g) : ACalls1 Tryd.prog 209 [.sl 1 a (srows true rs), .sl 1 b (ints g)] (bv (decide (g ∈ rs))) := by
  refine walk (fun _ => false) mixed Go.Proofs.Tryd.func209 rfl rfl rfl (by kernel_rfl) rfl (by simp) (by kernel_rfl) ?_
  simp
  refine awp_loop2 [0, 1] [] (fun k : Nat => [(5, iv k)]) (fun _ => []) (fun k => k ≤ rs.length ∧ ∀ j, j < k → nthR rs j ≠ g) (fun k => rs.length - k) 0 (weak_mk some (by simp) (by simp) rfl) (by simp) ?_
  rintro k ⟨hk, hall⟩
  by_cases hlt : k < rs.length
  · simp [hlt]
    refine ⟨_, l01Same_spec _ _ _ _ (h _ (nthR_mem hlt)).1 hg, ?_⟩
    simp
    refine ⟨fun he => ?_, fun he => ?_⟩
    · rw [← he]; simpa using nthR_mem hlt
    · simp [wrap_id ((k : Int) + 1) (by omega) (by omega)]
      refine Round.mk (k + 1) (weak_mk some (by simp) (by simp) rfl) ⟨hlt, fun j hj => ?_⟩ (by omega)
      by_cases e : j = k
      · subst e; exact he
      · exact hall j (by omega)
  · obtain rfl : k = rs.length := by omega
    simp
    intro hm
    obtain ⟨j, hj, he⟩ := List.mem_iff_getElem.1 hm
    exact hall j hj (by rw [nthR_at hj]; exact he)
end Go.AM
