/-
  Asynchronous automata: the walks of the reference.
-/
import Derived.Test.YtmpdpjpebekfkaaDoorFnAz
set_option linter.unusedVariables false
set_option linter.unusedSimpArgs false
set_option maxRecDepth 100000
set_option maxHeartbeats 1600000
namespace Go.AM
open Go.Proofs
def SzOk (z : AsyV) : Prop := z.sizes.length ≤ 4 ∧ ∀ x ∈ z.sizes, 1 ≤ x ∧ x ≤ 4
theorem SzOk.at {z : AsyV} (h : SzOk z) {p : Nat} (hp : p < z.sizes.length) : 1 ≤ nth z.sizes p ∧ nth z.sizes p ≤ 4 := h.2 _ (nth_mem hp)
theorem l01Same_spec (a b : Bool) (l m : List Int) (hl : Fits l) (hm : Fits m) : ACalls1 Tryd.prog 147 [.sl 1 a (ints l), .sl 1 b (ints m)] (bv (decide (l = m))) := by
  unfold Fits at hl hm
  refine walk (fun _ => false) mixed Go.Proofs.Tryd.func147 rfl rfl rfl (by kernel_rfl) rfl (by simp) (by kernel_rfl) ?_
  simp
  refine ⟨fun h e => h (by rw [e]), fun he => ?_⟩
  refine awp_loop2 [0, 1] [] (fun k : Nat => [(5, iv k)]) (fun _ => []) (fun k => k ≤ l.length ∧ l.take k = m.take k) (fun k => l.length - k) 0 (weak_mk some (by simp) (by simp) rfl) (by simp) ?_
  rintro k ⟨hk, ht⟩
  by_cases hlt : k < l.length
  · have hlt2 : k < m.length := by omega
    simp [hlt, hlt2]
    refine ⟨fun hne e => hne (by rw [e]), fun hee => ?_⟩
    simp [wrap_id ((k : Int) + 1) (by omega) (by omega)]
    exact Round.mk (k + 1) (weak_mk some (by simp) (by simp) rfl) ⟨hlt, by rw [take_succ _ _ hlt, take_succ _ _ hlt2, ht]; exact congrArg _ (congrArg (fun x => [x]) hee)⟩ (by omega)
  · obtain rfl : k = l.length := by omega
    rw [List.take_length, he, List.take_length] at ht
    simp [ht]
theorem l01Less_spec (a b : Bool) (l m : List Int) (hl : Fits l) (hm : Fits m) : ACalls1 Tryd.prog 109 [.sl 1 a (ints l), .sl 1 b (ints m)] (bv (decide (lexC l m < 0))) := by
  unfold Fits at hl hm
  refine walk (fun _ => false) mixed Go.Proofs.Tryd.func109 rfl rfl rfl (by kernel_rfl) rfl (by simp) (by kernel_rfl) ?_
  simp
  refine awp_loop2 [0, 1] [] (fun k : Nat => [(5, iv k)]) (fun _ => []) (fun k => k ≤ l.length ∧ k ≤ m.length ∧ lexC l m = lexC (l.drop k) (m.drop k)) (fun k => l.length - k) 0 (weak_mk some (by simp) (by simp) rfl) (by simp) ?_
  rintro k ⟨hk, hk2, he⟩
  by_cases hlt : k < l.length
  · by_cases hlt2 : k < m.length
    · rw [lexC_drop hlt hlt2] at he
      simp [hlt, hlt2]
      refine ⟨fun hne => ?_, fun hne => ?_⟩
      · rw [he]
        by_cases h1 : nth l k < nth m k
        · simp [h1]
        · simp [h1, show nth m k < nth l k by omega]
      · simp [wrap_id ((k : Int) + 1) (by omega) (by omega)]
        exact Round.mk (k + 1) (weak_mk some (by simp) (by simp) rfl) ⟨hlt, hlt2, by rw [he, if_neg (by omega), if_neg (by omega)]⟩ (by omega)
    · simp [hlt, hlt2]
      rw [lexC_endr hlt (by omega)] at he
      rw [he]; simp; omega
  · rw [lexC_endl (by omega)] at he
    simp [hlt]
    rw [he]
    by_cases h1 : k < m.length
    · simp [h1]; omega
    · simp [h1]; omega
theorem l14Local_spec (z : AsyV) (m : Int) (hm : M m) (b : Bool) (l : List Int) (hz : SzOk z) (hl : Fits l) : ACalls1 Tryd.prog 110 [asySl z, iv m, .sl 1 b (ints l)] (bv (isGlob (pick z.sizes m z.sizes.length) l)) := by
  unfold Fits at hl
  have h4 := hz.1
  refine walk (fun t => t == 3) mixed Go.Proofs.Tryd.func110 rfl rfl rfl (by kernel_rfl) rfl (by simp) (by kernel_rfl) ?_
  simp
  refine awp_loop2 [1, 2, 3] [] (fun p : Nat => [(8, iv p), (7, iv (cntB m p))]) (fun _ => []) (fun p => p ≤ z.sizes.length ∧ cntB m p ≤ l.length ∧ ∀ i, i < cntB m p → 0 ≤ nth l i ∧ nth l i ≤ nth (pick z.sizes m z.sizes.length) i - 1) (fun p => z.sizes.length - p) 0 (weak_mk some (by simp [cntB]) (by simp) rfl) (by simp [cntB]) ?_
  rintro p ⟨hp, hc, hi⟩
  by_cases hlt : p < z.sizes.length
  · have hs := hz.at hlt
    simp [hlt]
    refine ⟨_, l01Bit_spec m hm p (by omega), ?_⟩
    cases ht : tb m p
    · simp [wrap_id ((p : Int) + 1) (by omega) (by omega)]
      exact Round.mk (p + 1) (weak_mk some (by simp [cntB_succ, ht]) (by simp) rfl) ⟨hlt, by rw [cntB_succ, ht]; simpa using hc, by rw [cntB_succ, ht]; simpa using hi⟩ (by omega)
    · have hlt' := cntB_lt m hlt ht
      by_cases hat : cntB m p = l.length
      · simp [hat]
        rw [isGlob_badlen (by rw [pick_len]; omega)]
      · have hat2 : cntB m p < l.length := by omega
        have hpa := pick_at z.sizes m hlt ht
        simp [hat, hat2, hlt]
        rw [wrap_id _ (by omega) (by omega)]
        refine ⟨_, l01In_spec _ _ _, ?_⟩
        simp
        refine ⟨fun hb => ?_, fun h1 h2 => ?_⟩
        · rw [isGlob_bad (cntB m p) hat2 (by rw [hpa]; omega)]
        · rw [wrap_id _ (by omega) (by omega), wrap_id _ (by omega) (by omega)]
          have e : cntB m (p + 1) = cntB m p + 1 := by rw [cntB_succ, ht]; rfl
          refine Round.mk (p + 1) (weak_mk some (by simp [e]) (by simp) rfl) ⟨hlt, by rw [e]; omega, ?_⟩ (by omega)
          intro i hi2
          rw [e] at hi2
          by_cases hie : i = cntB m p
          · subst hie; rw [hpa]; omega
          · exact hi i (by omega)
  · obtain rfl : p = z.sizes.length := by omega
    simp
    by_cases he : cntB m z.sizes.length = l.length
    · have : isGlob (pick z.sizes m z.sizes.length) l = true := isGlob_iff.2 ⟨by rw [pick_len, he], fun i h => hi i (by omega)⟩
      simp [he, this]
    · rw [isGlob_badlen (by rw [pick_len]; omega)]
      simp [he]
theorem l14Global_spec (z : AsyV) (b : Bool) (l : List Int) (hz : SzOk z) (hl : Fits l) : ACalls1 Tryd.prog 54 [asySl z, .sl 1 b (ints l)] (bv (isGlob z.sizes l)) := by
  have h4 := hz.1
  refine walk (fun t => t == 2) mixed Go.Proofs.Tryd.func54 rfl rfl rfl (by kernel_rfl) rfl (by simp) (by kernel_rfl) ?_
  simp
  refine ⟨_, l01Full_spec _ (by unfold I64; omega), ?_⟩
  simp
  refine ⟨_, l14Local_spec z _ (full_M (n := z.sizes.length) (by omega) (by have := (M_full (n := z.sizes.length) (by omega)).1; omega) (by omega)) b l hz hl, ?_⟩
  rw [pick_all z.sizes.length (Nat.le_refl _) (fun i hi => by rw [tb_full (by omega)]; simpa using hi), List.take_length]
  simp
theorem l14Joints_spec (z : AsyV) (hz : SzOk z) (ho : AsyOk z) (hp : ∀ a, a < z.places.length → M (nth z.places a)) : ACalls1 Tryd.prog 108 [asySl z] (bv (jointsOk z)) := by
  obtain ⟨⟨o1, _⟩, ⟨o2, _⟩, ⟨o3, _⟩, ⟨o4, o5⟩, o6, o7⟩ := ho
  unfold Fits at o1 o2 o3
  refine walk (fun t => t == 1) mixed Go.Proofs.Tryd.func108 rfl rfl rfl (by kernel_rfl) rfl (by simp) (by kernel_rfl) ?_
  simp
  refine awp_loop2 [1] [] (fun i : Nat => [(3, iv i)]) (fun _ => []) (fun i => i ≤ z.joints.length ∧ ∀ j, j < i → jOk z j = true) (fun i => z.joints.length - i) 0 (weak_mk some (by simp) (by simp) rfl) (by simp) ?_
  rintro i ⟨hi, hall⟩
  by_cases hlt : i < z.joints.length
  · have hj := o5 _ (nthJ_mem hlt)
    have bad : jOk z i = false → jointsOk z = false := fun hb => by
      unfold jointsOk
      rw [show (List.range z.joints.length).all (jOk z) = false from List.all_eq_false.2 ⟨i, by simpa using hlt, by simp [hb]⟩]; rfl
    have hw : IntKind.i64.wrap ((z.places.length : Int) - 1) = (z.places.length : Int) - 1 := wrap_id _ (by omega) (by omega)
    simp [hlt, hw]
    repeat (refine And.intro (by omega) ?_)
    refine ⟨_, l01In_spec _ _ _, ?_⟩
    by_cases hin : 0 ≤ (nthJ z.joints i).1 ∧ (nthJ z.joints i).1 ≤ (z.places.length : Int) - 1
    · obtain ⟨a, ha⟩ := Int.eq_ofNat_of_zero_le hin.1
      have hal : a < z.places.length := by omega
      simp [ha, hal, show (a : Int) ≤ (z.places.length : Int) - 1 by omega]
      refine ⟨_, l14Local_spec z _ (hp a hal) true _ hz hj.2.1.1, ?_⟩
      cases hg1 : isGlob (pick z.sizes (nth z.places a) z.sizes.length) (nthJ z.joints i).2.1
      · rw [bad (by unfold jOk; simp [ha, hg1])]
        simp
      · simp [hal]
        refine ⟨_, l14Local_spec z _ (hp a hal) true _ hz hj.2.2.1, ?_⟩
        cases hg2 : isGlob (pick z.sizes (nth z.places a) z.sizes.length) (nthJ z.joints i).2.2
        · rw [bad (by unfold jOk; simp [ha, hg2])]
          simp
        · have done : jOk z i = true → ∀ j, j < i + 1 → jOk z j = true := fun hb j hj2 => by
            by_cases e : j = i
            · subst e; exact hb
            · exact hall j (by omega)
          by_cases h0 : i = 0
          · simp [h0, wrap_id ((i : Int) + 1) (by omega) (by omega)]
            rw [wrap_id _ (by omega) (by omega)]
            refine Round.mk (i + 1) (weak_mk some (by simp [h0]) (by simp) rfl) ⟨hlt, done ?_⟩ (by omega)
            unfold jOk
            rw [ha]
            simp [hg1, hg2]
            exact ⟨by omega, .inl h0⟩
          · obtain ⟨k, hk⟩ : ∃ k, i = k + 1 := ⟨i - 1, by omega⟩
            have hwi : IntKind.i64.wrap ((i : Int) - 1) = (k : Int) := by rw [wrap_id _ (by omega) (by omega)]; omega
            have hkl : k < z.joints.length := by omega
            have hjk := o5 _ (nthJ_mem hkl)
            have hv : jOk z i = decide (cmpJ (nthJ z.joints k) (nthJ z.joints i) < 0) := by
              unfold jOk
              rw [show i - 1 = k by omega]
              simp [ha, hg1, hg2, h0]
              intro _; omega
            have hc : cmpJ (nthJ z.joints k) (nthJ z.joints i) = if (nthJ z.joints k).1 ≠ (a : Int) then (nthJ z.joints k).1 - a else lexC (nthJ z.joints k).2.1 (nthJ z.joints i).2.1 := by unfold cmpJ; rw [ha]
            simp [show 0 < i by omega, h0, hwi, hkl]
            refine ⟨fun hle => ⟨fun he => ?_, fun hne => ?_⟩, fun hlt2 => ?_⟩
            · refine ⟨_, l01Less_spec _ _ _ _ hjk.2.1.1 hj.2.1.1, ?_⟩
              rw [if_neg (by simpa using he.symm)] at hc
              rw [hc] at hv
              simp
              refine ⟨fun hb => bad (by rw [hv]; simpa using hb), fun hb => ?_⟩
              rw [wrap_id _ (by omega) (by omega)]
              exact Round.mk (i + 1) (weak_mk some (by simp) (by simp) rfl) ⟨hlt, done (by rw [hv]; simpa using hb)⟩ (by omega)
            · rw [if_pos (by omega)] at hc
              rw [wrap_id _ (by omega) (by omega)]
              exact Round.mk (i + 1) (weak_mk some (by simp) (by simp) rfl) ⟨hlt, done (by rw [hv, hc]; simp; omega)⟩ (by omega)
            · rw [if_pos (by omega)] at hc
              exact bad (by rw [hv, hc]; simp; omega)
    · rw [bad (by unfold jOk; simp; omega)]
      simp
      intro h1 h2
      omega
  · obtain rfl : i = z.joints.length := by omega
    have : (List.range z.joints.length).all (jOk z) = true := by simpa using hall
    simp [jointsOk, this]
    omega
theorem isAsy_facts {z : AsyV} (h : isAsy z = true) : SzOk z ∧ (∀ a, a < z.places.length → M (nth z.places a) ∧ ∀ i, z.sizes.length ≤ i → tb (nth z.places a) i = false) ∧ isGlob z.sizes z.start = true ∧ jointsOk z = true ∧ finalOk z = true ∧ z.places.length ≤ 8 := by
  simp only [isAsy, Bool.and_eq_true, sizesOk, arePl, List.all_eq_true, decide_eq_true_eq] at h
  obtain ⟨⟨⟨⟨⟨⟨⟨h1, h2⟩, h3⟩, h4⟩, h5⟩, h6⟩, h7⟩, h8⟩ := h
  refine ⟨⟨by omega, fun x hx => by have := h5 x hx; exact this⟩, fun a ha => ?_, h6, h7, h8, by omega⟩
  have := h4 _ (nth_mem ha)
  exact ⟨full_M (n := z.sizes.length) (by omega) (by omega) this.2, fun i hi => tb_of_le (n := z.sizes.length) (by omega) (by omega) this.2 hi⟩
theorem joint_facts {z : AsyV} (h : jointsOk z = true) {i : Nat} (hi : i < z.joints.length) : (∃ a : Nat, (nthJ z.joints i).1 = a ∧ a < z.places.length ∧ (nthJ z.joints i).2.1.length = cntB (nth z.places a) z.sizes.length ∧ (nthJ z.joints i).2.2.length = cntB (nth z.places a) z.sizes.length) := by
  simp only [jointsOk, Bool.and_eq_true, List.all_eq_true, List.mem_range] at h
  have := h.1 i hi
  simp only [jOk, Bool.and_eq_true, Bool.or_eq_true, decide_eq_true_eq] at this
  obtain ⟨⟨⟨⟨h1, h2⟩, h3⟩, h4⟩, _⟩ := this
  obtain ⟨a, ha⟩ := Int.eq_ofNat_of_zero_le h1
  rw [ha] at h2 h3 h4
  exact ⟨a, ha, by omega, by rw [isGlob_len h3, pick_len]; rfl, by rw [isGlob_len h4, pick_len]; rfl⟩
end Go.AM
