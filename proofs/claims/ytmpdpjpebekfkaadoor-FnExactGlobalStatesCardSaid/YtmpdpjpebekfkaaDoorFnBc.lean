/-
  Asynchronous automata: the walks of the program: validity.
-/
import Derived.Test.YtmpdpjpebekfkaaDoorFnBa
set_option linter.unusedVariables false
set_option linter.unusedSimpArgs false
set_option maxRecDepth 100000
set_option maxHeartbeats 1600000
namespace Go.AM
open Go.Proofs
theorem isGlobal_spec (a b : Bool) (s g : List Int) (hs : s.length ≤ 4 ∧ ∀ x ∈ s, 1 ≤ x ∧ x ≤ 4) (hg : Fits g) : ACalls1 Tryd.prog 60 [.sl 1 a (ints s), .sl 1 b (ints g)] (bv (isGlob s g)) := by
  unfold Fits at hg
  refine walk (fun _ => false) mixed Go.Proofs.Tryd.func60 rfl rfl rfl (by kernel_rfl) rfl (by simp) (by kernel_rfl) ?_
  simp
  refine ⟨fun h => by rw [isGlob_badlen (by omega)], fun he => ?_⟩
  refine awp_loop2 [0, 12, 13] [] (fun k : Nat => [(14, iv k)]) (fun _ => []) (fun k => k ≤ g.length ∧ ∀ p, p < k → 0 ≤ nth g p ∧ nth g p ≤ nth s p - 1) (fun k => g.length - k) 0 (weak_mk some (by simp) (by simp) rfl) (by simp) ?_
  rintro k ⟨hk, hall⟩
  by_cases hlt : k < g.length
  · have hk2 : k < s.length := by omega
    have hsk := hs.2 _ (nth_mem hk2)
    have hw : IntKind.i64.wrap (nth s k - 1) = nth s k - 1 := wrap_id _ (by omega) (by omega)
    simp [hlt, hk2, hw]
    refine ⟨_, inRange_spec _ _ _, ?_⟩
    simp
    refine ⟨fun hb => ?_, fun h1 h2 => ?_⟩
    · rw [isGlob_bad k hlt (by omega)]
    · rw [wrap_id _ (by omega) (by omega)]
      refine Round.mk (k + 1) (weak_mk some (by simp) (by simp) rfl) ⟨hlt, fun p hp => ?_⟩ (by omega)
      by_cases e : p = k
      · subst e; exact ⟨h1, h2⟩
      · exact hall p (by omega)
  · obtain rfl : k = g.length := by omega
    simp
    exact isGlob_iff.2 ⟨he, hall⟩
theorem locals_spec (nn : Bool) (l : List Int) (m : Int) (hm : M m) (h63 : l.length ≤ 63) (hb : ∀ i, l.length ≤ i → tb m i = false) : ACalls1 Tryd.prog 155 [.sl 1 nn (ints l), iv m] (.own 1 true (ints (pick l m l.length))) := by
  rw [← pick_bits h63 hb]
  refine walk (fun _ => false) mixed Go.Proofs.Tryd.func155 rfl rfl rfl (by kernel_rfl) rfl (by simp) (by kernel_rfl) ?_
  simp
  refine ⟨_, members_spec m hm, ?_⟩
  have hl := bitsOf_length m
  have hmem := fun i (hi : i ∈ bitsOf m) => bitsOf_mem hi
  generalize bitsOf m = b at *
  simp
  refine awp_loop2 [0, 10, 11] [10] (fun k : Nat => [(12, iv k), (5, .ref 100)]) (fun k => [(100, .own 1 true (ints ((b.take k).map fun i => nth l i.toNat)))]) (fun k => k ≤ b.length) (fun k => b.length - k) 0 (weak_mk (fun t => if t = 100 then some 8 else some t) (by simp) (by simp) rfl) (by simp) ?_
  intro k hk
  by_cases hlt : k < b.length
  · obtain ⟨j, hj, hj63, hjt⟩ := hmem _ (nth_mem hlt)
    have hjl : j < l.length := by
      apply Nat.lt_of_not_le
      intro hle
      rw [hb j hle] at hjt; cases hjt
    simp [hlt, hj, hjl, show k + 1 ≤ b.length from hlt, wrap_id ((k : Int) + 1) (by omega) (by omega)]
    repeat (refine And.intro (by omega) ?_)
    refine Round.mk (k + 1) (weak_mk (fun t => if t = 100 then some 22 else some t) (by simp) ?_ rfl) hlt (by omega)
    have e : b.getD k 0 = nth b k := rfl
    have e2 : (b.map fun i => nth l i.toNat).take (k + 1) = (b.map fun i => nth l i.toNat).take k ++ [nth l j] := by rw [← List.map_take, ← List.map_take, take_succ _ _ hlt, e, hj]; simp
    simp [e2]
  · obtain rfl : k = b.length := by omega
    simp
theorem isNaN_spec (a : Int) : ACalls1 Tryd.prog 189 [iv a] (bv false) := by
  refine walk (fun _ => false) mixed Go.Proofs.Tryd.func189 rfl rfl rfl (by kernel_rfl) rfl (by simp) (by kernel_rfl) ?_
  simp
theorem cmpCompare_spec (a b : Int) : ACalls1 Tryd.prog 157 [iv a, iv b] (iv (if a < b then -1 else if b < a then 1 else 0)) := by
  refine walk (fun _ => false) mixed Go.Proofs.Tryd.func157 rfl rfl rfl (by kernel_rfl) rfl (by simp) (by kernel_rfl) ?_
  simp
  refine ⟨_, isNaN_spec a, ?_⟩
  simp
  refine ⟨_, isNaN_spec b, ?_⟩
  by_cases h : a < b
  · simp [h]
  · by_cases h2 : b < a
    · simp [h, h2]
    · simp [h, h2]
theorem slCompare_spec (a b : Bool) (l m : List Int) (hl : Fits l) (hm : Fits m) : ACalls1 Tryd.prog 117 [.sl 1 a (ints l), .sl 1 b (ints m)] (iv (lexC l m)) := by
  unfold Fits at hl hm
  refine walk (fun _ => false) mixed Go.Proofs.Tryd.func117 rfl rfl rfl (by kernel_rfl) rfl (by simp) (by kernel_rfl) ?_
  simp
  refine awp_loop2 [0, 1, 9, 10] [] (fun k : Nat => [(11, iv k)]) (fun _ => []) (fun k => k ≤ l.length ∧ k ≤ m.length ∧ lexC l m = lexC (l.drop k) (m.drop k)) (fun k => l.length - k) 0 (weak_mk some (by simp) (by simp) rfl) (by simp) ?_
  rintro k ⟨hk, hk2, he⟩
  by_cases hlt : k < l.length
  · by_cases hlt2 : k < m.length
    · rw [lexC_drop hlt hlt2] at he
      simp [hlt, hlt2, show ¬ m.length ≤ k by omega]
      refine ⟨_, cmpCompare_spec _ _, ?_⟩
      by_cases h1 : nth l k < nth m k
      · rw [if_pos h1] at he; simp [h1, he]
      · by_cases h2 : nth m k < nth l k
        · rw [if_neg h1, if_pos h2] at he; simp [h1, h2, he]
        · rw [if_neg h1, if_neg h2] at he
          simp [h1, h2, wrap_id ((k : Int) + 1) (by omega) (by omega)]
          exact Round.mk (k + 1) (weak_mk some (by simp) (by simp) rfl) ⟨hlt, hlt2, he⟩ (by omega)
    · simp [hlt, show m.length ≤ k by omega]
      rw [lexC_endr hlt (by omega)] at he
      exact he.symm
  · rw [lexC_endl (by omega)] at he
    simp [hlt]
    rw [he]
    by_cases h1 : k < m.length
    · simp [h1]; omega
    · simp [h1]; omega
def TailOk (x : AV) : Prop := x = .val (.slice none 0 0) ∨ ∃ l, x = .sl 1 true (ints l)
theorem compareJoints_spec (j : J3) (a : Int) (b : Bool) (own : List Int) (x : AV) (hx : TailOk x) (hj : 0 ≤ j.1 ∧ j.1 ≤ 1099511627776) (ha : 0 ≤ a ∧ a ≤ 1099511627776) (hl : Fits j.2.1) (hm : Fits own) :
    ACalls1 Tryd.prog 156 [.agg [iv j.1, .sl 1 true (ints j.2.1), .sl 1 true (ints j.2.2)], .agg [iv a, .sl 1 b (ints own), x]] (iv (cmpJ j (a, own, []))) := by
  have hc : cmpJ j (a, own, []) = if j.1 ≠ a then j.1 - a else lexC j.2.1 own := rfl
  rcases hx with rfl | ⟨l, rfl⟩
  all_goals
    refine walk (fun t => t == 2 || t == 3) mixed Go.Proofs.Tryd.func156 rfl rfl rfl (by kernel_rfl) rfl (by simp) (by kernel_rfl) ?_
    simp
    refine ⟨fun hne => ?_, fun he => ?_⟩
    · rw [wrap_id _ (by omega) (by omega), hc, if_pos hne]
    · refine ⟨_, slCompare_spec _ _ _ _ hl hm, ?_⟩
      rw [if_neg (by simpa using he)] at hc
      simp [hc]
theorem goodJoints_spec (z : AsyV) (hz : SzOk z) (ho : AsyOk z) (hp : ∀ a, a < z.places.length → M (nth z.places a) ∧ ∀ i, z.sizes.length ≤ i → tb (nth z.places a) i = false) : ACalls1 Tryd.prog 116 [asySl z] (bv (jointsOk z)) := by
  have hpl := ho.1.1
  obtain ⟨⟨o1, _⟩, ⟨o2, _⟩, ⟨o3, _⟩, ⟨o4, o5⟩, o6, o7⟩ := ho
  unfold Fits at o1 o2 o3
  have h4 := hz.1
  refine walk (fun t => t == 1 || t == 3030) mixed Go.Proofs.Tryd.func116 rfl rfl rfl (by kernel_rfl) rfl (by simp) (by kernel_rfl) ?_
  simp
  refine awp_loop2 [1, 7, 8] [] (fun i : Nat => [(9, iv i)]) (fun _ => []) (fun i => i ≤ z.joints.length ∧ ∀ j, j < i → jOk z j = true) (fun i => z.joints.length - i) 0 (weak_mk some (by simp) (by simp) rfl) (by simp) ?_
  rintro i ⟨hi, hall⟩
  by_cases hlt : i < z.joints.length
  · have hj := o5 _ (nthJ_mem hlt)
    have bad : jOk z i = false → jointsOk z = false := fun hb => by
      unfold jointsOk
      rw [show (List.range z.joints.length).all (jOk z) = false from List.all_eq_false.2 ⟨i, by simpa using hlt, by simp [hb]⟩]; rfl
    have hw : IntKind.i64.wrap ((z.places.length : Int) - 1) = (z.places.length : Int) - 1 := wrap_id _ (by omega) (by omega)
    simp [hlt]
    refine ⟨_, length_spec _ _ hpl, ?_⟩
    simp [hw]
    refine ⟨_, inRange_spec _ _ _, ?_⟩
    by_cases hin : 0 ≤ (nthJ z.joints i).1 ∧ (nthJ z.joints i).1 ≤ (z.places.length : Int) - 1
    · obtain ⟨a, ha⟩ := Int.eq_ofNat_of_zero_le hin.1
      have hal : a < z.places.length := by omega
      simp [ha, hal, show (a : Int) ≤ (z.places.length : Int) - 1 by omega]
      refine ⟨_, locals_spec _ z.sizes _ (hp a hal).1 (by omega) (hp a hal).2, ?_⟩
      have hpk : (pick z.sizes (nth z.places a) z.sizes.length).length ≤ 4 ∧ ∀ x ∈ pick z.sizes (nth z.places a) z.sizes.length, 1 ≤ x ∧ x ≤ 4 :=
        ⟨by have := pick_length z.sizes (nth z.places a) z.sizes.length; omega, fun x hx => hz.2 x (pick_mem (Nat.le_refl _) x hx)⟩
      simp
      refine ⟨_, isGlobal_spec _ true _ _ hpk hj.2.1.1, ?_⟩
      cases hg1 : isGlob (pick z.sizes (nth z.places a) z.sizes.length) (nthJ z.joints i).2.1
      · rw [bad (by unfold jOk; simp [ha, hg1])]
        simp
      · simp
        refine ⟨_, isGlobal_spec _ true _ _ hpk hj.2.2.1, ?_⟩
        cases hg2 : isGlob (pick z.sizes (nth z.places a) z.sizes.length) (nthJ z.joints i).2.2
        · rw [bad (by unfold jOk; simp [ha, hg2])]
          simp
        · have done : jOk z i = true → ∀ j, j < i + 1 → jOk z j = true := fun hb j hj2 => by
            by_cases e : j = i
            · subst e; exact hb
            · exact hall j (by omega)
          by_cases h0 : i = 0
          · simp [h0]
            have hv : jOk z i = true := by
              unfold jOk
              rw [ha]
              simp [hg1, hg2]
              exact ⟨by omega, .inl h0⟩
            exact Round.mk (i + 1) (weak_mk some (by simp [h0]; decide) (by simp) rfl) ⟨hlt, done hv⟩ (by omega)
          · obtain ⟨k, hk⟩ : ∃ k, i = k + 1 := ⟨i - 1, by omega⟩
            have hwi : IntKind.i64.wrap ((i : Int) - 1) = (k : Int) := by rw [wrap_id _ (by omega) (by omega)]; omega
            have hkl : k < z.joints.length := by omega
            have hjk := o5 _ (nthJ_mem hkl)
            have hv : jOk z i = decide (cmpJ (nthJ z.joints k) (nthJ z.joints i) < 0) := by
              unfold jOk
              rw [show i - 1 = k by omega]
              simp [ha, hg1, hg2, h0]
              intro _; omega
            have hkb : 0 ≤ (nthJ z.joints k).1 ∧ (nthJ z.joints k).1 ≤ 1099511627776 := by
              have := hall k (by omega)
              simp only [jOk, Bool.and_eq_true, decide_eq_true_eq] at this
              omega
            simp [show 0 < i by omega, h0, hwi, hkl]
            refine ⟨_, compareJoints_spec (nthJ z.joints k) a true (nthJ z.joints i).2.1 _ (.inr ⟨_, rfl⟩) hkb (by omega) hjk.2.1.1 hj.2.1.1, ?_⟩
            rw [show cmpJ (nthJ z.joints k) ((a : Int), (nthJ z.joints i).2.1, []) = cmpJ (nthJ z.joints k) (nthJ z.joints i) by unfold cmpJ; rw [ha]]
            simp
            refine ⟨fun hb => bad (by rw [hv]; simp; omega), fun hb => ?_⟩
            rw [wrap_id _ (by omega) (by omega)]
            exact Round.mk (i + 1) (weak_mk some (by simp) (by simp) rfl) ⟨hlt, done (by rw [hv]; simpa using hb)⟩ (by omega)
    · rw [bad (by unfold jOk; simp; omega)]
      simp
      intro h1 h2
      omega
  · obtain rfl : i = z.joints.length := by omega
    have : (List.range z.joints.length).all (jOk z) = true := by simpa using hall
    simp [jointsOk, this]
    omega
theorem IsAsynchronous_spec (z : AsyV) (ho : AsyOk z) : ACalls1 Tryd.prog 59 [asySl z] (bv (isAsy z)) := by
  have ho' := ho
  obtain ⟨⟨o1, _⟩, ⟨o2, o2'⟩, ⟨o3, _⟩, ⟨o4, o5⟩, o6, o7⟩ := ho'
  have o2f := o2
  unfold Fits at o2
  refine walk (fun t => t == 1) mixed Go.Proofs.Tryd.func59 rfl rfl rfl (by kernel_rfl) rfl (by simp) (by kernel_rfl) ?_
  simp
  refine ⟨_, length_spec _ _ o2f, ?_⟩
  simp
  refine ⟨_, arePlaces_spec _ _ _ o1, ?_⟩
  cases hp : arePl z.sizes.length z.places
  · simp [isAsy, hp]
  · simp
    have hp' := hp
    simp only [arePl, Bool.and_eq_true, List.all_eq_true, decide_eq_true_eq] at hp'
    have hp4 : z.sizes.length ≤ 4 := by omega
    have hpm : ∀ a, a < z.places.length → M (nth z.places a) ∧ ∀ i, z.sizes.length ≤ i → tb (nth z.places a) i = false := fun a ha => by
      have := hp'.2 _ (nth_mem ha)
      exact ⟨full_M (n := z.sizes.length) (by omega) (by omega) this.2, fun i hi => tb_of_le (n := z.sizes.length) (by omega) (by omega) this.2 hi⟩
    refine ⟨_, allIn_spec _ z.sizes 1 4 o2f, ?_⟩
    rw [show (z.sizes.all fun x => decide (1 ≤ x) && decide (x ≤ 4)) = sizesOk z from rfl]
    cases hsz : sizesOk z
    · simp [isAsy, hsz]
    · have hz : SzOk z := ⟨hp4, fun x hx => by
        unfold sizesOk at hsz
        rw [List.all_eq_true] at hsz
        have := hsz x hx
        simpa using this⟩
      simp
      refine ⟨_, isGlobal_spec _ _ _ _ hz o3, ?_⟩
      cases hs : isGlob z.sizes z.start
      · simp [isAsy, hs]
      · simp
        refine ⟨_, goodJoints_spec z hz ho hpm, ?_⟩
        cases hj : jointsOk z
        · simp [isAsy, hj]
        · have hv : isAsy z = finalOk z := by simp [isAsy, hp, hsz, hs, hj]
          simp
          refine ⟨fun hl => ?_, fun hl => ?_⟩
          · rw [hv]
            unfold finalOk
            rw [show decide (z.final.length ≤ 64) = false from by simp; omega, Bool.and_false]
          · refine awp_loop2 [1, 38, 39] [] (fun i : Nat => [(40, iv i)]) (fun _ => []) (fun i => i ≤ z.final.length ∧ ∀ j, j < i → fOk z j = true) (fun i => z.final.length - i) 0 (weak_mk some (by simp) (by simp) rfl) (by simp) ?_
            rintro i ⟨hi, hall⟩
            by_cases hlt : i < z.final.length
            · have hf := o7 _ (nthR_mem hlt)
              have bad : fOk z i = false → isAsy z = false := fun hb => by
                rw [hv]
                unfold finalOk
                rw [show (List.range z.final.length).all (fOk z) = false from List.all_eq_false.2 ⟨i, by simpa using hlt, by simp [hb]⟩]; rfl
              have done : fOk z i = true → ∀ j, j < i + 1 → fOk z j = true := fun hb j hj2 => by
                by_cases e : j = i
                · subst e; exact hb
                · exact hall j (by omega)
              simp [hlt]
              refine ⟨_, isGlobal_spec _ true _ _ hz hf.1, ?_⟩
              cases hg : isGlob z.sizes (nthR z.final i)
              · rw [bad (by unfold fOk; simp [hg])]
                simp
              · by_cases h0 : i = 0
                · simp [h0]
                  refine Round.mk (i + 1) (weak_mk some (by simp [h0]; decide) (by simp) rfl) ⟨hlt, done (by unfold fOk; rw [hg, h0]; simp)⟩ (by omega)
                · obtain ⟨k, hk⟩ : ∃ k, i = k + 1 := ⟨i - 1, by omega⟩
                  have hwi : IntKind.i64.wrap ((i : Int) - 1) = (k : Int) := by rw [wrap_id _ (by omega) (by omega)]; omega
                  have hkl : k < z.final.length := by omega
                  have hfk := o7 _ (nthR_mem hkl)
                  have hfv : fOk z i = decide (lexC (nthR z.final k) (nthR z.final i) < 0) := by
                    unfold fOk
                    rw [show i - 1 = k by omega, hg]
                    simp [h0]
                  simp [show 0 < i by omega, h0, hwi, hkl, hlt]
                  refine ⟨_, slCompare_spec _ _ _ _ hfk.1 hf.1, ?_⟩
                  simp
                  refine ⟨fun hb => bad (by rw [hfv]; simp; omega), fun hb => ?_⟩
                  rw [wrap_id _ (by omega) (by omega)]
                  exact Round.mk (i + 1) (weak_mk some (by simp) (by simp) rfl) ⟨hlt, done (by rw [hfv]; simpa using hb)⟩ (by omega)
            · obtain rfl : i = z.final.length := by omega
              have : (List.range z.final.length).all (fOk z) = true := by simpa using hall
              rw [hv]
              simp [finalOk, this]
              omega
end Go.AM
