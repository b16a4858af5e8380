/-
  Draws: structures, perhaps damaged.
-/
import Derived.Test.YthabclhldlikfaaGreatDoorFnUj
import Derived.Test.YthabclhldlikfaaGreatDoorAmWk
set_option linter.unusedVariables false
set_option linter.unusedSimpArgs false
set_option linter.unusedSectionVars false
set_option maxRecDepth 100000
set_option maxHeartbeats 1600000
namespace Go.AM
open Go.Proofs
theorem i64_set {l : List Int} {i : Nat} {v : Int} (h : ∀ y ∈ l, I64 y) (hv : I64 v) : ∀ y ∈ l.set i v, I64 y := fun y hy => by
  rcases List.mem_or_eq_of_mem_set hy with hy | rfl
  · exact h y hy
  · exact hv
theorem xor_i64 (a b : Int) : I64 (ibits .xor .i64 a b) := by
  show I64 (IntKind.i64.wrap _)
  rw [IntKind.wrap_i64]; unfold I64; omega
/-- A structure that is drawn, perhaps damaged. -/
structure StAny (x : StrucV) : Prop where
  b : x.below.length ≤ 16
  c : x.clash.length ≤ 16
  d : x.labels.length ≤ 16
  bi : ∀ y ∈ x.below, I64 y
  ci : ∀ y ∈ x.clash, I64 y
  di : ∀ y ∈ x.labels, I64 y
theorem l16DrawAny_spec (nn : Bool) (l : List Int) (hl : BysOk l) : ACalls Tryz.prog 166 [.sl 1 nn (bys l)]
    (fun xs r => ∃ a y, AlSm a ∧ StAny y ∧ xs = [.sl 1 nn (bys l)] ∧ (r = .tup [alphaSl true a, strucOw false false false y] ∨ r = .tup [alphaSl true a, .agg [.own 1 false (ints y.below), .own 1 false (ints y.clash), .sl 1 false (ints y.labels)]])) := by
  refine walkR (fun t => t == 7012 || t == 1018 || t == 2023 || t == 2025 || t == 1028 || t == 2039 || t == 1045 || t == 2056 || t == 1062 || t == 2066 || t == 1075 || t == 6070) mixed Go.Proofs.Tryz.func166 rfl rfl rfl (by kernel_rfl) (by simp) (by simp) (by simp) (by kernel_rfl) ?_
  simp
  refine ⟨_, l01From_spec nn l hl, ?_⟩
  have hs := src0_ok hl
  generalize src0 l = s at *
  simp
  refine ⟨_, l16Draw_spec nn l s hs, ?_⟩
  rintro _ _ ⟨s1, a, y, hs1, ha, hy, rfl, rfl⟩
  have hyb := hy.b
  have hyc := hy.c
  have hyk := hy.k
  have hyA : StAny y := ⟨by omega, by omega, hyk, fun v hv => by
    obtain ⟨i, hi, rfl⟩ := List.mem_iff_getElem.1 hv
    rw [← nth_at hi]
    have hq := hy.m i (by omega)
    unfold I64; have h1 := hq.1; have h2 := hq.2; omega, fun v hv => by
    obtain ⟨i, hi, rfl⟩ := List.mem_iff_getElem.1 hv
    rw [← nth_at hi]
    have hq := hy.cm i (by omega)
    unfold I64; have h1 := hq.1; have h2 := hq.2; omega, fun v hv => by
    obtain ⟨i, hi, rfl⟩ := List.mem_iff_getElem.1 hv
    rw [← nth_at hi]
    exact hy.li i hi⟩
  simp
  refine ⟨_, l16Size_spec false false false y, ?_⟩
  simp
  refine ⟨fun h0 => ?_, fun h0 => ?_⟩
  · first | refine ⟨⟨by kernel_rfl, by kernel_rfl⟩, ?_⟩ | exact ⟨by kernel_rfl, by kernel_rfl⟩
    exact ⟨_, .refl _, a, ha, y, hyA, .inl rfl⟩
  · refine ⟨_, l16Size_spec false false false y, ?_⟩
    simp
    refine ⟨_, _, l01Next_spec nn l s1 hs1 _ (by unfold I64; omega), ?_⟩
    have hs2 := nxS_ok hs1 (y.labels.length : Int)
    have hb2 := nxN_rng hs1 (y.labels.length : Int)
    generalize nxS l s1 (y.labels.length : Int) = s2 at *
    generalize nxN l s1 (y.labels.length : Int) = r2 at *
    obtain ⟨e, rfl⟩ := Int.eq_ofNat_of_zero_le hb2.1
    have he : e < y.labels.length := by
      have : 0 < y.labels.length := List.length_pos_iff.2 h0
      omega
    simp
    refine ⟨_, _, l01Next_spec nn l s2 hs2 24 (by unfold I64; omega), ?_⟩
    have hs3 := nxS_ok hs2 24
    generalize nxS l s2 24 = s3 at *
    generalize nxN l s2 24 = r3 at *
    simp
    refine ⟨fun h1 => ?_, fun h1 => ⟨fun h2 => ?_, fun h2 => ⟨fun h3 => ?_, fun h3 => ?_⟩⟩⟩
    · refine ⟨by omega, by omega, _, l16Size_spec false false false y, ?_⟩
      simp
      refine ⟨_, _, l01Next_spec nn l s3 hs3 _ (by unfold I64; omega), ?_⟩
      have hb4 := nxN_rng hs3 (y.labels.length : Int)
      generalize nxS l s3 (y.labels.length : Int) = s4 at *
      generalize nxN l s3 (y.labels.length : Int) = r4 at *
      obtain ⟨e2, rfl⟩ := Int.eq_ofNat_of_zero_le hb4.1
      have hel : e < y.below.length := by omega
      simp [hel]
      refine ⟨_, l01One_spec e2 (by unfold I64; omega), ?_⟩
      simp [hel, ints_put]
      repeat (refine And.intro (by first | omega | exact ⟨by kernel_rfl, by kernel_rfl⟩) ?_)
      exact ⟨_, .refl _, a, ha, ⟨y.below.set e (ibits .xor .i64 (nth y.below e) (pow1 e2)), y.clash, y.labels⟩, ⟨by simp; omega, hyA.c, hyA.d, i64_set hyA.bi (xor_i64 _ _), hyA.ci, hyA.di⟩, .inl rfl⟩
    · refine ⟨by omega, by omega, _, l16Size_spec false false false y, ?_⟩
      simp
      refine ⟨_, _, l01Next_spec nn l s3 hs3 _ (by unfold I64; omega), ?_⟩
      have hb4 := nxN_rng hs3 (y.labels.length : Int)
      generalize nxS l s3 (y.labels.length : Int) = s4 at *
      generalize nxN l s3 (y.labels.length : Int) = r4 at *
      obtain ⟨e2, rfl⟩ := Int.eq_ofNat_of_zero_le hb4.1
      have hel : e < y.clash.length := by omega
      simp [hel]
      refine ⟨_, l01One_spec e2 (by unfold I64; omega), ?_⟩
      simp [hel, ints_put]
      repeat (refine And.intro (by first | omega | exact ⟨by kernel_rfl, by kernel_rfl⟩) ?_)
      exact ⟨_, .refl _, a, ha, ⟨y.below, y.clash.set e (ibits .xor .i64 (nth y.clash e) (pow1 e2)), y.labels⟩, ⟨hyA.b, by simp; omega, hyA.d, hyA.bi, i64_set hyA.ci (xor_i64 _ _), hyA.di⟩, .inl rfl⟩
    · refine ⟨_, _, l01Next_spec nn l s3 hs3 10 (by unfold I64; omega), ?_⟩
      have hb4 := nxN_rng hs3 10
      generalize nxS l s3 10 = s4 at *
      generalize nxN l s3 10 = r4 at *
      simp [he, ints_put]
      rw [wrap_id (r4 - 1) (by omega) (by omega)]
      repeat (refine And.intro (by first | omega | exact ⟨by kernel_rfl, by kernel_rfl⟩) ?_)
      exact ⟨_, .refl _, a, ha, ⟨y.below, y.clash, y.labels.set e (r4 - 1)⟩, ⟨hyA.b, hyA.c, by simp; omega, hyA.bi, hyA.ci, i64_set hyA.di (by unfold I64; omega)⟩, .inl rfl⟩
    · refine WkK.mk (weak_frz 13002002 rfl (by simp)) ?_
      by_cases h4 : r3 = 3
      · have htl : List.take (y.labels.length - 1) (ints y.labels).tail = ints y.labels.tail := by
          unfold ints
          rw [← List.map_tail]
          exact List.take_of_length_le (by simp)
        simp [h4, htl]
        repeat (refine And.intro (by first | omega | exact ⟨by kernel_rfl, by kernel_rfl⟩) ?_)
        exact ⟨_, .refl _, a, ha, ⟨y.below, y.clash, y.labels.tail⟩, ⟨hyA.b, hyA.c, by simp; omega, hyA.bi, hyA.ci, fun v hv => hyA.di v (List.mem_of_mem_tail hv)⟩, .inr rfl⟩
      · simp [h4]
        repeat (refine And.intro (by first | omega | exact ⟨by kernel_rfl, by kernel_rfl⟩) ?_)
        exact ⟨_, .refl _, a, ha, y, hyA, .inr rfl⟩
end Go.AM
