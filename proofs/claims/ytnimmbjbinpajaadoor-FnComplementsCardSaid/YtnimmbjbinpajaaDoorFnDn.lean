/-
  Draws: nets.
-/
import Derived.Test.YtnimmbjbinpajaaDoorFnDr
import Derived.Test.YtnimmbjbinpajaaDoorFnMgA
set_option linter.unusedVariables false
set_option linter.unusedSimpArgs false
set_option maxRecDepth 100000
set_option maxHeartbeats 1600000
namespace Go.AM
open Go.Proofs
/-- A net as it is drawn: few places and transitions. -/
def NetSm (x : NetV) : Prop := 0 ≤ x.p ∧ x.p ≤ 9 ∧ I64 x.s ∧ x.pre.length ≤ 8 ∧ x.post.length ≤ 8 ∧ (∀ y ∈ x.pre, I64 y) ∧ ∀ y ∈ x.post, I64 y
theorem full_le6 {P : Nat} (h : P ≤ 6) : 0 ≤ full (P : Int) ∧ full (P : Int) ≤ 63 := by
  rw [full_eq (by omega)]
  have h1 : 2 ^ P ≤ 2 ^ 6 := Nat.pow_le_pow_right (by omega) h
  have h2 : 0 < 2 ^ P := Nat.pow_pos (by omega)
  omega
theorem nth_app {a b : List Int} {i : Nat} (h : i < a.length) : nth (a ++ b) i = nth a i := by
  unfold nth; rw [List.getD_eq_getElem?_getD, List.getD_eq_getElem?_getD, List.getElem?_append_left h]
theorem nth_new {a : List Int} {x : Int} {i : Nat} (h : i = a.length) : nth (a ++ [x]) i = x := by
  subst h; unfold nth; simp [List.getD_eq_getElem?_getD]
theorem l17Draw_spec (nn : Bool) (l : List Int) (s : Src) (hs : SrcOk l s) : ACalls Tryd.prog 164 [srcA nn l s] (fun xs r => ∃ s' x, SrcOk l s' ∧ NetSm x ∧ xs = [srcA nn l s'] ∧ r = netOw false false x) := by
  refine walkR (fun t => t == 1034 || t == 1106 || t == 1147 || t == 1161 || t == 2018 || t == 2021 || t == 2024 || t == 2039 || t == 2045 || t == 2052 || t == 2058 || t == 2081 || t == 2085 || t == 2095 || t == 2112 || t == 2123 || t == 2144 || t == 2157 || t == 2171) mixed Go.Proofs.Tryd.func164 rfl rfl rfl (by kernel_rfl) (by simp) (by simp) (by simp) (by kernel_rfl) ?_
  simp
  refine ⟨_, _, l01Next_spec nn l s hs 4 (by unfold I64; omega), ?_⟩
  have hs1 := nxS_ok hs 4
  generalize nxS l s 4 = s1 at *
  generalize nxN l s 4 = r1 at *
  simp
  refine ⟨fun h1 => ?_, fun h1 => ?_⟩
  · refine ⟨_, _, l01Next_spec nn l s1 hs1 7 (by unfold I64; omega), ?_⟩
    have hs2 := nxS_ok hs1 7
    have hr2 := nxN_rng hs1 7
    generalize nxS l s1 7 = s2 at *
    generalize nxN l s1 7 = r2 at *
    simp
    refine ⟨_, _, l01Next_spec nn l s2 hs2 5 (by unfold I64; omega), ?_⟩
    have hs3 := nxS_ok hs2 5
    have hr3 := nxN_rng hs2 5
    generalize nxS l s2 5 = s3 at *
    generalize nxN l s2 5 = r3 at *
    simp
    obtain ⟨P, rfl⟩ := Int.eq_ofNat_of_zero_le hr2.1
    obtain ⟨k0, rfl⟩ := Int.eq_ofNat_of_zero_le hr3.1
    have hP : P ≤ 6 := by omega
    have hk0 : k0 ≤ 4 := by omega
    have hfull : 0 ≤ full (P : Int) ∧ full (P : Int) ≤ 63 := full_le6 hP
    refine awp_loop2 [0, 2, 3] [2] (fun q : Src × Nat × List Int × List Int => [(4, iv q.2.1)]) (fun q => [(1000000000, srcA nn l q.1), (3, .box [iv P, .ref 200, .ref 201, iv 0]), (200, .own 1 false (ints q.2.2.1)), (201, .own 1 false (ints q.2.2.2))])
      (fun q => SrcOk l q.1 ∧ q.2.2.1.length + q.2.1 ≤ 4 ∧ q.2.2.2.length + q.2.1 ≤ 4 ∧ (∀ y ∈ q.2.2.1, I64 y) ∧ ∀ y ∈ q.2.2.2, I64 y) (fun q => q.2.1) (s3, k0, [], []) (weak_mk (fun t => if t = 200 then none else if t = 201 then none else some t) (by simp) (by simp) rfl) (by simp; exact ⟨hs3, by omega⟩) ?_
    rintro ⟨q, k, pre, post⟩ ⟨hq, hl1, hl2, hi1, hi2⟩
    simp only at hq hl1 hl2 hi1 hi2
    by_cases hgo : 0 < k ∧ 0 < P
    · have hfi : I64 (P : Int) := by unfold I64; omega
      have hff : I64 (full (P : Int) + 1) := by unfold I64; omega
      have hw : IntKind.i64.wrap (full (P : Int) + 1) = full (P : Int) + 1 := wrap_id _ (by omega) (by omega)
      have mk : ∀ {a : Int}, 0 ≤ a ∧ (a < full (P : Int) + 1 ∨ a = 0) → M a := fun h => ⟨h.1, by omega⟩
      simp [hgo.1, hgo.2]
      refine ⟨_, l01Full_spec _ hfi, ?_⟩
      simp [hw]
      refine ⟨_, _, l01Next_spec nn l q hq _ hff, ?_⟩
      have hq1 := nxS_ok hq (full (P : Int) + 1)
      have ha1 := mk (nxN_rng hq (full (P : Int) + 1))
      generalize nxS l q (full (P : Int) + 1) = q1 at *
      generalize nxN l q (full (P : Int) + 1) = a1 at *
      simp
      refine ⟨_, l01Full_spec _ hfi, ?_⟩
      simp [hw]
      refine ⟨_, _, l01Next_spec nn l q1 hq1 _ hff, ?_⟩
      have hq2 := nxS_ok hq1 (full (P : Int) + 1)
      have ha2 := mk (nxN_rng hq1 (full (P : Int) + 1))
      generalize nxS l q1 (full (P : Int) + 1) = q2 at *
      generalize nxN l q1 (full (P : Int) + 1) = a2 at *
      simp
      refine ⟨_, l01Full_spec _ hfi, ?_⟩
      simp [hw]
      refine ⟨_, _, l01Next_spec nn l q2 hq2 _ hff, ?_⟩
      have hq3 := nxS_ok hq2 (full (P : Int) + 1)
      have ha3 := mk (nxN_rng hq2 (full (P : Int) + 1))
      generalize nxS l q2 (full (P : Int) + 1) = q3 at *
      generalize nxN l q2 (full (P : Int) + 1) = a3 at *
      simp
      refine ⟨_, l01Full_spec _ hfi, ?_⟩
      simp [hw]
      refine ⟨_, _, l01Next_spec nn l q3 hq3 _ hff, ?_⟩
      have hq4 := nxS_ok hq3 (full (P : Int) + 1)
      have ha4 := mk (nxN_rng hq3 (full (P : Int) + 1))
      generalize nxS l q3 (full (P : Int) + 1) = q4 at *
      generalize nxN l q3 (full (P : Int) + 1) = a4 at *
      have hA := M_and ha1 ha2
      have hB := M_and ha3 ha4
      generalize hAe : ibits .and .i64 a1 a2 = A at *
      generalize hBe : ibits .and .i64 a3 a4 = B at *
      simp [hAe, hBe]
      first | refine ⟨⟨by kernel_rfl, by kernel_rfl⟩, ?_⟩ | exact ⟨by kernel_rfl, by kernel_rfl⟩
      have hA2 := hA.2
      have hB2 := hB.2
      have hwk : IntKind.i64.wrap ((k : Int) - 1) = ((k - 1 : Nat) : Int) := by rw [wrap_id _ (by omega) (by omega)]; omega
      rw [hwk]
      refine ⟨fun hne => ⟨by omega, by omega, by omega, by omega, ?_⟩, fun he => ?_⟩
      · refine Round.mk (q4, k - 1, pre ++ [A], post ++ [B]) (weak_mk (fun t => if t = 200 then some 68 else if t = 201 then some 74 else some t) (by simp) (by simp) rfl) ⟨hq4, ?_, ?_, ?_, ?_⟩ (by simp only; omega)
        · simp only [List.length_append, List.length_singleton]; omega
        · simp only [List.length_append, List.length_singleton]; omega
        · intro y hy
          rcases List.mem_append.1 hy with hy | hy
          · exact hi1 y hy
          · simp at hy; rw [hy]; unfold I64; have := hA.1; omega
        · intro y hy
          rcases List.mem_append.1 hy with hy | hy
          · exact hi2 y hy
          · simp at hy; rw [hy]; unfold I64; have := hB.1; omega
      · exact Round.mk (q4, k - 1, pre, post) (weak_mk some (by simp) (by simp) rfl) ⟨hq4, by simp only; omega, by simp only; omega, hi1, hi2⟩ (by simp only; omega)
    · have hfi : I64 (P : Int) := by unfold I64; omega
      have hff : I64 (full (P : Int) + 1) := by unfold I64; omega
      have hw : IntKind.i64.wrap (full (P : Int) + 1) = full (P : Int) + 1 := wrap_id _ (by omega) (by omega)
      have hcase : k = 0 ∨ (0 < k ∧ ¬ 0 < P) := by omega
      rcases hcase with hk | ⟨hk, hP0⟩
      all_goals
        simp [hk]
        try (refine ⟨fun hbad => absurd hbad hP0, ?_⟩)
        try intro _
        refine ⟨_, l01Full_spec _ hfi, ?_⟩
        simp [hw]
        refine ⟨_, _, l01Next_spec nn l q hq _ hff, ?_⟩
        have hq1 := nxS_ok hq (full (P : Int) + 1)
        have ha1 := nxN_rng hq (full (P : Int) + 1)
        generalize nxS l q (full (P : Int) + 1) = q1 at *
        generalize nxN l q (full (P : Int) + 1) = a1 at *
        simp
        exact ⟨_, .refl _, q1, hq1, ⟨P, pre, post, a1⟩, ⟨by simp only; omega, by simp only; omega, by unfold I64; simp only; omega, by simp only; omega, by simp only; omega, hi1, hi2⟩, ⟨rfl, rfl⟩, rfl⟩
  · refine ⟨_, _, l01Next_spec nn l s1 hs1 3 (by unfold I64; omega), ?_⟩
    have hs2 := nxS_ok hs1 3
    have hr2 := nxN_rng hs1 3
    generalize nxS l s1 3 = s2 at *
    generalize nxN l s1 3 = r2 at *
    obtain ⟨n0, rfl⟩ := Int.eq_ofNat_of_zero_le hr2.1
    obtain ⟨n, hn⟩ : ∃ n : Nat, n = n0 + 1 := ⟨_, rfl⟩
    have hw1 : IntKind.i64.wrap (1 + (n0 : Int)) = (n : Int) := by rw [wrap_id _ (by omega) (by omega)]; omega
    simp [hw1]
    have hn3 : 1 ≤ n ∧ n ≤ 3 := by omega
    clear hw1 hn hr2
    refine awp_loop2 [0, 2, 3, 7] [2] (fun q : Src × Nat × List Int × List Int × Nat × Int => [(10, iv q.2.1), (8, .ref 200), (9, .ref 201)]) (fun q => [(1000000000, srcA nn l q.1), (3, .box [iv q.2.2.2.2.1, .val (.slice none 0 0), .val (.slice none 0 0), iv q.2.2.2.2.2]), (200, .own 1 true (ints q.2.2.1)), (201, .own 1 true (ints q.2.2.2.1))])
      (fun q => SrcOk l q.1 ∧ q.2.1 ≤ n ∧ q.2.2.1.length = q.2.1 ∧ q.2.2.2.1.length = q.2.1 ∧ q.2.2.2.2.1 ≤ 3 * q.2.1 ∧ M q.2.2.2.2.2 ∧ ∀ i, i < q.2.1 → 0 ≤ nth q.2.2.1 i ∧ nth q.2.2.1 i + nth q.2.2.2.1 i ≤ (q.2.2.2.2.1 : Nat) ∧ 1 ≤ nth q.2.2.2.1 i ∧ nth q.2.2.2.1 i ≤ 3) (fun q => n - q.2.1) (s2, 0, [], [], 0, 0) (weak_mk (fun t => if t = 200 then some 87 else if t = 201 then some 88 else some t) (by simp) (by simp) rfl) (by simp; exact ⟨hs2, by unfold M; omega⟩) ?_
    rintro ⟨q, p, begins, sizes, places, start⟩ ⟨hq, hp, hb1, hb2, hpl, hst, hbs⟩
    simp only at hq hp hb1 hb2 hpl hst hbs
    by_cases hlt : p < n
    · simp [hlt]
      refine ⟨_, _, l01Next_spec nn l q hq 3 (by unfold I64; omega), ?_⟩
      have hq1 := nxS_ok hq 3
      have ha1 := nxN_rng hq 3
      generalize nxS l q 3 = q1 at *
      generalize nxN l q 3 = a1 at *
      obtain ⟨z0, rfl⟩ := Int.eq_ofNat_of_zero_le ha1.1
      obtain ⟨sz, hsz⟩ : ∃ n : Nat, n = z0 + 1 := ⟨_, rfl⟩
      have hw1 : IntKind.i64.wrap (1 + (z0 : Int)) = (sz : Int) := by rw [wrap_id _ (by omega) (by omega)]; omega
      have hsz3 : 1 ≤ sz ∧ sz ≤ 3 := by omega
      simp [hw1]
      repeat (refine And.intro (by omega) ?_)
      refine ⟨_, _, l01Next_spec nn l q1 hq1 sz (by unfold I64; omega), ?_⟩
      have hq2 := nxS_ok hq1 (sz : Int)
      have ha2 := nxN_rng hq1 (sz : Int)
      generalize nxS l q1 (sz : Int) = q2 at *
      generalize nxN l q1 (sz : Int) = a2 at *
      obtain ⟨a, rfl⟩ := Int.eq_ofNat_of_zero_le ha2.1
      have hw2 : IntKind.i64.wrap ((places : Int) + a) = ((places + a : Nat) : Int) := by rw [wrap_id _ (by omega) (by omega)]; omega
      have hw3 : IntKind.i64.wrap ((places : Int) + sz) = ((places + sz : Nat) : Int) := by rw [wrap_id _ (by omega) (by omega)]; omega
      have hone : M (pow1 ((places + a : Nat) : Int)) := M_pow1 (by omega)
      have hor := M_or hst hone
      simp [hw2]
      refine ⟨_, l01One_spec _ (by unfold I64; omega), ?_⟩
      rw [show (places : Int) + (a : Int) = ((places + a : Nat) : Int) by omega]
      generalize hO : ibits .or .i64 start (pow1 ((places + a : Nat) : Int)) = O at *
      have hO2 : ibits .or .i64 start (pow1 ((places : Int) + (a : Int))) = O := by rw [show (places : Int) + (a : Int) = ((places + a : Nat) : Int) by omega]; exact hO
      simp [hO, hw3]
      first | refine ⟨⟨by kernel_rfl, by kernel_rfl⟩, ?_⟩ | exact ⟨by kernel_rfl, by kernel_rfl⟩
      rw [wrap_id _ (by omega) (by omega)]
      refine Round.mk (q2, p + 1, begins ++ [(places : Int)], sizes ++ [(sz : Int)], places + sz, O) (weak_mk (fun t => if t = 200 then some 101 else if t = 201 then some 105 else some t) (by simp) (by simp [hO2]) rfl) ⟨hq2, hlt, by simp [hb1], by simp [hb2], by simp only; omega, hor, ?_⟩ (by simp only; omega)
      intro i hi
      simp only at hi
      by_cases hip : i < p
      · have := hbs i hip
        simp only
        rw [nth_app (by omega), nth_app (by omega)]
        omega
      · obtain rfl : i = p := by omega
        simp only
        rw [nth_new hb1.symm, nth_new hb2.symm]
        omega
    · obtain rfl : p = n := by omega
      simp
      refine ⟨_, _, l01Next_spec nn l q hq 5 (by unfold I64; omega), ?_⟩
      have hq1 := nxS_ok hq 5
      have ha1 := nxN_rng hq 5
      generalize nxS l q 5 = q1 at *
      generalize nxN l q 5 = a1 at *
      obtain ⟨z0, rfl⟩ := Int.eq_ofNat_of_zero_le ha1.1
      obtain ⟨k0, hk0⟩ : ∃ n : Nat, n = z0 + 1 := ⟨_, rfl⟩
      have hw1 : IntKind.i64.wrap (1 + (z0 : Int)) = (k0 : Int) := by rw [wrap_id _ (by omega) (by omega)]; omega
      have hk5 : k0 ≤ 5 := by omega
      simp [hw1]
      refine awp_loop2 [0, 2, 3, 7, 8, 9] [2, 200, 201] (fun q : Src × Nat × List Int × List Int => [(12, iv q.2.1)]) (fun q => [(1000000000, srcA nn l q.1), (3, .box [iv places, .ref 300, .ref 301, iv start]), (300, .own 1 false (ints q.2.2.1)), (301, .own 1 false (ints q.2.2.2))])
        (fun q => SrcOk l q.1 ∧ q.2.2.1.length + q.2.1 ≤ 5 ∧ q.2.2.2.length + q.2.1 ≤ 5 ∧ (∀ y ∈ q.2.2.1, I64 y) ∧ ∀ y ∈ q.2.2.2, I64 y) (fun q => q.2.1) (q1, k0, [], []) (weak_mk (fun t => if t = 300 then none else if t = 301 then none else some t) (by simp) (by simp) rfl) (by simp; exact ⟨hq1, by omega⟩) ?_
      rintro ⟨q, k, pre, post⟩ ⟨hq, hl1, hl2, hi1, hi2⟩
      simp only at hq hl1 hl2 hi1 hi2
      by_cases hk : 0 < k
      · simp [hk]
        refine awp_loop2 [0, 2, 3, 7, 8, 9, 12] [2, 3, 200, 201, 300, 301] (fun q : Src × Nat × Int × Int => [(15, iv q.2.1), (13, iv q.2.2.1), (14, iv q.2.2.2)]) (fun q => [(1000000000, srcA nn l q.1)])
          (fun q => SrcOk l q.1 ∧ q.2.1 ≤ p ∧ M q.2.2.1 ∧ M q.2.2.2) (fun q => p - q.2.1) (q, 0, 0, 0) (weak_mk some (by simp) (by simp) rfl) (by simp; exact ⟨hq, by unfold M; omega⟩) ?_
        rintro ⟨q2, j, A, B⟩ ⟨hq2, hj, hA, hB⟩
        simp only at hq2 hj hA hB
        by_cases hlt : j < p
        · have hwn : IntKind.i64.wrap ((p : Int) - 1) = (p : Int) - 1 := wrap_id _ (by omega) (by omega)
          have hbj := hbs j hlt
          obtain ⟨bg, hbg⟩ := Int.eq_ofNat_of_zero_le hbj.1
          obtain ⟨sz, hsz⟩ := Int.eq_ofNat_of_zero_le (show 0 ≤ nth sizes j by omega)
          rw [hbg, hsz] at hbj
          have hjb : j < begins.length := by omega
          have hjs : j < sizes.length := by omega
          by_cases hA0 : A = 0
          · have hM0 : M 0 := by unfold M; omega
            by_cases hjp : (j : Int) = (p : Int) - 1
            · have hjp2 : ((j : Int) == (p : Int) - 1) = true := by simpa using hjp
              simp only [hA0]
              simp [hlt, hwn, hjp2, hjb, hjs, hbg, hsz]
              repeat (refine And.intro (by omega) ?_)
              refine ⟨_, _, l01Next_spec nn l q2 hq2 sz (by unfold I64; omega), ?_⟩
              have hu1 := nxS_ok hq2 (sz : Int)
              have hv1 := nxN_rng hq2 (sz : Int)
              generalize nxS l q2 (sz : Int) = u1 at *
              generalize nxN l q2 (sz : Int) = v1 at *
              obtain ⟨a, rfl⟩ := Int.eq_ofNat_of_zero_le hv1.1
              have hw2 : IntKind.i64.wrap ((bg : Int) + a) = ((bg + a : Nat) : Int) := by rw [wrap_id _ (by omega) (by omega)]; omega
              have ho1 : M (pow1 ((bg : Int) + (a : Int))) := by rw [show (bg : Int) + (a : Int) = ((bg + a : Nat) : Int) by omega]; exact M_pow1 (by omega)
              have hA9 := M_or hM0 ho1
              simp [hw2]
              refine ⟨_, l01One_spec _ (by unfold I64; omega), ?_⟩
              generalize hO1 : ibits .or .i64 0 (pow1 ((bg : Int) + (a : Int))) = O1 at *
              simp [hO1, hjb, hjs, hbg, hsz]
              first | refine ⟨⟨by kernel_rfl, by kernel_rfl⟩, ?_⟩ | exact ⟨by kernel_rfl, by kernel_rfl⟩
              repeat (refine And.intro (by omega) ?_)
              refine ⟨_, _, l01Next_spec nn l u1 hu1 sz (by unfold I64; omega), ?_⟩
              have hu2 := nxS_ok hu1 (sz : Int)
              have hv2 := nxN_rng hu1 (sz : Int)
              generalize nxS l u1 (sz : Int) = u2 at *
              generalize nxN l u1 (sz : Int) = v2 at *
              obtain ⟨b, rfl⟩ := Int.eq_ofNat_of_zero_le hv2.1
              have hw4 : IntKind.i64.wrap ((bg : Int) + b) = ((bg + b : Nat) : Int) := by rw [wrap_id _ (by omega) (by omega)]; omega
              have ho2 : M (pow1 ((bg : Int) + (b : Int))) := by rw [show (bg : Int) + (b : Int) = ((bg + b : Nat) : Int) by omega]; exact M_pow1 (by omega)
              have hB9 := M_or hB ho2
              simp [hw4]
              refine ⟨_, l01One_spec _ (by unfold I64; omega), ?_⟩
              generalize hO2 : ibits .or .i64 B (pow1 ((bg : Int) + (b : Int))) = O2 at *
              simp [hO2]
              first | refine ⟨⟨by kernel_rfl, by kernel_rfl⟩, ?_⟩ | exact ⟨by kernel_rfl, by kernel_rfl⟩
              rw [wrap_id _ (by omega) (by omega)]
              exact Round.mk (u2, j + 1, O1, O2) (weak_mk some (by simp) (by simp) rfl) ⟨hu2, hlt, hA9, hB9⟩ (by simp only; omega)
            · have hjp2 : ((j : Int) == (p : Int) - 1) = false := by simpa using hjp
              simp only [hA0]
              simp [hlt, hwn, hjp2, hjb, hjs, hbg, hsz]
              refine ⟨_, _, l01Next_spec nn l q2 hq2 2 (by unfold I64; omega), ?_⟩
              have hq3 := nxS_ok hq2 2
              generalize nxS l q2 2 = q3 at *
              generalize nxN l q2 2 = r3 at *
              simp [hjb, hjs, hbg, hsz]
              refine ⟨fun h0 => ?_, fun h0 => ?_⟩
              · repeat (refine And.intro (by omega) ?_)
                refine ⟨_, _, l01Next_spec nn l q3 hq3 sz (by unfold I64; omega), ?_⟩
                have hu1 := nxS_ok hq3 (sz : Int)
                have hv1 := nxN_rng hq3 (sz : Int)
                generalize nxS l q3 (sz : Int) = u1 at *
                generalize nxN l q3 (sz : Int) = v1 at *
                obtain ⟨a, rfl⟩ := Int.eq_ofNat_of_zero_le hv1.1
                have hw2 : IntKind.i64.wrap ((bg : Int) + a) = ((bg + a : Nat) : Int) := by rw [wrap_id _ (by omega) (by omega)]; omega
                have ho1 : M (pow1 ((bg : Int) + (a : Int))) := by rw [show (bg : Int) + (a : Int) = ((bg + a : Nat) : Int) by omega]; exact M_pow1 (by omega)
                have hA9 := M_or hM0 ho1
                simp [hw2]
                refine ⟨_, l01One_spec _ (by unfold I64; omega), ?_⟩
                generalize hO1 : ibits .or .i64 0 (pow1 ((bg : Int) + (a : Int))) = O1 at *
                simp [hO1, hjb, hjs, hbg, hsz]
                first | refine ⟨⟨by kernel_rfl, by kernel_rfl⟩, ?_⟩ | exact ⟨by kernel_rfl, by kernel_rfl⟩
                repeat (refine And.intro (by omega) ?_)
                refine ⟨_, _, l01Next_spec nn l u1 hu1 sz (by unfold I64; omega), ?_⟩
                have hu2 := nxS_ok hu1 (sz : Int)
                have hv2 := nxN_rng hu1 (sz : Int)
                generalize nxS l u1 (sz : Int) = u2 at *
                generalize nxN l u1 (sz : Int) = v2 at *
                obtain ⟨b, rfl⟩ := Int.eq_ofNat_of_zero_le hv2.1
                have hw4 : IntKind.i64.wrap ((bg : Int) + b) = ((bg + b : Nat) : Int) := by rw [wrap_id _ (by omega) (by omega)]; omega
                have ho2 : M (pow1 ((bg : Int) + (b : Int))) := by rw [show (bg : Int) + (b : Int) = ((bg + b : Nat) : Int) by omega]; exact M_pow1 (by omega)
                have hB9 := M_or hB ho2
                simp [hw4]
                refine ⟨_, l01One_spec _ (by unfold I64; omega), ?_⟩
                generalize hO2 : ibits .or .i64 B (pow1 ((bg : Int) + (b : Int))) = O2 at *
                simp [hO2]
                first | refine ⟨⟨by kernel_rfl, by kernel_rfl⟩, ?_⟩ | exact ⟨by kernel_rfl, by kernel_rfl⟩
                rw [wrap_id _ (by omega) (by omega)]
                exact Round.mk (u2, j + 1, O1, O2) (weak_mk some (by simp) (by simp) rfl) ⟨hu2, hlt, hA9, hB9⟩ (by simp only; omega)
              · rw [wrap_id _ (by omega) (by omega)]
                exact Round.mk (q3, j + 1, 0, B) (weak_mk some (by simp) (by simp) rfl) ⟨hq3, hlt, hM0, hB⟩ (by simp only; omega)
          · simp [hlt, hwn, hA0]
            refine ⟨_, _, l01Next_spec nn l q2 hq2 2 (by unfold I64; omega), ?_⟩
            have hq3 := nxS_ok hq2 2
            generalize nxS l q2 2 = q3 at *
            generalize nxN l q2 2 = r3 at *
            simp [hjb, hjs, hbg, hsz]
            refine ⟨fun h0 => ?_, fun h0 => ?_⟩
            · repeat (refine And.intro (by omega) ?_)
              refine ⟨_, _, l01Next_spec nn l q3 hq3 sz (by unfold I64; omega), ?_⟩
              have hu1 := nxS_ok hq3 (sz : Int)
              have hv1 := nxN_rng hq3 (sz : Int)
              generalize nxS l q3 (sz : Int) = u1 at *
              generalize nxN l q3 (sz : Int) = v1 at *
              obtain ⟨a, rfl⟩ := Int.eq_ofNat_of_zero_le hv1.1
              have hw2 : IntKind.i64.wrap ((bg : Int) + a) = ((bg + a : Nat) : Int) := by rw [wrap_id _ (by omega) (by omega)]; omega
              have ho1 : M (pow1 ((bg : Int) + (a : Int))) := by rw [show (bg : Int) + (a : Int) = ((bg + a : Nat) : Int) by omega]; exact M_pow1 (by omega)
              have hA9 := M_or hA ho1
              simp [hw2]
              refine ⟨_, l01One_spec _ (by unfold I64; omega), ?_⟩
              generalize hO1 : ibits .or .i64 A (pow1 ((bg : Int) + (a : Int))) = O1 at *
              simp [hO1, hjb, hjs, hbg, hsz]
              first | refine ⟨⟨by kernel_rfl, by kernel_rfl⟩, ?_⟩ | exact ⟨by kernel_rfl, by kernel_rfl⟩
              repeat (refine And.intro (by omega) ?_)
              refine ⟨_, _, l01Next_spec nn l u1 hu1 sz (by unfold I64; omega), ?_⟩
              have hu2 := nxS_ok hu1 (sz : Int)
              have hv2 := nxN_rng hu1 (sz : Int)
              generalize nxS l u1 (sz : Int) = u2 at *
              generalize nxN l u1 (sz : Int) = v2 at *
              obtain ⟨b, rfl⟩ := Int.eq_ofNat_of_zero_le hv2.1
              have hw4 : IntKind.i64.wrap ((bg : Int) + b) = ((bg + b : Nat) : Int) := by rw [wrap_id _ (by omega) (by omega)]; omega
              have ho2 : M (pow1 ((bg : Int) + (b : Int))) := by rw [show (bg : Int) + (b : Int) = ((bg + b : Nat) : Int) by omega]; exact M_pow1 (by omega)
              have hB9 := M_or hB ho2
              simp [hw4]
              refine ⟨_, l01One_spec _ (by unfold I64; omega), ?_⟩
              generalize hO2 : ibits .or .i64 B (pow1 ((bg : Int) + (b : Int))) = O2 at *
              simp [hO2]
              first | refine ⟨⟨by kernel_rfl, by kernel_rfl⟩, ?_⟩ | exact ⟨by kernel_rfl, by kernel_rfl⟩
              rw [wrap_id _ (by omega) (by omega)]
              exact Round.mk (u2, j + 1, O1, O2) (weak_mk some (by simp) (by simp) rfl) ⟨hu2, hlt, hA9, hB9⟩ (by simp only; omega)
            · rw [wrap_id _ (by omega) (by omega)]
              exact Round.mk (q3, j + 1, A, B) (weak_mk some (by simp) (by simp) rfl) ⟨hq3, hlt, hA, hB⟩ (by simp only; omega)
        · obtain rfl : j = p := by omega
          have hA2 := hA.2
          have hB2 := hB.2
          have hwk : IntKind.i64.wrap ((k : Int) - 1) = ((k - 1 : Nat) : Int) := by rw [wrap_id _ (by omega) (by omega)]; omega
          simp
          refine ⟨by omega, by omega, by omega, by omega, ?_⟩
          rw [hwk]
          refine Round.mk (q2, k - 1, pre ++ [A], post ++ [B]) (weak_mk (fun t => if t = 300 then some 179 else if t = 301 then some 185 else some t) (by simp) (by simp) rfl) ⟨hq2, ?_, ?_, ?_, ?_⟩ (by simp only; omega)
          · simp only [List.length_append, List.length_singleton]; omega
          · simp only [List.length_append, List.length_singleton]; omega
          · intro y hy
            rcases List.mem_append.1 hy with hy | hy
            · exact hi1 y hy
            · simp at hy; rw [hy]; unfold I64; have := hA.1; omega
          · intro y hy
            rcases List.mem_append.1 hy with hy | hy
            · exact hi2 y hy
            · simp at hy; rw [hy]; unfold I64; have := hB.1; omega
      · obtain rfl : k = 0 := by omega
        simp
        exact ⟨_, .refl _, q, hq, ⟨places, pre, post, start⟩, ⟨by simp only; omega, by simp only; omega, by have := hst.1; have := hst.2; unfold I64; simp only; omega, by simp only; omega, by simp only; omega, hi1, hi2⟩, ⟨rfl, rfl⟩, rfl⟩
end Go.AM
