/-
  Draws: two structures.
-/
import Derived.Test.YthabclhldlikfaaDoorFnUk
set_option linter.unusedVariables false
set_option linter.unusedSimpArgs false
set_option linter.unusedSectionVars false
set_option maxRecDepth 100000
set_option maxHeartbeats 1600000
namespace Go.AM
open Go.Proofs
theorem stAny_of {y : StrucV} (hy : StSm y) : StAny y := ⟨by have := hy.b; have := hy.k; omega, by have := hy.c; have := hy.k; omega, hy.k, fun v hv => by
    obtain ⟨i, hi, rfl⟩ := List.mem_iff_getElem.1 hv
    rw [← nth_at hi]
    have hq := hy.m i (by have := hy.b; omega)
    unfold I64; have h1 := hq.1; have h2 := hq.2; omega, fun v hv => by
    obtain ⟨i, hi, rfl⟩ := List.mem_iff_getElem.1 hv
    rw [← nth_at hi]
    have hq := hy.cm i (by have := hy.c; omega)
    unfold I64; have h1 := hq.1; have h2 := hq.2; omega, fun v hv => by
    obtain ⟨i, hi, rfl⟩ := List.mem_iff_getElem.1 hv
    rw [← nth_at hi]
    exact hy.li i hi⟩
theorem shrink_i64 {m : Int} {L : List Nat} (h : L.length ≤ 24) (_ : True := trivial) : I64 (shrinkL m L) := by
  have hq : M (shrinkL m L) := M_orMask _ M_zero _ (by omega)
  have h1 := hq.1
  have h2 := hq.2
  unfold I64; omega
theorem DrawIsomorphismOf_spec (nn : Bool) (l : List Int) (hl : BysOk l) : ACalls Tryd.prog 5 [.sl 1 nn (bys l)]
    (fun xs r => ∃ y z, StAny y ∧ StAny z ∧ xs = [.sl 1 nn (bys l)] ∧ r = .tup [.agg [.own 1 false (ints y.below), .own 1 false (ints y.clash), .sl 1 false (ints y.labels)], strucOw false false false z]) := by
  refine walkR (fun t => t == 7020 || t == 6019 || t == 2036 || t == 7041 || t == 1044 || t == 2057 || t == 2064 || t == 2067 || t == 1090 || t == 1133) mixed Go.Proofs.Tryd.func5 rfl rfl rfl (by kernel_rfl) (by simp) (by simp) (by simp) (by kernel_rfl) ?_
  simp
  refine ⟨_, l16DrawAny_spec nn l hl, ?_⟩
  rintro _ _ ⟨a, y, ha, hy, rfl, hr⟩
  have hs := src0_ok hl
  have hF := l01From_spec nn l hl
  generalize src0 l = s at *
  rcases hr with rfl | rfl
  · simp
    refine WkK.mk (weak_frz 21002002 rfl (by simp)) ?_
    simp
    refine ⟨_, hF, ?_⟩
    simp
    refine ⟨_, l16Size_spec false false false y, ?_⟩
    simp
    refine ⟨_, l16Is_spec false false false y, ?_⟩
    have hyd := hy.d
    generalize hn : y.labels.length = n at *
    by_cases hbad : isStructureV y = false ∨ n < 2
    · cases hst : isStructureV y
      · simp
        refine ⟨_, l16Draw_spec nn l s hs, ?_⟩
        rintro _ _ ⟨s1, a2, z, hs1, _, hz, rfl, rfl⟩
        simp
        first | refine ⟨⟨by kernel_rfl, by kernel_rfl⟩, ?_⟩ | exact ⟨by kernel_rfl, by kernel_rfl⟩
        exact ⟨_, .refl _, y, hy, z, stAny_of hz, rfl⟩
      · have h2 : (n : Int) < 2 := by rcases hbad with h | h <;> first | omega | (simp at h) | (rw [hst] at h; cases h)
        simp [h2]
        refine ⟨_, l16Draw_spec nn l s hs, ?_⟩
        rintro _ _ ⟨s1, a2, z, hs1, _, hz, rfl, rfl⟩
        simp
        first | refine ⟨⟨by kernel_rfl, by kernel_rfl⟩, ?_⟩ | exact ⟨by kernel_rfl, by kernel_rfl⟩
        exact ⟨_, .refl _, y, hy, z, stAny_of hz, rfl⟩
    · have hst : isStructureV y = true := by
        cases h : isStructureV y
        · exact absurd (.inl h) hbad
        · rfl
      have hn2 : 2 ≤ n := by omega
      obtain ⟨q1, q2, q3⟩ := struc_len hst
      simp [hst, show ¬ (n : Int) < 2 by omega, show (2 : Int) ≤ (n : Int) by omega]
      refine ⟨_, _, l01Next_spec nn l s hs 5 (by unfold I64; omega), ?_⟩
      have hs1 := nxS_ok hs 5
      generalize nxS l s 5 = s1 at *
      generalize nxN l s 5 = r1 at *
      simp
      refine ⟨fun h0 => ?_, fun h0 => ?_⟩
      · refine ⟨_, l16Draw_spec nn l s1 hs1, ?_⟩
        rintro _ _ ⟨s2, a2, z, hs2, _, hz, rfl, rfl⟩
        simp
        first | refine ⟨⟨by kernel_rfl, by kernel_rfl⟩, ?_⟩ | exact ⟨by kernel_rfl, by kernel_rfl⟩
        exact ⟨_, .refl _, y, hy, z, stAny_of hz, rfl⟩
      · refine awp_loop2 [2, 3, 5, 6, 7] [2, 3, 5, 21002000, 21002001, 24] (fun e : Nat => [(11, iv e), (10, .ref 200)]) (fun e => [(200, .own 1 true (ints (nats (List.range e))))]) (fun e => e ≤ n) (fun e => n - e) 0 (weak_mk (fun t => if t = 200 then some 46 else some t) (by simp) (by simp [nats]) rfl) (by simp) ?_
        intro e he
        by_cases hlt : e < n
        · simp [hlt]
          rw [wrap_id ((e : Int) + 1) (by omega) (by omega)]
          exact ⟨by omega, by omega, Round.mk (e + 1) (weak_mk (fun t => if t = 200 then some 55 else some t) (by simp) (by simp [nats, List.range_succ]) rfl) hlt (by omega)⟩
        · obtain rfl : e = n := by omega
          simp
          refine ⟨_, _, l01Next_spec nn l s1 hs1 8 (by unfold I64; omega), ?_⟩
          have hs2 := nxS_ok hs1 8
          have hb2 := nxN_rng hs1 8
          generalize nxS l s1 8 = s2 at *
          generalize nxN l s1 8 = r2 at *
          obtain ⟨k0, rfl⟩ := Int.eq_ofNat_of_zero_le hb2.1
          simp
          refine awp_loop2 [2, 3, 5, 6, 7, 10] [2, 3, 5, 21002000, 21002001] (fun q : Src × Nat × List Nat => [(12, iv q.2.1)]) (fun q => [(24, srcA nn l q.1), (200, .own 1 true (ints (nats q.2.2)))])
            (fun q => SrcOk l q.1 ∧ q.2.1 ≤ 8 ∧ q.2.2.length = e ∧ ∀ c ∈ q.2.2, c < e) (fun q => q.2.1) (s2, k0, List.range e) (weak_mk some (by simp) (by simp) rfl) ⟨hs2, by simp only; omega, by simp, by simp⟩ ?_
          rintro ⟨q, k, O⟩ ⟨hq, hk8, hO1, hO2⟩
          simp only at hq hk8 hO1 hO2
          by_cases hk : 0 < k
          · simp [hk]
            refine ⟨_, _, l01Next_spec nn l q hq e (by unfold I64; omega), ?_⟩
            have hq1 := nxS_ok hq (e : Int)
            have hba := nxN_rng hq (e : Int)
            generalize nxS l q (e : Int) = qa at *
            generalize nxN l q (e : Int) = av at *
            obtain ⟨i, rfl⟩ := Int.eq_ofNat_of_zero_le hba.1
            simp
            refine ⟨_, _, l01Next_spec nn l qa hq1 e (by unfold I64; omega), ?_⟩
            have hq2 := nxS_ok hq1 (e : Int)
            have hbb := nxN_rng hq1 (e : Int)
            generalize nxS l qa (e : Int) = qb at *
            generalize nxN l qa (e : Int) = bv1 at *
            obtain ⟨j, rfl⟩ := Int.eq_ofNat_of_zero_le hbb.1
            have hi : i < O.length := by omega
            have hj : j < O.length := by omega
            have ni := nats_nth hi
            have nj := nats_nth hj
            have hmi := hO2 _ (natAt_mem hi)
            have hmj := hO2 _ (natAt_mem hj)
            have hset : ((nats O).set i (natAt O j : Int)).set j (natAt O i : Int) = nats ((O.set i (natAt O j)).set j (natAt O i)) := by simp [nats, List.map_set]
            have hwk : IntKind.i64.wrap ((k : Int) - 1) = ((k - 1 : Nat) : Int) := by rw [wrap_id _ (by omega) (by omega)]; omega
            simp [hi, hj, ni, nj, ints_put, hset, hwk]
            repeat (refine And.intro (by first | omega | exact ⟨by kernel_rfl, by kernel_rfl⟩) ?_)
            try simp only [hset]
            exact Round.mk (qb, k - 1, (O.set i (natAt O j)).set j (natAt O i)) (weak_mk some (by simp) (by simp) rfl) ⟨hq2, by simp only; omega, by simp; omega, fun c hc => by
              rcases List.mem_or_eq_of_mem_set hc with hc | rfl
              · rcases List.mem_or_eq_of_mem_set hc with hc | rfl
                · exact hO2 c hc
                · exact hmj
              · exact hmi⟩ (by simp only; omega)
          · obtain rfl : k = 0 := by omega
            simp
            refine awp_loop2 [2, 3, 5, 10, 16] [2, 3, 5, 21002000, 21002001, 200] (fun i : Nat => [(17, iv i)]) (fun i => [(16, .box [.ref 201, .ref 202, .ref 203]), (201, .own 1 false (ints ((O.take i).map fun c => shrinkL (nth y.below c) O))), (202, .own 1 false (ints ((O.take i).map fun c => shrinkL (nth y.clash c) O))), (203, .own 1 false (ints ((O.take i).map fun c => nth y.labels c)))]) (fun i => i ≤ O.length) (fun i => O.length - i) 0 (weak_mk (fun t => if t = 201 then none else if t = 202 then none else if t = 203 then none else some t) (by simp) (by simp) rfl) (by simp) ?_
            intro i hi
            by_cases hli : i < O.length
            · have hen : natAt O i < e := hO2 _ (natAt_mem hli)
              have heb : natAt O i < y.below.length := by omega
              have hec : natAt O i < y.clash.length := by omega
              have hel : natAt O i < y.labels.length := by omega
              obtain ⟨m1, m2, _⟩ := struc_M hst hel
              have t1 := map_take_succ (fun c => shrinkL (nth y.below c) O) O i hli
              have t2 := map_take_succ (fun c => shrinkL (nth y.clash c) O) O i hli
              have t3 := map_take_succ (fun c => nth y.labels c) O i hli
              have hnk := nats_nth hli
              have hb1 : ∀ c ∈ O, c < 1000 := fun c hc => by have := hO2 c hc; omega
              have hl1 : ((O.take i).map fun c => shrinkL (nth y.below c) O).length = i := by simp; omega
              have hl2 : ((O.take i).map fun c => shrinkL (nth y.clash c) O).length = i := by simp; omega
              have hl3 : ((O.take i).map fun c => nth y.labels c).length = i := by simp; omega
              have hwi : IntKind.i64.wrap ((i : Int) + 1) = ((i + 1 : Nat) : Int) := by rw [wrap_id _ (by omega) (by omega)]; omega
              generalize hq1 : (O.take i).map (fun c => shrinkL (nth y.below c) O) = u1 at *
              generalize hq2 : (O.take i).map (fun c => shrinkL (nth y.clash c) O) = u2 at *
              generalize hq3 : (O.take i).map (fun c => nth y.labels c) = u3 at *
              generalize hee : natAt O i = c at *
              rw [List.map_take] at t1 t2 t3
              simp [hli, hnk, heb, hec, hel, show i + 1 ≤ O.length from hli, hl1, hl2, hl3]
              repeat (rw [exE_eq]; simp [hli, hnk, heb, hec, hel, show i + 1 ≤ O.length from hli, hl1, hl2, hl3])
              repeat (refine And.intro (by first | omega | exact ⟨by kernel_rfl, by kernel_rfl⟩) ?_)
              refine ⟨_, l16Shrink_spec _ O (by omega) hb1 _ m1, ?_⟩
              simp [hli, hnk, heb, hec, hel, show i + 1 ≤ O.length from hli, hl1, hl2, hl3]
              repeat (refine And.intro (by first | omega | exact ⟨by kernel_rfl, by kernel_rfl⟩) ?_)
              try simp [hli, hnk, heb, hec, hel, show i + 1 ≤ O.length from hli, hl1, hl2, hl3]
              repeat (rw [exE_eq]; simp [hli, hnk, heb, hec, hel, show i + 1 ≤ O.length from hli, hl1, hl2, hl3])
              repeat (refine And.intro (by first | omega | exact ⟨by kernel_rfl, by kernel_rfl⟩) ?_)
              refine ⟨_, l16Shrink_spec _ O (by omega) hb1 _ m2, ?_⟩
              simp [hli, hnk, heb, hec, hel, show i + 1 ≤ O.length from hli, hl1, hl2, hl3]
              repeat (refine And.intro (by first | omega | exact ⟨by kernel_rfl, by kernel_rfl⟩) ?_)
              try simp [hli, hnk, heb, hec, hel, show i + 1 ≤ O.length from hli, hl1, hl2, hl3]
              repeat (rw [exE_eq]; simp [hli, hnk, heb, hec, hel, show i + 1 ≤ O.length from hli, hl1, hl2, hl3])
              repeat (refine And.intro (by first | omega | exact ⟨by kernel_rfl, by kernel_rfl⟩) ?_)
              try rw [hwi]
              exact Round.mk (i + 1) (weak_mk (fun t => if t = 201 then some 103 else if t = 202 then some 118 else if t = 203 then some 131 else some t) (by simp) (by simp [t1, t2, t3]) rfl) hli (by omega)
            · obtain rfl : i = O.length := by omega
              simp
              first | refine ⟨⟨by kernel_rfl, by kernel_rfl⟩, ?_⟩ | exact ⟨by kernel_rfl, by kernel_rfl⟩
              refine ⟨_, .refl _, y, hy, ⟨O.map fun c => shrinkL (nth y.below c) O, O.map fun c => shrinkL (nth y.clash c) O, O.map fun c => nth y.labels c⟩, ⟨by simp; omega, by simp; omega, by simp; omega, fun v hv => ?_, fun v hv => ?_, fun v hv => ?_⟩, rfl⟩
              · obtain ⟨c, hc, rfl⟩ := List.mem_map.1 hv
                exact shrink_i64 (by omega)
              · obtain ⟨c, hc, rfl⟩ := List.mem_map.1 hv
                exact shrink_i64 (by omega)
              · obtain ⟨c, hc, rfl⟩ := List.mem_map.1 hv
                exact hy.di _ (nth_mem (by have := hO2 c hc; omega))
  · simp
    refine WkK.mk (fun _ _ _ h => h) ?_
    simp
    refine ⟨_, hF, ?_⟩
    simp
    refine ⟨_, l16Size_spec false false false y, ?_⟩
    simp
    refine ⟨_, l16Is_spec false false false y, ?_⟩
    have hyd := hy.d
    generalize hn : y.labels.length = n at *
    by_cases hbad : isStructureV y = false ∨ n < 2
    · cases hst : isStructureV y
      · simp
        refine ⟨_, l16Draw_spec nn l s hs, ?_⟩
        rintro _ _ ⟨s1, a2, z, hs1, _, hz, rfl, rfl⟩
        simp
        first | refine ⟨⟨by kernel_rfl, by kernel_rfl⟩, ?_⟩ | exact ⟨by kernel_rfl, by kernel_rfl⟩
        exact ⟨_, .refl _, y, hy, z, stAny_of hz, rfl⟩
      · have h2 : (n : Int) < 2 := by rcases hbad with h | h <;> first | omega | (simp at h) | (rw [hst] at h; cases h)
        simp [h2]
        refine ⟨_, l16Draw_spec nn l s hs, ?_⟩
        rintro _ _ ⟨s1, a2, z, hs1, _, hz, rfl, rfl⟩
        simp
        first | refine ⟨⟨by kernel_rfl, by kernel_rfl⟩, ?_⟩ | exact ⟨by kernel_rfl, by kernel_rfl⟩
        exact ⟨_, .refl _, y, hy, z, stAny_of hz, rfl⟩
    · have hst : isStructureV y = true := by
        cases h : isStructureV y
        · exact absurd (.inl h) hbad
        · rfl
      have hn2 : 2 ≤ n := by omega
      obtain ⟨q1, q2, q3⟩ := struc_len hst
      simp [hst, show ¬ (n : Int) < 2 by omega, show (2 : Int) ≤ (n : Int) by omega]
      refine ⟨_, _, l01Next_spec nn l s hs 5 (by unfold I64; omega), ?_⟩
      have hs1 := nxS_ok hs 5
      generalize nxS l s 5 = s1 at *
      generalize nxN l s 5 = r1 at *
      simp
      refine ⟨fun h0 => ?_, fun h0 => ?_⟩
      · refine ⟨_, l16Draw_spec nn l s1 hs1, ?_⟩
        rintro _ _ ⟨s2, a2, z, hs2, _, hz, rfl, rfl⟩
        simp
        first | refine ⟨⟨by kernel_rfl, by kernel_rfl⟩, ?_⟩ | exact ⟨by kernel_rfl, by kernel_rfl⟩
        exact ⟨_, .refl _, y, hy, z, stAny_of hz, rfl⟩
      · refine awp_loop2 [2, 3, 5, 6, 7] [2, 3, 5, 21002000, 21002001, 24] (fun e : Nat => [(11, iv e), (10, .ref 200)]) (fun e => [(200, .own 1 true (ints (nats (List.range e))))]) (fun e => e ≤ n) (fun e => n - e) 0 (weak_mk (fun t => if t = 200 then some 46 else some t) (by simp) (by simp [nats]) rfl) (by simp) ?_
        intro e he
        by_cases hlt : e < n
        · simp [hlt]
          rw [wrap_id ((e : Int) + 1) (by omega) (by omega)]
          exact ⟨by omega, by omega, Round.mk (e + 1) (weak_mk (fun t => if t = 200 then some 55 else some t) (by simp) (by simp [nats, List.range_succ]) rfl) hlt (by omega)⟩
        · obtain rfl : e = n := by omega
          simp
          refine ⟨_, _, l01Next_spec nn l s1 hs1 8 (by unfold I64; omega), ?_⟩
          have hs2 := nxS_ok hs1 8
          have hb2 := nxN_rng hs1 8
          generalize nxS l s1 8 = s2 at *
          generalize nxN l s1 8 = r2 at *
          obtain ⟨k0, rfl⟩ := Int.eq_ofNat_of_zero_le hb2.1
          simp
          refine awp_loop2 [2, 3, 5, 6, 7, 10] [2, 3, 5, 21002000, 21002001] (fun q : Src × Nat × List Nat => [(12, iv q.2.1)]) (fun q => [(24, srcA nn l q.1), (200, .own 1 true (ints (nats q.2.2)))])
            (fun q => SrcOk l q.1 ∧ q.2.1 ≤ 8 ∧ q.2.2.length = e ∧ ∀ c ∈ q.2.2, c < e) (fun q => q.2.1) (s2, k0, List.range e) (weak_mk some (by simp) (by simp) rfl) ⟨hs2, by simp only; omega, by simp, by simp⟩ ?_
          rintro ⟨q, k, O⟩ ⟨hq, hk8, hO1, hO2⟩
          simp only at hq hk8 hO1 hO2
          by_cases hk : 0 < k
          · simp [hk]
            refine ⟨_, _, l01Next_spec nn l q hq e (by unfold I64; omega), ?_⟩
            have hq1 := nxS_ok hq (e : Int)
            have hba := nxN_rng hq (e : Int)
            generalize nxS l q (e : Int) = qa at *
            generalize nxN l q (e : Int) = av at *
            obtain ⟨i, rfl⟩ := Int.eq_ofNat_of_zero_le hba.1
            simp
            refine ⟨_, _, l01Next_spec nn l qa hq1 e (by unfold I64; omega), ?_⟩
            have hq2 := nxS_ok hq1 (e : Int)
            have hbb := nxN_rng hq1 (e : Int)
            generalize nxS l qa (e : Int) = qb at *
            generalize nxN l qa (e : Int) = bv1 at *
            obtain ⟨j, rfl⟩ := Int.eq_ofNat_of_zero_le hbb.1
            have hi : i < O.length := by omega
            have hj : j < O.length := by omega
            have ni := nats_nth hi
            have nj := nats_nth hj
            have hmi := hO2 _ (natAt_mem hi)
            have hmj := hO2 _ (natAt_mem hj)
            have hset : ((nats O).set i (natAt O j : Int)).set j (natAt O i : Int) = nats ((O.set i (natAt O j)).set j (natAt O i)) := by simp [nats, List.map_set]
            have hwk : IntKind.i64.wrap ((k : Int) - 1) = ((k - 1 : Nat) : Int) := by rw [wrap_id _ (by omega) (by omega)]; omega
            simp [hi, hj, ni, nj, ints_put, hset, hwk]
            repeat (refine And.intro (by first | omega | exact ⟨by kernel_rfl, by kernel_rfl⟩) ?_)
            try simp only [hset]
            exact Round.mk (qb, k - 1, (O.set i (natAt O j)).set j (natAt O i)) (weak_mk some (by simp) (by simp) rfl) ⟨hq2, by simp only; omega, by simp; omega, fun c hc => by
              rcases List.mem_or_eq_of_mem_set hc with hc | rfl
              · rcases List.mem_or_eq_of_mem_set hc with hc | rfl
                · exact hO2 c hc
                · exact hmj
              · exact hmi⟩ (by simp only; omega)
          · obtain rfl : k = 0 := by omega
            simp
            refine awp_loop2 [2, 3, 5, 10, 16] [2, 3, 5, 21002000, 21002001, 200] (fun i : Nat => [(17, iv i)]) (fun i => [(16, .box [.ref 201, .ref 202, .ref 203]), (201, .own 1 false (ints ((O.take i).map fun c => shrinkL (nth y.below c) O))), (202, .own 1 false (ints ((O.take i).map fun c => shrinkL (nth y.clash c) O))), (203, .own 1 false (ints ((O.take i).map fun c => nth y.labels c)))]) (fun i => i ≤ O.length) (fun i => O.length - i) 0 (weak_mk (fun t => if t = 201 then none else if t = 202 then none else if t = 203 then none else some t) (by simp) (by simp) rfl) (by simp) ?_
            intro i hi
            by_cases hli : i < O.length
            · have hen : natAt O i < e := hO2 _ (natAt_mem hli)
              have heb : natAt O i < y.below.length := by omega
              have hec : natAt O i < y.clash.length := by omega
              have hel : natAt O i < y.labels.length := by omega
              obtain ⟨m1, m2, _⟩ := struc_M hst hel
              have t1 := map_take_succ (fun c => shrinkL (nth y.below c) O) O i hli
              have t2 := map_take_succ (fun c => shrinkL (nth y.clash c) O) O i hli
              have t3 := map_take_succ (fun c => nth y.labels c) O i hli
              have hnk := nats_nth hli
              have hb1 : ∀ c ∈ O, c < 1000 := fun c hc => by have := hO2 c hc; omega
              have hl1 : ((O.take i).map fun c => shrinkL (nth y.below c) O).length = i := by simp; omega
              have hl2 : ((O.take i).map fun c => shrinkL (nth y.clash c) O).length = i := by simp; omega
              have hl3 : ((O.take i).map fun c => nth y.labels c).length = i := by simp; omega
              have hwi : IntKind.i64.wrap ((i : Int) + 1) = ((i + 1 : Nat) : Int) := by rw [wrap_id _ (by omega) (by omega)]; omega
              generalize hq1 : (O.take i).map (fun c => shrinkL (nth y.below c) O) = u1 at *
              generalize hq2 : (O.take i).map (fun c => shrinkL (nth y.clash c) O) = u2 at *
              generalize hq3 : (O.take i).map (fun c => nth y.labels c) = u3 at *
              generalize hee : natAt O i = c at *
              rw [List.map_take] at t1 t2 t3
              simp [hli, hnk, heb, hec, hel, show i + 1 ≤ O.length from hli, hl1, hl2, hl3]
              repeat (rw [exE_eq]; simp [hli, hnk, heb, hec, hel, show i + 1 ≤ O.length from hli, hl1, hl2, hl3])
              repeat (refine And.intro (by first | omega | exact ⟨by kernel_rfl, by kernel_rfl⟩) ?_)
              refine ⟨_, l16Shrink_spec _ O (by omega) hb1 _ m1, ?_⟩
              simp [hli, hnk, heb, hec, hel, show i + 1 ≤ O.length from hli, hl1, hl2, hl3]
              repeat (refine And.intro (by first | omega | exact ⟨by kernel_rfl, by kernel_rfl⟩) ?_)
              try simp [hli, hnk, heb, hec, hel, show i + 1 ≤ O.length from hli, hl1, hl2, hl3]
              repeat (rw [exE_eq]; simp [hli, hnk, heb, hec, hel, show i + 1 ≤ O.length from hli, hl1, hl2, hl3])
              repeat (refine And.intro (by first | omega | exact ⟨by kernel_rfl, by kernel_rfl⟩) ?_)
              refine ⟨_, l16Shrink_spec _ O (by omega) hb1 _ m2, ?_⟩
              simp [hli, hnk, heb, hec, hel, show i + 1 ≤ O.length from hli, hl1, hl2, hl3]
              repeat (refine And.intro (by first | omega | exact ⟨by kernel_rfl, by kernel_rfl⟩) ?_)
              try simp [hli, hnk, heb, hec, hel, show i + 1 ≤ O.length from hli, hl1, hl2, hl3]
              repeat (rw [exE_eq]; simp [hli, hnk, heb, hec, hel, show i + 1 ≤ O.length from hli, hl1, hl2, hl3])
              repeat (refine And.intro (by first | omega | exact ⟨by kernel_rfl, by kernel_rfl⟩) ?_)
              try rw [hwi]
              exact Round.mk (i + 1) (weak_mk (fun t => if t = 201 then some 103 else if t = 202 then some 118 else if t = 203 then some 131 else some t) (by simp) (by simp [t1, t2, t3]) rfl) hli (by omega)
            · obtain rfl : i = O.length := by omega
              simp
              first | refine ⟨⟨by kernel_rfl, by kernel_rfl⟩, ?_⟩ | exact ⟨by kernel_rfl, by kernel_rfl⟩
              refine ⟨_, .refl _, y, hy, ⟨O.map fun c => shrinkL (nth y.below c) O, O.map fun c => shrinkL (nth y.clash c) O, O.map fun c => nth y.labels c⟩, ⟨by simp; omega, by simp; omega, by simp; omega, fun v hv => ?_, fun v hv => ?_, fun v hv => ?_⟩, rfl⟩
              · obtain ⟨c, hc, rfl⟩ := List.mem_map.1 hv
                exact shrink_i64 (by omega)
              · obtain ⟨c, hc, rfl⟩ := List.mem_map.1 hv
                exact shrink_i64 (by omega)
              · obtain ⟨c, hc, rfl⟩ := List.mem_map.1 hv
                exact hy.di _ (nth_mem (by have := hO2 c hc; omega))
end Go.AM
