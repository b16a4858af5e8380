/-
  Draws: any nets, words of nets.
-/
import Derived.Test.YtmpdpjpebekfkaaFnDn
set_option linter.unusedVariables false
set_option linter.unusedSimpArgs false
set_option maxRecDepth 100000
set_option maxHeartbeats 1600000
namespace Go.AM
open Go.Proofs
/-- A net as it is drawn, perhaps damaged. -/
def NetAny (x : NetV) : Prop := -1 ≤ x.p ∧ x.p ≤ 9 ∧ I64 x.s ∧ x.pre.length ≤ 9 ∧ x.post.length ≤ 9 ∧ (∀ y ∈ x.pre, I64 y) ∧ ∀ y ∈ x.post, I64 y
theorem i64_snoc {l : List Int} {a : Int} (h : ∀ y ∈ l, I64 y) (ha : I64 a) : ∀ y ∈ l ++ [a], I64 y := fun y hy => by
  rcases List.mem_append.1 hy with hy | hy
  · exact h y hy
  · simp at hy; rw [hy]; exact ha
theorem l17DrawAny_spec (nn : Bool) (l : List Int) (s : Src) (hs : SrcOk l s) : ACalls Try.prog 23 [srcA nn l s] (fun xs r => ∃ s' x, SrcOk l s' ∧ NetAny x ∧ xs = [srcA nn l s'] ∧ r = netOw false false x) := by
  refine walkR (fun t => t == 7005 || t == 2007 || t == 2011 || t == 2037 || t == 1034) mixed Go.Proofs.Try.func23 rfl rfl rfl (by kernel_rfl) (by simp) (by simp) (by simp) (by kernel_rfl) ?_
  simp
  refine ⟨_, l17Draw_spec nn l s hs, ?_⟩
  rintro _ _ ⟨s1, x, hs1, ⟨x1, x2, x3, x4, x5, x6, x7⟩, rfl, rfl⟩
  simp
  refine ⟨_, _, l01Next_spec nn l s1 hs1 30 (by unfold I64; omega), ?_⟩
  have hs2 := nxS_ok hs1 30
  generalize nxS l s1 30 = s2 at *
  generalize nxN l s1 30 = r at *
  have fin : ∀ (q : Src) (P S : Int) (A B : List Int), SrcOk l q → -1 ≤ P → P ≤ 9 → I64 S → A.length ≤ 9 → B.length ≤ 9 → (∀ y ∈ A, I64 y) → (∀ y ∈ B, I64 y) →
      ∃ r, Le (AV.agg [iv P, AV.own 1 false (ints A), AV.own 1 false (ints B), iv S]) r ∧ ∃ s', SrcOk l s' ∧ ∃ x, NetAny x ∧ (q.p = s'.p ∧ q.h = s'.h) ∧ r = netOw false false x :=
    fun q P S A B h1 h2 h3 h4 h5 h6 h7 h8 => ⟨_, .refl _, q, h1, ⟨P, A, B, S⟩, ⟨h2, h3, h4, h5, h6, h7, h8⟩, ⟨rfl, rfl⟩, rfl⟩
  have hw : IntKind.i64.wrap (x.p - 1) = x.p - 1 := wrap_id _ (by omega) (by omega)
  simp [hw]
  refine ⟨fun h0 => ?_, fun h0 => ⟨fun h1 => ?_, fun h1 => ⟨fun h2 => ?_, fun h2 => ⟨fun h3 => ?_, fun h3 => ?_⟩⟩⟩⟩
  · refine ⟨_, _, l01Next_spec nn l s2 hs2 200 (by unfold I64; omega), ?_⟩
    have hs3 := nxS_ok hs2 200
    have ha := nxN_rng hs2 200
    generalize nxS l s2 200 = s3 at *
    generalize nxN l s2 200 = a at *
    simp
    rw [wrap_id _ (by omega) (by omega)]
    exact fin s3 x.p _ _ _ hs3 (by omega) (by omega) (by unfold I64; omega) (by omega) (by omega) x6 x7
  · exact fin s2 _ _ _ _ hs2 (by omega) (by omega) x3 (by omega) (by omega) x6 x7
  · refine ⟨by omega, by omega, ?_⟩
    exact fin s2 _ _ _ _ hs2 (by omega) (by omega) x3 (by omega) (by simp; omega) x6 (i64_snoc x7 (by unfold I64; omega))
  · refine ⟨by omega, by omega, ?_⟩
    refine ⟨_, _, l01Next_spec nn l s2 hs2 2 (by unfold I64; omega), ?_⟩
    have hs3 := nxS_ok hs2 2
    have ha := nxN_rng hs2 2
    generalize nxS l s2 2 = s3 at *
    generalize nxN l s2 2 = a at *
    simp
    refine ⟨by omega, by omega, ?_⟩
    first | refine ⟨⟨by kernel_rfl, by kernel_rfl⟩, ?_⟩ | exact ⟨by kernel_rfl, by kernel_rfl⟩
    exact fin s3 _ _ _ _ hs3 (by omega) (by omega) x3 (by simp; omega) (by simp; omega) (i64_snoc x6 (by unfold I64; omega)) (i64_snoc x7 (by unfold I64; omega))
  · exact fin s2 _ _ _ _ hs2 (by omega) (by omega) x3 (by omega) (by omega) x6 x7
theorem l17DrawWord_spec (nn : Bool) (l : List Int) (s : Src) (hs : SrcOk l s) (x : NetV) (hx : NetAny x) (m : Int) : ACalls Try.prog 25 [srcA nn l s, netOw false false x, iv m, iv 8]
    (fun xs r => ∃ s' w, SrcOk l s' ∧ w.length ≤ 8 ∧ (∀ y ∈ w, I64 y) ∧ xs = [srcA nn l s', netOw false false x, iv m, iv 8] ∧ r = .own 1 false (ints w)) := by
  obtain ⟨x1, x2, x3, x4, x5, x6, x7⟩ := hx
  refine walkR (fun t => t == 2027 || t == 2035 || t == 2049) mixed Go.Proofs.Try.func25 rfl rfl rfl (by kernel_rfl) (by simp) (by simp) (by simp) (by kernel_rfl) ?_
  simp
  refine ⟨_, l17Is_spec _ _ x.p x.pre x.post x.s (by unfold I64; omega), ?_⟩
  have fin : ∀ (q : Src) (b : Bool) (w : List Int), SrcOk l q → w.length ≤ 8 → (∀ y ∈ w, I64 y) →
      ∃ r, Le (AV.own 1 b (ints w)) r ∧ ∃ s', SrcOk l s' ∧ ∃ x, x.length ≤ 8 ∧ (∀ (y : Int), y ∈ x → I64 y) ∧ (q.p = s'.p ∧ q.h = s'.h) ∧ r = AV.own 1 false (ints x) :=
    fun q b w h1 h2 h3 => ⟨_, by simp, q, h1, w, h2, h3, ⟨rfl, rfl⟩, rfl⟩
  cases hi : isNet x.p x.pre x.post x.s
  · simp
    exact fin s true [] hs (by simp) (by simp)
  · have hl := isNet_len hi
    have hw9 : IntKind.i64.wrap 9 = 9 := by decide
    simp
    refine ⟨_, l17Letters_spec _ _ x, ?_⟩
    simp [hw9]
    refine ⟨fun _ => fin s true [] hs (by simp) (by simp), fun hne => ?_⟩
    have hn0 : 0 < x.pre.length := List.length_pos_iff.2 hne
    refine ⟨_, _, l01Next_spec nn l s hs 9 (by unfold I64; omega), ?_⟩
    have hs1 := nxS_ok hs 9
    have ha1 := nxN_rng hs 9
    generalize nxS l s 9 = s1 at *
    generalize nxN l s 9 = k0' at *
    obtain ⟨k0, rfl⟩ := Int.eq_ofNat_of_zero_le ha1.1
    simp
    refine awp_loop2 [0, 5] [5, 1000000002001, 1000000002002] (fun q : Src × Nat × Int × List Int => [(10, iv q.2.1), (2, iv q.2.2.1), (9, .ref 200)]) (fun q => [(1000000000, srcA nn l q.1), (200, .own 1 true (ints q.2.2.2))])
      (fun q => SrcOk l q.1 ∧ q.2.2.2.length + q.2.1 ≤ 8 ∧ ∀ y ∈ q.2.2.2, I64 y) (fun q => q.2.1) (s1, k0, m, []) (weak_mk (fun t => if t = 200 then some 14 else some t) (by simp) (by simp) rfl) (by simp; exact ⟨hs1, by omega⟩) ?_
    rintro ⟨q, k, mk, out⟩ ⟨hq, hlo, hio⟩
    simp only at hq hlo hio
    by_cases hk : 0 < k
    · simp [hk]
      refine ⟨_, l17Letters_spec _ _ x, ?_⟩
      simp
      refine ⟨_, _, l01Next_spec nn l q hq x.pre.length (by unfold I64; omega), ?_⟩
      have hq1 := nxS_ok hq (x.pre.length : Int)
      have hb1 := nxN_rng hq (x.pre.length : Int)
      generalize nxS l q (x.pre.length : Int) = q1 at *
      generalize nxN l q (x.pre.length : Int) = a0 at *
      obtain ⟨a, rfl⟩ := Int.eq_ofNat_of_zero_le hb1.1
      simp
      refine awp_loop2 [0, 2, 5, 9, 10] [5, 1000000002001, 1000000002002, 200] (fun q : Src × Nat × Nat => [(12, iv q.2.1), (11, iv q.2.2)]) (fun q => [(1000000000, srcA nn l q.1)])
        (fun q => SrcOk l q.1 ∧ q.2.1 ≤ x.pre.length ∧ q.2.2 < x.pre.length) (fun q => x.pre.length - q.2.1) (q1, 0, a) (weak_mk some (by simp) (by simp) rfl) (by simp; exact ⟨hq1, by omega⟩) ?_
      rintro ⟨q2, j, a2⟩ ⟨hq2, hj, ha2⟩
      simp only at hq2 hj ha2
      simp
      refine ⟨_, l17Letters_spec _ _ x, ?_⟩
      by_cases hlt : j < x.pre.length
      · simp [hlt]
        refine ⟨_, l17Fire_spec _ _ x mk a2 ha2 (by omega), ?_⟩
        generalize (if fireBad x mk a2 = true then -1 else fireTo x mk a2) = v
        simp
        refine ⟨fun hv => ?_, fun hv => ?_⟩
        · refine ⟨_, _, l01Next_spec nn l q2 hq2 16 (by unfold I64; omega), ?_⟩
          have hq3 := nxS_ok hq2 16
          generalize nxS l q2 16 = q3 at *
          generalize nxN l q2 16 = r3 at *
          simp
          refine ⟨fun hr => ?_, fun hr => ?_⟩
          · have hwa : IntKind.i64.wrap ((a2 : Int) + 1) = ((a2 + 1 : Nat) : Int) := by rw [wrap_id _ (by omega) (by omega)]; omega
            have htm : (((a2 + 1 : Nat) : Int)).tmod (x.pre.length : Int) = (((a2 + 1) % x.pre.length : Nat) : Int) := by rw [Int.tmod_eq_emod_of_nonneg (by omega)]; omega
            have hlt3 : (a2 + 1) % x.pre.length < x.pre.length := Nat.mod_lt _ hn0
            refine ⟨_, l17Letters_spec _ _ x, ?_⟩
            rw [hwa]
            generalize hmm : (a2 + 1) % x.pre.length = a3 at *
            generalize hnn : ((a2 + 1 : Nat) : Int) = y3 at *
            simp [htm, hne]
            rw [wrap_id _ (by omega) (by omega)]
            exact Round.mk (q3, j + 1, a3) (weak_mk some (by simp) (by simp) rfl) ⟨hq3, hlt, hlt3⟩ (by simp only; omega)
          · refine ⟨by omega, by omega, ?_⟩
            refine ⟨_, l17Fire_spec _ _ x mk a2 ha2 (by omega), ?_⟩
            generalize (if fireBad x mk a2 = true then -1 else fireTo x mk a2) = v9
            have hwk : IntKind.i64.wrap ((k : Int) - 1) = ((k - 1 : Nat) : Int) := by rw [wrap_id _ (by omega) (by omega)]; omega
            simp [hwk]
            refine ⟨fun hv9 => ?_, fun hv9 => ?_⟩
            · exact Round.mk (q3, k - 1, v9, out ++ [(a2 : Int)]) (weak_mk (fun t => if t = 200 then some 62 else some t) (by simp) (by simp) rfl) ⟨hq3, by simp; omega, i64_snoc hio (by unfold I64; omega)⟩ (by simp only; omega)
            · exact Round.mk (q3, k - 1, mk, out ++ [(a2 : Int)]) (weak_mk (fun t => if t = 200 then some 62 else some t) (by simp) (by simp) rfl) ⟨hq3, by simp; omega, i64_snoc hio (by unfold I64; omega)⟩ (by simp only; omega)
        · refine ⟨by omega, by omega, ?_⟩
          refine ⟨_, l17Fire_spec _ _ x mk a2 ha2 (by omega), ?_⟩
          generalize (if fireBad x mk a2 = true then -1 else fireTo x mk a2) = v9
          have hwk : IntKind.i64.wrap ((k : Int) - 1) = ((k - 1 : Nat) : Int) := by rw [wrap_id _ (by omega) (by omega)]; omega
          simp [hwk]
          refine ⟨fun hv9 => ?_, fun hv9 => ?_⟩
          · exact Round.mk (q2, k - 1, v9, out ++ [(a2 : Int)]) (weak_mk (fun t => if t = 200 then some 62 else some t) (by simp) (by simp) rfl) ⟨hq2, by simp; omega, i64_snoc hio (by unfold I64; omega)⟩ (by simp only; omega)
          · exact Round.mk (q2, k - 1, mk, out ++ [(a2 : Int)]) (weak_mk (fun t => if t = 200 then some 62 else some t) (by simp) (by simp) rfl) ⟨hq2, by simp; omega, i64_snoc hio (by unfold I64; omega)⟩ (by simp only; omega)
      · simp [hlt]
        refine ⟨by omega, by omega, ?_⟩
        refine ⟨_, l17Fire_spec _ _ x mk a2 ha2 (by omega), ?_⟩
        generalize (if fireBad x mk a2 = true then -1 else fireTo x mk a2) = v9
        have hwk : IntKind.i64.wrap ((k : Int) - 1) = ((k - 1 : Nat) : Int) := by rw [wrap_id _ (by omega) (by omega)]; omega
        simp [hwk]
        refine ⟨fun hv9 => ?_, fun hv9 => ?_⟩
        · exact Round.mk (q2, k - 1, v9, out ++ [(a2 : Int)]) (weak_mk (fun t => if t = 200 then some 62 else some t) (by simp) (by simp) rfl) ⟨hq2, by simp; omega, i64_snoc hio (by unfold I64; omega)⟩ (by simp only; omega)
        · exact Round.mk (q2, k - 1, mk, out ++ [(a2 : Int)]) (weak_mk (fun t => if t = 200 then some 62 else some t) (by simp) (by simp) rfl) ⟨hq2, by simp; omega, i64_snoc hio (by unfold I64; omega)⟩ (by simp only; omega)
    · obtain rfl : k = 0 := by omega
      simp
      exact fin q true out hq (by omega) hio
theorem DrawFireWord_spec (nn : Bool) (l : List Int) (hl : BysOk l) : ACalls Try.prog 6 [.sl 1 nn (bys l)]
    (fun xs r => ∃ x m w, NetAny x ∧ I64 m ∧ w.length ≤ 9 ∧ (∀ y ∈ w, I64 y) ∧ r = .tup [netOw false false x, iv m, .own 1 false (ints w)]) := by
  refine walkR (fun t => t == 7012 || t == 2016 || t == 2019 || t == 7024 || t == 2026 || t == 2030) mixed Go.Proofs.Try.func6 rfl rfl rfl (by kernel_rfl) (by simp) (by simp) (by simp) (by kernel_rfl) ?_
  simp
  refine ⟨_, l01From_spec nn l hl, ?_⟩
  have hs := src0_ok hl
  generalize src0 l = s at *
  simp
  refine ⟨_, l17DrawAny_spec nn l s hs, ?_⟩
  rintro _ _ ⟨s1, x, hs1, hx, rfl, rfl⟩
  have fin : ∀ (x' : List Int) (b : Bool) (mk : Int), I64 mk → x'.length ≤ 9 → (∀ y ∈ x', I64 y) →
      ∃ r, Le (AV.tup [AV.agg [iv x.p, AV.own 1 false (ints x.pre), AV.own 1 false (ints x.post), iv x.s], iv mk, AV.own 1 b (ints x')]) r ∧ ∃ x, NetAny x ∧ ∃ m, I64 m ∧ ∃ w : List Int, w.length ≤ 9 ∧ (∀ (y : Int), y ∈ w → I64 y) ∧ r = .tup [netOw false false x, iv m, .own 1 false (ints w)] :=
    fun w b mk h1 h2 h3 => ⟨.tup [netOw false false x, iv mk, .own 1 false (ints w)], by simp, x, hx, mk, h1, w, h2, h3, rfl⟩
  simp
  refine ⟨_, _, l01Next_spec nn l s1 hs1 6 (by unfold I64; omega), ?_⟩
  have hs2 := nxS_ok hs1 6
  generalize nxS l s1 6 = s2 at *
  generalize nxN l s1 6 = r6 at *
  simp
  refine ⟨fun h6 => ?_, fun h6 => ?_⟩
  · refine ⟨_, _, l01Next_spec nn l s2 hs2 140 (by unfold I64; omega), ?_⟩
    have hs3 := nxS_ok hs2 140
    have hr140 := nxN_rng hs2 140
    generalize nxS l s2 140 = s3 at *
    generalize nxN l s2 140 = r140 at *
    have hw140 : IntKind.i64.wrap (r140 - 1) = r140 - 1 := wrap_id _ (by omega) (by omega)
    have hmk : I64 (r140 - 1) := by unfold I64; omega
    simp [hw140]
    refine ⟨_, l17DrawWord_spec nn l s3 hs3 x hx (r140 - 1), ?_⟩
    rintro _ _ ⟨u1, w, hu1, hw8, hwi, rfl, rfl⟩
    simp
    refine ⟨_, _, l01Next_spec nn l u1 hu1 20 (by unfold I64; omega), ?_⟩
    have hu2 := nxS_ok hu1 20
    generalize nxS l u1 20 = u2 at *
    generalize nxN l u1 20 = r20 at *
    simp
    refine ⟨fun h20 => ?_, fun h20 => ?_⟩
    · refine ⟨_, _, l01Next_spec nn l u2 hu2 10 (by unfold I64; omega), ?_⟩
      have hu3 := nxS_ok hu2 10
      have hr10 := nxN_rng hu2 10
      generalize nxS l u2 10 = u3 at *
      generalize nxN l u2 10 = r10 at *
      simp
      refine ⟨by omega, by omega, ?_⟩
      rw [wrap_id (r10 - 1) (by omega) (by omega)]
      exact fin _ _ _ hmk (by simp; omega) (i64_snoc hwi (by unfold I64; omega))
    · exact fin _ _ _ hmk (by omega) hwi
  · refine ⟨_, l17DrawWord_spec nn l s2 hs2 x hx x.s, ?_⟩
    rintro _ _ ⟨u1, w, hu1, hw8, hwi, rfl, rfl⟩
    simp
    refine ⟨_, _, l01Next_spec nn l u1 hu1 20 (by unfold I64; omega), ?_⟩
    have hu2 := nxS_ok hu1 20
    generalize nxS l u1 20 = u2 at *
    generalize nxN l u1 20 = r20 at *
    simp
    refine ⟨fun h20 => ?_, fun h20 => ?_⟩
    · refine ⟨_, _, l01Next_spec nn l u2 hu2 10 (by unfold I64; omega), ?_⟩
      have hu3 := nxS_ok hu2 10
      have hr10 := nxN_rng hu2 10
      generalize nxS l u2 10 = u3 at *
      generalize nxN l u2 10 = r10 at *
      simp
      refine ⟨by omega, by omega, ?_⟩
      rw [wrap_id (r10 - 1) (by omega) (by omega)]
      exact fin _ _ _ hx.2.2.1 (by simp; omega) (i64_snoc hwi (by unfold I64; omega))
    · exact fin _ _ _ hx.2.2.1 (by omega) hwi
end Go.AM
