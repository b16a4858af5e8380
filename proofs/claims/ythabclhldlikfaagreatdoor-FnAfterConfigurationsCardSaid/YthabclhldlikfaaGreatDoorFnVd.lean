/-
  Draws: masks of events; structures with a mask. Counts of masks.
-/
import Derived.Test.YthabclhldlikfaaGreatDoorFnUk
import Derived.Test.YthabclhldlikfaaGreatDoorFnVa
import Derived.Test.YthabclhldlikfaaGreatDoorFnBig
set_option linter.unusedVariables false
set_option linter.unusedSimpArgs false
set_option linter.unusedSectionVars false
set_option maxRecDepth 100000
set_option maxHeartbeats 1600000
namespace Go.AM
open Go.Proofs
theorem holdsN_succ {l : List Int} {m : Int} {k : Nat} (h : k < l.length) : holdsN (l.take (k + 1)) m = if ibits .andNot .i64 m (nth l k) = 0 then holdsN (l.take k) m + 1 else holdsN (l.take k) m := by
  unfold holdsN
  rw [List.take_succ_eq_append_getElem h, List.filter_append, ← nth_at h]
  by_cases hp : ibits .andNot .i64 m (nth l k) = 0 <;> simp [hp]
theorem holdsN_le (l : List Int) (m : Int) : holdsN l m ≤ l.length := List.length_filter_le _ _
theorem holds9_spec (a : Bool) (l : List Int) (hl : l.length < 1000000) (m : Int) : ACalls1 Tryz.prog 39 [.sl 1 a (ints l), iv m] (iv (holdsN l m : Nat)) := by
  refine walk (fun _ => false) mixed Go.Proofs.Tryz.func39 rfl rfl rfl (by kernel_rfl) rfl (by simp) (by kernel_rfl) ?_
  simp
  refine awp_loop2 [0, 1] [] (fun k : Nat => [(6, iv k), (5, iv (holdsN (l.take k) m : Nat))]) (fun _ => []) (fun k => k ≤ l.length) (fun k => l.length - k) 0 (weak_mk some (by simp [holdsN]) (by simp) rfl) (by simp) ?_
  intro k hk
  by_cases hlt : k < l.length
  · have hs := holdsN_succ (m := m) hlt
    have hle := holdsN_le (l.take k) m
    have hle2 : (l.take k).length ≤ l.length := by simp; omega
    generalize holdsN (l.take k) m = q at *
    by_cases hp : ibits .andNot .i64 m (nth l k) = 0
    · rw [if_pos hp] at hs
      simp [hlt, hp, wrap_id ((k : Int) + 1) (by omega) (by omega), wrap_id ((q : Int) + 1) (by omega) (by omega)]
      exact Round.mk (k + 1) (weak_mk some (by simp [hs]) (by simp) rfl) hlt (by omega)
    · rw [if_neg hp] at hs
      simp [hlt, hp, wrap_id ((k : Int) + 1) (by omega) (by omega)]
      exact Round.mk (k + 1) (weak_mk some (by simp [hs]) (by simp) rfl) hlt (by omega)
  · obtain rfl : k = l.length := by omega
    simp
theorem hasInt_spec (a : Bool) (l : List Int) (hl : l.length < 1000000) (m : Int) : ACalls1 Tryz.prog 40 [.sl 1 a (ints l), iv m] (bv (decide (m ∈ l))) := by
  refine walk (fun _ => false) mixed Go.Proofs.Tryz.func40 rfl rfl rfl (by kernel_rfl) rfl (by simp) (by kernel_rfl) ?_
  simp
  refine awp_loop2 [0, 1] [] (fun k : Nat => [(5, iv k)]) (fun _ => []) (fun k => k ≤ l.length ∧ ∀ i, i < k → nth l i ≠ m) (fun k => l.length - k) 0 (weak_mk some (by simp) (by simp) rfl) (by simp) ?_
  rintro k ⟨hk, hi⟩
  by_cases hlt : k < l.length
  · by_cases hp : nth l k = m
    · simp [hlt, hp]
      rw [← hp]; exact nth_mem hlt
    · simp [hlt, hp, wrap_id ((k : Int) + 1) (by omega) (by omega)]
      exact Round.mk (k + 1) (weak_mk some (by simp) (by simp) rfl) ⟨hlt, fun i h => by
        by_cases e : i = k
        · subst e; exact hp
        · exact hi i (by omega)⟩ (by omega)
  · obtain rfl : k = l.length := by omega
    simp
    intro hm
    obtain ⟨i, hi', rfl⟩ := List.mem_iff_getElem.1 hm
    exact hi i hi' (nth_at hi')
theorem popc_i64 {m : Int} (h : M m) : I64 (popc m.toNat : Nat) := by
  have h1 := popc_le m.toNat
  have h2 := h.1
  have h3 := h.2
  unfold I64; omega
/-- One event that can be added, drawn. -/
def dmI (l : List Int) (n : Nat) : Nat → Src → Int → Int → Nat → Src × Int
  | 0, s, c, _, _ => (s, c)
  | f + 1, s, c, nx, e => if nx = 0 then (s, c) else if tb nx e = true then (if nxN l s (popc nx.toNat) = 0 then (nxS l s (popc nx.toNat), ibits .or .i64 c (pow1 e)) else dmI l n f (nxS l s (popc nx.toNat)) c nx (e + 1)) else dmI l n f s c nx (e + 1)
def dmK (l : List Int) (x : StrucV) : Nat → Src → Int → Src × Int
  | 0, s, c => (s, c)
  | k + 1, s, c => dmK l x k (dmI l x.labels.length x.labels.length s c (orMask 0 (canAdd x c) x.labels.length) 0).1 (dmI l x.labels.length x.labels.length s c (orMask 0 (canAdd x c) x.labels.length) 0).2
def dmAny (l : List Int) (x : StrucV) (s : Src) : Src × Int := (nxS l s (IntKind.i64.wrap (full x.labels.length + 3)), IntKind.i64.wrap (nxN l s (IntKind.i64.wrap (full x.labels.length + 3)) - 1))
def drawMask (l : List Int) (x : StrucV) (s : Src) : Src × Int :=
  if isStructureV x = true then (if nxN l s 12 = 0 then dmAny l x (nxS l s 12) else dmK l x (nxN l (nxS l s 12) (x.labels.length + 2)).toNat (nxS l (nxS l s 12) (x.labels.length + 2)) 0) else dmAny l x s
theorem dmI_ok {l : List Int} {n : Nat} (hn : n ≤ 16) {nx : Int} : ∀ (f : Nat) {s : Src} {c : Int} {e : Nat}, SrcOk l s → isM n c = true → e + f ≤ n → SrcOk l (dmI l n f s c nx e).1 ∧ isM n (dmI l n f s c nx e).2 = true
  | 0, s, c, e, hs, hc, _ => ⟨hs, hc⟩
  | f + 1, s, c, e, hs, hc, he => by
    rw [dmI]
    split
    · exact ⟨hs, hc⟩
    · split
      · split
        · exact ⟨nxS_ok hs _, isM_or1 hn hc (by omega)⟩
        · exact dmI_ok hn f (nxS_ok hs _) hc (by omega)
      · exact dmI_ok hn f hs hc (by omega)
theorem dmK_ok {l : List Int} {x : StrucV} (hn : x.labels.length ≤ 16) : ∀ (k : Nat) {s : Src} {c : Int}, SrcOk l s → isM x.labels.length c = true → SrcOk l (dmK l x k s c).1 ∧ isM x.labels.length (dmK l x k s c).2 = true
  | 0, s, c, hs, hc => ⟨hs, hc⟩
  | k + 1, s, c, hs, hc => by
    obtain ⟨a, b⟩ := dmI_ok (nx := orMask 0 (canAdd x c) x.labels.length) hn x.labels.length (e := 0) hs hc (by omega)
    exact dmK_ok hn k a b
theorem drawMask_ok {l : List Int} {x : StrucV} (hn : x.labels.length ≤ 16) {s : Src} (hs : SrcOk l s) : SrcOk l (drawMask l x s).1 ∧ I64 (drawMask l x s).2 := by
  have w : ∀ y : Int, I64 (IntKind.i64.wrap y) := fun y => by rw [IntKind.wrap_i64]; unfold I64; omega
  unfold drawMask
  split
  · split
    · exact ⟨nxS_ok (nxS_ok hs _) _, w _⟩
    · obtain ⟨a, b⟩ := dmK_ok (l := l) (x := x) hn (nxN l (nxS l s 12) (x.labels.length + 2)).toNat (nxS_ok (nxS_ok hs 12) (x.labels.length + 2)) (c := 0) (isM_zero (by omega))
      refine ⟨a, ?_⟩
      have := (isM_spec (by omega) b).1
      unfold I64
      have h1 := this.1
      have h2 := this.2
      omega
  · exact ⟨nxS_ok hs _, w _⟩
theorem l16DrawMask_spec (nn : Bool) (l : List Int) (s : Src) (hs : SrcOk l s) (a0 a1 a2 : Bool) (x : StrucV) (hn : x.labels.length ≤ 16) :
    ACalls2 Tryz.prog 167 [srcA nn l s, strucSl a0 a1 a2 x] [srcA nn l (drawMask l x s).1, strucSl a0 a1 a2 x] (iv (drawMask l x s).2) := by
  have hfe := full_eq (n := x.labels.length) (by omega)
  have h2l : (2 : Nat) ^ x.labels.length ≤ 65536 := Nat.pow_le_pow_right (by omega) hn
  have hw3 : IntKind.i64.wrap (full x.labels.length + 3) = full x.labels.length + 3 := by
    rw [hfe]; exact wrap_id _ (by omega) (by omega)
  have hI3 : I64 (full x.labels.length + 3) := by rw [hfe]; unfold I64; omega
  unfold drawMask dmAny
  rw [hw3]
  refine walkO (fun t => t == 3 || t == 2014 || t == 2022 || t == 2028 || t == 2053) mixed Go.Proofs.Tryz.func167 rfl rfl rfl (by kernel_rfl) (by simp) (by simp) (by simp) (by kernel_rfl) ?_
  simp
  refine ⟨_, l16Is_spec a0 a1 a2 x, ?_⟩
  cases hst : isStructureV x
  · simp
    refine ⟨_, l16Size_spec a0 a1 a2 x, ?_⟩
    simp
    refine ⟨_, l01Full_spec _ (by unfold I64; omega), ?_⟩
    simp [hw3]
    refine ⟨_, _, l01Next_spec nn l s hs _ hI3, ?_⟩
    simp
  · obtain ⟨g1, g2, g3⟩ := struc_len hst
    simp
    refine ⟨_, _, l01Next_spec nn l s hs 12 (by unfold I64; omega), ?_⟩
    have hs1 := nxS_ok hs 12
    generalize nxS l s 12 = s1 at *
    generalize nxN l s 12 = r1 at *
    by_cases h0 : r1 = 0
    · simp [h0]
      refine ⟨_, l16Size_spec a0 a1 a2 x, ?_⟩
      simp
      refine ⟨_, l01Full_spec _ (by unfold I64; omega), ?_⟩
      simp [hw3]
      refine ⟨_, _, l01Next_spec nn l s1 hs1 _ hI3, ?_⟩
      simp
    · simp [h0]
      refine ⟨_, l16Size_spec a0 a1 a2 x, ?_⟩
      simp
      rw [wrap_id ((x.labels.length : Int) + 2) (by omega) (by omega)]
      refine ⟨_, _, l01Next_spec nn l s1 hs1 _ (by unfold I64; omega), ?_⟩
      have hs2 := nxS_ok hs1 ((x.labels.length : Int) + 2)
      have hb2 := nxN_rng hs1 ((x.labels.length : Int) + 2)
      generalize nxS l s1 ((x.labels.length : Int) + 2) = s2 at *
      generalize nxN l s1 ((x.labels.length : Int) + 2) = r2 at *
      obtain ⟨k0, rfl⟩ := Int.eq_ofNat_of_zero_le hb2.1
      simp only [Int.toNat_natCast]
      have hk0 : k0 ≤ 18 := by omega
      generalize hR : dmK l x k0 s2 0 = R
      simp
      refine awp_loop2 [0, 3] [] (fun q : Nat × Src × Int => [(6, iv q.1), (5, iv q.2.2)]) (fun q => [(1000000000, srcA nn l q.2.1)]) (fun q => q.1 ≤ 18 ∧ SrcOk l q.2.1 ∧ isM x.labels.length q.2.2 = true ∧ dmK l x q.1 q.2.1 q.2.2 = R) (fun q => q.1) (k0, s2, 0) (weak_mk some (by simp) (by simp) rfl) ⟨hk0, hs2, isM_zero (by omega), hR⟩ ?_
      rintro ⟨k, q, c⟩ ⟨hk, hq, hc, hR⟩
      simp only at hk hq hc hR
      by_cases hkp : 0 < k
      · obtain ⟨j, rfl⟩ : ∃ j, k = j + 1 := ⟨k - 1, by omega⟩
        rw [dmK] at hR
        have hNM := M_orMask (canAdd x c) M_zero x.labels.length (by omega)
        have hin := l16Next_spec a0 a1 a2 x hst c hc
        have hwj : IntKind.i64.wrap (j : Int) = (j : Int) := wrap_id _ (by omega) (by omega)
        generalize orMask 0 (canAdd x c) x.labels.length = nx at *
        obtain ⟨i1, i2⟩ := dmI_ok (l := l) (nx := nx) hn x.labels.length (e := 0) hq hc (by omega)
        simp
        refine ⟨_, hin, ?_⟩
        simp
        generalize hQ : dmI l x.labels.length x.labels.length q c nx 0 = Q at *
        refine awp_loop2 [0, 3, 6] [] (fun z : Nat × Src × Int × Int => [(8, iv z.1), (5, iv z.2.2.1), (7, iv z.2.2.2)]) (fun z => [(1000000000, srcA nn l z.2.1)])
          (fun z => z.1 ≤ x.labels.length ∧ SrcOk l z.2.1 ∧ M z.2.2.2 ∧ isM x.labels.length z.2.2.1 = true ∧ dmI l x.labels.length (x.labels.length - z.1) z.2.1 z.2.2.1 z.2.2.2 z.1 = Q) (fun z => x.labels.length - z.1) (0, q, c, nx) (weak_mk some (by simp) (by simp) rfl) ⟨by simp, hq, hNM, hc, hQ⟩ ?_
        rintro ⟨e, u, d, nz⟩ ⟨he, hu, hnz, hd, hI⟩
        simp only at he hu hnz hd hI
        simp
        refine ⟨_, l16Size_spec a0 a1 a2 x, ?_⟩
        by_cases hen : e < x.labels.length
        · obtain ⟨m, hm⟩ : ∃ m, x.labels.length - e = m + 1 := ⟨x.labels.length - e - 1, by omega⟩
          have hm' : x.labels.length - (e + 1) = m := by omega
          rw [hm, dmI] at hI
          by_cases hz : nz = 0
          · rw [if_pos hz] at hI
            subst hI
            subst hz
            simp [hen, hwj]
            exact Round.mk (j, u, d) (weak_mk some (by simp) (by simp) rfl) ⟨by simp only; omega, hu, hd, hR⟩ (by simp only; omega)
          · rw [if_neg hz] at hI
            have hwe : IntKind.i64.wrap ((e : Int) + 1) = ((e + 1 : Nat) : Int) := by rw [wrap_id _ (by omega) (by omega)]; omega
            simp [hen, hz]
            refine ⟨_, l01Bit_spec nz hnz e (by omega), ?_⟩
            cases hb : tb nz e
            · rw [hb, if_neg (by simp)] at hI
              simp [hwe]
              exact Round.mk (e + 1, u, d, nz) (weak_mk some (by simp) (by simp) rfl) ⟨hen, hu, hnz, hd, by simp only [hm']; exact hI⟩ (by simp only; omega)
            · rw [hb, if_pos rfl] at hI
              simp
              refine ⟨_, l01Bits_spec nz hnz, ?_⟩
              simp
              refine ⟨_, _, l01Next_spec nn l u hu _ (popc_i64 hnz), ?_⟩
              have hu2 := nxS_ok hu (popc nz.toNat : Nat)
              generalize nxS l u (popc nz.toNat : Nat) = u2 at *
              generalize nxN l u (popc nz.toNat : Nat) = ru at *
              by_cases hr0 : ru = 0
              · rw [if_pos hr0] at hI
                simp [hr0]
                refine ⟨_, l01One_spec e (by unfold I64; omega), ?_⟩
                simp [hwe]
                refine Round.mk (e + 1, u2, ibits .or .i64 d (pow1 e), 0) (weak_mk some (by simp) (by simp) rfl) ⟨hen, hu2, M_zero, isM_or1 hn hd hen, ?_⟩ (by simp only; omega)
                simp only [hm']
                rw [← hI]
                cases m with
                | zero => rfl
                | succ m => rw [dmI, if_pos rfl]
              · rw [if_neg hr0] at hI
                simp [hr0, hwe]
                exact Round.mk (e + 1, u2, d, nz) (weak_mk some (by simp) (by simp) rfl) ⟨hen, hu2, hnz, hd, by simp only [hm']; exact hI⟩ (by simp only; omega)
        · obtain rfl : e = x.labels.length := by omega
          rw [Nat.sub_self, dmI] at hI
          subst hI
          simp [hwj]
          exact Round.mk (j, u, d) (weak_mk some (by simp) (by simp) rfl) ⟨by simp only; omega, hu, hd, hR⟩ (by simp only; omega)
      · obtain rfl : k = 0 := by omega
        rw [dmK] at hR
        subst hR
        simp
theorem DrawWordOfConfiguration_spec (nn : Bool) (l : List Int) (hl : BysOk l) : ACalls Tryz.prog 95 [.sl 1 nn (bys l)]
    (fun xs r => ∃ y c, StAny y ∧ I64 c ∧ xs = [.sl 1 nn (bys l)] ∧ r = .tup [strucSl false false false y, iv c]) := by
  refine walkR (fun t => t == 7008 || t == 6007 || t == 2015 || t == 1011) mixed Go.Proofs.Tryz.func95 rfl rfl rfl (by kernel_rfl) (by simp) (by simp) (by simp) (by kernel_rfl) ?_
  simp
  refine ⟨_, l16DrawAny_spec nn l hl, ?_⟩
  rintro _ _ ⟨a, y, ha, hy, rfl, hr⟩
  have hs := src0_ok hl
  have hF := l01From_spec nn l hl
  generalize src0 l = s at *
  obtain ⟨m1, m2⟩ := drawMask_ok hy.d hs
  have hM := l16DrawMask_spec nn l s hs false false false y hy.d
  generalize drawMask l y s = q at *
  rcases hr with rfl | rfl
  · simp
    refine WkK.mk (Weak.trans (weak_frz 9002000 rfl (by simp)) (Weak.trans (weak_frz 9002001 rfl (by simp)) (weak_frz 9002002 rfl (by simp)))) ?_
    simp
    refine ⟨_, hF, ?_⟩
    simp
    refine ⟨_, _, hM, ?_⟩
    simp
    repeat (refine And.intro (by first | omega | exact ⟨by kernel_rfl, by kernel_rfl⟩) ?_)
    exact ⟨_, .refl _, y, hy, _, m2, rfl⟩
  · simp
    refine WkK.mk (Weak.trans (weak_frz 9002000 rfl (by simp)) (weak_frz 9002001 rfl (by simp))) ?_
    simp
    refine ⟨_, hF, ?_⟩
    simp
    refine ⟨_, _, hM, ?_⟩
    simp
    repeat (refine And.intro (by first | omega | exact ⟨by kernel_rfl, by kernel_rfl⟩) ?_)
    exact ⟨_, .refl _, y, hy, _, m2, rfl⟩
theorem DrawAfterConfiguration_spec (nn : Bool) (l : List Int) (hl : BysOk l) : ACalls Tryz.prog 32 [.sl 1 nn (bys l)]
    (fun xs r => ∃ y c, StAny y ∧ I64 c ∧ xs = [.sl 1 nn (bys l)] ∧ r = .tup [strucSl false false false y, iv c]) := by
  refine walkR (fun t => t == 7005) mixed Go.Proofs.Tryz.func32 rfl rfl rfl (by kernel_rfl) (by simp) (by simp) (by simp) (by kernel_rfl) ?_
  simp
  refine ⟨_, DrawWordOfConfiguration_spec nn l hl, ?_⟩
  rintro _ _ ⟨y, c, hy, hc, rfl, rfl⟩
  simp
  exact ⟨_, .refl _, y, hy, c, hc, rfl⟩
end Go.AM
