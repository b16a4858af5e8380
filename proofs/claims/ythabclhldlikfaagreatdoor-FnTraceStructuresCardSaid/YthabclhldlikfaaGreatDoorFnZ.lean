/-
  Contracts: what is left behind a configuration.
-/
import Derived.Test.YthabclhldlikfaaGreatDoorFnMgG
import Derived.Test.YthabclhldlikfaaGreatDoorFnNt
set_option linter.unusedVariables false
set_option linter.unusedSimpArgs false
set_option maxRecDepth 100000
set_option maxHeartbeats 1600000
namespace Go.AM
open Go.Proofs
/-- Masks joined. -/
def orAll (f : Int → Int) (g : Int) (l : List Int) : Int := l.foldl (fun g y => ibits .or .i64 g (f y)) g
theorem orAll_M {f : Int → Int} : ∀ {l : List Int} {g : Int}, M g → (∀ y ∈ l, M (f y)) → M (orAll f g l)
  | [], g, hg, _ => hg
  | y :: l, g, hg, h => orAll_M (l := l) (M_or hg (h y (by simp))) (fun z hz => h z (by simp [hz]))
theorem tb_orAll {f : Int → Int} (i : Nat) : ∀ {l : List Int} {g : Int}, M g → (∀ y ∈ l, M (f y)) → tb (orAll f g l) i = (tb g i || l.any fun y => tb (f y) i)
  | [], g, hg, _ => by simp [orAll]
  | y :: l, g, hg, h => by
    have := tb_orAll (f := f) i (l := l) (M_or hg (h y (by simp))) (fun z hz => h z (by simp [hz]))
    unfold orAll at *
    rw [List.foldl_cons, this, tb_or hg (h y (by simp)), List.any_cons, Bool.or_assoc]
theorem orAll_succ (f : Int → Int) (g : Int) (l : List Int) (k : Nat) (h : k < l.length) : orAll f g (l.take (k + 1)) = ibits .or .i64 (orAll f g (l.take k)) (f (nth l k)) := by
  unfold orAll; rw [foldl_take_succ _ _ _ _ h, nth_at h]
theorem and_zero_iff {a b : Int} (ha : M a) (hb : M b) : ibits .and .i64 a b = 0 ↔ ∀ i, tb a i = true → tb b i = false := by
  rw [eq_zero_iff (M_and ha hb)]
  constructor
  · intro h i hi
    have := h i
    rw [tb_and ha hb, hi] at this
    simpa using this
  · intro h i
    rw [tb_and ha hb]
    cases hi : tb a i
    · rfl
    · simp [h i hi]
/-- The events that can still happen. -/
def leftL (x : StrucV) (c : Int) : List Nat := (List.range x.labels.length).filter fun e => !tb c e && (ibits .and .i64 (nth x.clash e) c == 0)
def shrinkL (m : Int) (L : List Nat) : Int := orMask 0 (fun i => tb m (natAt L i)) L.length
theorem leftL_lt {x : StrucV} {c : Int} : ∀ e ∈ leftL x c, e < x.labels.length := fun e he => by
  unfold leftL at he
  simp only [List.mem_filter, List.mem_range] at he
  exact he.1
theorem leftL_length (x : StrucV) (c : Int) : (leftL x c).length ≤ x.labels.length := by
  unfold leftL
  exact Nat.le_trans (List.length_filter_le _ _) (by simp)
theorem struc_sym {x : StrucV} (hs : isStructureV x = true) {e f : Nat} (he : e < x.labels.length) (hf : f < x.labels.length) : tb (nth x.clash e) f = tb (nth x.clash f) e := by
  have := (isStruc_iff.1 hs).2.2.2.2 e he f hf
  unfold pairOk at this
  simp only [Bool.and_eq_true, beq_iff_eq] at this
  exact this.2
theorem left_bits {x : StrucV} (hs : isStructureV x = true) {c : Int} (hc : isM x.labels.length c = true) : bitsOf (ibits .andNot .i64 (full x.labels.length) (orAll (fun y => nth x.clash y.toNat) c (bitsOf c))) = nats (leftL x c) := by
  obtain ⟨h1, h2, h3⟩ := struc_len hs
  obtain ⟨hM, hb⟩ := isM_spec (by omega) hc
  have hcl : ∀ y ∈ bitsOf c, M (nth x.clash y.toNat) := fun y hy => by
    obtain ⟨k, rfl, hk, ht⟩ := bitsOf_mem hy
    have : k < x.labels.length := Nat.lt_of_not_le fun hle => by rw [hb k hle] at ht; cases ht
    exact (struc_M hs (by simpa using this)).2.1
  have hg := orAll_M hM hcl
  have hf := M_full (n := x.labels.length) (by omega)
  rw [bits_eq (n := x.labels.length) (by omega) (fun i hi => by rw [tb_andNot hf hg, tb_full (by omega)]; simp; omega)]
  unfold nats leftL
  congr 1
  apply List.filter_congr
  intro e he
  rw [List.mem_range] at he
  rw [tb_andNot hf hg, tb_full (by omega), tb_orAll e hM hcl]
  obtain ⟨_, m2, _, m4, _⟩ := struc_M hs he
  have key : ((bitsOf c).any fun y => tb (nth x.clash y.toNat) e) = !(ibits .and .i64 (nth x.clash e) c == 0) := by
    rw [Bool.eq_iff_iff]
    simp only [List.any_eq_true, Bool.not_eq_true', beq_eq_false_iff_ne, ne_eq]
    rw [and_zero_iff m2 hM]
    constructor
    · rintro ⟨y, hy, ht⟩ hall
      obtain ⟨k, rfl, hk, hkt⟩ := bitsOf_mem hy
      have hkn : k < x.labels.length := Nat.lt_of_not_le fun hle => by rw [hb k hle] at hkt; cases hkt
      rw [Int.toNat_natCast, struc_sym hs hkn he] at ht
      rw [hall k ht] at hkt; cases hkt
    · intro hn
      obtain ⟨i, hi⟩ := Classical.not_forall.1 hn
      have hi1 : tb (nth x.clash e) i = true := by
        cases h : tb (nth x.clash e) i
        · exact absurd (fun h' => by rw [h] at h'; cases h') hi
        · rfl
      have hi2 : tb c i = true := by
        cases h : tb c i
        · exact absurd (fun _ => h) hi
        · rfl
      have hin : i < x.labels.length := Nat.lt_of_not_le fun hle => by rw [hb i hle] at hi2; cases hi2
      exact ⟨(i : Int), mem_bits.2 ⟨by omega, hi2⟩, by rw [Int.toNat_natCast, struc_sym hs hin he]; exact hi1⟩
  rw [key]
  simp [he]
theorem renumbered_spec (nn : Bool) (L : List Nat) (hL : L.length ≤ 24) (hb : ∀ e ∈ L, e < 1000) (m : Int) (hm : M m) : ACalls1 Tryz.prog 98 [.sl 1 nn (ints (nats L)), iv m] (iv (shrinkL m L)) := by
  refine walk (fun _ => false) mixed Go.Proofs.Tryz.func98 rfl rfl rfl (by kernel_rfl) rfl (by simp) (by kernel_rfl) ?_
  simp
  refine awp_loop2 [1, 8, 9] [] (fun k : Nat => [(10, iv k), (5, iv (orMask 0 (fun i => tb m (natAt L i)) k))]) (fun _ => []) (fun k => k ≤ L.length) (fun k => L.length - k) 0 (weak_mk some (by simp [orMask]) (by simp) rfl) (by simp) ?_
  intro k hk
  by_cases hlt : k < L.length
  · have he : natAt L k < 1000 := hb _ (natAt_mem hlt)
    simp [hlt, nats_nth hlt]
    refine ⟨_, has_spec m hm (natAt L k) (by omega), ?_⟩
    cases ht : tb m (natAt L k)
    · simp [wrap_id ((k : Int) + 1) (by omega) (by omega)]
      exact Round.mk (k + 1) (weak_mk some (by simp [orMask, ht]) (by simp) rfl) hlt (by omega)
    · simp
      refine ⟨_, one_spec k (by omega), ?_⟩
      simp [wrap_id ((k : Int) + 1) (by omega) (by omega)]
      exact Round.mk (k + 1) (weak_mk some (by simp [orMask, ht]) (by simp) rfl) hlt (by omega)
  · obtain rfl : k = L.length := by omega
    simp [shrinkL]
theorem l16Shrink_spec (nn : Bool) (L : List Nat) (hL : L.length ≤ 24) (hb : ∀ e ∈ L, e < 1000) (m : Int) (hm : M m) : ACalls1 Tryz.prog 102 [iv m, .sl 1 nn (ints (nats L))] (iv (shrinkL m L)) := by
  refine walk (fun _ => false) mixed Go.Proofs.Tryz.func102 rfl rfl rfl (by kernel_rfl) rfl (by simp) (by kernel_rfl) ?_
  simp
  refine awp_loop2 [0, 1] [] (fun k : Nat => [(6, iv k), (5, iv (orMask 0 (fun i => tb m (natAt L i)) k))]) (fun _ => []) (fun k => k ≤ L.length) (fun k => L.length - k) 0 (weak_mk some (by simp [orMask]) (by simp) rfl) (by simp) ?_
  intro k hk
  by_cases hlt : k < L.length
  · have he : natAt L k < 1000 := hb _ (natAt_mem hlt)
    simp [hlt, nats_nth hlt]
    refine ⟨_, l01Bit_spec m hm (natAt L k) (by omega), ?_⟩
    cases ht : tb m (natAt L k)
    · simp [wrap_id ((k : Int) + 1) (by omega) (by omega)]
      exact Round.mk (k + 1) (weak_mk some (by simp [orMask, ht]) (by simp) rfl) hlt (by omega)
    · simp
      refine ⟨_, l01One_spec k (by unfold I64; omega), ?_⟩
      simp [wrap_id ((k : Int) + 1) (by omega) (by omega)]
      exact Round.mk (k + 1) (weak_mk some (by simp [orMask, ht]) (by simp) rfl) hlt (by omega)
  · obtain rfl : k = L.length := by omega
    simp [shrinkL]
theorem allEvents_spec (a0 a1 a2 : Bool) (x : StrucV) (hx : StructureOk x) (h : x.below.length ≤ 16) : ACalls1 Tryz.prog 97 [strucSl a0 a1 a2 x] (iv (full x.below.length)) := by
  refine walk (fun t => t == 1) mixed Go.Proofs.Tryz.func97 rfl rfl rfl (by kernel_rfl) rfl (by simp) (by kernel_rfl) ?_
  simp
  refine ⟨_, length_spec _ _ hx.1.1, ?_⟩
  simp
  refine ⟨_, one_spec _ (by omega), ?_⟩
  simp [full]
/-- The lists of the structure that is left. -/
def aftB (x : StrucV) (L : List Nat) : List Int := L.map fun e => shrinkL (nth x.below e) L
def aftC (x : StrucV) (L : List Nat) : List Int := L.map fun e => shrinkL (nth x.clash e) L
def aftL (x : StrucV) (L : List Nat) : List Int := L.map fun e => nth x.labels e
def afterConfigurationV (x : StrucV) (c : Int) : StrucV × Int := if maskCode x c = 0 then (⟨aftB x (leftL x c), aftC x (leftL x c), aftL x (leftL x c)⟩, 0) else (⟨[], [], []⟩, maskCode x c)
theorem map_take_succ (f : Nat → Int) (L : List Nat) (k : Nat) (h : k < L.length) : (L.take (k + 1)).map f = (L.take k).map f ++ [f (natAt L k)] := by
  rw [List.take_succ_eq_append_getElem h, List.map_append, natAt_at h]; rfl
theorem AfterConfiguration_spec (a0 a1 a2 : Bool) (x : StrucV) (hx : StructureOk x) (c : Int) (hc : I64 c) : ACalls1 Tryz.prog 33 [strucSl a0 a1 a2 x, iv c] (.tup [strucOw false false false (afterConfigurationV x c).1, iv (afterConfigurationV x c).2]) := by
  refine walk (fun t => t == 2) mixed Go.Proofs.Tryz.func33 rfl rfl rfl (by kernel_rfl) rfl (by simp) (by kernel_rfl) ?_
  simp
  refine ⟨_, checkConfiguration_spec _ _ _ x hx c, ?_⟩
  unfold afterConfigurationV
  by_cases h : maskCode x c = 0
  · obtain ⟨hs, hb, hcf, _⟩ := maskCode_zero h
    obtain ⟨h1, h2, h3⟩ := struc_len hs
    obtain ⟨hM, hbit⟩ := isM_spec (by omega) hb
    simp [h]
    refine ⟨_, members_spec c hM, ?_⟩
    have hleft := left_bits hs hb
    have hbl := bitsOf_length c
    have hmem : ∀ j, j < (bitsOf c).length → ∃ k : Nat, nth (bitsOf c) j = k ∧ k < x.labels.length := fun j hj => by
      obtain ⟨k, e, _, ht⟩ := bits_nth hj
      exact ⟨k, e, Nat.lt_of_not_le fun hle => by rw [hbit k hle] at ht; cases ht⟩
    have hcl : ∀ y ∈ bitsOf c, M (nth x.clash y.toNat) := fun y hy => by
      obtain ⟨j, hj, rfl⟩ := List.mem_iff_getElem.1 hy
      obtain ⟨k, e, hk⟩ := hmem j hj
      rw [← nth_at hj, e]
      exact (struc_M hs (by simpa using hk)).2.1
    have hgM := orAll_M hM hcl
    generalize bitsOf c = bs at *
    simp
    refine awp_loop2 [2, 4, 23, 24] [4, 23] (fun j : Nat => [(25, iv j), (7, iv (orAll (fun y => nth x.clash y.toNat) c (bs.take j)))]) (fun _ => []) (fun j => j ≤ bs.length) (fun j => bs.length - j) 0 (weak_mk some (by simp [orAll]) (by simp) rfl) (by simp) ?_
    intro j hj
    by_cases hlt : j < bs.length
    · obtain ⟨k, hk, hkn⟩ := hmem j hlt
      have hkc : k < x.clash.length := by omega
      have hsu := orAll_succ (fun y => nth x.clash y.toNat) c bs j hlt
      rw [hk, Int.toNat_natCast] at hsu
      simp [hlt, hk, hkc, show j + 1 ≤ bs.length from hlt, wrap_id ((j : Int) + 1) (by omega) (by omega)]
      exact Round.mk (j + 1) (weak_mk some (by simp [hsu]) (by simp) rfl) hlt (by omega)
    · obtain rfl : j = bs.length := by omega
      simp
      refine ⟨_, allEvents_spec _ _ _ x hx (by omega), ?_⟩
      simp
      rw [h2]
      refine ⟨_, members_spec _ (M_andNot (M_full (by omega)) hgM), ?_⟩
      rw [hleft]
      have hLl := leftL_length x c
      have hLm := leftL_lt (x := x) (c := c)
      generalize leftL x c = L at *
      simp
      refine awp_loop2 [2, 4, 10, 11, 43, 44] [4, 41] (fun k : Nat => [(45, iv k)]) (fun k => [(11, .box [.ref 100, .ref 101, .ref 102]), (100, .own 1 false (ints ((L.take k).map fun e => shrinkL (nth x.below e) L))), (101, .own 1 false (ints ((L.take k).map fun e => shrinkL (nth x.clash e) L))), (102, .own 1 false (ints ((L.take k).map fun e => nth x.labels e)))]) (fun k => k ≤ L.length) (fun k => L.length - k) 0 (weak_mk (fun t => if t = 100 then none else if t = 101 then none else if t = 102 then none else some t) (by simp) (by simp) rfl) (by simp) ?_
      intro k hk
      by_cases hkl : k < L.length
      · have hen : natAt L k < x.labels.length := hLm _ (natAt_mem hkl)
        have heb : natAt L k < x.below.length := by omega
        have hec : natAt L k < x.clash.length := by omega
        obtain ⟨m1, m2, _⟩ := struc_M hs hen
        have t1 := map_take_succ (fun e => shrinkL (nth x.below e) L) L k hkl
        have t2 := map_take_succ (fun e => shrinkL (nth x.clash e) L) L k hkl
        have t3 := map_take_succ (fun e => nth x.labels e) L k hkl
        have hnk := nats_nth hkl
        have hb1 : ∀ e ∈ L, e < 1000 := fun e he => by have := hLm e he; omega
        have hl1 : ((L.take k).map fun e => shrinkL (nth x.below e) L).length = k := by simp; omega
        have hl2 : ((L.take k).map fun e => shrinkL (nth x.clash e) L).length = k := by simp; omega
        have hl3 : ((L.take k).map fun e => nth x.labels e).length = k := by simp; omega
        generalize hq1 : (L.take k).map (fun e => shrinkL (nth x.below e) L) = q1 at *
        generalize hq2 : (L.take k).map (fun e => shrinkL (nth x.clash e) L) = q2 at *
        generalize hq3 : (L.take k).map (fun e => nth x.labels e) = q3 at *
        generalize hee : natAt L k = e at *
        rw [List.map_take] at t1 t2 t3
        simp [hkl, hnk, hen, heb, hec, show k + 1 ≤ L.length from hkl, hl1, hl2, hl3]
        refine ⟨_, renumbered_spec _ L (by omega) hb1 _ m1, ?_⟩
        simp [hkl, hnk, hen, heb, hec, show k + 1 ≤ L.length from hkl, hl1, hl2, hl3]
        repeat (refine And.intro (by first | omega | exact ⟨by kernel_rfl, by kernel_rfl⟩) ?_)
        try simp [hkl, hnk, hen, heb, hec, show k + 1 ≤ L.length from hkl, hl1, hl2, hl3]
        refine ⟨_, renumbered_spec _ L (by omega) hb1 _ m2, ?_⟩
        simp [hkl, hnk, hen, heb, hec, show k + 1 ≤ L.length from hkl, hl1, hl2, hl3]
        repeat (refine And.intro (by first | omega | exact ⟨by kernel_rfl, by kernel_rfl⟩) ?_)
        try simp [hkl, hnk, hen, heb, hec, show k + 1 ≤ L.length from hkl, hl1, hl2, hl3]
        repeat (refine And.intro (by first | omega | exact ⟨by kernel_rfl, by kernel_rfl⟩) ?_)
        try simp [wrap_id ((k : Int) + 1) (by omega) (by omega)]
        exact Round.mk (k + 1) (weak_mk (fun t => if t = 100 then some 59 else if t = 101 then some 71 else if t = 102 then some 81 else some t) (by simp) (by simp [t1, t2, t3]) rfl) hkl (by omega)
      · obtain rfl : k = L.length := by omega
        simp [aftB, aftC, aftL]
  · simp [h]
theorem specAfterConfiguration_spec (a0 a1 a2 : Bool) (x : StrucV) (hx : StructureOk x) (c : Int) (hc : I64 c) : ACalls1 Tryz.prog 34 [strucSl a0 a1 a2 x, iv c] (.tup [strucOw false false false (afterConfigurationV x c).1, iv (afterConfigurationV x c).2]) := by
  refine walk (fun t => t == 2) mixed Go.Proofs.Tryz.func34 rfl rfl rfl (by kernel_rfl) rfl (by simp) (by kernel_rfl) ?_
  simp
  refine ⟨_, l16Mask_spec _ _ _ x hx c, ?_⟩
  unfold afterConfigurationV
  by_cases h : maskCode x c = 0
  · obtain ⟨hs, hb, hcf, _⟩ := maskCode_zero h
    obtain ⟨h1, h2, h3⟩ := struc_len hs
    obtain ⟨hM, hbit⟩ := isM_spec (by omega) hb
    simp [h]
    refine awp_loop2 [1, 2, 4] [4] (fun e : Nat => [(8, iv e), (7, .ref 100)]) (fun e => [(100, .own 1 true (ints (nats ((List.range e).filter fun e => !tb c e && (ibits .and .i64 (nth x.clash e) c == 0)))))]) (fun e => e ≤ x.labels.length) (fun e => x.labels.length - e) 0 (weak_mk (fun t => if t = 100 then some 18 else some t) (by simp) (by simp [nats]) rfl) (by simp) ?_
    intro e he
    simp
    refine ⟨_, l16Size_spec _ _ _ x, ?_⟩
    by_cases hen : e < x.labels.length
    · have hec : e < x.clash.length := by omega
      have hst := range_filter_succ (fun e => !tb c e && (ibits .and .i64 (nth x.clash e) c == 0)) e
      have hfl : ((List.range e).filter fun e => !tb c e && (ibits .and .i64 (nth x.clash e) c == 0)).length ≤ e := Nat.le_trans (List.length_filter_le _ _) (by simp)
      generalize (List.range e).filter (fun e => !tb c e && (ibits .and .i64 (nth x.clash e) c == 0)) = q at *
      simp [hen]
      refine ⟨_, l01Bit_spec c hM e (by omega), ?_⟩
      cases ht : tb c e
      · by_cases hA : ibits .and .i64 (nth x.clash e) c = 0
        · simp [hec, hA, wrap_id ((e : Int) + 1) (by omega) (by omega)]
          repeat (refine And.intro (by omega) ?_)
          exact Round.mk (e + 1) (weak_mk (fun t => if t = 100 then some 42 else some t) (by simp) (by simp [hst, ht, hA, nats]) rfl) hen (by omega)
        · simp [hec, hA, wrap_id ((e : Int) + 1) (by omega) (by omega)]
          exact Round.mk (e + 1) (weak_mk some (by simp) (by simp [hst, ht, hA]) rfl) hen (by omega)
      · simp [wrap_id ((e : Int) + 1) (by omega) (by omega)]
        exact Round.mk (e + 1) (weak_mk some (by simp) (by simp [hst, ht]) rfl) hen (by omega)
    · obtain rfl : e = x.labels.length := by omega
      have hLl := leftL_length x c
      have hLm := leftL_lt (x := x) (c := c)
      have hdef : (List.range x.labels.length).filter (fun e => !tb c e && (ibits .and .i64 (nth x.clash e) c == 0)) = leftL x c := rfl
      rw [hdef]
      generalize leftL x c = L at *
      simp
      refine awp_loop2 [2, 4, 7, 9] [4, 100] (fun k : Nat => [(10, iv k)]) (fun k => [(9, .box [.ref 200, .ref 201, .ref 202]), (200, .own 1 false (ints ((L.take k).map fun e => shrinkL (nth x.below e) L))), (201, .own 1 false (ints ((L.take k).map fun e => shrinkL (nth x.clash e) L))), (202, .own 1 false (ints ((L.take k).map fun e => nth x.labels e)))]) (fun k => k ≤ L.length) (fun k => L.length - k) 0 (weak_mk (fun t => if t = 200 then none else if t = 201 then none else if t = 202 then none else some t) (by simp) (by simp) rfl) (by simp) ?_
      intro k hk
      by_cases hkl : k < L.length
      · have hen : natAt L k < x.labels.length := hLm _ (natAt_mem hkl)
        have heb : natAt L k < x.below.length := by omega
        have hec : natAt L k < x.clash.length := by omega
        obtain ⟨m1, m2, _⟩ := struc_M hs hen
        have t1 := map_take_succ (fun e => shrinkL (nth x.below e) L) L k hkl
        have t2 := map_take_succ (fun e => shrinkL (nth x.clash e) L) L k hkl
        have t3 := map_take_succ (fun e => nth x.labels e) L k hkl
        have hnk := nats_nth hkl
        have hb1 : ∀ e ∈ L, e < 1000 := fun e he => by have := hLm e he; omega
        have hl1 : ((L.take k).map fun e => shrinkL (nth x.below e) L).length = k := by simp; omega
        have hl2 : ((L.take k).map fun e => shrinkL (nth x.clash e) L).length = k := by simp; omega
        have hl3 : ((L.take k).map fun e => nth x.labels e).length = k := by simp; omega
        generalize hq1 : (L.take k).map (fun e => shrinkL (nth x.below e) L) = q1 at *
        generalize hq2 : (L.take k).map (fun e => shrinkL (nth x.clash e) L) = q2 at *
        generalize hq3 : (L.take k).map (fun e => nth x.labels e) = q3 at *
        generalize hee : natAt L k = e at *
        rw [List.map_take] at t1 t2 t3
        simp [hkl, hnk, hen, heb, hec, show k + 1 ≤ L.length from hkl, hl1, hl2, hl3]
        repeat (rw [exE_eq]; simp [hkl, hnk, hen, heb, hec, show k + 1 ≤ L.length from hkl, hl1, hl2, hl3])
        refine ⟨_, l16Shrink_spec _ L (by omega) hb1 _ m1, ?_⟩
        simp [hkl, hnk, hen, heb, hec, show k + 1 ≤ L.length from hkl, hl1, hl2, hl3]
        repeat (refine And.intro (by first | omega | exact ⟨by kernel_rfl, by kernel_rfl⟩) ?_)
        try simp [hkl, hnk, hen, heb, hec, show k + 1 ≤ L.length from hkl, hl1, hl2, hl3]
        repeat (rw [exE_eq]; simp [hkl, hnk, hen, heb, hec, show k + 1 ≤ L.length from hkl, hl1, hl2, hl3])
        refine ⟨_, l16Shrink_spec _ L (by omega) hb1 _ m2, ?_⟩
        simp [hkl, hnk, hen, heb, hec, show k + 1 ≤ L.length from hkl, hl1, hl2, hl3]
        repeat (refine And.intro (by first | omega | exact ⟨by kernel_rfl, by kernel_rfl⟩) ?_)
        try simp [hkl, hnk, hen, heb, hec, show k + 1 ≤ L.length from hkl, hl1, hl2, hl3]
        repeat (rw [exE_eq]; simp [hkl, hnk, hen, heb, hec, show k + 1 ≤ L.length from hkl, hl1, hl2, hl3])
        repeat (refine And.intro (by first | omega | exact ⟨by kernel_rfl, by kernel_rfl⟩) ?_)
        try simp [wrap_id ((k : Int) + 1) (by omega) (by omega)]
        exact Round.mk (k + 1) (weak_mk (fun t => if t = 200 then some 63 else if t = 201 then some 78 else if t = 202 then some 91 else some t) (by simp) (by simp [t1, t2, t3]) rfl) hkl (by omega)
      · obtain rfl : k = L.length := by omega
        simp [aftB, aftC, aftL]
  · simp [h]
theorem I64_of_M {m : Int} (h : M m) : I64 m := ⟨by have := h.1; omega, by have := h.2; omega⟩
theorem AfterConfiguration_fits (x : StrucV) (hx : StructureOk x) (c : Int) (hc : I64 c) : StructureOk (afterConfigurationV x c).1 := by
  unfold afterConfigurationV
  split
  · rename_i h
    obtain ⟨hs, hb, hcf, _⟩ := maskCode_zero h
    obtain ⟨h1, h2, h3⟩ := struc_len hs
    have hLl := leftL_length x c
    have hLm := leftL_lt (x := x) (c := c)
    have key : ∀ m, M (shrinkL m (leftL x c)) := fun m => M_orMask _ M_zero _ (by omega)
    refine ⟨⟨by simp [Fits, aftB]; omega, fun y hy => ?_⟩, ⟨by simp [Fits, aftC]; omega, fun y hy => ?_⟩, ⟨by simp [Fits, aftL]; omega, fun y hy => ?_⟩⟩
    · obtain ⟨e, he, rfl⟩ := List.mem_map.1 hy
      exact I64_of_M (key _)
    · obtain ⟨e, he, rfl⟩ := List.mem_map.1 hy
      exact I64_of_M (key _)
    · obtain ⟨e, he, rfl⟩ := List.mem_map.1 hy
      have := struc_lab hs _ (nth_mem (hLm e he))
      unfold I64; omega
  · simp [StructureOk, ListOk, Fits]
end Go.AM
