/-
  Several texts in one: FnW FnX FnY.
-/
import Derived.Test.YthabclhldlikfaaGreatDoorFnV
import Derived.Test.YthabclhldlikfaaGreatDoorFnM
set_option linter.unusedVariables false
set_option linter.unusedSimpArgs false
set_option linter.unusedSectionVars false
set_option maxRecDepth 100000
set_option maxHeartbeats 1600000
namespace Go.AM
open Go.Proofs
/-- What a configuration asks of one of its events. -/
def cfgOk (x : StrucV) (c : Int) (e : Nat) : Bool := (ibits .andNot .i64 (nth x.below e) c == 0) && (ibits .and .i64 (nth x.clash e) c == 0)
def isConf (x : StrucV) (c : Int) : Bool := (List.range x.labels.length).all fun e => !tb c e || cfgOk x c e
theorem isConf_iff {x : StrucV} {c : Int} : isConf x c = true ↔ ∀ e, e < x.labels.length → tb c e = true → cfgOk x c e = true := by
  unfold isConf
  simp only [List.all_eq_true, List.mem_range, Bool.or_eq_true, Bool.not_eq_true']
  constructor
  · intro h e he ht
    rcases h e he with h1 | h1
    · rw [ht] at h1; cases h1
    · exact h1
  · intro h e he
    cases ht : tb c e
    · exact .inl rfl
    · exact .inr (h e he ht)
theorem isConf_no {x : StrucV} {c : Int} (e : Nat) (he : e < x.labels.length) (ht : tb c e = true) (h : cfgOk x c e = false) : isConf x c = false := by
  rw [← Bool.not_eq_true, isConf_iff]
  intro hh; rw [hh e he ht] at h; cases h
def setCode (x : StrucV) (c : Int) : Int := if isStructureV x then (if isM x.labels.length c then 0 else 2) else 1
def maskCode (x : StrucV) (c : Int) : Int := if setCode x c = 0 then (if isConf x c then 0 else 5) else setCode x c
theorem setCode_zero {x : StrucV} {c : Int} (h : setCode x c = 0) : isStructureV x = true ∧ isM x.labels.length c = true := by
  unfold setCode at h; grind
theorem setCode_cases {x : StrucV} {c : Int} (h : setCode x c ≠ 0) : setCode x c = 1 ∨ setCode x c = 2 := by
  unfold setCode at h ⊢; grind
theorem maskCode_zero {x : StrucV} {c : Int} (h : maskCode x c = 0) : isStructureV x = true ∧ isM x.labels.length c = true ∧ isConf x c = true ∧ setCode x c = 0 := by
  unfold maskCode at h
  split at h
  · rename_i h1
    obtain ⟨a, b⟩ := setCode_zero h1
    refine ⟨a, b, ?_, h1⟩
    grind
  · exact absurd h (by assumption)
theorem isMaskB_isM {n : Nat} (hn : n ≤ 24) (c : Int) : isMaskB c n = isM n c := by
  unfold isMaskB isM
  rw [show (decide (0 ≤ (n : Int)) && decide ((n : Int) ≤ 24)) = true by simp; omega]
  simp
def isConfigurationV (x : StrucV) (c : Int) : Bool × Int := if setCode x c = 0 then (isConf x c, 0) else (false, setCode x c)
theorem isConfiguration_spec (a0 a1 a2 : Bool) (x : StrucV) (hs : isStructureV x = true) (c : Int) (hc : isM x.labels.length c = true) : ACalls1 Tryz.prog 89 [strucSl a0 a1 a2 x, iv c] (bv (isConf x c)) := by
  obtain ⟨h1, h2, h3⟩ := struc_len hs
  obtain ⟨hM, hb⟩ := isM_spec (by omega) hc
  refine walk (fun t => t == 2) mixed Go.Proofs.Tryz.func89 rfl rfl rfl (by kernel_rfl) rfl (by simp) (by kernel_rfl) ?_
  simp
  refine ⟨_, members_spec c hM, ?_⟩
  have hbl := bitsOf_length c
  have hmem : ∀ j, j < (bitsOf c).length → ∃ k : Nat, nth (bitsOf c) j = k ∧ k < x.labels.length ∧ tb c k = true := fun j hj => by
    obtain ⟨k, e, _, ht⟩ := bits_nth hj
    refine ⟨k, e, Nat.lt_of_not_le fun hle => ?_, ht⟩
    rw [hb k hle] at ht; cases ht
  have hall : (∀ j, j < (bitsOf c).length → cfgOk x c (nth (bitsOf c) j).toNat = true) → isConf x c = true := fun h => isConf_iff.2 fun e he ht => (bits_all (p := fun e => cfgOk x c e = true)).1 h e (by omega) ht
  generalize bitsOf c = bs at *
  simp
  refine awp_loop2 [1, 2, 8, 9] [8] (fun j : Nat => [(10, iv j)]) (fun _ => []) (fun j => j ≤ bs.length ∧ ∀ i, i < j → cfgOk x c (nth bs i).toNat = true) (fun j => bs.length - j) 0 (weak_mk some (by simp) (by simp) rfl) (by simp) ?_
  rintro j ⟨hj, hi⟩
  by_cases hlt : j < bs.length
  · obtain ⟨k, hk, hkn, ht⟩ := hmem j hlt
    have hkb : k < x.below.length := by omega
    have hkc : k < x.clash.length := by omega
    have no : cfgOk x c k = false → isConf x c = false := isConf_no k hkn ht
    unfold cfgOk at no
    by_cases hA : ibits .andNot .i64 (nth x.below k) c = 0
    · by_cases hB : ibits .and .i64 (nth x.clash k) c = 0
      · simp [hlt, hk, hkb, hkc, show j + 1 ≤ bs.length from hlt, hA, hB, wrap_id ((j : Int) + 1) (by omega) (by omega)]
        refine Round.mk (j + 1) (weak_mk some (by simp) (by simp) rfl) ⟨hlt, fun i hi' => ?_⟩ (by omega)
        by_cases e : i = j
        · subst e; rw [hk]; simp [cfgOk, hA, hB]
        · exact hi i (by omega)
      · simp [hlt, hk, hkb, hkc, show j + 1 ≤ bs.length from hlt, hA, hB]
        exact no (by simp [hB])
    · simp [hlt, hk, hkb, hkc, show j + 1 ≤ bs.length from hlt, hA]
      exact no (by simp [hA])
  · obtain rfl : j = bs.length := by omega
    simp
    exact hall hi
theorem l16Configuration_spec (a0 a1 a2 : Bool) (x : StrucV) (hs : isStructureV x = true) (c : Int) (hc : isM x.labels.length c = true) : ACalls1 Tryz.prog 169 [strucSl a0 a1 a2 x, iv c] (bv (isConf x c)) := by
  obtain ⟨h1, h2, h3⟩ := struc_len hs
  obtain ⟨hM, hb⟩ := isM_spec (by omega) hc
  refine walk (fun t => t == 2) mixed Go.Proofs.Tryz.func169 rfl rfl rfl (by kernel_rfl) rfl (by simp) (by kernel_rfl) ?_
  simp
  refine awp_loop2 [1, 2] [] (fun k : Nat => [(5, iv k)]) (fun _ => []) (fun k => k ≤ x.labels.length ∧ ∀ e, e < k → tb c e = true → cfgOk x c e = true) (fun k => x.labels.length - k) 0 (weak_mk some (by simp) (by simp) rfl) (by simp) ?_
  rintro k ⟨hk, hi⟩
  simp
  refine ⟨_, l16Size_spec _ _ _ x, ?_⟩
  by_cases hlt : k < x.labels.length
  · have hkb : k < x.below.length := by omega
    have hkc : k < x.clash.length := by omega
    have go : (tb c k = true → cfgOk x c k = true) → ∀ e, e < k + 1 → tb c e = true → cfgOk x c e = true := fun h e he ht => by
      by_cases e1 : e = k
      · subst e1; exact h ht
      · exact hi e (by omega) ht
    simp [hlt]
    refine ⟨_, l01Bit_spec c hM k (by omega), ?_⟩
    cases ht : tb c k
    · simp [wrap_id ((k : Int) + 1) (by omega) (by omega)]
      exact Round.mk (k + 1) (weak_mk some (by simp) (by simp) rfl) ⟨hlt, go (by simp [ht])⟩ (by omega)
    · have no : cfgOk x c k = false → isConf x c = false := isConf_no k hlt ht
      unfold cfgOk at no
      by_cases hA : ibits .andNot .i64 (nth x.below k) c = 0
      · by_cases hB : ibits .and .i64 (nth x.clash k) c = 0
        · simp [hlt, hkb, hkc, hA, hB, wrap_id ((k : Int) + 1) (by omega) (by omega)]
          exact Round.mk (k + 1) (weak_mk some (by simp) (by simp) rfl) ⟨hlt, go (by simp [cfgOk, hA, hB])⟩ (by omega)
        · simp [hlt, hkb, hkc, hA, hB]
          exact no (by simp [hB])
      · simp [hlt, hkb, hkc, hA]
        exact no (by simp [hA])
  · obtain rfl : k = x.labels.length := by omega
    simp
    exact isConf_iff.2 hi
theorem checkSet_spec (a0 a1 a2 : Bool) (x : StrucV) (hx : StructureOk x) (c : Int) : ACalls1 Tryz.prog 88 [strucSl a0 a1 a2 x, iv c] (iv (setCode x c)) := by
  refine walk (fun t => t == 2) mixed Go.Proofs.Tryz.func88 rfl rfl rfl (by kernel_rfl) rfl (by simp) (by kernel_rfl) ?_
  simp
  refine ⟨_, IsStructure_spec _ _ _ x hx, ?_⟩
  unfold setCode
  cases h : isStructureV x
  · simp
  · obtain ⟨h1, h2, h3⟩ := struc_len h
    simp
    refine ⟨_, length_spec _ _ hx.1.1, ?_⟩
    simp
    refine ⟨_, IsMask_spec _ _, ?_⟩
    rw [h2, isMaskB_isM (by omega)]
    cases hb : isM x.labels.length c <;> simp
theorem l16Mask_spec (a0 a1 a2 : Bool) (x : StrucV) (hx : StructureOk x) (c : Int) : ACalls1 Tryz.prog 99 [strucSl a0 a1 a2 x, iv c] (iv (maskCode x c)) := by
  refine walk (fun t => t == 2) mixed Go.Proofs.Tryz.func99 rfl rfl rfl (by kernel_rfl) rfl (by simp) (by kernel_rfl) ?_
  simp
  refine ⟨_, l16Is_spec _ _ _ x, ?_⟩
  cases h : isStructureV x
  · have e : setCode x c = 1 := by simp [setCode, h]
    simp [maskCode, e]
  · obtain ⟨h1, h2, h3⟩ := struc_len h
    simp
    refine ⟨_, l16Size_spec _ _ _ x, ?_⟩
    simp
    refine ⟨_, l01Full_spec _ (by unfold I64; omega), ?_⟩
    simp
    refine ⟨_, l01In_spec _ _ _, ?_⟩
    cases hb : (decide (0 ≤ c) && decide (c ≤ full x.labels.length))
    · have hb' : isM x.labels.length c = false := hb
      have e : setCode x c = 2 := by simp [setCode, h, hb']
      simp [maskCode, e]
    · have hb' : isM x.labels.length c = true := hb
      have e : setCode x c = 0 := by simp [setCode, h, hb']
      simp
      refine ⟨_, l16Configuration_spec _ _ _ x h c hb', ?_⟩
      cases hc : isConf x c <;> simp [maskCode, e, hc]
theorem checkConfiguration_spec (a0 a1 a2 : Bool) (x : StrucV) (hx : StructureOk x) (c : Int) : ACalls1 Tryz.prog 96 [strucSl a0 a1 a2 x, iv c] (iv (maskCode x c)) := by
  refine walk (fun t => t == 2) mixed Go.Proofs.Tryz.func96 rfl rfl rfl (by kernel_rfl) rfl (by simp) (by kernel_rfl) ?_
  simp
  refine ⟨_, checkSet_spec _ _ _ x hx c, ?_⟩
  unfold maskCode
  by_cases h : setCode x c = 0
  · obtain ⟨hs, hb⟩ := setCode_zero h
    simp [h]
    refine ⟨_, isConfiguration_spec _ _ _ x hs c hb, ?_⟩
    cases hc : isConf x c <;> simp
  · simp [h]
theorem IsConfiguration_spec (a0 a1 a2 : Bool) (x : StrucV) (hx : StructureOk x) (c : Int) (hc : I64 c) : ACalls1 Tryz.prog 28 [strucSl a0 a1 a2 x, iv c] (.tup [bv (isConfigurationV x c).1, iv (isConfigurationV x c).2]) := by
  refine walk (fun t => t == 2) mixed Go.Proofs.Tryz.func28 rfl rfl rfl (by kernel_rfl) rfl (by simp) (by kernel_rfl) ?_
  simp
  refine ⟨_, checkSet_spec _ _ _ x hx c, ?_⟩
  unfold isConfigurationV
  by_cases h : setCode x c = 0
  · obtain ⟨hs, hb⟩ := setCode_zero h
    simp [h]
    refine ⟨_, isConfiguration_spec _ _ _ x hs c hb, ?_⟩
    simp
  · simp [h]
/-- An event of a configuration that can follow some of its events. -/
def canS (x : StrucV) (c s : Int) (e : Nat) : Bool := tb c e && !tb s e && (ibits .andNot .i64 (nth x.below e) s == 0)
def candL (x : StrucV) (c s : Int) : List Nat := (List.range x.labels.length).filter (canS x c s)
def readyV (x : StrucV) (c s : Int) : List Int := (candL x c s).map fun (e : Nat) => (e : Int)
theorem candL_mem {x : StrucV} {c s : Int} {e : Nat} (h : e ∈ candL x c s) : e < x.labels.length ∧ tb c e = true ∧ tb s e = false ∧ ibits .andNot .i64 (nth x.below e) s = 0 := by
  unfold candL canS at h
  simp only [List.mem_filter, List.mem_range, Bool.and_eq_true, Bool.not_eq_true', beq_iff_eq] at h
  exact ⟨h.1, h.2.1.1, h.2.1.2, h.2.2⟩
theorem candL_length (x : StrucV) (c s : Int) : (candL x c s).length ≤ x.labels.length := by
  unfold candL
  exact Nat.le_trans (List.length_filter_le _ _) (by simp)
theorem ready_spec (a0 a1 a2 : Bool) (x : StrucV) (hs : isStructureV x = true) (c s : Int) (hc : isM x.labels.length c = true) (hd : isM x.labels.length s = true) : ACalls1 Tryz.prog 164 [strucSl a0 a1 a2 x, iv c, iv s] (.own 1 true (ints (readyV x c s))) := by
  obtain ⟨h1, h2, h3⟩ := struc_len hs
  obtain ⟨hM, hb⟩ := isM_spec (by omega) hc
  obtain ⟨hM', hb'⟩ := isM_spec (by omega) hd
  have hm2 : ∀ i, x.labels.length ≤ i → tb (ibits .andNot .i64 c s) i = false := fun i hi => by rw [tb_andNot hM hM', hb i hi]; rfl
  have hval : (bitsOf (ibits .andNot .i64 c s)).filter (fun y => ibits .andNot .i64 (nth x.below y.toNat) s == 0) = readyV x c s := by
    rw [bits_filter (n := x.labels.length) (by omega) hm2 (fun e => ibits .andNot .i64 (nth x.below e) s == 0)]
    unfold readyV candL canS
    congr 1
    apply List.filter_congr
    intro e _
    rw [tb_andNot hM hM']
  rw [← hval]
  refine walk (fun t => t == 3) mixed Go.Proofs.Tryz.func164 rfl rfl rfl (by kernel_rfl) rfl (by simp) (by kernel_rfl) ?_
  simp
  refine ⟨_, members_spec _ (M_andNot hM hM'), ?_⟩
  have hbl := bitsOf_length (ibits .andNot .i64 c s)
  have hmem : ∀ j, j < (bitsOf (ibits .andNot .i64 c s)).length → ∃ k : Nat, nth (bitsOf (ibits .andNot .i64 c s)) j = k ∧ k < x.labels.length := fun j hj => by
    obtain ⟨k, e, _, ht⟩ := bits_nth hj
    refine ⟨k, e, Nat.lt_of_not_le fun hle => ?_⟩
    rw [hm2 k hle] at ht; cases ht
  generalize bitsOf (ibits .andNot .i64 c s) = bs at *
  simp
  refine awp_loop2 [2, 3, 14, 15] [14] (fun j : Nat => [(16, iv j), (7, .ref 100)]) (fun j => [(100, .own 1 true (ints ((bs.take j).filter fun y => ibits .andNot .i64 (nth x.below y.toNat) s == 0)))]) (fun j => j ≤ bs.length) (fun j => bs.length - j) 0 (weak_mk (fun t => if t = 100 then some 10 else some t) (by simp) (by simp) rfl) (by simp) ?_
  intro j hj
  by_cases hlt : j < bs.length
  · obtain ⟨k, hk, hkn⟩ := hmem j hlt
    have hkb : k < x.below.length := by omega
    have hl := length_filter_take (fun y : Int => ibits .andNot .i64 (nth x.below y.toNat) s == 0) bs j
    have hst := filter_take_succ (fun y : Int => ibits .andNot .i64 (nth x.below y.toNat) s == 0) bs j hlt
    rw [← nth_at hlt, hk, Int.toNat_natCast] at hst
    generalize (bs.take j).filter (fun y : Int => ibits .andNot .i64 (nth x.below y.toNat) s == 0) = q at *
    by_cases hA : ibits .andNot .i64 (nth x.below k) s = 0
    · simp [hlt, hk, hkb, show j + 1 ≤ bs.length from hlt, hA, wrap_id ((j : Int) + 1) (by omega) (by omega)]
      repeat (refine And.intro (by omega) ?_)
      exact Round.mk (j + 1) (weak_mk (fun t => if t = 100 then some 31 else some t) (by simp) (by simp [hst, hA]) rfl) hlt (by omega)
    · simp [hlt, hk, hkb, show j + 1 ≤ bs.length from hlt, hA, wrap_id ((j : Int) + 1) (by omega) (by omega)]
      exact Round.mk (j + 1) (weak_mk some (by simp) (by simp [hst, hA]) rfl) hlt (by omega)
  · obtain rfl : j = bs.length := by omega
    simp
/-- One more event in the search for the next letter. -/
def stepC (x : StrucV) (s : Int) (st : Int × List Int) (e : Nat) : Int × List Int :=
  if nth x.labels e < st.1 then (nth x.labels e, [ibits .or .i64 s (pow1 e)]) else if nth x.labels e = st.1 then (if ibits .or .i64 s (pow1 e) ∈ st.2 then st else (st.1, st.2 ++ [ibits .or .i64 s (pow1 e)])) else st
def scanC (x : StrucV) (c : Int) (st : Int × List Int) (s : Int) : Int × List Int := (candL x c s).foldl (stepC x s) st
def levelC (x : StrucV) (c : Int) (sets : List Int) : Int × List Int := sets.foldl (scanC x c) (8, [])
/-- The next letters, and the sets of events behind them. -/
def wordS (x : StrucV) (c : Int) : Nat → List Int × List Int
  | 0 => ([], [0])
  | k + 1 => ((wordS x c k).1 ++ [(levelC x c (wordS x c k).2).1], (levelC x c (wordS x c k).2).2)
def wordC (x : StrucV) (c : Int) : List Int := (wordS x c (popc c.toNat)).1
/-- Sets of events, each once. -/
def okS (n : Nat) (l : List Int) : Prop := l.Nodup ∧ ∀ y ∈ l, isM n y = true
theorem okS_length {n : Nat} (hn : n ≤ 16) {l : List Int} (h : okS n l) : l.length ≤ 65536 := by
  have hp : (2 : Nat) ^ n ≤ 65536 := Nat.pow_le_pow_right (by omega) (show n ≤ 16 from hn)
  have hb : ∀ y ∈ l, 0 ≤ y ∧ y.toNat < 65536 := fun y hy => by
    have := h.2 y hy
    unfold isM at this
    simp only [Bool.and_eq_true, decide_eq_true_eq] at this
    rw [full_eq (by omega)] at this
    have := Nat.two_pow_pos n
    omega
  have hmap : (l.map Int.toNat).Nodup := by
    rw [List.nodup_iff_pairwise_ne] at *
    have h1 := h.1
    rw [List.Nodup] at h1
    rw [List.pairwise_map]
    refine List.Pairwise.imp_of_mem ?_ h1
    intro a b ha hb' hne e
    have := hb a ha; have := hb b hb'
    omega
  have := nodup_bound 65536 _ hmap (fun y hy => by
    obtain ⟨z, hz, rfl⟩ := List.mem_map.1 hy
    exact (hb z hz).2)
  simpa using this
theorem isM_or1 {n : Nat} (hn : n ≤ 16) {s : Int} (h : isM n s = true) {e : Nat} (he : e < n) : isM n (ibits .or .i64 s (pow1 e)) = true := by
  obtain ⟨hM, hb⟩ := isM_spec (by omega) h
  refine isM_of (by omega) (M_or hM (M_pow1 (by omega))) fun i hi => ?_
  rw [tb_or hM (M_pow1 (by omega)), hb i hi, tb_pow1 (by omega)]; simp; omega
theorem stepC_ok {x : StrucV} (hn : x.labels.length ≤ 16) {s : Int} (hs : isM x.labels.length s = true) {e : Nat} (he : e < x.labels.length) {st : Int × List Int} (h : okS x.labels.length st.2) : okS x.labels.length (stepC x s st e).2 := by
  have hm := isM_or1 hn hs he
  unfold stepC
  split
  · exact ⟨by simp, fun y hy => by simp at hy; rw [hy]; exact hm⟩
  · split
    · split
      · exact h
      · rename_i hnot
        refine ⟨List.nodup_append.2 ⟨h.1, by simp, fun a ha b hb e => ?_⟩, fun y hy => ?_⟩
        · simp at hb; subst e; rw [hb] at ha; exact hnot ha
        · simp only [List.mem_append, List.mem_singleton] at hy
          rcases hy with hy | rfl
          · exact h.2 y hy
          · exact hm
    · exact h
theorem foldC_ok {x : StrucV} (hn : x.labels.length ≤ 16) {s : Int} (hs : isM x.labels.length s = true) : ∀ (l : List Nat) {st : Int × List Int}, (∀ e ∈ l, e < x.labels.length) → okS x.labels.length st.2 → okS x.labels.length (l.foldl (stepC x s) st).2
  | [], st, _, h => h
  | e :: l, st, hl, h => foldC_ok hn hs l (fun f hf => hl f (by simp [hf])) (stepC_ok hn hs (hl e (by simp)) h)
theorem scanC_ok {x : StrucV} (hn : x.labels.length ≤ 16) {c s : Int} (hs : isM x.labels.length s = true) {st : Int × List Int} (h : okS x.labels.length st.2) : okS x.labels.length (scanC x c st s).2 :=
  foldC_ok hn hs _ (fun e he => (candL_mem he).1) h
theorem scans_ok {x : StrucV} (hn : x.labels.length ≤ 16) {c : Int} : ∀ (l : List Int) {st : Int × List Int}, (∀ s ∈ l, isM x.labels.length s = true) → okS x.labels.length st.2 → okS x.labels.length (l.foldl (scanC x c) st).2
  | [], st, _, h => h
  | s :: l, st, hl, h => scans_ok hn l (fun f hf => hl f (by simp [hf])) (scanC_ok hn (hl s (by simp)) h)
theorem okS_nil (n : Nat) : okS n [] := ⟨List.nodup_nil, fun y hy => by cases hy⟩
theorem okS_zero (n : Nat) (hn : n ≤ 16) : okS n [0] := ⟨by simp, fun y hy => by simp at hy; subst hy; exact isM_of (by omega) M_zero (fun i _ => by simp)⟩
theorem wordS_ok {x : StrucV} (hn : x.labels.length ≤ 16) (c : Int) : ∀ k, okS x.labels.length (wordS x c k).2
  | 0 => okS_zero _ hn
  | k + 1 => scans_ok hn _ (wordS_ok hn c k).2 (okS_nil _)
theorem wordS_length (x : StrucV) (c : Int) : ∀ k, (wordS x c k).1.length = k
  | 0 => rfl
  | k + 1 => by simp [wordS, wordS_length x c k]
theorem foldl_take_succ {α β : Type} (f : β → α → β) (b : β) (l : List α) (k : Nat) (h : k < l.length) : (l.take (k + 1)).foldl f b = f ((l.take k).foldl f b) l[k] := by
  rw [List.take_succ_eq_append_getElem h, List.foldl_append]; rfl
theorem isM_lt {n : Nat} (hn : n ≤ 16) {c : Int} (h : isM n c = true) : c.toNat < 65536 := by
  unfold isM at h
  simp only [Bool.and_eq_true, decide_eq_true_eq] at h
  rw [full_eq (by omega)] at h
  have hp : (2 : Nat) ^ n ≤ 65536 := Nat.pow_le_pow_right (by omega) (show n ≤ 16 from hn)
  have := Nat.two_pow_pos n
  omega
theorem Contains_nil (n : Int) : ACalls1 Tryz.prog 165 [.val (.slice none 0 0), iv n] (bv false) := by
  have := (Contains_spec false [] (by simp [Fits]) n)
  simp only [ints_nil] at this
  simpa using this.nil1 rfl
theorem smallestWord_spec (a0 a1 a2 : Bool) (x : StrucV) (hs : isStructureV x = true) (c : Int) (hc : isM x.labels.length c = true) : ACalls1 Tryz.prog 93 [strucSl a0 a1 a2 x, iv c] (.own 1 true (ints (wordC x c))) := by
  obtain ⟨h1, h2, h3⟩ := struc_len hs
  obtain ⟨hM, hb⟩ := isM_spec (by omega) hc
  have hcl := isM_lt h1 hc
  have hpc := popc_le c.toNat
  unfold wordC
  refine walk (fun t => t == 2) mixed Go.Proofs.Tryz.func93 rfl rfl rfl (by kernel_rfl) rfl (by simp) (by kernel_rfl) ?_
  simp
  refine ⟨_, size_spec c hM, ?_⟩
  generalize popc c.toNat = m at *
  simp
  refine awp_loop2 [1, 2, 16] [] (fun k : Nat => [(17, iv k), (5, .ref 100), (6, .ref 101)]) (fun k => [(100, .own 1 true (ints (wordS x c k).1)), (101, .own 1 false (ints (wordS x c k).2))]) (fun k => k ≤ m) (fun k => m - k) 0 (weak_mk (fun t => if t = 100 then some 13 else if t = 101 then some 14 else some t) (by simp) (by simp [wordS, ints]) rfl) (by simp) ?_
  intro k hk
  by_cases hlt : k < m
  · have hok := wordS_ok h1 c k
    have hol := okS_length h1 hok
    have hwl := wordS_length x c k
    have hnext : wordS x c (k + 1) = ((wordS x c k).1 ++ [(levelC x c (wordS x c k).2).1], (levelC x c (wordS x c k).2).2) := rfl
    unfold levelC at hnext
    generalize (wordS x c k).1 = out at *
    generalize (wordS x c k).2 = sets at *
    simp [hlt]
    refine awp_loop2 [1, 2, 5, 16, 17, 20, 21] [100, 101] (fun s : Nat × (Int × List Int) => [(22, iv s.1), (7, iv s.2.1), (8, .ref 102)]) (fun s => [(102, .own 1 false (ints s.2.2))]) (fun s => s.1 ≤ sets.length ∧ s.2 = (sets.take s.1).foldl (scanC x c) (8, []) ∧ okS x.labels.length s.2.2) (fun s => sets.length - s.1) (0, (8, [])) (weak_mk (fun t => if t = 102 then some 19 else some t) (by simp) (by simp) rfl) (by simp [okS_nil]) ?_
    rintro ⟨i, st⟩ ⟨hi, hst, hsk⟩
    simp only at hi hst hsk
    by_cases hil : i < sets.length
    · have hsm : isM x.labels.length (nth sets i) = true := hok.2 _ (nth_mem hil)
      obtain ⟨hsM, _⟩ := isM_spec (by omega) hsm
      simp [hil, show i + 1 ≤ sets.length from hil]
      refine ⟨_, ready_spec _ _ _ x hs c (nth sets i) hc hsm, ?_⟩
      have hcm := fun e (he : e ∈ candL x c (nth sets i)) => candL_mem he
      have hcl' := candL_length x c (nth sets i)
      have hsc : scanC x c st (nth sets i) = (candL x c (nth sets i)).foldl (stepC x (nth sets i)) st := rfl
      have hstn : (sets.take (i + 1)).foldl (scanC x c) (8, []) = scanC x c st (nth sets i) := by rw [foldl_take_succ _ _ _ _ hil, ← hst, nth_at hil]
      unfold readyV
      generalize candL x c (nth sets i) = cs at *
      simp
      refine awp_loop2 [1, 2, 5, 10, 16, 17, 20, 21, 22, 29, 30] [100, 101, 29] (fun s : Nat × (Int × List Int) => [(31, iv s.1), (7, iv s.2.1), (8, .ref 102)]) (fun s => [(102, .own 1 false (ints s.2.2))]) (fun s => s.1 ≤ cs.length ∧ s.2 = (cs.take s.1).foldl (stepC x (nth sets i)) st ∧ okS x.labels.length s.2.2) (fun s => cs.length - s.1) (0, st) (weak_mk some (by simp) (by simp) rfl) (by simpa using hsk) ?_
      rintro ⟨j, st'⟩ ⟨hj, hst', hsk'⟩
      simp only at hj hst' hsk'
      by_cases hjl : j < cs.length
      · have hkl := okS_length h1 hsk'
        obtain ⟨hen, _⟩ := hcm cs[j] (List.getElem_mem hjl)
        have hok2 := stepC_ok h1 hsm hen hsk'
        have hnx : (cs.take (j + 1)).foldl (stepC x (nth sets i)) st = stepC x (nth sets i) st' cs[j] := by rw [foldl_take_succ _ _ _ _ hjl, ← hst']
        have hel : nth (cs.map fun (e : Nat) => (e : Int)) j = (cs[j] : Int) := by rw [nth_at (by simpa using hjl)]; simp
        obtain ⟨e, he⟩ : ∃ e, e = cs[j] := ⟨_, rfl⟩
        rw [← he] at hen hok2 hnx hel
        clear he
        have heb : e < x.below.length := by omega
        have go : ∀ st'', st'' = stepC x (nth sets i) st' e → j + 1 ≤ cs.length ∧ st'' = (cs.take (j + 1)).foldl (stepC x (nth sets i)) st ∧ okS x.labels.length st''.2 := fun st'' h => ⟨hjl, by rw [hnx, h], by rw [h]; exact hok2⟩
        by_cases hL : nth x.labels e < st'.1
        · simp [hjl, hel, hen, show j + 1 ≤ cs.length from hjl, hL]
          refine ⟨_, one_spec e (by omega), ?_⟩
          simp
          refine ⟨_, Contains_nil _, ?_⟩
          simp [hen, hL]
          refine ⟨_, one_spec e (by omega), ?_⟩
          simp [wrap_id ((j : Int) + 1) (by omega) (by omega)]
          exact Round.mk (j + 1, (nth x.labels e, [ibits .or .i64 (nth sets i) (pow1 e)])) (weak_mk (fun t => if t = 102 then some 69 else some t) (by simp) (by simp [ints]) rfl) (go _ (by unfold stepC; rw [if_pos hL])) (by simp only; omega)
        · by_cases hE : nth x.labels e = st'.1
          · by_cases hIn : ibits .or .i64 (nth sets i) (pow1 e) ∈ st'.2
            · simp [hjl, hel, hen, show j + 1 ≤ cs.length from hjl, hL, hE]
              refine ⟨_, one_spec e (by omega), ?_⟩
              simp
              refine ⟨_, Contains_spec _ _ (by unfold Fits; omega) _, ?_⟩
              simp [hIn, wrap_id ((j : Int) + 1) (by omega) (by omega)]
              exact Round.mk ((j + 1, st')) (weak_mk some (by simp) (by simp) rfl) (go _ (by unfold stepC; rw [if_neg hL, if_pos hE, if_pos hIn])) (by simp only; omega)
            · simp [hjl, hel, hen, show j + 1 ≤ cs.length from hjl, hL, hE]
              refine ⟨_, one_spec e (by omega), ?_⟩
              simp
              refine ⟨_, Contains_spec _ _ (by unfold Fits; omega) _, ?_⟩
              simp [hIn]
              refine ⟨_, one_spec e (by omega), ?_⟩
              simp [wrap_id ((j : Int) + 1) (by omega) (by omega)]
              repeat (refine And.intro (by omega) ?_)
              exact Round.mk (j + 1, (st'.1, st'.2 ++ [ibits .or .i64 (nth sets i) (pow1 e)])) (weak_mk (fun t => if t = 102 then some 69 else some t) (by simp) (by simp [ints]) rfl) (go _ (by unfold stepC; rw [if_neg hL, if_pos hE, if_neg hIn])) (by simp only; omega)
          · simp [hjl, hel, hen, show j + 1 ≤ cs.length from hjl, hL, hE, wrap_id ((j : Int) + 1) (by omega) (by omega)]
            exact Round.mk ((j + 1, st')) (weak_mk some (by simp) (by simp) rfl) (go _ (by unfold stepC; rw [if_neg hL, if_neg hE])) (by simp only; omega)
      · obtain rfl : j = cs.length := by omega
        rw [List.take_length, ← hsc] at hst'
        simp [wrap_id ((i : Int) + 1) (by omega) (by omega)]
        exact Round.mk ((i + 1, st')) (weak_mk some (by simp) (by simp) rfl) ⟨hil, by rw [hstn]; exact hst', hsk'⟩ (by simp only; omega)
    · obtain rfl : i = sets.length := by omega
      rw [List.take_length] at hst
      rw [← hst] at hnext
      simp [wrap_id ((k : Int) + 1) (by omega) (by omega)]
      repeat (refine And.intro (by omega) ?_)
      exact Round.mk (k + 1) (weak_mk (fun t => if t = 100 then some 75 else if t = 101 then some 102 else some t) (by simp) (by simp [hnext]) rfl) hlt (by omega)
  · obtain rfl : k = m := by omega
    simp
theorem range_filter_succ (p : Nat → Bool) (k : Nat) : (List.range (k + 1)).filter p = if p k then (List.range k).filter p ++ [k] else (List.range k).filter p := by
  rw [List.range_succ, List.filter_append]
  by_cases hp : p k = true <;> simp [hp]
def wordOfConfigurationV (x : StrucV) (c : Int) : List Int × Int := if maskCode x c = 0 then (wordC x c, 0) else ([], maskCode x c)
theorem WordOfConfiguration_spec (a0 a1 a2 : Bool) (x : StrucV) (hx : StructureOk x) (c : Int) (hc : I64 c) : ACalls1 Tryz.prog 46 [strucSl a0 a1 a2 x, iv c] (.tup [.own 1 false (ints (wordOfConfigurationV x c).1), iv (wordOfConfigurationV x c).2]) := by
  refine walk (fun t => t == 2) mixed Go.Proofs.Tryz.func46 rfl rfl rfl (by kernel_rfl) rfl (by simp) (by kernel_rfl) ?_
  simp
  refine ⟨_, checkConfiguration_spec _ _ _ x hx c, ?_⟩
  unfold wordOfConfigurationV
  by_cases h : maskCode x c = 0
  · obtain ⟨hs, hb, hcf, _⟩ := maskCode_zero h
    simp [h]
    refine ⟨_, smallestWord_spec _ _ _ x hs c hb, ?_⟩
    simp
  · simp [h]
theorem wordC_length (x : StrucV) (c : Int) : (wordC x c).length ≤ c.toNat := by
  unfold wordC; rw [wordS_length]; exact popc_le _
theorem stepC_lab {x : StrucV} {s : Int} {st : Int × List Int} {e : Nat} (h0 : ∀ y ∈ x.labels, 0 ≤ y ∧ y ≤ 7) (he : e < x.labels.length) (h : 0 ≤ st.1 ∧ st.1 ≤ 8) : 0 ≤ (stepC x s st e).1 ∧ (stepC x s st e).1 ≤ 8 := by
  have := h0 _ (nth_mem he)
  unfold stepC
  split
  · simp only; omega
  · split
    · split <;> exact h
    · exact h
theorem foldC_lab {x : StrucV} {s : Int} (h0 : ∀ y ∈ x.labels, 0 ≤ y ∧ y ≤ 7) : ∀ (l : List Nat) {st : Int × List Int}, (∀ e ∈ l, e < x.labels.length) → (0 ≤ st.1 ∧ st.1 ≤ 8) → 0 ≤ (l.foldl (stepC x s) st).1 ∧ (l.foldl (stepC x s) st).1 ≤ 8
  | [], st, _, h => h
  | e :: l, st, hl, h => foldC_lab h0 l (fun f hf => hl f (by simp [hf])) (stepC_lab h0 (hl e (by simp)) h)
theorem scans_lab {x : StrucV} {c : Int} (h0 : ∀ y ∈ x.labels, 0 ≤ y ∧ y ≤ 7) : ∀ (l : List Int) {st : Int × List Int}, (0 ≤ st.1 ∧ st.1 ≤ 8) → 0 ≤ (l.foldl (scanC x c) st).1 ∧ (l.foldl (scanC x c) st).1 ≤ 8
  | [], st, h => h
  | s :: l, st, h => scans_lab h0 l (foldC_lab h0 _ (fun e he => (candL_mem he).1) h)
theorem wordS_lab {x : StrucV} {c : Int} (h0 : ∀ y ∈ x.labels, 0 ≤ y ∧ y ≤ 7) : ∀ k, ∀ y ∈ (wordS x c k).1, 0 ≤ y ∧ y ≤ 8
  | 0, y, hy => by simp [wordS] at hy
  | k + 1, y, hy => by
    simp only [wordS, List.mem_append, List.mem_singleton] at hy
    rcases hy with hy | rfl
    · exact wordS_lab h0 k y hy
    · exact scans_lab h0 _ (by simp)
theorem struc_lab {x : StrucV} (hs : isStructureV x = true) : ∀ y ∈ x.labels, 0 ≤ y ∧ y ≤ 7 := fun y hy => by
  have := (struc_rel hs).2.2.1
  rw [List.all_eq_true] at this
  simpa using this y hy
theorem WordOfConfiguration_fits (x : StrucV) (hx : StructureOk x) (c : Int) (hc : I64 c) : ListOk (wordOfConfigurationV x c).1 := by
  unfold wordOfConfigurationV
  split
  · rename_i h
    obtain ⟨hs, hb, hcf, _⟩ := maskCode_zero h
    obtain ⟨h1, h2, h3⟩ := struc_len hs
    have hl := wordC_length x c
    have := isM_lt h1 hb
    refine ⟨by simp only [Fits]; omega, fun y hy => ?_⟩
    have := wordS_lab (struc_lab hs) (popc c.toNat) y hy
    unfold I64; omega
  · simp [ListOk, Fits]
end Go.AM
