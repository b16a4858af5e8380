/-
  Contracts: immediate conflicts.
-/
import Derived.Test.YthabclhldlikfaaGreatDoorFnZ
import Derived.Test.YthabclhldlikfaaGreatDoorFnR
set_option linter.unusedVariables false
set_option linter.unusedSimpArgs false
set_option maxRecDepth 100000
set_option maxHeartbeats 1600000
namespace Go.AM
open Go.Proofs
/-- What an event `g` does against an immediate conflict of `e` and `f`. -/
def immBad (x : StrucV) (e f g : Nat) : Bool := (tb (nth x.below e) g && (ibits .and .i64 (nth x.clash g) (histOf x f) != 0)) || (tb (nth x.below f) g && (ibits .and .i64 (nth x.clash g) (histOf x e) != 0))
def immB (x : StrucV) (e f : Nat) : Bool := tb (nth x.clash e) f && (List.range x.labels.length).all fun g => !immBad x e f g
theorem hist_M {x : StrucV} (hs : isStructureV x = true) {e : Nat} (he : e < x.labels.length) : M (histOf x e) ∧ (∀ i, tb (histOf x e) i = (tb (nth x.below e) i || decide (e = i))) ∧ ∀ i, x.labels.length ≤ i → tb (histOf x e) i = false := by
  obtain ⟨h1, h2, h3⟩ := struc_len hs
  obtain ⟨m1, _, m3, _⟩ := struc_M hs he
  have hb : ∀ i, tb (histOf x e) i = (tb (nth x.below e) i || decide (e = i)) := fun i => by
    unfold histOf; rw [tb_or m1 (M_pow1 (by omega)), tb_pow1 (by omega)]
  refine ⟨M_or m1 (M_pow1 (by omega)), hb, fun i hi => ?_⟩
  rw [hb, m3 i hi]; simp; omega
theorem struc_irr {x : StrucV} (hs : isStructureV x = true) {e : Nat} (he : e < x.labels.length) : tb (nth x.below e) e = false ∧ tb (nth x.clash e) e = false := by
  have := (isStruc_iff.1 hs).2.2.2.1 e he
  unfold evOk at this
  simp only [Bool.and_eq_true, Bool.not_eq_true'] at this
  exact ⟨this.1.2, this.2⟩
theorem and_ne_iff {a b : Int} (ha : M a) (hb : M b) : ibits .and .i64 a b ≠ 0 ↔ ∃ i, tb a i = true ∧ tb b i = true := by
  rw [Ne, and_zero_iff ha hb]
  constructor
  · intro h
    obtain ⟨i, hi⟩ := Classical.not_forall.1 h
    refine ⟨i, ?_, ?_⟩
    · cases h1 : tb a i
      · exact absurd (fun h' => by rw [h1] at h'; cases h') hi
      · rfl
    · cases h1 : tb b i
      · exact absurd (fun _ => h1) hi
      · rfl
  · rintro ⟨i, h1, h2⟩ h
    rw [h i h1] at h2; cases h2
theorem imm_iff {x : StrucV} (hs : isStructureV x = true) {e f : Nat} (he : e < x.labels.length) (hf : f < x.labels.length) :
    immB x e f = true ↔ tb (nth x.clash e) f = true ∧ ∀ a b, tb (histOf x e) a = true → tb (nth x.clash a) b = true → tb (histOf x f) b = true → a = e ∧ b = f := by
  obtain ⟨h1, h2, h3⟩ := struc_len hs
  obtain ⟨me, be, ze⟩ := hist_M hs he
  obtain ⟨mf, bf, zf⟩ := hist_M hs hf
  unfold immB immBad
  simp only [Bool.and_eq_true, List.all_eq_true, List.mem_range, Bool.not_eq_true', Bool.or_eq_false_iff, Bool.and_eq_false_iff, bne_eq_false_iff_eq]
  constructor
  · rintro ⟨hc, h⟩
    refine ⟨hc, fun a b ha hab hb => ?_⟩
    have han : a < x.labels.length := Nat.lt_of_not_le fun hle => by rw [ze a hle] at ha; cases ha
    have hbn : b < x.labels.length := Nat.lt_of_not_le fun hle => by rw [zf b hle] at hb; cases hb
    have hae : a = e := by
      rcases (h a han).1 with h' | h'
      · rw [be, h'] at ha; simp at ha; exact ha.symm
      · exfalso
        have := (and_zero_iff (struc_M hs han).2.1 mf).1 h' b hab
        rw [hb] at this; cases this
    subst hae
    refine ⟨rfl, ?_⟩
    rcases (h b hbn).2 with h' | h'
    · rw [bf, h'] at hb; simp at hb; exact hb.symm
    · exfalso
      have := (and_zero_iff (struc_M hs hbn).2.1 me).1 h' a (by rw [struc_sym hs hbn han]; exact hab)
      rw [ha] at this; cases this
  · rintro ⟨hc, h⟩
    refine ⟨hc, fun g hg => ⟨?_, ?_⟩⟩
    · cases hb : tb (nth x.below e) g
      · exact .inl rfl
      · right
        rw [and_zero_iff (struc_M hs hg).2.1 mf]
        intro i hi
        cases hfi : tb (histOf x f) i
        · rfl
        · have := (h g i (by rw [be, hb]; rfl) hi hfi).1
          subst this
          rw [(struc_irr hs he).1] at hb; cases hb
    · cases hb : tb (nth x.below f) g
      · exact .inl rfl
      · right
        rw [and_zero_iff (struc_M hs hg).2.1 me]
        intro i hi
        cases hei : tb (histOf x e) i
        · rfl
        · have hin : i < x.labels.length := Nat.lt_of_not_le fun hle => by rw [ze i hle] at hei; cases hei
          have := (h i g hei (by rw [struc_sym hs hin hg]; exact hi) (by rw [bf, hb]; rfl)).2
          subst this
          rw [(struc_irr hs hf).1] at hb; cases hb
theorem imm_no {x : StrucV} (hs : isStructureV x = true) {e f : Nat} (he : e < x.labels.length) (hf : f < x.labels.length) (a b : Nat) (ha : tb (histOf x e) a = true) (hab : tb (nth x.clash a) b = true) (hb : tb (histOf x f) b = true) (h : ¬ (a = e ∧ b = f)) : immB x e f = false := by
  rw [← Bool.not_eq_true, imm_iff hs he hf]
  exact fun hh => h (hh.2 a b ha hab hb)
theorem immediate_spec (a0 a1 a2 : Bool) (x : StrucV) (hs : isStructureV x = true) (e f : Nat) (he : e < x.labels.length) (hf : f < x.labels.length) : ACalls1 Tryz.prog 107 [strucSl a0 a1 a2 x, iv e, iv f] (bv (immB x e f)) := by
  obtain ⟨h1, h2, h3⟩ := struc_len hs
  obtain ⟨me, be, ze⟩ := hist_M hs he
  obtain ⟨mf, bf, zf⟩ := hist_M hs hf
  refine walk (fun t => t == 3 || t == 1020) mixed Go.Proofs.Tryz.func107 rfl rfl rfl (by kernel_rfl) rfl (by simp) (by kernel_rfl) ?_
  simp
  refine ⟨_, history_spec _ _ _ x e (by omega) (by omega), ?_⟩
  simp
  refine ⟨_, members_spec _ me, ?_⟩
  have hbl := bitsOf_length (histOf x e)
  have hmem : ∀ j, j < (bitsOf (histOf x e)).length → ∃ k : Nat, nth (bitsOf (histOf x e)) j = k ∧ k < x.labels.length ∧ tb (histOf x e) k = true := fun j hj => by
    obtain ⟨k, e', _, ht⟩ := bits_nth hj
    exact ⟨k, e', Nat.lt_of_not_le fun hle => (by rw [ze k hle] at ht; cases ht), ht⟩
  have hall : ∀ p : Nat → Prop, (∀ j, j < (bitsOf (histOf x e)).length → p (nth (bitsOf (histOf x e)) j).toNat) → ∀ k, k < x.labels.length → tb (histOf x e) k = true → p k := fun p h k hk ht => (bits_all (p := p)).1 h k (by omega) ht
  generalize bitsOf (histOf x e) = bs at *
  simp
  refine awp_loop2 [1, 2, 3, 14, 15] [14] (fun j : Nat => [(16, iv j)]) (fun _ => []) (fun j => j ≤ bs.length ∧ ∀ i, i < j → ∀ b, tb (nth x.clash (nth bs i).toNat) b = true → tb (histOf x f) b = true → (nth bs i).toNat = e ∧ b = f) (fun j => bs.length - j) 0 (weak_mk some (by simp) (by simp) rfl) (by simp) ?_
  rintro j ⟨hj, hi⟩
  by_cases hlt : j < bs.length
  · obtain ⟨a, ha, han, hat⟩ := hmem j hlt
    have hac : a < x.clash.length := by omega
    have ma := (struc_M hs han).2.1
    simp [hlt, ha, hac, show j + 1 ≤ bs.length from hlt]
    refine ⟨_, history_spec _ _ _ x f (by omega) (by omega), ?_⟩
    simp
    refine ⟨_, members_spec _ (M_and ma mf), ?_⟩
    have hbl2 := bitsOf_length (ibits .and .i64 (nth x.clash a) (histOf x f))
    have hmem2 : ∀ j, j < (bitsOf (ibits .and .i64 (nth x.clash a) (histOf x f))).length → ∃ k : Nat, nth (bitsOf (ibits .and .i64 (nth x.clash a) (histOf x f))) j = k ∧ tb (nth x.clash a) k = true ∧ tb (histOf x f) k = true := fun j hj => by
      obtain ⟨k, e', _, ht⟩ := bits_nth hj
      rw [tb_and ma mf, Bool.and_eq_true] at ht
      exact ⟨k, e', ht⟩
    have hall2 : ∀ p : Nat → Prop, (∀ j, j < (bitsOf (ibits .and .i64 (nth x.clash a) (histOf x f))).length → p (nth (bitsOf (ibits .and .i64 (nth x.clash a) (histOf x f))) j).toNat) → ∀ k, tb (nth x.clash a) k = true → tb (histOf x f) k = true → p k := fun p h k hk1 hk2 =>
      (bits_all (p := p)).1 h k (Nat.lt_of_not_le fun hle => by rw [tb_high mf hle] at hk2; cases hk2) (by rw [tb_and ma mf, hk1, hk2]; rfl)
    generalize bitsOf (ibits .and .i64 (nth x.clash a) (histOf x f)) = cs at *
    simp
    first | refine ⟨⟨by kernel_rfl, by kernel_rfl⟩, ?_⟩ | exact ⟨by kernel_rfl, by kernel_rfl⟩
    refine awp_loop2 [1, 2, 3, 8, 14, 15, 16, 29, 30] [14, 29] (fun q : Nat => [(31, iv q)]) (fun _ => []) (fun q => q ≤ cs.length ∧ ∀ i, i < q → a = e ∧ (nth cs i).toNat = f) (fun q => cs.length - q) 0 (weak_mk some (by simp) (by simp) rfl) (by simp) ?_
    rintro q ⟨hq, hqi⟩
    by_cases hql : q < cs.length
    · obtain ⟨b, hb, hb1, hb2⟩ := hmem2 q hql
      by_cases hA : a = e
      · by_cases hB : b = f
        · subst hA; subst hB
          simp [hql, hb, show q + 1 ≤ cs.length from hql, wrap_id ((q : Int) + 1) (by omega) (by omega)]
          refine Round.mk (q + 1) (weak_mk some (by simp) (by simp) rfl) ⟨hql, fun i hi' => ?_⟩ (by omega)
          by_cases e1 : i = q
          · subst e1; rw [hb]; simp
          · exact (hqi i (by omega)).2
        · simp [hql, hb, show q + 1 ≤ cs.length from hql, hA, hB]
          exact imm_no hs he hf a b hat hb1 hb2 (fun h => hB h.2)
      · simp [hql, hb, show q + 1 ≤ cs.length from hql, hA]
        exact imm_no hs he hf a b hat hb1 hb2 (fun h => hA h.1)
    · obtain rfl : q = cs.length := by omega
      simp [wrap_id ((j : Int) + 1) (by omega) (by omega)]
      refine Round.mk (j + 1) (weak_mk some (by simp) (by simp) rfl) ⟨hlt, fun i hi' b hb1 hb2 => ?_⟩ (by omega)
      by_cases e1 : i = j
      · subst e1
        rw [ha, Int.toNat_natCast] at hb1 ⊢
        have := hall2 (fun k => a = e ∧ k = f) (fun i h => hqi i h) b hb1 hb2
        exact this
      · exact hi i (by omega) b hb1 hb2
  · obtain rfl : j = bs.length := by omega
    have hec : e < x.clash.length := by omega
    simp [hec]
    refine ⟨_, has_spec _ (struc_M hs he).2.1 f (by omega), ?_⟩
    have hfin := hall (fun a => ∀ b, tb (nth x.clash a) b = true → tb (histOf x f) b = true → a = e ∧ b = f) hi
    have : immB x e f = tb (nth x.clash e) f := by
      rw [Bool.eq_iff_iff, imm_iff hs he hf]
      exact ⟨fun h => h.1, fun h => ⟨h, fun a b h1 h2 h3 => hfin a (Nat.lt_of_not_le fun hle => by rw [ze a hle] at h1; cases h1) h1 b h2 h3⟩⟩
    simp [this]
/-- The immediate conflicts of one event with later ones below `m`. -/
def rowsE (x : StrucV) (e m : Nat) : List (List Int) := ((List.range m).filter fun f => decide (e < f) && immB x e f).map fun (f : Nat) => [(e : Int), (f : Int)]
def rowsU (x : StrucV) (m : Nat) : List (List Int) := (List.range m).flatMap fun e => rowsE x e x.labels.length
def immediateClashesV (x : StrucV) : List (List Int) × Int := if isStructureV x then (rowsU x x.labels.length, 0) else ([], 1)
theorem rowsE_start (x : StrucV) (e : Nat) : rowsE x e (e + 1) = [] := by
  unfold rowsE
  rw [List.map_eq_nil_iff, List.filter_eq_nil_iff]
  intro f hf
  rw [List.mem_range] at hf
  simp; omega
theorem rowsE_succ (x : StrucV) (e f : Nat) (h : e < f) : rowsE x e (f + 1) = if immB x e f then rowsE x e f ++ [[(e : Int), (f : Int)]] else rowsE x e f := by
  unfold rowsE
  rw [range_filter_succ]
  cases hb : immB x e f <;> simp [h]
theorem rowsU_succ (x : StrucV) (e : Nat) : rowsU x (e + 1) = rowsU x e ++ rowsE x e x.labels.length := by
  unfold rowsU; rw [List.range_succ, List.flatMap_append]; simp
theorem rowsE_length (x : StrucV) (e m : Nat) : (rowsE x e m).length ≤ m := by
  unfold rowsE
  rw [List.length_map]
  exact Nat.le_trans (List.length_filter_le _ _) (by simp)
theorem rowsU_length (x : StrucV) (h : x.labels.length ≤ 16) : ∀ m, (rowsU x m).length ≤ 16 * m
  | 0 => by simp [rowsU]
  | m + 1 => by
    have := rowsU_length x h m
    have := rowsE_length x m x.labels.length
    rw [rowsU_succ, List.length_append]; omega
theorem ImmediateClashes_spec (a0 a1 a2 : Bool) (x : StrucV) (hx : StructureOk x) : ACalls1 Tryz.prog 37 [strucSl a0 a1 a2 x] (.tup [.own 1 false (orows true (immediateClashesV x).1), iv (immediateClashesV x).2]) := by
  refine walk (fun t => t == 1) mixed Go.Proofs.Tryz.func37 rfl rfl rfl (by kernel_rfl) rfl (by simp) (by kernel_rfl) ?_
  simp
  refine ⟨_, IsStructure_spec _ _ _ x hx, ?_⟩
  unfold immediateClashesV
  cases hs : isStructureV x
  · simp
  · obtain ⟨h1, h2, h3⟩ := struc_len hs
    simp
    refine ⟨_, length_spec _ _ hx.1.1, ?_⟩
    simp
    refine awp_loop2 [1, 13] [] (fun e : Nat => [(14, iv e), (4, .ref 100)]) (fun e => [(100, .own 1 true (orows true (rowsU x e)))]) (fun e => e ≤ x.labels.length) (fun e => x.labels.length - e) 0 (weak_mk (fun t => if t = 100 then some 10 else some t) (by simp [h2]) (by simp [rowsU]) rfl) (by simp) ?_
    intro e he
    by_cases hen : e < x.labels.length
    · have hU := rowsU_length x h1 e
      have hUs := rowsU_succ x e
      generalize rowsU x e = U at *
      simp [h2, hen, wrap_id ((e : Int) + 1) (by omega) (by omega)]
      refine awp_loop2 [1, 5, 13, 14] [] (fun f : Nat => [(6, iv f), (4, .ref 100)]) (fun f => [(100, .own 1 true (orows true (U ++ rowsE x e f)))]) (fun f => e < f ∧ f ≤ x.labels.length) (fun f => x.labels.length - f) (e + 1) (weak_mk some (by simp) (by simp [rowsE_start]) rfl) (by omega) ?_
      rintro f ⟨hef, hf⟩
      simp
      refine ⟨_, length_spec _ _ hx.1.1, ?_⟩
      by_cases hfn : f < x.labels.length
      · have hE := rowsE_length x e f
        have hEs := rowsE_succ x e f hef
        have hUE : (U ++ rowsE x e f).length ≤ 16 * e + f := by rw [List.length_append]; omega
        have hUEs : U ++ rowsE x e (f + 1) = if immB x e f then (U ++ rowsE x e f) ++ [[(e : Int), (f : Int)]] else U ++ rowsE x e f := by
          rw [hEs]; split
          · rw [List.append_assoc]
          · rfl
        generalize U ++ rowsE x e f = UE at *
        simp [h2, hfn]
        refine ⟨_, immediate_spec _ _ _ x hs e f hen hfn, ?_⟩
        cases hb : immB x e f
        · simp [wrap_id ((f : Int) + 1) (by omega) (by omega)]
          exact Round.mk (f + 1) (weak_mk some (by simp) (by simp [hUEs, hb]) rfl) (by omega) (by omega)
        · simp [wrap_id ((f : Int) + 1) (by omega) (by omega)]
          repeat (refine And.intro (by omega) ?_)
          refine Round.mk (f + 1) (weak_mk (fun t => if t = 100 then some 35 else some t) (by simp) ?_ rfl) (by omega) (by omega)
          simp [hUEs, hb, orows, ints]
      · obtain rfl : f = x.labels.length := by omega
        simp [h2, wrap_id ((e : Int) + 1) (by omega) (by omega)]
        exact Round.mk (e + 1) (weak_mk some (by simp) (by simp [hUs]) rfl) hen (by omega)
    · obtain rfl : e = x.labels.length := by omega
      simp [h2]
theorem total_leQ {n : Nat} : ∀ {rs : List (List Int)}, (∀ r ∈ rs, r.length ≤ n) → total rs ≤ rs.length * n
  | [], _ => by simp [total]
  | r :: rs, h => by
    have h1 := h r (by simp)
    have h2 := total_leQ (rs := rs) fun q hq => h q (by simp [hq])
    simp only [total, List.length_cons, Nat.succ_mul]
    omega
theorem ImmediateClashes_fits (x : StrucV) (hx : StructureOk x) : RowsOk (immediateClashesV x).1 := by
  unfold immediateClashesV
  split
  · rename_i hs
    obtain ⟨h1, h2, h3⟩ := struc_len hs
    have hl := rowsU_length x h1 x.labels.length
    have hm : ∀ r ∈ rowsU x x.labels.length, ∃ e f : Nat, e < 16 ∧ f < 16 ∧ r = [(e : Int), (f : Int)] := fun r hr => by
      unfold rowsU rowsE at hr
      obtain ⟨e, he, hr⟩ := List.mem_flatMap.1 hr
      obtain ⟨f, hf, rfl⟩ := List.mem_map.1 hr
      rw [List.mem_range] at he
      rw [List.mem_filter, List.mem_range] at hf
      exact ⟨e, f, by omega, by omega, rfl⟩
    refine ⟨by simp only; omega, ?_, fun r hr => ?_⟩
    · have := total_leQ (n := 2) (rs := rowsU x x.labels.length) fun r hr => by obtain ⟨e, f, _, _, rfl⟩ := hm r hr; simp
      simp only; omega
    · obtain ⟨e, f, he, hf, rfl⟩ := hm r hr
      refine ⟨by simp [Fits], fun y hy => ?_⟩
      simp at hy
      unfold I64
      rcases hy with rfl | rfl <;> omega
  · simp [RowsOk, total]
end Go.AM
