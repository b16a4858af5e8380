/-
  Several texts in one: FnQ FnO FnTr FnTt FnTu FnTv FnTw AmWb FnTx.
-/
import Derived.Test.YthabclhldlikfaaGreatDoorFnZ
import Derived.Test.YthabclhldlikfaaGreatDoorFnR
import Derived.Test.YthabclhldlikfaaGreatDoorFnMgR
import Derived.Test.YthabclhldlikfaaGreatDoorFnMgQ
import Derived.Test.YthabclhldlikfaaGreatDoorFnMgJ
import Derived.Test.YthabclhldlikfaaGreatDoorFnMgL
import Derived.Test.YthabclhldlikfaaGreatDoorFnBig
import Derived.Test.YthabclhldlikfaaGreatDoorFnMgI
import Derived.Test.YthabclhldlikfaaGreatDoorAmTac
set_option linter.unusedVariables false
set_option linter.unusedSimpArgs false
set_option linter.unusedSectionVars false
set_option maxRecDepth 100000
set_option maxHeartbeats 1600000
namespace Go.AM
open Go.Proofs
/-- What an event `g` does against an immediate conflict of `e` and `f`. -/
def immBad (x : StrucV) (e f g : Nat) : Bool := (tb (nth x.below e) g && (ibits .and .i64 (nth x.clash g) (histOf x f) != 0)) || (tb (nth x.below f) g && (ibits .and .i64 (nth x.clash g) (histOf x e) != 0))
def immB (x : StrucV) (e f : Nat) : Bool := tb (nth x.clash e) f && (List.range x.labels.length).all fun g => !immBad x e f g
theorem hist_M {x : StrucV} (hs : isStructureV x = true) {e : Nat} (he : e < x.labels.length) : M (histOf x e) ∧ (∀ i, tb (histOf x e) i = (tb (nth x.below e) i || decide (e = i))) ∧ ∀ i, x.labels.length ≤ i → tb (histOf x e) i = false := by
  obtain ⟨h1, h2, h3⟩ := struc_len hs
  obtain ⟨m1, _, m3, _⟩ := struc_M hs he
  have hb : ∀ i, tb (histOf x e) i = (tb (nth x.below e) i || decide (e = i)) := fun i => by
    unfold histOf; rw [tb_or m1 (M_pow1 (by omega)), tb_pow1 (by omega)]
  refine ⟨M_or m1 (M_pow1 (by omega)), hb, fun i hi => ?_⟩
  rw [hb, m3 i hi]; simp; omega
theorem struc_irr {x : StrucV} (hs : isStructureV x = true) {e : Nat} (he : e < x.labels.length) : tb (nth x.below e) e = false ∧ tb (nth x.clash e) e = false := by
  have := (isStruc_iff.1 hs).2.2.2.1 e he
  unfold evOk at this
  simp only [Bool.and_eq_true, Bool.not_eq_true'] at this
  exact ⟨this.1.2, this.2⟩
theorem and_ne_iff {a b : Int} (ha : M a) (hb : M b) : ibits .and .i64 a b ≠ 0 ↔ ∃ i, tb a i = true ∧ tb b i = true := by
  rw [Ne, and_zero_iff ha hb]
  constructor
  · intro h
    obtain ⟨i, hi⟩ := Classical.not_forall.1 h
    refine ⟨i, ?_, ?_⟩
    · cases h1 : tb a i
      · exact absurd (fun h' => by rw [h1] at h'; cases h') hi
      · rfl
    · cases h1 : tb b i
      · exact absurd (fun _ => h1) hi
      · rfl
  · rintro ⟨i, h1, h2⟩ h
    rw [h i h1] at h2; cases h2
theorem imm_iff {x : StrucV} (hs : isStructureV x = true) {e f : Nat} (he : e < x.labels.length) (hf : f < x.labels.length) :
    immB x e f = true ↔ tb (nth x.clash e) f = true ∧ ∀ a b, tb (histOf x e) a = true → tb (nth x.clash a) b = true → tb (histOf x f) b = true → a = e ∧ b = f := by
  obtain ⟨h1, h2, h3⟩ := struc_len hs
  obtain ⟨me, be, ze⟩ := hist_M hs he
  obtain ⟨mf, bf, zf⟩ := hist_M hs hf
  unfold immB immBad
  simp only [Bool.and_eq_true, List.all_eq_true, List.mem_range, Bool.not_eq_true', Bool.or_eq_false_iff, Bool.and_eq_false_iff, bne_eq_false_iff_eq]
  constructor
  · rintro ⟨hc, h⟩
    refine ⟨hc, fun a b ha hab hb => ?_⟩
    have han : a < x.labels.length := Nat.lt_of_not_le fun hle => by rw [ze a hle] at ha; cases ha
    have hbn : b < x.labels.length := Nat.lt_of_not_le fun hle => by rw [zf b hle] at hb; cases hb
    have hae : a = e := by
      rcases (h a han).1 with h' | h'
      · rw [be, h'] at ha; simp at ha; exact ha.symm
      · exfalso
        have := (and_zero_iff (struc_M hs han).2.1 mf).1 h' b hab
        rw [hb] at this; cases this
    subst hae
    refine ⟨rfl, ?_⟩
    rcases (h b hbn).2 with h' | h'
    · rw [bf, h'] at hb; simp at hb; exact hb.symm
    · exfalso
      have := (and_zero_iff (struc_M hs hbn).2.1 me).1 h' a (by rw [struc_sym hs hbn han]; exact hab)
      rw [ha] at this; cases this
  · rintro ⟨hc, h⟩
    refine ⟨hc, fun g hg => ⟨?_, ?_⟩⟩
    · cases hb : tb (nth x.below e) g
      · exact .inl rfl
      · right
        rw [and_zero_iff (struc_M hs hg).2.1 mf]
        intro i hi
        cases hfi : tb (histOf x f) i
        · rfl
        · have := (h g i (by rw [be, hb]; rfl) hi hfi).1
          subst this
          rw [(struc_irr hs he).1] at hb; cases hb
    · cases hb : tb (nth x.below f) g
      · exact .inl rfl
      · right
        rw [and_zero_iff (struc_M hs hg).2.1 me]
        intro i hi
        cases hei : tb (histOf x e) i
        · rfl
        · have hin : i < x.labels.length := Nat.lt_of_not_le fun hle => by rw [ze i hle] at hei; cases hei
          have := (h i g hei (by rw [struc_sym hs hin hg]; exact hi) (by rw [bf, hb]; rfl)).2
          subst this
          rw [(struc_irr hs hf).1] at hb; cases hb
theorem imm_no {x : StrucV} (hs : isStructureV x = true) {e f : Nat} (he : e < x.labels.length) (hf : f < x.labels.length) (a b : Nat) (ha : tb (histOf x e) a = true) (hab : tb (nth x.clash a) b = true) (hb : tb (histOf x f) b = true) (h : ¬ (a = e ∧ b = f)) : immB x e f = false := by
  rw [← Bool.not_eq_true, imm_iff hs he hf]
  exact fun hh => h (hh.2 a b ha hab hb)
theorem immediate_spec (a0 a1 a2 : Bool) (x : StrucV) (hs : isStructureV x = true) (e f : Nat) (he : e < x.labels.length) (hf : f < x.labels.length) : ACalls1 Tryz.prog 107 [strucSl a0 a1 a2 x, iv e, iv f] (bv (immB x e f)) := by
  obtain ⟨h1, h2, h3⟩ := struc_len hs
  obtain ⟨me, be, ze⟩ := hist_M hs he
  obtain ⟨mf, bf, zf⟩ := hist_M hs hf
  refine walk (fun t => t == 3 || t == 1020) mixed Go.Proofs.Tryz.func107 rfl rfl rfl (by kernel_rfl) rfl (by simp) (by kernel_rfl) ?_
  simp
  refine ⟨_, history_spec _ _ _ x e (by omega) (by omega), ?_⟩
  simp
  refine ⟨_, members_spec _ me, ?_⟩
  have hbl := bitsOf_length (histOf x e)
  have hmem : ∀ j, j < (bitsOf (histOf x e)).length → ∃ k : Nat, nth (bitsOf (histOf x e)) j = k ∧ k < x.labels.length ∧ tb (histOf x e) k = true := fun j hj => by
    obtain ⟨k, e', _, ht⟩ := bits_nth hj
    exact ⟨k, e', Nat.lt_of_not_le fun hle => (by rw [ze k hle] at ht; cases ht), ht⟩
  have hall : ∀ p : Nat → Prop, (∀ j, j < (bitsOf (histOf x e)).length → p (nth (bitsOf (histOf x e)) j).toNat) → ∀ k, k < x.labels.length → tb (histOf x e) k = true → p k := fun p h k hk ht => (bits_all (p := p)).1 h k (by omega) ht
  generalize bitsOf (histOf x e) = bs at *
  simp
  refine awp_loop2 [1, 2, 3, 14, 15] [14] (fun j : Nat => [(16, iv j)]) (fun _ => []) (fun j => j ≤ bs.length ∧ ∀ i, i < j → ∀ b, tb (nth x.clash (nth bs i).toNat) b = true → tb (histOf x f) b = true → (nth bs i).toNat = e ∧ b = f) (fun j => bs.length - j) 0 (weak_mk some (by simp) (by simp) rfl) (by simp) ?_
  rintro j ⟨hj, hi⟩
  by_cases hlt : j < bs.length
  · obtain ⟨a, ha, han, hat⟩ := hmem j hlt
    have hac : a < x.clash.length := by omega
    have ma := (struc_M hs han).2.1
    simp [hlt, ha, hac, show j + 1 ≤ bs.length from hlt]
    refine ⟨_, history_spec _ _ _ x f (by omega) (by omega), ?_⟩
    simp
    refine ⟨_, members_spec _ (M_and ma mf), ?_⟩
    have hbl2 := bitsOf_length (ibits .and .i64 (nth x.clash a) (histOf x f))
    have hmem2 : ∀ j, j < (bitsOf (ibits .and .i64 (nth x.clash a) (histOf x f))).length → ∃ k : Nat, nth (bitsOf (ibits .and .i64 (nth x.clash a) (histOf x f))) j = k ∧ tb (nth x.clash a) k = true ∧ tb (histOf x f) k = true := fun j hj => by
      obtain ⟨k, e', _, ht⟩ := bits_nth hj
      rw [tb_and ma mf, Bool.and_eq_true] at ht
      exact ⟨k, e', ht⟩
    have hall2 : ∀ p : Nat → Prop, (∀ j, j < (bitsOf (ibits .and .i64 (nth x.clash a) (histOf x f))).length → p (nth (bitsOf (ibits .and .i64 (nth x.clash a) (histOf x f))) j).toNat) → ∀ k, tb (nth x.clash a) k = true → tb (histOf x f) k = true → p k := fun p h k hk1 hk2 =>
      (bits_all (p := p)).1 h k (Nat.lt_of_not_le fun hle => by rw [tb_high mf hle] at hk2; cases hk2) (by rw [tb_and ma mf, hk1, hk2]; rfl)
    generalize bitsOf (ibits .and .i64 (nth x.clash a) (histOf x f)) = cs at *
    simp
    first | refine ⟨⟨by kernel_rfl, by kernel_rfl⟩, ?_⟩ | exact ⟨by kernel_rfl, by kernel_rfl⟩
    refine awp_loop2 [1, 2, 3, 8, 14, 15, 16, 29, 30] [14, 29] (fun q : Nat => [(31, iv q)]) (fun _ => []) (fun q => q ≤ cs.length ∧ ∀ i, i < q → a = e ∧ (nth cs i).toNat = f) (fun q => cs.length - q) 0 (weak_mk some (by simp) (by simp) rfl) (by simp) ?_
    rintro q ⟨hq, hqi⟩
    by_cases hql : q < cs.length
    · obtain ⟨b, hb, hb1, hb2⟩ := hmem2 q hql
      by_cases hA : a = e
      · by_cases hB : b = f
        · subst hA; subst hB
          simp [hql, hb, show q + 1 ≤ cs.length from hql, wrap_id ((q : Int) + 1) (by omega) (by omega)]
          refine Round.mk (q + 1) (weak_mk some (by simp) (by simp) rfl) ⟨hql, fun i hi' => ?_⟩ (by omega)
          by_cases e1 : i = q
          · subst e1; rw [hb]; simp
          · exact (hqi i (by omega)).2
        · simp [hql, hb, show q + 1 ≤ cs.length from hql, hA, hB]
          exact imm_no hs he hf a b hat hb1 hb2 (fun h => hB h.2)
      · simp [hql, hb, show q + 1 ≤ cs.length from hql, hA]
        exact imm_no hs he hf a b hat hb1 hb2 (fun h => hA h.1)
    · obtain rfl : q = cs.length := by omega
      simp [wrap_id ((j : Int) + 1) (by omega) (by omega)]
      refine Round.mk (j + 1) (weak_mk some (by simp) (by simp) rfl) ⟨hlt, fun i hi' b hb1 hb2 => ?_⟩ (by omega)
      by_cases e1 : i = j
      · subst e1
        rw [ha, Int.toNat_natCast] at hb1 ⊢
        have := hall2 (fun k => a = e ∧ k = f) (fun i h => hqi i h) b hb1 hb2
        exact this
      · exact hi i (by omega) b hb1 hb2
  · obtain rfl : j = bs.length := by omega
    have hec : e < x.clash.length := by omega
    simp [hec]
    refine ⟨_, has_spec _ (struc_M hs he).2.1 f (by omega), ?_⟩
    have hfin := hall (fun a => ∀ b, tb (nth x.clash a) b = true → tb (histOf x f) b = true → a = e ∧ b = f) hi
    have : immB x e f = tb (nth x.clash e) f := by
      rw [Bool.eq_iff_iff, imm_iff hs he hf]
      exact ⟨fun h => h.1, fun h => ⟨h, fun a b h1 h2 h3 => hfin a (Nat.lt_of_not_le fun hle => by rw [ze a hle] at h1; cases h1) h1 b h2 h3⟩⟩
    simp [this]
/-- The immediate conflicts of one event with later ones below `m`. -/
def rowsE (x : StrucV) (e m : Nat) : List (List Int) := ((List.range m).filter fun f => decide (e < f) && immB x e f).map fun (f : Nat) => [(e : Int), (f : Int)]
def rowsU (x : StrucV) (m : Nat) : List (List Int) := (List.range m).flatMap fun e => rowsE x e x.labels.length
def immediateClashesV (x : StrucV) : List (List Int) × Int := if isStructureV x then (rowsU x x.labels.length, 0) else ([], 1)
theorem rowsE_start (x : StrucV) (e : Nat) : rowsE x e (e + 1) = [] := by
  unfold rowsE
  rw [List.map_eq_nil_iff, List.filter_eq_nil_iff]
  intro f hf
  rw [List.mem_range] at hf
  simp; omega
theorem rowsE_succ (x : StrucV) (e f : Nat) (h : e < f) : rowsE x e (f + 1) = if immB x e f then rowsE x e f ++ [[(e : Int), (f : Int)]] else rowsE x e f := by
  unfold rowsE
  rw [range_filter_succ]
  cases hb : immB x e f <;> simp [h]
theorem rowsU_succ (x : StrucV) (e : Nat) : rowsU x (e + 1) = rowsU x e ++ rowsE x e x.labels.length := by
  unfold rowsU; rw [List.range_succ, List.flatMap_append]; simp
theorem rowsE_length (x : StrucV) (e m : Nat) : (rowsE x e m).length ≤ m := by
  unfold rowsE
  rw [List.length_map]
  exact Nat.le_trans (List.length_filter_le _ _) (by simp)
theorem rowsU_length (x : StrucV) (h : x.labels.length ≤ 16) : ∀ m, (rowsU x m).length ≤ 16 * m
  | 0 => by simp [rowsU]
  | m + 1 => by
    have := rowsU_length x h m
    have := rowsE_length x m x.labels.length
    rw [rowsU_succ, List.length_append]; omega
theorem ImmediateClashes_spec (a0 a1 a2 : Bool) (x : StrucV) (hx : StructureOk x) : ACalls1 Tryz.prog 37 [strucSl a0 a1 a2 x] (.tup [.own 1 false (orows true (immediateClashesV x).1), iv (immediateClashesV x).2]) := by
  refine walk (fun t => t == 1) mixed Go.Proofs.Tryz.func37 rfl rfl rfl (by kernel_rfl) rfl (by simp) (by kernel_rfl) ?_
  simp
  refine ⟨_, IsStructure_spec _ _ _ x hx, ?_⟩
  unfold immediateClashesV
  cases hs : isStructureV x
  · simp
  · obtain ⟨h1, h2, h3⟩ := struc_len hs
    simp
    refine ⟨_, length_spec _ _ hx.1.1, ?_⟩
    simp
    refine awp_loop2 [1, 13] [] (fun e : Nat => [(14, iv e), (4, .ref 100)]) (fun e => [(100, .own 1 true (orows true (rowsU x e)))]) (fun e => e ≤ x.labels.length) (fun e => x.labels.length - e) 0 (weak_mk (fun t => if t = 100 then some 10 else some t) (by simp [h2]) (by simp [rowsU]) rfl) (by simp) ?_
    intro e he
    by_cases hen : e < x.labels.length
    · have hU := rowsU_length x h1 e
      have hUs := rowsU_succ x e
      generalize rowsU x e = U at *
      simp [h2, hen, wrap_id ((e : Int) + 1) (by omega) (by omega)]
      refine awp_loop2 [1, 5, 13, 14] [] (fun f : Nat => [(6, iv f), (4, .ref 100)]) (fun f => [(100, .own 1 true (orows true (U ++ rowsE x e f)))]) (fun f => e < f ∧ f ≤ x.labels.length) (fun f => x.labels.length - f) (e + 1) (weak_mk some (by simp) (by simp [rowsE_start]) rfl) (by omega) ?_
      rintro f ⟨hef, hf⟩
      simp
      refine ⟨_, length_spec _ _ hx.1.1, ?_⟩
      by_cases hfn : f < x.labels.length
      · have hE := rowsE_length x e f
        have hEs := rowsE_succ x e f hef
        have hUE : (U ++ rowsE x e f).length ≤ 16 * e + f := by rw [List.length_append]; omega
        have hUEs : U ++ rowsE x e (f + 1) = if immB x e f then (U ++ rowsE x e f) ++ [[(e : Int), (f : Int)]] else U ++ rowsE x e f := by
          rw [hEs]; split
          · rw [List.append_assoc]
          · rfl
        generalize U ++ rowsE x e f = UE at *
        simp [h2, hfn]
        refine ⟨_, immediate_spec _ _ _ x hs e f hen hfn, ?_⟩
        cases hb : immB x e f
        · simp [wrap_id ((f : Int) + 1) (by omega) (by omega)]
          exact Round.mk (f + 1) (weak_mk some (by simp) (by simp [hUEs, hb]) rfl) (by omega) (by omega)
        · simp [wrap_id ((f : Int) + 1) (by omega) (by omega)]
          repeat (refine And.intro (by omega) ?_)
          refine Round.mk (f + 1) (weak_mk (fun t => if t = 100 then some 35 else some t) (by simp) ?_ rfl) (by omega) (by omega)
          simp [hUEs, hb, orows, ints]
      · obtain rfl : f = x.labels.length := by omega
        simp [h2, wrap_id ((e : Int) + 1) (by omega) (by omega)]
        exact Round.mk (e + 1) (weak_mk some (by simp) (by simp [hUs]) rfl) hen (by omega)
    · obtain rfl : e = x.labels.length := by omega
      simp [h2]
theorem total_leQ {n : Nat} : ∀ {rs : List (List Int)}, (∀ r ∈ rs, r.length ≤ n) → total rs ≤ rs.length * n
  | [], _ => by simp [total]
  | r :: rs, h => by
    have h1 := h r (by simp)
    have h2 := total_leQ (rs := rs) fun q hq => h q (by simp [hq])
    simp only [total, List.length_cons, Nat.succ_mul]
    omega
theorem ImmediateClashes_fits (x : StrucV) (hx : StructureOk x) : RowsOk (immediateClashesV x).1 := by
  unfold immediateClashesV
  split
  · rename_i hs
    obtain ⟨h1, h2, h3⟩ := struc_len hs
    have hl := rowsU_length x h1 x.labels.length
    have hm : ∀ r ∈ rowsU x x.labels.length, ∃ e f : Nat, e < 16 ∧ f < 16 ∧ r = [(e : Int), (f : Int)] := fun r hr => by
      unfold rowsU rowsE at hr
      obtain ⟨e, he, hr⟩ := List.mem_flatMap.1 hr
      obtain ⟨f, hf, rfl⟩ := List.mem_map.1 hr
      rw [List.mem_range] at he
      rw [List.mem_filter, List.mem_range] at hf
      exact ⟨e, f, by omega, by omega, rfl⟩
    refine ⟨by simp only; omega, ?_, fun r hr => ?_⟩
    · have := total_leQ (n := 2) (rs := rowsU x x.labels.length) fun r hr => by obtain ⟨e, f, _, _, rfl⟩ := hm r hr; simp
      simp only; omega
    · obtain ⟨e, f, he, hf, rfl⟩ := hm r hr
      refine ⟨by simp [Fits], fun y hy => ?_⟩
      simp at hy
      unfold I64
      rcases hy with rfl | rfl <;> omega
  · simp [RowsOk, total]
def cvG (s : StrucV) (e f g : Nat) : Bool := tb (nth s.below f) g && tb (nth s.below g) e
def covB (s : StrucV) (e f : Nat) : Bool := tb (nth s.below f) e && (List.range s.labels.length).all fun g => !(tb (nth s.below f) g && tb (nth s.below g) e)
theorem l02DepA_spec (a0 : Bool) (x : AlphaV) (hx : AlOk x) (a b : Nat) (ha : a < x.depends.length) (hb : b < x.depends.length) : ACalls1 Tryz.prog 181 [alphaSl a0 x, iv a, iv b] (bv (depB x a b)) := by
  have h8 := hx.len
  refine walk (fun t => t == 3) mixed Go.Proofs.Tryz.func181 rfl rfl rfl (by kernel_rfl) rfl (by simp) (by kernel_rfl) ?_
  simp [ha]
  refine ⟨_, l01Bit_spec _ (alOk_M hx ha).1 b (by omega), ?_⟩
  simp [depB]
theorem depend_spec (a0 : Bool) (x : AlphaV) (hx : AlOk x) (a b : Nat) (ha : a < x.depends.length) (hb : b < x.depends.length) : ACalls1 Tryz.prog 111 [alphaSl a0 x, iv a, iv b] (bv (depB x a b)) := by
  have h8 := hx.len
  refine walk (fun t => t == 3) mixed Go.Proofs.Tryz.func111 rfl rfl rfl (by kernel_rfl) rfl (by simp) (by kernel_rfl) ?_
  simp [ha]
  refine ⟨_, has_spec _ (alOk_M hx ha).1 b (by omega), ?_⟩
  simp [depB]
theorem covered1_spec (a0 a1 a2 : Bool) (s : StrucV) (hs : isStructureV s = true) (e : Nat) (he : e < s.labels.length) (k : Nat) (hk : k < s.labels.length) : ACalls1 Tryz.prog 174 [iv k, .ip [.sl 1 a0 (ints s.below), .sl 1 a1 (ints s.clash), .sl 1 a2 (ints s.labels)], .ip [iv e]] (bv (tb (nth s.below k) e)) := by
  obtain ⟨h1, h2, h3⟩ := struc_len hs
  refine walk (fun _ => false) mixed Go.Proofs.Tryz.func174 rfl rfl rfl (by kernel_rfl) rfl (by simp) (by kernel_rfl) ?_
  simp [h2, hk]
  repeat (rw [exE_eq]; simp [h2, hk])
  refine ⟨_, has_spec _ (struc_M hs hk).1 e (by omega), ?_⟩
  simp
theorem covered_spec (a0 a1 a2 : Bool) (s : StrucV) (hs : isStructureV s = true) (e f : Nat) (he : e < s.labels.length) (hf : f < s.labels.length) : ACalls1 Tryz.prog 113 [strucSl a0 a1 a2 s, iv e, iv f] (bv (covB s e f)) := by
  obtain ⟨h1, h2, h3⟩ := struc_len hs
  obtain ⟨hMf, _, hbf, _⟩ := struc_M hs hf
  have hany : (!(bitsOf (nth s.below f)).any fun k => tb (nth s.below k.toNat) e) = (List.range s.labels.length).all fun g => !(tb (nth s.below f) g && tb (nth s.below g) e) := by
    rw [bits_eq (n := s.labels.length) (by omega) hbf, Bool.eq_iff_iff, Bool.not_eq_true', ← Bool.not_eq_true, List.any_eq_true, List.all_eq_true]
    constructor
    · intro h g hg
      rw [Bool.not_eq_true', ← Bool.not_eq_true, Bool.and_eq_true]
      rintro ⟨k1, k2⟩
      exact h ⟨(g : Int), List.mem_map.2 ⟨g, List.mem_filter.2 ⟨hg, k1⟩, rfl⟩, by simpa using k2⟩
    · rintro h ⟨x, hx, k2⟩
      obtain ⟨g, hg, rfl⟩ := List.mem_map.1 hx
      obtain ⟨hg1, hg2⟩ := List.mem_filter.1 hg
      have := h g hg1
      rw [Int.toNat_natCast] at k2
      rw [hg2, k2] at this; cases this
  have hbl := bitsOf_length (nth s.below f)
  refine walk (fun t => t == 3 || t == 4) mixed Go.Proofs.Tryz.func113 rfl rfl rfl (by kernel_rfl) rfl (by simp) (by kernel_rfl) ?_
  simp [h2, hf]
  repeat (rw [exE_eq]; simp [h2, hf])
  refine ⟨_, has_spec _ hMf e (by omega), ?_⟩
  cases hb : tb (nth s.below f) e
  · simp [covB, hb]
  · simp [h2, hf]
    refine ⟨_, members_spec _ hMf, ?_⟩
    simp
    refine ⟨_, ContainsFunc_spec _ _ (by unfold Fits; omega) _ _ (fun k => tb (nth s.below k.toNat) e) (fun k hk => ?_) rfl, ?_⟩
    · obtain ⟨g, rfl, hg, ht⟩ := bitsOf_mem hk
      rw [Int.toNat_natCast]
      refine covered1_spec a0 a1 a2 s hs e he g ?_
      by_cases hx : g < s.labels.length
      · exact hx
      · rw [hbf g (by omega)] at ht; cases ht
    · have : covB s e f = !(bitsOf (nth s.below f)).any fun k => tb (nth s.below k.toNat) e := by
        unfold covB; rw [hany, hb, Bool.true_and]
      simp [this]
def dLab (x : AlphaV) (s : StrucV) (e f : Nat) : Bool := depB x (nth s.labels e).toNat (nth s.labels f).toNat
def tsBad (x : AlphaV) (s : StrucV) (e f : Nat) : Bool :=
  (decide (relOf s e f = 4) && dLab x s e f) || ((covB s e f || immB s e f) && !dLab x s e f) || (immB s e f && decide (nth s.labels e = nth s.labels f))
def tsAll (x : AlphaV) (s : StrucV) : Bool := (List.range s.labels.length).all fun e => (List.range s.labels.length).all fun f => !tsBad x s e f
def isTraceStructureV (x : AlphaV) (s : StrucV) : Bool × Int := if isAlphaV x = true then (if isStructureV s = true then (if labOk x s = true then (tsAll x s, 0) else (false, 0)) else (false, 1)) else (false, 1)
theorem tsAll_no {x : AlphaV} {s : StrucV} {e f : Nat} (he : e < s.labels.length) (hf : f < s.labels.length) (h : tsBad x s e f = true) : tsAll x s = false := by
  unfold tsAll
  rw [← Bool.not_eq_true, List.all_eq_true]
  intro h'
  have := h' e (List.mem_range.2 he)
  rw [List.all_eq_true] at this
  have := this f (List.mem_range.2 hf)
  rw [h] at this; cases this
theorem tsAll_yes {x : AlphaV} {s : StrucV} (h : ∀ e, e < s.labels.length → ∀ f, f < s.labels.length → tsBad x s e f = false) : tsAll x s = true := by
  unfold tsAll
  rw [List.all_eq_true]
  intro e he
  rw [List.all_eq_true]
  intro f hf
  rw [h e (List.mem_range.1 he) f (List.mem_range.1 hf)]; rfl
theorem lab_at {x : AlphaV} {s : StrucV} (hx : AlOk x) (h : labOk x s = true) {e : Nat} (he : e < s.labels.length) : ∃ a : Nat, nth s.labels e = a ∧ a < x.depends.length := by
  have := all_nth.1 h e he
  simp only [Bool.and_eq_true, decide_eq_true_eq] at this
  have hl := hx.let_
  exact ⟨(nth s.labels e).toNat, by omega, by omega⟩
theorem IsTraceStructure_spec (b0 : Bool) (x : AlphaV) (hx : AlphabetOk x) (a0 a1 a2 : Bool) (s : StrucV) (hs : StructureOk s) : ACalls1 Tryz.prog 42 [alphaSl b0 x, strucSl a0 a1 a2 s] (.tup [bv (isTraceStructureV x s).1, iv (isTraceStructureV x s).2]) := by
  refine walk (fun t => t == 2 || t == 3) mixed Go.Proofs.Tryz.func42 rfl rfl rfl (by kernel_rfl) rfl (by simp) (by kernel_rfl) ?_
  simp
  refine ⟨_, IsAlphabet_spec b0 x hx.1 hx.2.1, ?_⟩
  unfold isTraceStructureV
  cases hA : isAlphaV x
  · simp
  · have hok := alOk_of hA
    have hl8 := hok.len
    have hll := hok.let_
    simp
    refine ⟨_, IsStructure_spec a0 a1 a2 s hs, ?_⟩
    cases hS : isStructureV s
    · simp
    · obtain ⟨h1, h2, h3⟩ := struc_len hS
      simp [wrap_id (x.letters - 1) (by omega) (by omega)]
      refine ⟨_, allIn_spec _ _ 0 (x.letters - 1) (by unfold Fits; omega), ?_⟩
      have hLe : (s.labels.all fun y => decide (0 ≤ y) && decide (y ≤ x.letters - 1)) = labOk x s := rfl
      rw [hLe]
      cases hL : labOk x s
      · simp
      · simp
        refine ⟨_, length_spec _ _ (by unfold Fits; omega), ?_⟩
        simp [h2]
        refine awp_loop2 [2, 3, 27] [] (fun e : Nat => [(28, iv e)]) (fun _ => []) (fun e => e ≤ s.labels.length ∧ ∀ e', e' < e → ∀ f, f < s.labels.length → tsBad x s e' f = false) (fun e => s.labels.length - e) 0 (weak_mk some (by simp) (by simp) rfl) ⟨by simp, fun j hj => by omega⟩ ?_
        rintro e ⟨he, hall⟩
        by_cases hel : e < s.labels.length
        · simp [hel]
          refine ⟨_, length_spec _ _ (by unfold Fits; omega), ?_⟩
          simp [h2]
          refine awp_loop2 [2, 3, 6, 27, 28, 33] [] (fun f : Nat => [(34, iv f)]) (fun _ => []) (fun f => f ≤ s.labels.length ∧ ∀ f', f' < f → tsBad x s e f' = false) (fun f => s.labels.length - f) 0 (weak_mk some (by simp) (by simp) rfl) ⟨by simp, fun j hj => by omega⟩ ?_
          rintro f ⟨hf, hallf⟩
          by_cases hfl : f < s.labels.length
          · obtain ⟨a, ha, hal⟩ := lab_at hok hL hel
            obtain ⟨b, hb, hbl⟩ := lab_at hok hL hfl
            have hno := fun h => tsAll_no (x := x) hel hfl h
            have go : tsBad x s e f = false → ∀ f', f' < f + 1 → tsBad x s e f' = false := fun h f' hf' => by
              by_cases e2 : f' = f
              · subst e2; exact h
              · exact hallf f' (by omega)
            have hD : dLab x s e f = depB x a b := by simp [dLab, ha, hb]
            have hbd : tsBad x s e f = ((decide (relOf s e f = 4) && depB x a b) || ((covB s e f || immB s e f) && !depB x a b) || (immB s e f && decide ((a : Int) = b))) := by rw [← ha, ← hb, ← hD]; rfl
            simp [hfl, hel, ha, hb]
            repeat (rw [exE_eq]; simp [hfl, hel, ha, hb])
            refine ⟨_, depend_spec b0 x hok a b hal hbl, ?_⟩
            simp
            refine ⟨_, immediate_spec _ _ _ s hS e f hel hfl, ?_⟩
            simp
            refine ⟨_, relation_spec _ _ _ s hS e f hel hfl, ?_⟩
            cases hd : depB x a b
            · by_cases hr : relOf s e f = 4 <;>
              · simp [hr]
                refine ⟨_, covered_spec _ _ _ s hS e f hel hfl, ?_⟩
                cases hi : immB s e f
                · cases hc : covB s e f
                  · simp [wrap_id ((f : Int) + 1) (by omega) (by omega)]
                    repeat (rw [exE_eq]; simp [wrap_id ((f : Int) + 1) (by omega) (by omega)])
                    exact Round.mk (f + 1) (weak_mk some (by simp) (by simp) rfl) ⟨hfl, go (by rw [hbd, hd, hi, hc]; simp)⟩ (by omega)
                  · have := hno (by rw [hbd, hd, hi, hc]; simp)
                    simp [this]
                · have := hno (by rw [hbd, hd, hi]; simp)
                  cases hc : covB s e f <;> simp [this]
            · by_cases hr : relOf s e f = 4
              · have := hno (by rw [hbd, hd, hr]; simp)
                simp [hr, this]
              · simp [hr]
                refine ⟨_, covered_spec _ _ _ s hS e f hel hfl, ?_⟩
                cases hi : immB s e f
                · cases hc : covB s e f <;>
                  · simp [wrap_id ((f : Int) + 1) (by omega) (by omega)]
                    repeat (rw [exE_eq]; simp [wrap_id ((f : Int) + 1) (by omega) (by omega)])
                    exact Round.mk (f + 1) (weak_mk some (by simp) (by simp) rfl) ⟨hfl, go (by rw [hbd, hd, hi]; simp [hr])⟩ (by omega)
                · by_cases hq : a = b
                  · have := hno (by rw [hbd, hd, hi]; simp [hq])
                    cases hc : covB s e f <;>
                    · simp [hfl, hel, ha, hb, hq, this]
                      repeat (rw [exE_eq]; simp [hfl, hel, ha, hb, hq, this])
                  · have hq' : ¬ (a : Int) = b := by omega
                    cases hc : covB s e f <;>
                    · simp [hfl, hel, ha, hb, hq, wrap_id ((f : Int) + 1) (by omega) (by omega)]
                      repeat (rw [exE_eq]; simp [hfl, hel, ha, hb, hq, wrap_id ((f : Int) + 1) (by omega) (by omega)])
                      exact Round.mk (f + 1) (weak_mk some (by simp) (by simp) rfl) ⟨hfl, go (by rw [hbd, hd, hi]; simp [hr, hq])⟩ (by omega)
          · obtain rfl : f = s.labels.length := by omega
            simp [wrap_id ((e : Int) + 1) (by omega) (by omega)]
            refine Round.mk (e + 1) (weak_mk some (by simp) (by simp) rfl) ⟨hel, fun e' he' f hf => ?_⟩ (by omega)
            by_cases e2 : e' = e
            · subst e2; exact hallf f hf
            · exact hall e' (by omega) f hf
        · obtain rfl : e = s.labels.length := by omega
          have := tsAll_yes hall
          simp [this]
/-! Words at chosen places. -/
def pkR (p : Nat → Bool) (v : List Nat) (n : Nat) : List Nat := ((List.range n).filter p).map (natAt v)
theorem pkR_succ (p : Nat → Bool) (v : List Nat) (n : Nat) : pkR p v (n + 1) = pkR p v n ++ (if p n = true then [natAt v n] else []) := by
  unfold pkR
  rw [List.range_succ, List.filter_append, List.map_append]
  cases h : p n <;> simp [h]
theorem pkR_congr {p q : Nat → Bool} (v : List Nat) {n : Nat} (h : ∀ i, i < n → p i = q i) : pkR p v n = pkR q v n := by
  unfold pkR
  rw [List.filter_congr fun x hx => h x (List.mem_range.1 hx)]
theorem pkR_mem {p : Nat → Bool} {v : List Nat} {n a : Nat} : a ∈ pkR p v n ↔ ∃ i, i < n ∧ p i = true ∧ natAt v i = a := by
  unfold pkR
  simp only [List.mem_map, List.mem_filter, List.mem_range]
  exact ⟨fun ⟨i, ⟨h1, h2⟩, h3⟩ => ⟨i, h1, h2, h3⟩, fun ⟨i, h1, h2, h3⟩ => ⟨i, ⟨h1, h2⟩, h3⟩⟩
theorem pkR_free {t : List Int} {p : Nat → Bool} {v : List Nat} {a : Nat} : ∀ {n : Nat}, isFree t (pkR p v n) a = true ↔ ∃ i, i < n ∧ p i = true ∧ natAt v i = a ∧ ∀ j, j < i → p j = true → tb (nth t (natAt v j)) (natAt v i) = false
  | 0 => by simp [pkR, isFree]
  | n + 1 => by
    have ih := @pkR_free t p v a n
    rw [pkR_succ]
    cases hp : p n
    · simp only [Bool.false_eq_true, if_false, List.append_nil]
      rw [ih]
      constructor
      · rintro ⟨i, h1, h2⟩; exact ⟨i, by omega, h2⟩
      · rintro ⟨i, h1, h2, h3⟩
        have : i ≠ n := fun e => by subst e; rw [hp] at h2; cases h2
        exact ⟨i, by omega, h2, h3⟩
    · simp only [if_true]
      rw [isFree_app, Bool.or_eq_true, ih, Bool.and_eq_true, beq_iff_eq, List.all_eq_true]
      constructor
      · rintro (⟨i, h1, h2⟩ | ⟨h1, h2⟩)
        · exact ⟨i, by omega, h2⟩
        · refine ⟨n, by omega, hp, h1, fun j hj hpj => ?_⟩
          have := h2 _ (pkR_mem.2 ⟨j, hj, hpj, rfl⟩)
          rw [h1]; simpa using this
      · rintro ⟨i, h1, h2, h3, h4⟩
        by_cases e : i = n
        · subst e
          refine .inr ⟨h3, fun b hb => ?_⟩
          obtain ⟨j, hj, hpj, rfl⟩ := pkR_mem.1 hb
          have := h4 j hj hpj
          rw [h3] at this; rw [this]; rfl
        · exact .inl ⟨i, by omega, h2, h3, h4⟩
theorem pkR_erase {p : Nat → Bool} {v : List Nat} {i : Nat} (hp : p i = true) (hf : ∀ j, j < i → p j = true → natAt v j ≠ natAt v i) : ∀ {n : Nat}, i < n → (pkR p v n).erase (natAt v i) = pkR (fun j => p j && j != i) v n
  | n + 1, h => by
    have hno : natAt v i ∉ pkR p v i := fun hm => by
      obtain ⟨j, hj, hpj, e⟩ := pkR_mem.1 hm
      exact hf j hj hpj e
    rw [pkR_succ, pkR_succ]
    by_cases e : i = n
    · subst e
      rw [List.erase_append_right _ hno, hp]
      simp only [if_true, bne_self_eq_false, Bool.and_false, Bool.false_eq_true, if_false, List.append_nil]
      rw [show [natAt v i].erase (natAt v i) = [] by simp, List.append_nil]
      exact pkR_congr v fun j hj => by rw [show (j != i) = true by simp; omega, Bool.and_true]
    · have hi : i < n := by omega
      rw [List.erase_append_left _ (pkR_mem.2 ⟨i, hi, hp, rfl⟩), pkR_erase hp hf hi, show (n != i) = true by simp; omega, Bool.and_true]
theorem pkR_count (p : Nat → Bool) (v : List Nat) (a : Nat) : ∀ n, (pkR p v n).count a = ((List.range n).filter fun i => p i && natAt v i == a).length
  | 0 => rfl
  | n + 1 => by
    rw [pkR_succ, List.count_append, pkR_count p v a n, List.range_succ, List.filter_append, List.length_append]
    cases hp : p n
    · simp [hp]
    · rw [if_pos rfl, List.count_singleton]
      cases ha : (natAt v n == a)
      · have : (a == natAt v n) = false := by rw [beq_eq_false_iff_ne] at ha ⊢; exact fun e => ha e.symm
        simp [hp, ha]
      · have : (a == natAt v n) = true := by rw [beq_iff_eq] at ha ⊢; exact ha.symm
        simp [hp, ha]
theorem flt_le {p q : Nat → Bool} : ∀ (l : List Nat), (∀ k ∈ l, p k = true → q k = true) → (l.filter p).length ≤ (l.filter q).length
  | [], _ => Nat.le_refl _
  | a :: l, h => by
    have ih := flt_le l fun k hk => h k (List.mem_cons_of_mem _ hk)
    rw [List.filter_cons, List.filter_cons]
    cases hp : p a
    · cases hq : q a <;> simp <;> omega
    · rw [h a (by simp) hp]; simpa using ih
theorem flt_lt {p q : Nat → Bool} {i : Nat} : ∀ (l : List Nat), (∀ k ∈ l, p k = true → q k = true) → i ∈ l → p i = false → q i = true → (l.filter p).length < (l.filter q).length
  | a :: l, h, hi, h1, h2 => by
    have hl := flt_le l fun k hk => h k (List.mem_cons_of_mem _ hk)
    rw [List.filter_cons, List.filter_cons]
    rcases List.mem_cons.1 hi with rfl | hi
    · rw [h1, h2]; simp; omega
    · have ih := flt_lt l (fun k hk => h k (List.mem_cons_of_mem _ hk)) hi h1 h2
      cases hp : p a
      · cases hq : q a <;> simp <;> omega
      · rw [h a (by simp) hp]; simpa using ih
/-- Two choices that end each letter alike, with the same letters. -/
theorem pk_same {v : List Nat} {n : Nat} {p q : Nat → Bool} (hp : ∀ i j, i < j → j < n → natAt v i = natAt v j → p i = true → p j = true) (hq : ∀ i j, i < j → j < n → natAt v i = natAt v j → q i = true → q j = true)
    (hc : ∀ a, (pkR p v n).count a = (pkR q v n).count a) {i : Nat} (hi : i < n) : p i = q i := by
  have one : ∀ (p q : Nat → Bool), (∀ i j, i < j → j < n → natAt v i = natAt v j → p i = true → p j = true) → (∀ i j, i < j → j < n → natAt v i = natAt v j → q i = true → q j = true) → (∀ a, (pkR p v n).count a = (pkR q v n).count a) → p i = true → q i = true := by
    intro p q hp hq hc h1
    cases h2 : q i
    · have := hc (natAt v i)
      rw [pkR_count, pkR_count] at this
      have hlt := flt_lt (p := fun k => q k && natAt v k == natAt v i) (q := fun k => p k && natAt v k == natAt v i) (i := i) (List.range n) (fun k hk hqk => by
        simp only [Bool.and_eq_true, beq_iff_eq] at hqk ⊢
        refine ⟨?_, hqk.2⟩
        have hkn := List.mem_range.1 hk
        rcases Nat.lt_trichotomy k i with h | h | h
        · have := hq k i h hi hqk.2 hqk.1
          rw [h2] at this; cases this
        · subst h; exact h1
        · exact hp i k h hkn hqk.2.symm h1) (List.mem_range.2 hi) (by simp [h2]) (by simp [h1])
      omega
    · rfl
  rw [Bool.eq_iff_iff]
  exact ⟨one p q hp hq hc, one q p hq hp fun a => (hc a).symm⟩
/-! The events of one trace and its places. -/
def evI (t : List Int) (P : List (List Int)) (v : List Nat) (i : Nat) : Nat := P.idxOf (nats (nf t (pastW t v i)))
section
variable {t : List Int} {w : List Int} {P : List (List Int)} (h : PrS t [w] P)
include h
theorem PrS.vl : ∀ c ∈ wn w, c < t.length := (h.w w (by simp)).1
theorem PrS.v24 : (wn w).length ≤ 24 := (h.w w (by simp)).2
theorem PrS.ev {i : Nat} (hi : i < (wn w).length) : evI t P (wn w) i < P.length ∧ nthR P (evI t P (wn w) i) = nats (nf t (pastW t (wn w) i)) := by
  have hm := h.c w (by simp) i hi
  have hl : evI t P (wn w) i < P.length := List.idxOf_lt_length_of_mem hm
  refine ⟨hl, ?_⟩
  rw [nthR_at hl]
  exact List.getElem_idxOf hl
theorem PrS.evInj {i j : Nat} (hi : i < (wn w).length) (hj : j < (wn w).length) (e : evI t P (wn w) i = evI t P (wn w) j) : i = j := by
  have e1 := (h.ev hi).2
  rw [e, (h.ev hj).2] at e1
  have e2 := congrArg wn e1
  rw [wn_natsU, wn_natsU] at e2
  rcases Nat.lt_trichotomy i j with h1 | h1 | h1
  · exact (prime_inj h.sy h.rf h.vl h.v24 h1 hj e2.symm).elim
  · exact h1
  · exact (prime_inj h.sy h.rf h.vl h.v24 h1 hi e2).elim
theorem PrS.evSur {e : Nat} (he : e < P.length) : ∃ i, i < (wn w).length ∧ evI t P (wn w) i = e := by
  have hm := nthR_mem he
  obtain ⟨u, k, k1, k2, k3, k4⟩ := h.p.pr _ hm
  obtain ⟨u', hu', hp⟩ := h.i _ hm
  simp only [List.mem_singleton] at hu'
  subst hu'
  rw [k4, wn_natsU] at hp
  obtain ⟨i, hi, e1⟩ := prime_at h.sy k1 h.vl k3 hp
  refine ⟨i, hi, nd_inj h.p.nd (h.ev hi).1 he ?_⟩
  rw [(h.ev hi).2, k4, e1]
theorem PrS.plen : P.length = (wn w).length := by
  have hp : ((List.range (wn w).length).map (evI t P (wn w))).Perm (List.range P.length) := by
    refine (List.perm_ext_iff_of_nodup (nodup_mapS List.nodup_range fun a ha b hb hab => h.evInj (List.mem_range.1 ha) (List.mem_range.1 hb) hab) List.nodup_range).2 fun e => ?_
    rw [List.mem_map, List.mem_range]
    constructor
    · rintro ⟨i, hi, rfl⟩; exact (h.ev (List.mem_range.1 hi)).1
    · intro he
      obtain ⟨i, hi, e⟩ := h.evSur he
      exact ⟨i, List.mem_range.2 hi, e⟩
  have := hp.length_eq
  simpa using this.symm
theorem PrS.evPast {i : Nat} (hi : i < (wn w).length) : Sws t (pastW t (wn w) i) (wn (nthR P (evI t P (wn w) i))) := by
  rw [(h.ev hi).2, wn_natsU]
  exact sws_nf h.sy.ok h.sy.sym _ rfl (pastW_ok (t := t) h.vl hi).1
theorem PrS.posTie {i j : Nat} (hi : i < (wn w).length) (hji : j < i) (ht : tied t (wn w) j i = true) : tb (nth (posM t (wn w)) i) j = true := (pos_first h.v24 hi).2 (.inr ⟨i, hji, (pos_last h.v24 hi i).2 (.inl rfl), ht⟩)
theorem PrS.same {i j : Nat} (hi : i < (wn w).length) (hji : j < i) (ht : natAt (wn w) j = natAt (wn w) i) : tied t (wn w) j i = true := by
  unfold tied; rw [ht]; exact h.rf _ (h.vl _ (natAt_mem hi))
/-- A past is a prefix of a chosen part that nothing outside comes before, only if it lies within. -/
theorem PrS.inPart {D : Nat → Bool} (hD : ∀ i j, i < (wn w).length → D i = true → tb (nth (posM t (wn w)) i) j = true → D j = true) {i : Nat} (hi : i < (wn w).length) : Pre t (pastW t (wn w) i) (pkP D (wn w)) ↔ D i = true := by
  constructor
  · rintro ⟨r, hr⟩
    cases hDi : D i
    · exfalso
      have hcnt := hr.perm.count_eq (natAt (wn w) i)
      rw [List.count_append, past_eq h.sy h.vl h.v24 hi] at hcnt
      have e1 : pkP (tb (nth (posM t (wn w)) i)) (wn w) = pkR (tb (nth (posM t (wn w)) i)) (wn w) (wn w).length := rfl
      have e2 : pkP D (wn w) = pkR D (wn w) (wn w).length := rfl
      rw [e1, e2, pkR_count, pkR_count] at hcnt
      have := flt_lt (p := fun k => D k && natAt (wn w) k == natAt (wn w) i) (q := fun k => tb (nth (posM t (wn w)) i) k && natAt (wn w) k == natAt (wn w) i) (i := i) (List.range (wn w).length) (fun k hk hq => by
        simp only [Bool.and_eq_true, beq_iff_eq] at hq ⊢
        refine ⟨?_, hq.2⟩
        have hkn := List.mem_range.1 hk
        rcases Nat.lt_trichotomy k i with h1 | h1 | h1
        · exact h.posTie hi h1 (h.same hi h1 hq.2)
        · subst h1; exact (pos_last h.v24 hi k).2 (.inl rfl)
        · have := hD k i hkn hq.1 (h.posTie hkn h1 (h.same hkn h1 hq.2.symm))
          rw [hDi] at this; cases this) (List.mem_range.2 hi) (by simp [hDi]) (by simp; exact (pos_last h.v24 hi i).2 (.inl rfl))
      omega
    · rfl
  · intro hDi
    rw [past_eq h.sy h.vl h.v24 hi]
    exact pre_sel h.sy h.vl (fun k hk => hD i k hi hDi hk) fun k l hkl hl hA _ htd => (pos_first h.v24 hi).2 (.inr ⟨l, hkl, hA, htd⟩)
theorem PrS.evBelow {i j : Nat} (hi : i < (wn w).length) (hj : j < (wn w).length) : tb (nth (structP t [w] P).below (evI t P (wn w) i)) (evI t P (wn w) j) = true ↔ j ≠ i ∧ tb (nth (posM t (wn w)) i) j = true := by
  have h1 := (h.ev hi).1
  have h2 := (h.ev hj).1
  rw [h.below h1, Bool.and_eq_true, decide_eq_true_eq, h.belQ h1 h2]
  have hP : Pre t (wn (nthR P (evI t P (wn w) j))) (wn (nthR P (evI t P (wn w) i))) ↔ tb (nth (posM t (wn w)) i) j = true := by
    rw [← h.inPart (fun a b ha hD hab => pos_trans h.sy h.vl h.v24 hi hD hab) hj, ← past_eq h.sy h.vl h.v24 hi]
    exact ⟨fun hp => ((Pre.of_sws (h.evPast hj)).trans hp).trans (Pre.of_sws (h.evPast hi).symm), fun hp => ((Pre.of_sws (h.evPast hj).symm).trans hp).trans (Pre.of_sws (h.evPast hi))⟩
  rw [hP]
  exact ⟨fun ⟨_, k1, k2⟩ => ⟨fun e => k1 (by rw [e]), k2⟩, fun ⟨k1, k2⟩ => ⟨h2, fun e => k1 (h.evInj hj hi e), k2⟩⟩
theorem PrS.noClash {e : Nat} (he : e < P.length) (f : Nat) : tb (nth (structP t [w] P).clash e) f = false := by
  rw [h.clash he]
  cases hf : decide (f < P.length)
  · rfl
  · have hf' : f < P.length := by simpa using hf
    have : togQ t [w] (nthR P e) (nthR P f) = true := (h.tog (nthR_mem he) (nthR_mem hf')).2 ⟨w, by simp, by
      obtain ⟨u, hu, hp⟩ := h.i _ (nthR_mem he)
      simp only [List.mem_singleton] at hu
      subst hu; exact hp, by
      obtain ⟨u, hu, hp⟩ := h.i _ (nthR_mem hf')
      simp only [List.mem_singleton] at hu
      subst hu; exact hp⟩
    rw [this]; rfl
theorem PrS.evLab {i : Nat} (hi : i < (wn w).length) : nth (structP t [w] P).labels (evI t P (wn w) i) = (natAt (wn w) i : Nat) := by
  rw [(h.label (h.ev hi).1).1]
  unfold labF
  rw [(h.ev hi).2, prime_lab h.sy h.vl hi]
/-- The places of a mask of events. -/
theorem PrS.idl {d : Int} (hd : isM P.length d = true) : isConf (structP t [w] P) d = true ↔ ∀ i j, i < (wn w).length → tb d (evI t P (wn w) i) = true → tb (nth (posM t (wn w)) i) j = true → tb d (evI t P (wn w) j) = true := by
  have h16 := h.n
  obtain ⟨hM, hb⟩ := isM_spec (by omega) hd
  rw [isConf_iff]
  constructor
  · intro hc i j hi hdi hp
    have he := (h.ev hi).1
    have hj : j < (wn w).length := by have := pos_le h.v24 hi hp; omega
    by_cases e : j = i
    · rw [e]; exact hdi
    · have := hc _ (by rw [h.len]; exact he) hdi
      unfold cfgOk at this
      simp only [Bool.and_eq_true, beq_iff_eq] at this
      have hz := (eq_zero_iff (M_andNot (isM_spec (by omega) (h.belowM he)).1 hM)).1 this.1 (evI t P (wn w) j)
      rw [tb_andNot (isM_spec (by omega) (h.belowM he)).1 hM, (h.evBelow hi hj).2 ⟨e, hp⟩] at hz
      simpa using hz
  · intro hc e he hde
    rw [h.len] at he
    obtain ⟨i, hi, rfl⟩ := h.evSur he
    unfold cfgOk
    simp only [Bool.and_eq_true, beq_iff_eq]
    have hMb := (isM_spec (by omega) (h.belowM he)).1
    have hMc := (isM_spec (by omega) (h.clashM he)).1
    refine ⟨(eq_zero_iff (M_andNot hMb hM)).2 fun f => ?_, (eq_zero_iff (M_and hMc hM)).2 fun f => ?_⟩
    · rw [tb_andNot hMb hM]
      cases hf : tb (nth (structP t [w] P).below (evI t P (wn w) i)) f
      · rfl
      · have hfl : f < P.length := by
          rw [h.below he, Bool.and_eq_true, decide_eq_true_eq] at hf; exact hf.1
        obtain ⟨j, hj, rfl⟩ := h.evSur hfl
        rw [hc i j hi hde ((h.evBelow hi hj).1 hf).2]; rfl
    · rw [tb_and hMc hM, h.noClash he]; rfl
/-- What remains behind a configuration. -/
def restP (t : List Int) (P : List (List Int)) (v : List Nat) (d : Int) : List Nat := pkR (fun i => !tb d (evI t P v i)) v v.length
theorem PrS.restM {d : Int} {a : Nat} (ha : a ∈ restP t P (wn w) d) : a ∈ wn w := by
  obtain ⟨i, hi, _, rfl⟩ := pkR_mem.1 ha
  exact natAt_mem hi
theorem PrS.rest0 : restP t P (wn w) 0 = wn w := by
  unfold restP
  rw [pkR_congr (q := fun _ => true) _ (fun i hi => by simp)]
  exact pkP_all _
theorem PrS.cand {d : Int} (hd : isM P.length d = true) (hc : isConf (structP t [w] P) d = true) {i : Nat} (hi : i < (wn w).length) :
    evI t P (wn w) i ∈ candL (structP t [w] P) (full P.length) d ↔ tb d (evI t P (wn w) i) = false ∧ ∀ j, j < i → tb d (evI t P (wn w) j) = false → tied t (wn w) j i = false := by
  have h16 := h.n
  obtain ⟨hM, hb⟩ := isM_spec (by omega) hd
  have hI := (h.idl hd).1 hc
  have he := (h.ev hi).1
  have hMb := (isM_spec (by omega) (h.belowM he)).1
  unfold candL canS
  simp only [List.mem_filter, List.mem_range, Bool.and_eq_true, Bool.not_eq_true', beq_iff_eq]
  rw [h.len, tb_full (by omega), eq_zero_iff (M_andNot hMb hM)]
  constructor
  · rintro ⟨_, ⟨_, h1⟩, h2⟩
    refine ⟨h1, fun j hj hdj => ?_⟩
    cases ht : tied t (wn w) j i
    · rfl
    · have := h2 (evI t P (wn w) j)
      rw [tb_andNot hMb hM, hdj, (h.evBelow hi (by omega)).2 ⟨by omega, h.posTie hi hj ht⟩] at this
      cases this
  · rintro ⟨h1, h2⟩
    refine ⟨he, ⟨by simpa using he, h1⟩, fun f => ?_⟩
    rw [tb_andNot hMb hM]
    cases hf : tb (nth (structP t [w] P).below (evI t P (wn w) i)) f
    · rfl
    · have hfl : f < P.length := by
        rw [h.below he, Bool.and_eq_true, decide_eq_true_eq] at hf; exact hf.1
      obtain ⟨j, hj, rfl⟩ := h.evSur hfl
      obtain ⟨hne, hp⟩ := (h.evBelow hi hj).1 hf
      rcases (pos_last h.v24 hi j).1 hp with e | ⟨m, hm, htd, hpm⟩
      · exact absurd e hne
      · cases hdm : tb d (evI t P (wn w) m)
        · have := h2 m hm hdm
          rw [htd] at this; cases this
        · rw [hI m j (by omega) hdm hpm]; rfl
theorem PrS.freeC {d : Int} (hd : isM P.length d = true) (hc : isConf (structP t [w] P) d = true) {a : Nat} : isFree t (restP t P (wn w) d) a = true ↔ ∃ i, i < (wn w).length ∧ evI t P (wn w) i ∈ candL (structP t [w] P) (full P.length) d ∧ natAt (wn w) i = a := by
  unfold restP
  rw [pkR_free]
  constructor
  · rintro ⟨i, hi, h1, h2, h3⟩
    exact ⟨i, hi, (h.cand hd hc hi).2 ⟨by simpa using h1, fun j hj hdj => h3 j hj (by simp [hdj])⟩, h2⟩
  · rintro ⟨i, hi, h1, h2⟩
    obtain ⟨k1, k2⟩ := (h.cand hd hc hi).1 h1
    exact ⟨i, hi, by simp [k1], h2, fun j hj hdj => k2 j hj (by simpa using hdj)⟩
theorem PrS.candLab {d : Int} (hd : isM P.length d = true) (hc : isConf (structP t [w] P) d = true) {i j : Nat} (hi : i < (wn w).length) (hj : j < (wn w).length) (h1 : evI t P (wn w) i ∈ candL (structP t [w] P) (full P.length) d) (h2 : evI t P (wn w) j ∈ candL (structP t [w] P) (full P.length) d) (he : natAt (wn w) i = natAt (wn w) j) : i = j := by
  obtain ⟨a1, a2⟩ := (h.cand hd hc hi).1 h1
  obtain ⟨b1, b2⟩ := (h.cand hd hc hj).1 h2
  rcases Nat.lt_trichotomy i j with h3 | h3 | h3
  · have := b2 i h3 a1
    rw [h.same hj h3 he] at this; cases this
  · exact h3
  · have := a2 j h3 b1
    rw [h.same hi h3 he.symm] at this; cases this
theorem PrS.up {d : Int} (hd : isM P.length d = true) (hc : isConf (structP t [w] P) d = true) {i : Nat} (hi : i < (wn w).length) (h1 : evI t P (wn w) i ∈ candL (structP t [w] P) (full P.length) d) :
    isM P.length (upS d (evI t P (wn w) i)) = true ∧ isConf (structP t [w] P) (upS d (evI t P (wn w) i)) = true ∧ restP t P (wn w) (upS d (evI t P (wn w) i)) = (restP t P (wn w) d).erase (natAt (wn w) i) := by
  have h16 := h.n
  obtain ⟨hM, hb⟩ := isM_spec (by omega) hd
  have he := (h.ev hi).1
  have hl := h.len
  obtain ⟨_, _, c3, c4⟩ := candL_mem h1
  have hMc := (isM_spec (by omega) (h.clashM he)).1
  have hup := conf_up h.struc (c := d) (by rw [hl]; exact hd) hc (e := evI t P (wn w) i) (by rw [hl]; exact he) (by
    unfold canAdd
    simp only [Bool.and_eq_true, Bool.not_eq_true', beq_iff_eq]
    exact ⟨⟨c3, c4⟩, (eq_zero_iff (M_and hMc hM)).2 fun f => by rw [tb_and hMc hM, h.noClash he]; rfl⟩)
  rw [hl] at hup
  refine ⟨hup.1, hup.2, ?_⟩
  obtain ⟨a1, a2⟩ := (h.cand hd hc hi).1 h1
  unfold restP
  rw [pkR_erase (p := fun i => !tb d (evI t P (wn w) i)) (by simp [a1]) (fun j hj hpj e => by
    have := a2 j hj (by simpa using hpj)
    rw [h.same hi hj e] at this; cases this) hi]
  refine pkR_congr _ fun j hj => ?_
  rw [tb_up hM (by omega)]
  by_cases e : j = i
  · subst e; simp
  · have : evI t P (wn w) i ≠ evI t P (wn w) j := fun e2 => e (h.evInj hj hi e2.symm)
    simp [e, this]
end
/-! The words of a trace, counted. -/
def frL (t : List Int) (u : List Nat) : List Nat := (List.range t.length).filter (isFree t u)
def cK (t : List Int) : Nat → List Nat → Int
  | 0, _ => 1
  | k + 1, r => sumL (fun a => cK t k (r.erase a)) (frL t r)
def cN (t : List Int) (r : List Nat) : Int := cK t r.length r
theorem sumL_congr {f g : Nat → Int} : ∀ {l : List Nat}, (∀ a ∈ l, f a = g a) → sumL f l = sumL g l := by
  intro l h
  unfold sumL
  suffices ∀ (l : List Nat) (s : Int), (∀ a ∈ l, f a = g a) → l.foldl (fun s e => s + f e) s = l.foldl (fun s e => s + g e) s from this l 0 h
  intro l
  induction l with
  | nil => intro _ _; rfl
  | cons a l ih => intro s h; rw [List.foldl_cons, List.foldl_cons, h a (by simp)]; exact ih _ fun b hb => h b (by simp [hb])
theorem sumL_cons (f : Nat → Int) (a : Nat) (l : List Nat) : sumL f (a :: l) = f a + sumL f l := by
  unfold sumL
  rw [List.foldl_cons]
  suffices ∀ (l : List Nat) (s : Int), l.foldl (fun s e => s + f e) s = s + l.foldl (fun s e => s + f e) 0 by
    rw [this l (0 + f a)]; omega
  intro l
  induction l with
  | nil => intro s; simp
  | cons b l ih => intro s; rw [List.foldl_cons, List.foldl_cons, ih (s + f b), ih (0 + f b)]; omega
theorem sumL_perm {f : Nat → Int} {l l' : List Nat} (h : l.Perm l') : sumL f l = sumL f l' := by
  induction h with
  | nil => rfl
  | cons a _ ih => rw [sumL_cons, sumL_cons, ih]
  | swap a b l => rw [sumL_cons, sumL_cons, sumL_cons, sumL_cons]; omega
  | trans _ _ ih1 ih2 => rw [ih1, ih2]
theorem sumL_map (f : Nat → Int) (g : Nat → Nat) : ∀ (l : List Nat), sumL f (l.map g) = sumL (fun e => f (g e)) l
  | [] => rfl
  | a :: l => by rw [List.map_cons, sumL_cons, sumL_cons, sumL_map f g l]
theorem frL_mem {t : List Int} {u : List Nat} {a : Nat} : a ∈ frL t u ↔ a < t.length ∧ isFree t u a = true := by
  unfold frL; rw [List.mem_filter, List.mem_range]
theorem cN_step {t : List Int} {r : List Nat} (hne : r ≠ []) : cN t r = sumL (fun a => cN t (r.erase a)) (frL t r) := by
  have hp : 0 < r.length := List.length_pos_iff.2 hne
  obtain ⟨k, hk⟩ : ∃ k, r.length = k + 1 := ⟨r.length - 1, by omega⟩
  unfold cN
  rw [hk, cK]
  refine sumL_congr fun a ha => ?_
  rw [List.length_erase_of_mem (isFree_mem (frL_mem.1 ha).2), hk]; rfl
theorem firsts_bits {t : List Int} (ht : TOk t) {u : List Nat} (hu : ∀ a ∈ u, a < t.length) : bitsOf (firstsF t u).1 = nats (frL t u) := by
  obtain ⟨h1, h2⟩ := firsts_spec' ht hu
  have hl := ht.1
  rw [bits_eq (n := t.length) (by omega) (fun i hi => by
    rw [h2]
    cases hf : isFree t u i
    · rfl
    · have := hu i (isFree_mem hf); omega)]
  unfold nats frL
  rw [List.filter_congr fun e _ => h2 e]
/-! Contents as numbers. -/
def keyN (u : List Nat) : Nat := (u.map fun a => 32 ^ a).sum
def keyD : Nat → (Nat → Nat) → Nat
  | 0, _ => 0
  | n + 1, c => c 0 + 32 * keyD n fun a => c (a + 1)
theorem keyD_bump : ∀ (n : Nat) (c : Nat → Nat) (a : Nat), a < n → keyD n (fun b => c b + if b = a then 1 else 0) = keyD n c + 32 ^ a
  | n + 1, c, 0, _ => by
    simp only [keyD]
    have : (fun a => c (a + 1) + if a + 1 = 0 then 1 else 0) = fun a => c (a + 1) := by funext a; simp
    rw [this]; simp; omega
  | n + 1, c, a + 1, h => by
    simp only [keyD]
    have : (fun b => c (b + 1) + if b + 1 = a + 1 then 1 else 0) = fun b => c (b + 1) + if b = a then 1 else 0 := by funext b; simp
    rw [this, keyD_bump n (fun b => c (b + 1)) a (by omega)]
    simp
    rw [Nat.pow_succ]; omega
theorem keyN_D {n : Nat} : ∀ {u : List Nat}, (∀ a ∈ u, a < n) → keyN u = keyD n fun a => u.count a
  | [], _ => by
    have : ∀ n, keyD n (fun a => ([] : List Nat).count a) = 0 := by
      intro n
      induction n with
      | zero => rfl
      | succ n ih => simp only [keyD, List.count_nil] at ih ⊢; rw [ih]
    rw [this]; rfl
  | a :: u, h => by
    have ih := keyN_D (u := u) fun b hb => h b (by simp [hb])
    have e : (fun b => (a :: u).count b) = fun b => u.count b + if b = a then 1 else 0 := by
      funext b
      rw [List.count_cons]
      by_cases e : b = a
      · subst e; simp
      · have : ¬ a = b := fun e2 => e e2.symm
        simp [e, this]
    rw [e, keyD_bump n _ a (h a (by simp)), ← ih]
    simp [keyN]; omega
theorem keyD_inj : ∀ (n : Nat) {c d : Nat → Nat}, (∀ a, c a < 32) → (∀ a, d a < 32) → keyD n c = keyD n d → ∀ a, a < n → c a = d a
  | n + 1, c, d, hc, hd, h, a, ha => by
    simp only [keyD] at h
    have h1 := hc 0
    have h2 := hd 0
    cases a with
    | zero => omega
    | succ a => exact keyD_inj n (c := fun a => c (a + 1)) (d := fun a => d (a + 1)) (fun a => hc _) (fun a => hd _) (by omega) a (by omega)
theorem keyN_inj {n : Nat} {u v : List Nat} (hu : ∀ a ∈ u, a < n) (hv : ∀ a ∈ v, a < n) (lu : u.length ≤ 24) (lv : v.length ≤ 24) (h : keyN u = keyN v) (a : Nat) : u.count a = v.count a := by
  rw [keyN_D hu, keyN_D hv] at h
  have cu := fun a => List.count_le_length (a := a) (l := u)
  have cv := fun a => List.count_le_length (a := a) (l := v)
  by_cases ha : a < n
  · exact keyD_inj n (fun a => by have := cu a; omega) (fun a => by have := cv a; omega) h a ha
  · rw [List.count_eq_zero.2 fun hm => ha (hu a hm), List.count_eq_zero.2 fun hm => ha (hv a hm)]
theorem keyN_le {u : List Nat} (hu : ∀ a ∈ u, a < 8) : keyN u ≤ u.length * 34359738368 := by
  induction u with
  | nil => simp [keyN]
  | cons a u ih =>
    have h1 := ih fun b hb => hu b (by simp [hb])
    have h2 : 32 ^ a ≤ 32 ^ 7 := Nat.pow_le_pow_right (by omega) (by have := hu a (by simp); omega)
    have : keyN (a :: u) = 32 ^ a + keyN u := by simp [keyN]
    rw [this, List.length_cons, Nat.add_mul]; omega
theorem keyN_perm {u v : List Nat} (h : u.Perm v) : keyN u = keyN v := (h.map _).sum_nat
theorem keyN_erase {u : List Nat} {a : Nat} (h : a ∈ u) : keyN (u.erase a) + 32 ^ a = keyN u := by
  have := keyN_perm (List.perm_cons_erase h)
  rw [this]; simp [keyN]; omega
/-! What can remain of a word. -/
inductive Rst (t : List Int) (v : List Nat) : List Nat → Prop
  | base : Rst t v v
  | step {r : List Nat} {a : Nat} : Rst t v r → isFree t r a = true → Rst t v (r.erase a)
theorem Rst.mem {t : List Int} {v r : List Nat} (h : Rst t v r) : ∀ a ∈ r, a ∈ v := by
  induction h with
  | base => exact fun a ha => ha
  | step _ _ ih => exact fun a ha => ih a (List.mem_of_mem_erase ha)
theorem Rst.len {t : List Int} {v r : List Nat} (h : Rst t v r) : r.length ≤ v.length := by
  induction h with
  | base => exact Nat.le_refl _
  | step _ hf ih => rw [List.length_erase_of_mem (isFree_mem hf)]; omega
theorem Rst.up {t : List Int} {v r : List Nat} (h : Rst t v r) : ∀ m, r.length ≤ m → m ≤ v.length → ∃ q, Rst t v q ∧ q.length = m := by
  induction h with
  | base => exact fun m h1 h2 => ⟨v, .base, by omega⟩
  | step h hf ih =>
    rename_i r a
    intro m h1 h2
    have hl := List.length_erase_of_mem (isFree_mem hf)
    by_cases e : m = (r.erase a).length
    · exact ⟨_, .step h hf, e.symm⟩
    · exact ih m (by omega) h2
section
variable {t : List Int} {w : List Int} {P : List (List Int)} (h : PrS t [w] P)
include h
theorem PrS.full_M : isM P.length (full P.length) = true := isM_of (by have := h.n; omega) (M_full (by have := h.n; omega)) fun i hi => by rw [tb_full (by have := h.n; omega)]; simpa using hi
theorem PrS.rest_nil {d : Int} (hd : isM P.length d = true) : restP t P (wn w) d = [] ↔ d = full P.length := by
  have h16 := h.n
  obtain ⟨hM, hb⟩ := isM_spec (by omega) hd
  constructor
  · intro e
    refine tb_ext hM (M_full (by omega)) fun f _ => ?_
    rw [tb_full (by omega)]
    by_cases hf : f < P.length
    · obtain ⟨i, hi, rfl⟩ := h.evSur hf
      cases hb : tb d (evI t P (wn w) i)
      · have : natAt (wn w) i ∈ restP t P (wn w) d := pkR_mem.2 ⟨i, hi, by simp [hb], rfl⟩
        rw [e] at this; cases this
      · simp [hf]
    · rw [hb f (by omega)]; simp [hf]
  · rintro rfl
    rw [List.eq_nil_iff_forall_not_mem]
    intro a ha
    obtain ⟨i, hi, h1, _⟩ := pkR_mem.1 ha
    rw [tb_full (by omega)] at h1
    have := (h.ev hi).1
    simp [this] at h1
theorem PrS.candPerm {d : Int} (hd : isM P.length d = true) (hc : isConf (structP t [w] P) d = true) : ((candL (structP t [w] P) (full P.length) d).map fun e => (nth (structP t [w] P).labels e).toNat).Perm (frL t (restP t P (wn w) d)) := by
  have hlen := h.len
  have back : ∀ e, e ∈ candL (structP t [w] P) (full P.length) d → ∃ i, i < (wn w).length ∧ evI t P (wn w) i = e := fun e he => by
    have := (candL_mem he).1
    exact h.evSur (by omega)
  have n1 : (candL (structP t [w] P) (full P.length) d).Nodup := List.nodup_range.filter _
  have n2 : (frL t (restP t P (wn w) d)).Nodup := List.nodup_range.filter _
  refine (List.perm_ext_iff_of_nodup (nodup_mapS n1 fun a ha b hb hab => ?_) n2).2 fun a => ?_
  · obtain ⟨i, hi, rfl⟩ := back a ha
    obtain ⟨j, hj, rfl⟩ := back b hb
    rw [h.evLab hi, h.evLab hj] at hab
    rw [h.candLab hd hc hi hj ha hb (by simpa using hab)]
  · rw [List.mem_map, frL_mem, h.freeC hd hc]
    constructor
    · rintro ⟨e, he, rfl⟩
      obtain ⟨i, hi, rfl⟩ := back e he
      rw [h.evLab hi]
      exact ⟨by simpa using h.vl _ (natAt_mem hi), i, hi, he, by simp⟩
    · rintro ⟨_, i, hi, h1, rfl⟩
      exact ⟨_, h1, by rw [h.evLab hi]; simp⟩
theorem PrS.inCf {d : Int} (hd : isM P.length d = true) : inC (structP t [w] P) (full P.length) d := by
  have h16 := h.n
  obtain ⟨hM, hb⟩ := isM_spec (by omega) hd
  refine ⟨by rw [h.len]; exact hd, fun i hi => ?_⟩
  rw [tb_full (by omega)]
  by_cases hf : i < P.length
  · simpa using hf
  · rw [hb i (by omega)] at hi; cases hi
theorem PrS.ways (hn : (structP t [w] P).labels.length ≤ 16) : ∀ (k : Nat) {d : Int}, (restP t P (wn w) d).length = k → isM P.length d = true → isConf (structP t [w] P) d = true → cN t (restP t P (wn w) d) = fN (structP t [w] P) (full P.length) hn d := by
  intro k
  induction k with
  | zero =>
    intro d hk hd hc
    have e := List.length_eq_zero_iff.1 hk
    have := (h.rest_nil hd).1 e
    rw [e, this, fN_end]; rfl
  | succ k ih =>
    intro d hk hd hc
    have hne : restP t P (wn w) d ≠ [] := fun e => by rw [e] at hk; cases hk
    have hfn : d ≠ full P.length := fun e => hne ((h.rest_nil hd).2 e)
    have hM : isM (structP t [w] P).labels.length (full P.length) = true := by rw [h.len]; exact h.full_M
    rw [cN_step hne, fN_sum hn hM (h.inCf hd) hfn, ← sumL_perm (h.candPerm hd hc), sumL_map]
    refine sumL_congr fun e he => ?_
    obtain ⟨i, hi, rfl⟩ := h.evSur (e := e) (by have := (candL_mem he).1; rw [h.len] at this; exact this)
    obtain ⟨u1, u2, u3⟩ := h.up hd hc hi he
    rw [h.evLab hi, Int.toNat_natCast, ← u3]
    refine ih ?_ u1 u2
    have hfr := (h.freeC hd hc).2 ⟨i, hi, he, rfl⟩
    rw [u3, List.length_erase_of_mem (isFree_mem hfr), hk]; rfl
theorem PrS.zeroC : isM P.length 0 = true ∧ isConf (structP t [w] P) 0 = true := by
  have h16 := h.n
  have h0 : isM P.length 0 = true := isM_of (by omega) M_zero fun i _ => by simp
  exact ⟨h0, (h.idl h0).2 fun i j _ h1 => by simp at h1⟩
/-- The number of words of the trace. -/
theorem PrS.ordC (hn : (structP t [w] P).labels.length ≤ 16) : ordN (structP t [w] P) (full P.length) = cN t (wn w) := by
  have hM : isM (structP t [w] P).labels.length (full P.length) = true := by rw [h.len]; exact h.full_M
  have := h.ways hn _ rfl h.zeroC.1 h.zeroC.2
  rw [h.rest0, fN_start _ _ hn hM] at this
  unfold ordN
  rw [dif_pos hn, this]
theorem PrS.rst {r : List Nat} : Rst t (wn w) r ↔ ∃ d, isM P.length d = true ∧ isConf (structP t [w] P) d = true ∧ r = restP t P (wn w) d := by
  have h16 := h.n
  constructor
  · intro hr
    induction hr with
    | base => exact ⟨0, h.zeroC.1, h.zeroC.2, h.rest0.symm⟩
    | step _ hf ih =>
      obtain ⟨d, hd, hc, rfl⟩ := ih
      obtain ⟨i, hi, h1, rfl⟩ := (h.freeC hd hc).1 hf
      obtain ⟨u1, u2, u3⟩ := h.up hd hc hi h1
      exact ⟨_, u1, u2, u3.symm⟩
  · rintro ⟨d, hd, hc, rfl⟩
    suffices ∀ (k : Nat) (d : Int), cardN P.length d = k → isM P.length d = true → isConf (structP t [w] P) d = true → Rst t (wn w) (restP t P (wn w) d) from this _ d rfl hd hc
    intro k
    induction k with
    | zero =>
      intro d hk hd hc
      obtain ⟨hM, hb⟩ := isM_spec (by omega) hd
      have := (card_zero hM hb).1 hk
      subst this
      rw [h.rest0]; exact .base
    | succ k ih =>
      intro d hk hd hc
      obtain ⟨hM, hb⟩ := isM_spec (by omega) hd
      have h0 : d ≠ 0 := fun e => by
        have := (card_zero hM hb).2 e
        omega
      obtain ⟨e, he, ht, hmd, hcd, hadd⟩ := conf_dn h.struc (c := d) (by rw [h.len]; exact hd) hc h0
      rw [h.len] at he hmd
      have hcard := card_dn h16 hM he ht
      have ih' := ih (dnS d e) (by omega) hmd hcd
      obtain ⟨i, hi, rfl⟩ := h.evSur he
      have hMd := dn_M hM (show evI t P (wn w) i < 63 by omega)
      have hcand : evI t P (wn w) i ∈ candL (structP t [w] P) (full P.length) (dnS d (evI t P (wn w) i)) := by
        unfold canAdd at hadd
        simp only [Bool.and_eq_true] at hadd
        unfold candL canS
        simp only [List.mem_filter, List.mem_range, Bool.and_eq_true]
        exact ⟨by rw [h.len]; exact he, ⟨by rw [tb_full (by omega)]; simpa using he, hadd.1.1⟩, hadd.1.2⟩
      obtain ⟨u1, u2, u3⟩ := h.up hmd hcd hi hcand
      have hud : upS (dnS d (evI t P (wn w) i)) (evI t P (wn w) i) = d := by
        refine tb_ext (up_M hMd (by omega)) hM fun f _ => ?_
        rw [tb_up hMd (by omega), tb_dn hM (by omega)]
        by_cases e : evI t P (wn w) i = f
        · subst e; simp [ht]
        · simp [e]
      rw [hud] at u3
      rw [u3]
      exact .step ih' ((h.freeC hmd hcd).2 ⟨i, hi, hcand, rfl⟩)
theorem PrS.restInj {d d' : Int} (hd : isM P.length d = true) (hc : isConf (structP t [w] P) d = true) (hd' : isM P.length d' = true) (hc' : isConf (structP t [w] P) d' = true) (he : keyN (restP t P (wn w) d) = keyN (restP t P (wn w) d')) : d = d' := by
  have h16 := h.n
  obtain ⟨hM, hb⟩ := isM_spec (by omega) hd
  obtain ⟨hM', hb'⟩ := isM_spec (by omega) hd'
  have hl : ∀ d, (restP t P (wn w) d).length ≤ 24 := fun d => by
    have h1 : (restP t P (wn w) d).length ≤ (wn w).length := by
      unfold restP pkR
      rw [List.length_map]
      have := List.length_filter_le (fun i => !tb d (evI t P (wn w) i)) (List.range (wn w).length)
      rwa [List.length_range] at this
    have := h.v24; omega
  have hcnt := keyN_inj (n := t.length) (fun a ha => h.vl a (h.restM ha)) (fun a ha => h.vl a (h.restM ha)) (hl d) (hl d') he
  have fin : ∀ d, isM P.length d = true → isConf (structP t [w] P) d = true → ∀ i j, i < j → j < (wn w).length → natAt (wn w) i = natAt (wn w) j → (!tb d (evI t P (wn w) i)) = true → (!tb d (evI t P (wn w) j)) = true := fun d hd hc i j hij hj hv hi => by
    cases hdj : tb d (evI t P (wn w) j)
    · rfl
    · have := (h.idl hd).1 hc j i hj hdj (h.posTie hj hij (h.same hj hij hv))
      rw [this] at hi; cases hi
  refine tb_ext hM hM' fun f _ => ?_
  by_cases hf : f < P.length
  · obtain ⟨i, hi, rfl⟩ := h.evSur hf
    have := pk_same (fin d hd hc) (fin d' hd' hc') hcnt hi
    simpa using this
  · rw [hb f (by omega), hb' f (by omega)]
theorem PrS.rstInj {r r' : List Nat} (hr : Rst t (wn w) r) (hr' : Rst t (wn w) r') (he : keyN r = keyN r') : r = r' := by
  obtain ⟨d, h1, h2, rfl⟩ := h.rst.1 hr
  obtain ⟨d', h3, h4, rfl⟩ := h.rst.1 hr'
  rw [h.restInj h1 h2 h3 h4 he]
/-- As many contents as configurations. -/
theorem PrS.keys {K : List Int} (hK : K.Nodup) (hm : ∀ k, k ∈ K ↔ ∃ r, Rst t (wn w) r ∧ k = (keyN (wn w) : Int) - keyN r) : K.length = (allConf (structP t [w] P)).length := by
  have h16 := h.n
  have hlen := h.len
  have hmem : ∀ d, d ∈ allConf (structP t [w] P) ↔ isM P.length d = true ∧ isConf (structP t [w] P) d = true := fun d => by rw [mem_allConf (by omega), hlen]
  have nd : ∀ {α β : Type} {f : α → β} {l : List α}, l.Nodup → (∀ a ∈ l, ∀ b ∈ l, f a = f b → a = b) → (l.map f).Nodup := fun h1 h2 => nodup_mapS h1 h2
  have hp : ((allConf (structP t [w] P)).map fun d => (keyN (wn w) : Int) - keyN (restP t P (wn w) d)).Perm K := by
    refine (List.perm_ext_iff_of_nodup (nd (confL_nodup _ _) fun a ha b hb hab => ?_) hK).2 fun k => ?_
    · obtain ⟨a1, a2⟩ := (hmem a).1 ha
      obtain ⟨b1, b2⟩ := (hmem b).1 hb
      exact h.restInj a1 a2 b1 b2 (by omega)
    · rw [hm, List.mem_map]
      constructor
      · rintro ⟨d, hd, rfl⟩
        obtain ⟨d1, d2⟩ := (hmem d).1 hd
        exact ⟨_, h.rst.2 ⟨d, d1, d2, rfl⟩, rfl⟩
      · rintro ⟨r, hr, rfl⟩
        obtain ⟨d, d1, d2, rfl⟩ := h.rst.1 hr
        exact ⟨d, (hmem d).2 ⟨d1, d2⟩, rfl⟩
  have := hp.length_eq
  rw [List.length_map] at this
  exact this.symm
theorem PrS.keys_le {K : List Int} (hK : K.Nodup) (hm : ∀ k, k ∈ K → ∃ r, Rst t (wn w) r ∧ k = (keyN (wn w) : Int) - keyN r) : K.length ≤ (allConf (structP t [w] P)).length := by
  have h16 := h.n
  have hlen := h.len
  have hsub : ∀ k ∈ K, k ∈ (allConf (structP t [w] P)).map fun d => (keyN (wn w) : Int) - keyN (restP t P (wn w) d) := fun k hk => by
    obtain ⟨r, hr, rfl⟩ := hm k hk
    obtain ⟨d, d1, d2, rfl⟩ := h.rst.1 hr
    exact List.mem_map.2 ⟨d, (mem_allConf (by omega)).2 ⟨by rw [hlen]; exact d1, d2⟩, rfl⟩
  have := hK.length_le_of_subset hsub
  simpa using this
/-! Traces of configurations. -/
theorem PrS.part {c : Int} (hd : isM P.length c = true) (hc : isConf (structP t [w] P) c = true) : Pre t (pkP (fun i => tb c (evI t P (wn w) i)) (wn w)) (wn w) ∧ cmask t P (pkP (fun i => tb c (evI t P (wn w) i)) (wn w)) = c ∧ (pkP (fun i => tb c (evI t P (wn w) i)) (wn w)).length = cardN P.length c := by
  have h16 := h.n
  obtain ⟨hM, hb⟩ := isM_spec (by omega) hd
  have hI := (h.idl hd).1 hc
  have hpre : Pre t (pkP (fun i => tb c (evI t P (wn w) i)) (wn w)) (wn w) := by
    have := pre_sel h.sy h.vl (A := fun i => tb c (evI t P (wn w) i)) (B := fun _ => true) (fun _ _ => rfl) (fun k l hkl hl hA _ htd => hI l k hl hA (h.posTie hl hkl htd))
    rwa [pkP_all] at this
  have hvl : ∀ a ∈ pkP (fun i => tb c (evI t P (wn w) i)) (wn w), a < t.length := fun a ha => h.vl a (hpre.mem ha)
  refine ⟨hpre, ?_, ?_⟩
  · obtain ⟨m1, m2⟩ := h.cm (pkP (fun i => tb c (evI t P (wn w) i)) (wn w))
    refine tb_ext (isM_spec (by omega) m1).1 hM fun f _ => ?_
    rw [m2]
    by_cases hf : f < P.length
    · obtain ⟨i, hi, rfl⟩ := h.evSur hf
      rw [Bool.eq_iff_iff, Bool.and_eq_true, within_iff h.sy hvl, ← h.inPart (D := fun i => tb c (evI t P (wn w) i)) (fun a b ha hD hab => hI a b ha hD hab) hi]
      exact ⟨fun ⟨_, hp⟩ => (Pre.of_sws (h.evPast hi)).trans hp, fun hp => ⟨by simpa using hf, (Pre.of_sws (h.evPast hi).symm).trans hp⟩⟩
    · rw [hb f (by omega)]; simp [hf]
  · unfold pkP cardN
    rw [List.length_map]
    have hp : (((List.range (wn w).length).filter fun i => tb c (evI t P (wn w) i)).map (evI t P (wn w))).Perm ((List.range P.length).filter fun i => tb c i) := by
      refine (List.perm_ext_iff_of_nodup (nodup_mapS (List.nodup_range.filter _) fun a ha b hb hab => h.evInj (List.mem_range.1 (List.mem_filter.1 ha).1) (List.mem_range.1 (List.mem_filter.1 hb).1) hab) (List.nodup_range.filter _)).2 fun e => ?_
      simp only [List.mem_map, List.mem_filter, List.mem_range]
      constructor
      · rintro ⟨i, ⟨hi, h1⟩, rfl⟩; exact ⟨(h.ev hi).1, h1⟩
      · rintro ⟨he, h1⟩
        obtain ⟨i, hi, rfl⟩ := h.evSur he
        exact ⟨i, ⟨hi, h1⟩, rfl⟩
    have := hp.length_eq
    rwa [List.length_map] at this
theorem PrS.fullC : isConf (structP t [w] P) (full P.length) = true := by
  have h16 := h.n
  refine (h.idl h.full_M).2 fun i j hi _ hp => ?_
  have hj : j < (wn w).length := by have := pos_le h.v24 hi hp; omega
  rw [tb_full (by omega)]
  simpa using (h.ev hj).1
theorem PrS.fullPart : pkP (fun i => tb (full P.length) (evI t P (wn w) i)) (wn w) = wn w := by
  have h16 := h.n
  have : pkP (fun i => tb (full P.length) (evI t P (wn w) i)) (wn w) = pkR (fun _ => true) (wn w) (wn w).length := pkR_congr _ fun i hi => by
    rw [tb_full (by omega)]
    simpa using (h.ev hi).1
  rw [this]; exact pkP_all _
end
/-- The least label wins. -/
theorem foldC_min {x : StrucV} {s : Int} : ∀ (l : List Nat) {st : Int × List Int} {m : Nat}, st = (nth x.labels m, [ibits .or .i64 s (pow1 m)]) → (∀ e ∈ l, nth x.labels e ≠ nth x.labels m) → l.Pairwise (fun a b => nth x.labels a ≠ nth x.labels b) →
    ∃ m', l.foldl (stepC x s) st = (nth x.labels m', [ibits .or .i64 s (pow1 m')]) ∧ (m' = m ∨ m' ∈ l) ∧ nth x.labels m' ≤ nth x.labels m ∧ ∀ e ∈ l, nth x.labels m' ≤ nth x.labels e
  | [], st, m, hst, _, _ => ⟨m, hst, .inl rfl, Int.le_refl _, by simp⟩
  | a :: l, st, m, hst, hne, hp => by
    rw [List.foldl_cons]
    have hp' := List.pairwise_cons.1 hp
    have ha := hne a (by simp)
    by_cases hlt : nth x.labels a < nth x.labels m
    · have e : stepC x s st a = (nth x.labels a, [ibits .or .i64 s (pow1 a)]) := by unfold stepC; rw [hst, if_pos hlt]
      obtain ⟨m', k1, k2, k3, k4⟩ := foldC_min l e (fun e he h => hp'.1 e he h.symm) hp'.2
      refine ⟨m', k1, .inr ?_, by omega, fun e he => ?_⟩
      · rcases k2 with rfl | k2
        · simp
        · exact List.mem_cons_of_mem _ k2
      · rcases List.mem_cons.1 he with rfl | he
        · exact k3
        · exact k4 e he
    · have e : stepC x s st a = (nth x.labels m, [ibits .or .i64 s (pow1 m)]) := by unfold stepC; rw [hst, if_neg hlt, if_neg ha]
      obtain ⟨m', k1, k2, k3, k4⟩ := foldC_min l e (fun e he => hne e (List.mem_cons_of_mem _ he)) hp'.2
      refine ⟨m', k1, ?_, k3, fun e he => ?_⟩
      · rcases k2 with rfl | k2
        · exact .inl rfl
        · exact .inr (List.mem_cons_of_mem _ k2)
      · rcases List.mem_cons.1 he with rfl | he
        · omega
        · exact k4 e he
theorem levelC_min {x : StrucV} {c s : Int} (h8 : ∀ e ∈ candL x c s, nth x.labels e < 8) (hp : (candL x c s).Pairwise (fun a b => nth x.labels a ≠ nth x.labels b)) (hne : candL x c s ≠ []) :
    ∃ m, m ∈ candL x c s ∧ levelC x c [s] = (nth x.labels m, [ibits .or .i64 s (pow1 m)]) ∧ ∀ e ∈ candL x c s, nth x.labels m ≤ nth x.labels e := by
  have e : levelC x c [s] = (candL x c s).foldl (stepC x s) (8, []) := rfl
  rw [e]
  generalize candL x c s = l at *
  cases l with
  | nil => exact absurd rfl hne
  | cons a l =>
    have hp' := List.pairwise_cons.1 hp
    have ea : stepC x s (8, []) a = (nth x.labels a, [ibits .or .i64 s (pow1 a)]) := by unfold stepC; rw [if_pos (h8 a (by simp))]
    rw [List.foldl_cons]
    obtain ⟨m', k1, k2, k3, k4⟩ := foldC_min l ea (fun e he h => hp'.1 e he h.symm) hp'.2
    refine ⟨m', ?_, k1, fun e he => ?_⟩
    · rcases k2 with rfl | k2
      · simp
      · exact List.mem_cons_of_mem _ k2
    · rcases List.mem_cons.1 he with rfl | he
      · exact k3
      · exact k4 e he
section
variable {t : List Int} {w : List Int} {P : List (List Int)} (h : PrS t [w] P)
include h
theorem PrS.level {d : Int} (hd : isM P.length d = true) (hc : isConf (structP t [w] P) d = true) (hne : restP t P (wn w) d ≠ []) :
    ∃ d', isM P.length d' = true ∧ isConf (structP t [w] P) d' = true ∧ levelC (structP t [w] P) (full P.length) [d] = (((lfree t (restP t P (wn w) d) : Nat) : Int), [d']) ∧ restP t P (wn w) d' = (restP t P (wn w) d).erase (lfree t (restP t P (wn w) d)) := by
  have h8 := h.n8
  have hlen := h.len
  have hrl : ∀ a ∈ restP t P (wn w) d, a < t.length := fun a ha => h.vl a (h.restM ha)
  obtain ⟨l1, l2, l3⟩ := lfree_spec h.sy.ok hrl hne
  have back : ∀ e, e ∈ candL (structP t [w] P) (full P.length) d → ∃ i, i < (wn w).length ∧ evI t P (wn w) i = e := fun e he => by
    have := (candL_mem he).1
    exact h.evSur (by omega)
  obtain ⟨i0, hi0, c0, e0⟩ := (h.freeC hd hc).1 l2
  have hnd : (candL (structP t [w] P) (full P.length) d).Nodup := List.nodup_range.filter _
  obtain ⟨m, m1, m2, m3⟩ := levelC_min (x := structP t [w] P) (c := full P.length) (s := d) (fun e he => by
    obtain ⟨i, hi, rfl⟩ := back e he
    rw [h.evLab hi]
    have := h.vl _ (natAt_mem hi)
    omega) (by
    refine List.Pairwise.imp_of_mem ?_ hnd
    intro a b ha hb hab he
    obtain ⟨i, hi, rfl⟩ := back a ha
    obtain ⟨j, hj, rfl⟩ := back b hb
    rw [h.evLab hi, h.evLab hj] at he
    rw [h.candLab hd hc hi hj ha hb (by omega)] at hab
    exact hab rfl) (fun e => by rw [e] at c0; cases c0)
  obtain ⟨i, hi, rfl⟩ := back m m1
  obtain ⟨u1, u2, u3⟩ := h.up hd hc hi m1
  have hle := m3 _ c0
  rw [h.evLab hi, h.evLab hi0, e0] at hle
  have hfr := (h.freeC hd hc).2 ⟨i, hi, m1, rfl⟩
  have heq : natAt (wn w) i = lfree t (restP t P (wn w) d) := by
    rcases Nat.lt_or_ge (natAt (wn w) i) (lfree t (restP t P (wn w) d)) with h1 | h1
    · rw [l3 _ h1] at hfr; cases hfr
    · omega
  refine ⟨_, u1, u2, ?_, by rw [u3, heq]⟩
  rw [m2, h.evLab hi, heq]; rfl
theorem PrS.wordK : ∀ k, k ≤ (wn w).length → ∃ d, isM P.length d = true ∧ isConf (structP t [w] P) d = true ∧ wordS (structP t [w] P) (full P.length) k = (nats ((nf t (wn w)).take k), [d]) ∧ nf t (restP t P (wn w) d) = (nf t (wn w)).drop k
  | 0, _ => ⟨0, h.zeroC.1, h.zeroC.2, by simp [wordS, nats], by rw [h.rest0]; rfl⟩
  | k + 1, hk => by
    obtain ⟨d, hd, hc, h1, h2⟩ := PrS.wordK k (by omega)
    have hnl := nf_len h.sy h.vl
    have hrl : ∀ a ∈ restP t P (wn w) d, a < t.length := fun a ha => h.vl a (h.restM ha)
    have hne : restP t P (wn w) d ≠ [] := fun e => by
      have e2 := congrArg List.length h2
      rw [nf_len h.sy hrl, e, List.length_drop, hnl] at e2
      simp at e2; omega
    obtain ⟨d', hd', hc', hl, hr⟩ := h.level hd hc hne
    have hk' : k < (nf t (wn w)).length := by omega
    rw [nf_step h.sy.ok hrl hne, List.drop_eq_getElem_cons hk'] at h2
    injection h2 with h3 h4
    refine ⟨d', hd', hc', ?_, by rw [hr, h4]⟩
    simp only [wordS, h1, hl]
    rw [List.take_succ_eq_append_getElem hk', ← h3, ← nats_append]
    rfl
theorem PrS.wordF : wordC (structP t [w] P) (full P.length) = nats (nf t (wn w)) := by
  have h16 := h.n
  have hpl := h.plen
  have hp : popc (full (P.length : Nat)).toNat = (wn w).length := by
    rw [popc_cardN (by omega) h.full_M]
    unfold cardN
    rw [List.filter_eq_self.2 fun i hi => by rw [tb_full (by omega)]; simpa using hi]
    simpa using hpl
  unfold wordC
  rw [hp]
  obtain ⟨d, _, _, h1, _⟩ := h.wordK _ (Nat.le_refl _)
  rw [h1, List.take_of_length_le (by rw [nf_len h.sy h.vl]; exact Nat.le_refl _)]
theorem PrS.confs_le (h12 : (wn w).length ≤ 12) : (allConf (structP t [w] P)).length ≤ 4096 := by
  have hpl := h.plen
  have hlen := h.len
  have : (allConf (structP t [w] P)).length ≤ 2 ^ P.length := by
    unfold allConf confL
    rw [hlen]
    have := List.length_filter_le (isConf (structP t [w] P)) ((List.range (2 ^ P.length)).map fun (c : Nat) => (c : Int))
    rwa [List.length_map, List.length_range] at this
  have h2 : (2 : Nat) ^ P.length ≤ 2 ^ 12 := Nat.pow_le_pow_right (by omega) (by omega)
  omega
theorem PrS.confs_last : ∃ r, allConf (structP t [w] P) = r ++ [full P.length] := by
  have h16 := h.n
  have hlen := h.len
  have hp := Nat.two_pow_pos P.length
  have hf : full P.length = ((2 ^ P.length - 1 : Nat) : Int) := full_eq (by omega)
  refine ⟨confL (structP t [w] P) (2 ^ P.length - 1), ?_⟩
  unfold allConf
  rw [hlen]
  obtain ⟨k, hk⟩ : ∃ k, 2 ^ P.length = k + 1 := ⟨2 ^ P.length - 1, by omega⟩
  rw [hk, confL_succ, Nat.add_sub_cancel]
  have e : full P.length = (k : Int) := by rw [hf, hk]; simp
  have := h.fullC
  rw [e] at this
  rw [if_pos this, e]
theorem PrS.noBad {x : AlphaV} (hx : x.depends = t) {e f : Nat} (he : e < P.length) (hf : f < P.length) : tsBad x (structP t [w] P) e f = false := by
  obtain ⟨i, hi, rfl⟩ := h.evSur he
  obtain ⟨j, hj, rfl⟩ := h.evSur hf
  have him : immB (structP t [w] P) (evI t P (wn w) i) (evI t P (wn w) j) = false := by unfold immB; rw [h.noClash he]; rfl
  have hd : dLab x (structP t [w] P) (evI t P (wn w) i) (evI t P (wn w) j) = tied t (wn w) i j := by
    unfold dLab depB tied
    rw [h.evLab hi, h.evLab hj, hx]; simp
  have hsym : tied t (wn w) i j = tied t (wn w) j i := h.sy.sym _ _ (h.vl _ (natAt_mem hi)) (h.vl _ (natAt_mem hj))
  unfold tsBad
  rw [him, hd]
  simp only [Bool.or_false, Bool.false_and]
  cases ht : tied t (wn w) i j
  · simp only [Bool.and_false, Bool.false_or, Bool.not_false, Bool.and_true]
    -- nothing covers what is independent
    rw [← Bool.not_eq_true]
    intro hcov
    unfold covB at hcov
    rw [Bool.and_eq_true, List.all_eq_true] at hcov
    obtain ⟨h1, h2⟩ := hcov
    obtain ⟨k1, k2⟩ := (h.evBelow hj hi).1 h1
    rcases (pos_last h.v24 hj i).1 k2 with e | ⟨m, hm, htd, hpm⟩
    · exact k1 e
    · by_cases e : m = i
      · subst e; rw [ht] at htd; cases htd
      · have hml : m < (wn w).length := by omega
        have := h2 (evI t P (wn w) m) (List.mem_range.2 (by rw [h.len]; exact (h.ev hml).1))
        rw [(h.evBelow hj hml).2 ⟨by omega, h.posTie hj hm htd⟩, (h.evBelow hml hi).2 ⟨fun e2 => e e2.symm, hpm⟩] at this
        cases this
  · simp only [Bool.and_true, Bool.not_true, Bool.and_false, Bool.or_false, decide_eq_false_iff_not]
    unfold relOf
    by_cases e : evI t P (wn w) i = evI t P (wn w) j
    · rw [if_pos e]; omega
    · rw [if_neg e]
      have hij : i ≠ j := fun e2 => e (by rw [e2])
      rcases Nat.lt_or_ge i j with h1 | h1
      · rw [if_pos ((h.evBelow hj hi).2 ⟨hij, h.posTie hj h1 ht⟩)]; omega
      · split
        · omega
        · rw [if_pos ((h.evBelow hi hj).2 ⟨fun e2 => hij e2.symm, h.posTie hi (by omega) (by rw [← hsym]; exact ht)⟩)]; omega
theorem PrS.isTrace {x : AlphaV} (hx : isAlphaV x = true) (ht : x.depends = t) : isTraceStructureV x (structP t [w] P) = (true, 0) := by
  have hlab : labOk x (structP t [w] P) = true := by
    unfold labOk
    rw [List.all_eq_true]
    intro y hy
    obtain ⟨e, he, rfl⟩ := List.mem_iff_getElem.1 hy
    rw [← nth_at he]
    have he' : e < P.length := by rw [h.len] at he; exact he
    obtain ⟨l1, l2, l3⟩ := h.label he'
    have := (alOk_of hx).let_
    rw [ht] at this
    simp only [l1, Bool.and_eq_true, decide_eq_true_eq]
    omega
  unfold isTraceStructureV
  rw [if_pos hx, if_pos h.struc, if_pos hlab, tsAll_yes fun e he f hf => h.noBad ht (by rw [h.len] at he; exact he) (by rw [h.len] at hf; exact hf)]
end
theorem keyN_take {u : List Nat} {k : Nat} (h : k < u.length) : keyN (u.take (k + 1)) = keyN (u.take k) + 32 ^ (natAt u k) := by
  rw [List.take_succ_eq_append_getElem h, natAt_at h]
  simp only [keyN, List.map_append, List.map_cons, List.map_nil, List.sum_append, List.sum_cons, List.sum_nil, Nat.add_zero]
theorem contentKey_spec (nn : Bool) (u : List Nat) (hu : ∀ a ∈ u, a < 8) (hl : u.length ≤ 24) : ACalls1 Tryz.prog 176 [.sl 1 nn (ints (nats u))] (iv (keyN u : Nat)) := by
  refine walk (fun _ => false) mixed Go.Proofs.Tryz.func176 rfl rfl rfl (by kernel_rfl) rfl (by simp) (by kernel_rfl) ?_
  simp
  refine awp_loop2 [6, 7] [] (fun k : Nat => [(8, iv k), (3, iv (keyN (u.take k) : Nat))]) (fun _ => []) (fun k => k ≤ u.length) (fun k => u.length - k) 0 (weak_mk some (by simp [keyN]) (by simp) rfl) (by simp) ?_
  intro k hk
  by_cases hlt : k < u.length
  · have hn := nats_nth hlt
    have hm := hu _ (natAt_mem hlt)
    have hs := keyN_take hlt
    have hle := keyN_le (u := u.take k) fun b hb => hu b (List.mem_of_mem_take hb)
    have hll : (u.take k).length ≤ 24 := by rw [List.length_take]; omega
    have hp : pow1 ((5 * natAt u k : Nat) : Int) = ((32 ^ natAt u k : Nat) : Int) := by
      rw [pow1_eq (by omega), Nat.pow_mul]
    have hpl : 32 ^ natAt u k ≤ 34359738368 := Nat.le_trans (Nat.pow_le_pow_right (show 32 > 0 by omega) (show natAt u k ≤ 7 by omega)) (by decide)
    generalize keyN (u.take k) = K at *
    generalize natAt u k = a at *
    simp [hlt, hn]
    repeat (rw [exE_eq]; simp [hlt, hn])
    rw [show IntKind.i64.wrap (5 * (a : Int)) = ((5 * a : Nat) : Int) from by rw [wrap_id _ (by omega) (by omega)]; simp]
    refine ⟨_, one_spec _ (by omega), ?_⟩
    rw [hp]
    generalize 32 ^ a = q at *
    have hadd : IntKind.i64.wrap ((K : Int) + (q : Nat)) = ((K + q : Nat) : Int) := by rw [wrap_id _ (by omega) (by omega)]; simp
    simp [wrap_id ((k : Int) + 1) (by omega) (by omega)]
    exact Round.mk (k + 1) (weak_mk some (by simp [hs, hadd]) (by simp) rfl) hlt (by omega)
  · obtain rfl : k = u.length := by omega
    simp
theorem popc_half (n : Nat) (h : 0 < n) : popc n = n % 2 + popc (n / 2) := by
  obtain ⟨k, hk⟩ : ∃ k, n < 2 ^ (k + 1) := ⟨n, Nat.lt_of_lt_of_le Nat.lt_two_pow_self (Nat.pow_le_pow_right (by omega) (by omega))⟩
  rw [popc_card _ _ hk, popc_card k (n / 2) (by rw [Nat.pow_succ] at hk; omega), List.range_succ_eq_map, List.filter_cons, List.filter_map]
  have e : (fun i => n.testBit i) ∘ Nat.succ = fun i => (n / 2).testBit i := by
    funext i; simp [Function.comp, Nat.testBit_succ]
  rw [e]
  have h0 : n.testBit 0 = decide (n % 2 = 1) := Nat.testBit_zero n
  rw [h0]
  rcases Nat.mod_two_eq_zero_or_one n with h1 | h1 <;> simp [h1] <;> omega
theorem popc_nil : popc 0 = 0 := by rw [popc_card 0 0 (by simp)]; rfl
theorem bits9_spec (c : Nat) (hc : c < 1099511627776) : ACalls1 Tryz.prog 45 [iv c] (iv (popc c : Nat)) := by
  have hb : ∀ m : Nat, popc m ≤ m := by
    intro m
    induction m using Nat.strongRecOn with
    | _ m ih =>
      by_cases h0 : m = 0
      · subst h0; rw [popc_nil]; omega
      · rw [popc_half m (by omega)]
        have := ih (m / 2) (by omega)
        omega
  refine walk (fun _ => false) mixed Go.Proofs.Tryz.func45 rfl rfl rfl (by kernel_rfl) rfl (by simp) (by kernel_rfl) ?_
  simp
  refine awp_loop2 [] [] (fun s : Nat × Nat => [(0, iv s.1), (3, iv s.2)]) (fun _ => []) (fun s => s.2 + popc s.1 = popc c ∧ s.1 ≤ c) (fun s => s.1) (c, 0) (weak_mk some (by simp) (by simp) rfl) (by simp) ?_
  rintro ⟨m, k⟩ ⟨h1, h2⟩
  have hbc := hb c
  by_cases h0 : 0 < m
  · have hh := popc_half m h0
    have w1 : IntKind.i64.wrap ((m : Int) / 2) = ((m / 2 : Nat) : Int) := by rw [wrap_id _ (by omega) (by omega)]; simp
    have w2 : IntKind.i64.wrap ((k : Int) + (m : Int).tmod 2) = ((k + m % 2 : Nat) : Int) := by
      have e : (m : Int).tmod 2 = ((m % 2 : Nat) : Int) := by rw [Int.tmod_eq_emod_of_nonneg (by omega)]; simp
      have hk : k ≤ c := by simp only at h1; omega
      rw [e, wrap_id _ (by omega) (by omega)]; simp
    simp [h0]
    exact Round.mk (m / 2, k + m % 2) (weak_mk some (by simp [w1, w2]) (by simp) rfl) ⟨by simp only at h1 ⊢; omega, by simp only at h2 ⊢; omega⟩ (by simp only; omega)
  · obtain rfl : m = 0 := by omega
    rw [popc_nil] at h1
    simp at h1
    simp [h1]
theorem putI_len {z : Int} {u : Value} : ∀ {m : List (Int × Value)}, m.lookup z = none → (putI z u m).length = m.length + 1
  | [], _ => rfl
  | (k, x) :: m, h => by
    rw [List.lookup_cons] at h
    split at h
    · cases h
    · rename_i e
      have : z ≠ k := by simpa using e
      simp [putI, this, putI_len h]
def rowN (lay : List (List Nat)) (i : Nat) : List Nat := lay.getD i []
theorem rowN_at {lay : List (List Nat)} {i : Nat} (h : i < lay.length) : rowN lay i = lay[i] := by simp [rowN, h]
theorem rowN_mem {lay : List (List Nat)} {i : Nat} (h : i < lay.length) : rowN lay i ∈ lay := by rw [rowN_at h]; exact List.getElem_mem h
theorem nthR_map {lay : List (List Nat)} {i : Nat} (h : i < lay.length) : nthR (lay.map nats) i = nats (rowN lay i) := by rw [nthR_at (by simpa using h), rowN_at h]; simp
def keyI (v r : List Nat) : Int := (keyN v : Int) - keyN r
structure LayOk (t : List Int) (v : List Nat) (j : Nat) (lay : List (List Nat)) (K : List Int) : Prop where
  ly : ∀ r ∈ lay, Rst t v r ∧ r.length + j = v.length
  all : ∀ r, Rst t v r → r.length + j = v.length → r ∈ lay
  nd : K.Nodup
  mem : ∀ k, k ∈ K ↔ ∃ r, Rst t v r ∧ v.length ≤ r.length + j ∧ k = keyI v r
  len : lay.length ≤ K.length
structure MidOk (t : List Int) (v : List Nat) (j : Nat) (nxt : List (List Nat)) (K : List Int) (D : List Nat → Prop) : Prop where
  nx : ∀ r ∈ nxt, Rst t v r ∧ r.length + (j + 1) = v.length
  nd : K.Nodup
  mem : ∀ k, k ∈ K ↔ (∃ r, Rst t v r ∧ v.length ≤ r.length + j ∧ k = keyI v r) ∨ ∃ r ∈ nxt, k = keyI v r
  len : nxt.length ≤ K.length
  dn : ∀ r, D r → r ∈ nxt
theorem rst_same {t : List Int} {v r : List Nat} (h : Rst t v r) (hl : r.length = v.length) : r = v := by
  cases h with
  | base => rfl
  | step h hf =>
    rename_i r a
    have := h.len
    have h2 := List.length_erase_of_mem (isFree_mem hf)
    have h3 : 0 < r.length := List.length_pos_of_mem (isFree_mem hf)
    omega
theorem lay_start (t : List Int) (v : List Nat) : LayOk t v 0 [v] [0] := by
  refine ⟨fun r hr => ?_, fun r hr hl => ?_, by simp, fun k => ?_, by simp⟩
  · rw [List.mem_singleton] at hr; subst hr; exact ⟨.base, rfl⟩
  · rw [List.mem_singleton]; exact rst_same hr hl
  · rw [List.mem_singleton]
    constructor
    · rintro rfl; exact ⟨v, .base, by omega, by unfold keyI; omega⟩
    · rintro ⟨r, hr, hl, rfl⟩
      have := rst_same hr (by have := hr.len; omega)
      subst this; unfold keyI; omega
theorem mid_start {t : List Int} {v : List Nat} {j : Nat} {lay : List (List Nat)} {K : List Int} (h : LayOk t v j lay K) {D : List Nat → Prop} (hD : ∀ r, ¬ D r) : MidOk t v j [] K D :=
  ⟨by simp, h.nd, fun k => by rw [h.mem]; simp, by simp, fun r hr => (hD r hr).elim⟩
theorem mid_more {t : List Int} {v : List Nat} {j : Nat} {nxt : List (List Nat)} {K : List Int} {D D' : List Nat → Prop} (h : MidOk t v j nxt K D) (hD : ∀ r, D' r → D r) : MidOk t v j nxt K D' := ⟨h.nx, h.nd, h.mem, h.len, fun r hr => h.dn r (hD r hr)⟩
section
variable {t : List Int} {v : List Nat} (hinj : ∀ r r', Rst t v r → Rst t v r' → keyN r = keyN r' → r = r')
include hinj
theorem mid_have {j : Nat} {nxt : List (List Nat)} {K : List Int} {D D' : List Nat → Prop} (h : MidOk t v j nxt K D) {r : List Nat} (hr : Rst t v r) (hl : r.length + (j + 1) = v.length) (hk : keyI v r ∈ K) (hD : ∀ q, D' q → D q ∨ q = r) : MidOk t v j nxt K D' := by
  refine ⟨h.nx, h.nd, h.mem, h.len, fun q hq => ?_⟩
  rcases hD q hq with h1 | rfl
  · exact h.dn q h1
  · rcases (h.mem _).1 hk with ⟨r', h1, h2, h3⟩ | ⟨r', h1, h3⟩
    · have := hinj q r' hr h1 (by unfold keyI at h3; omega)
      subst this; omega
    · have := hinj q r' hr (h.nx r' h1).1 (by unfold keyI at h3; omega)
      rw [this]; exact h1
theorem mid_put {j : Nat} {nxt : List (List Nat)} {K : List Int} {D D' : List Nat → Prop} (h : MidOk t v j nxt K D) {r : List Nat} (hr : Rst t v r) (hl : r.length + (j + 1) = v.length) (hk : keyI v r ∉ K) (hD : ∀ q, D' q → D q ∨ q = r) : MidOk t v j (nxt ++ [r]) (K ++ [keyI v r]) D' := by
  refine ⟨fun q hq => ?_, ?_, fun k => ?_, by simp; exact h.len, fun q hq => ?_⟩
  · simp only [List.mem_append, List.mem_singleton] at hq
    rcases hq with hq | rfl
    · exact h.nx q hq
    · exact ⟨hr, hl⟩
  · exact List.nodup_append.2 ⟨h.nd, by simp, fun a ha b hb e => by rw [List.mem_singleton] at hb; subst hb; subst e; exact hk ha⟩
  · simp only [List.mem_append, List.mem_singleton]
    rw [h.mem]
    constructor
    · rintro ((h1 | ⟨q, h1, h2⟩) | rfl)
      · exact .inl h1
      · exact .inr ⟨q, .inl h1, h2⟩
      · exact .inr ⟨r, .inr rfl, rfl⟩
    · rintro (h1 | ⟨q, h1 | rfl, h2⟩)
      · exact .inl (.inl h1)
      · exact .inl (.inr ⟨q, h1, h2⟩)
      · exact .inr h2
  · simp only [List.mem_append, List.mem_singleton]
    rcases hD q hq with h1 | h1
    · exact .inl (h.dn q h1)
    · exact .inr h1
/-- A layer is done. -/
theorem lay_next {j : Nat} {lay nxt : List (List Nat)} {K K' : List Int} (h : LayOk t v j lay K) {D : List Nat → Prop} (hm : MidOk t v j nxt K' D) (hD : ∀ i a, i < lay.length → isFree t (rowN lay i) a = true → D ((rowN lay i).erase a)) : LayOk t v (j + 1) nxt K' := by
  have hall : ∀ r, Rst t v r → r.length + (j + 1) = v.length → r ∈ nxt := by
    intro r hr hl
    cases hr with
    | base => omega
    | step h1 hf =>
      rename_i q a
      have h2 := List.length_erase_of_mem (isFree_mem hf)
      have h3 : 0 < q.length := List.length_pos_of_mem (isFree_mem hf)
      obtain ⟨i, hi, e⟩ := List.mem_iff_getElem.1 (h.all q h1 (by omega))
      rw [← rowN_at hi] at e
      have := hD i a hi (by rw [e]; exact hf)
      rw [e] at this
      exact hm.dn _ this
  refine ⟨hm.nx, hall, hm.nd, fun k => ?_, hm.len⟩
  rw [hm.mem]
  constructor
  · rintro (⟨r, h1, h2, h3⟩ | ⟨r, h1, h2⟩)
    · exact ⟨r, h1, by omega, h3⟩
    · exact ⟨r, (hm.nx r h1).1, by have := (hm.nx r h1).2; omega, h2⟩
  · rintro ⟨r, h1, h2, h3⟩
    by_cases e : v.length ≤ r.length + j
    · exact .inl ⟨r, h1, e, h3⟩
    · exact .inr ⟨r, hall r h1 (by omega), h3⟩
end
theorem lay_end {t : List Int} {v : List Nat} {j : Nat} {K : List Int} (h : LayOk t v j [] K) (k : Int) : k ∈ K ↔ ∃ r, Rst t v r ∧ k = keyI v r := by
  rw [h.mem]
  constructor
  · rintro ⟨r, h1, _, h3⟩; exact ⟨r, h1, h3⟩
  · rintro ⟨r, h1, h3⟩
    refine ⟨r, h1, ?_, h3⟩
    rcases Nat.lt_or_ge (r.length + j) v.length with e | e
    · obtain ⟨q, hq, hl⟩ := h1.up (v.length - j) (by omega) (by omega)
      have := h.all q hq (by omega)
      cases this
    · exact e
theorem countPrefixes_spec (n1 n2 : Bool) (t : List Int) (ht : TOk t) (h8 : t.length ≤ 8) (v : List Nat) (hv : ∀ a ∈ v, a < t.length) (h24 : v.length ≤ 24) (hinj : ∀ r r', Rst t v r → Rst t v r' → keyN r = keyN r' → r = r')
    (hle : ∀ K : List Int, K.Nodup → (∀ k, k ∈ K → ∃ r, Rst t v r ∧ k = keyI v r) → K.length ≤ 65536) (N : Nat) (heq : ∀ K : List Int, K.Nodup → (∀ k, k ∈ K ↔ ∃ r, Rst t v r ∧ k = keyI v r) → K.length = N) :
    ACalls1 Tryz.prog 115 [.sl 1 n1 (ints t), .sl 1 n2 (ints (nats v)), iv 16777216] (iv N) := by
  have hkv := keyN_le (u := v) fun a ha => by have := hv a ha; omega
  refine walk (fun t => t == 3047) mixed Go.Proofs.Tryz.func115 rfl rfl rfl (by kernel_rfl) rfl (by simp) (by kernel_rfl) ?_
  simp
  refine awp_loop2 [0, 1, 2, 7] [] (fun s : Nat × Bool × List (List Nat) × List Int × List (Int × Value) => [(8, .ref 200)]) (fun s => [(200, .own 1 true (srows s.2.1 (s.2.2.1.map nats))), (16, .mp (mI s.2.2.2.2))]) (fun s => LayOk t v s.1 s.2.2.1 s.2.2.2.1 ∧ s.2.2.2.1.length = s.2.2.2.2.length ∧ SeenOk s.2.2.2.1 s.2.2.2.2) (fun s => 100 - s.1) (0, n2, [v], [0], [(0, .bool true)]) (weak_mk (fun t => if t = 200 then some 19 else some t) (by simp) (by simp [mI, srows]) rfl) ⟨lay_start t v, rfl, seen_one _⟩ ?_
  rintro ⟨j, b, lay, K, m⟩ ⟨hL, hlm, hse⟩
  simp only at hL hlm hse
  have hKle := hle K hL.nd fun k hk => by
    obtain ⟨r, h1, _, h3⟩ := (hL.mem k).1 hk
    exact ⟨r, h1, h3⟩
  have hll := hL.len
  by_cases h0 : lay = []
  · subst h0
    have hN := heq K hL.nd (lay_end hL)
    have hw : IntKind.i64.wrap 16777217 = 16777217 := by decide
    simp
    rw [hw, if_neg (by omega)]; omega
  · have hpos : 0 < lay.length := List.length_pos_iff.2 h0
    have hjv : j ≤ v.length := by
      obtain ⟨r, hr⟩ := List.exists_mem_of_ne_nil _ h0
      have := (hL.ly r hr).2; omega
    have hm1 : (m.length : Int) ≤ 16777216 := by omega
    have hm2 : ¬ (16777216 : Int) < (m.length : Int) := by omega
    simp [hpos, h0, hm1, hm2]
    refine awp_loop2 [0, 1, 2, 7, 30, 31] [200] (fun s : Nat × List (List Nat) × List Int × List (Int × Value) => [(32, iv s.1), (9, .ref 201)]) (fun s => [(201, .own 1 true (srows false (s.2.1.map nats))), (16, .mp (mI s.2.2.2))]) (fun s => s.1 ≤ lay.length ∧ MidOk t v j s.2.1 s.2.2.1 (fun r => ∃ i, i < s.1 ∧ ∃ a, isFree t (rowN lay i) a = true ∧ r = (rowN lay i).erase a) ∧ s.2.2.1.length = s.2.2.2.length ∧ SeenOk s.2.2.1 s.2.2.2) (fun s => lay.length - s.1) (0, [], K, m) (weak_mk (fun t => if t = 201 then some 29 else some t) (by simp) (by simp) rfl) ⟨by simp, mid_start hL (by simp), hlm, hse⟩ ?_
    rintro ⟨i, nxt, K1, m1⟩ ⟨hi, hM, hlm1, hse1⟩
    simp only at hi hM hlm1 hse1
    by_cases hil : i < lay.length
    · have hrow := nthR_map hil
      obtain ⟨hR, hRl⟩ := hL.ly _ (rowN_mem hil)
      have hrl : ∀ a ∈ rowN lay i, a < t.length := fun a ha => hv a (hR.mem a ha)
      have hbits := firsts_bits ht hrl
      have hfM := (firsts_spec' ht hrl).1
      have hF := firsts_spec n1 b t ht (rowN lay i) ⟨by omega, hrl⟩
      have hMb := members_spec _ hfM
      rw [hbits] at hMb
      have hfl : (frL t (rowN lay i)).length ≤ 8 := by
        unfold frL
        have := List.length_filter_le (isFree t (rowN lay i)) (List.range t.length)
        rw [List.length_range] at this; omega
      have hfr : ∀ a, a ∈ frL t (rowN lay i) ↔ a < t.length ∧ isFree t (rowN lay i) a = true := fun a => frL_mem
      generalize hri : rowN lay i = r at *
      generalize hfq : frL t r = f at *
      simp [hil, hrow, show i + 1 ≤ lay.length from hil]
      refine ⟨_, hF, ?_⟩
      simp
      refine ⟨_, hMb, ?_⟩
      simp
      refine awp_loop2 [0, 1, 2, 7, 11, 30, 31, 32, 39, 40] [200, 39] (fun s : Nat × List (List Nat) × List Int × List (Int × Value) => [(41, iv s.1), (9, .ref 201)]) (fun s => [(201, .own 1 true (srows false (s.2.1.map nats))), (16, .mp (mI s.2.2.2))]) (fun s => s.1 ≤ f.length ∧ MidOk t v j s.2.1 s.2.2.1 (fun q => (∃ i', i' < i ∧ ∃ a, isFree t (rowN lay i') a = true ∧ q = (rowN lay i').erase a) ∨ ∃ y, y < s.1 ∧ q = r.erase (natAt f y)) ∧ s.2.2.1.length = s.2.2.2.length ∧ SeenOk s.2.2.1 s.2.2.2) (fun s => f.length - s.1) (0, nxt, K1, m1) (weak_mk some (by simp) (by simp) rfl) ⟨by simp, mid_more hM (fun q hq => by
        rcases hq with h1 | ⟨y, hy, _⟩
        · exact h1
        · omega), hlm1, hse1⟩ ?_
      rintro ⟨y, nx2, K2, m2⟩ ⟨hy, hM2, hlm2, hse2⟩
      simp only at hy hM2 hlm2 hse2
      by_cases hyl : y < f.length
      · have hny := nats_nth hyl
        obtain ⟨f1, f2⟩ := (hfr _).1 (natAt_mem hyl)
        have hmem := isFree_mem f2
        have hel := List.length_erase_of_mem hmem
        have hrp : 0 < r.length := List.length_pos_of_mem hmem
        have hRe : Rst t v (r.erase (natAt f y)) := .step hR f2
        have hD : ∀ q, ((∃ i', i' < i ∧ ∃ a, isFree t (rowN lay i') a = true ∧ q = (rowN lay i').erase a) ∨ ∃ z, z < y + 1 ∧ q = r.erase (natAt f z)) → ((∃ i', i' < i ∧ ∃ a, isFree t (rowN lay i') a = true ∧ q = (rowN lay i').erase a) ∨ ∃ z, z < y ∧ q = r.erase (natAt f z)) ∨ q = r.erase (natAt f y) := fun q hq => by
          rcases hq with h1 | ⟨z, hz, h2⟩
          · exact .inl (.inl h1)
          · by_cases e : z = y
            · subst e; exact .inr h2
            · exact .inl (.inr ⟨z, by omega, h2⟩)
        have hle2 := hle K2 hM2.nd fun k hk => by
          rcases (hM2.mem k).1 hk with ⟨q, h1, _, h3⟩ | ⟨q, h1, h3⟩
          · exact ⟨q, h1, h3⟩
          · exact ⟨q, (hM2.nx q h1).1, h3⟩
        have hnl2 := hM2.len
        have hW := withoutFirst_spec b r (by omega) (natAt f y) hmem
        have hC1 := contentKey_spec n2 v (fun a ha => by have := hv a ha; omega) h24
        have hC2 := contentKey_spec false (r.erase (natAt f y)) (fun a ha => by have := hrl a (List.mem_of_mem_erase ha); omega) (by omega)
        have hke := keyN_le (u := r.erase (natAt f y)) fun a ha => by have := hrl a (List.mem_of_mem_erase ha); omega
        have hwk : IntKind.i64.wrap ((keyN v : Int) - (keyN (r.erase (natAt f y)) : Nat)) = keyI v (r.erase (natAt f y)) := by unfold keyI; exact wrap_id _ (by omega) (by omega)
        have hsd := hse2 (keyI v (r.erase (natAt f y)))
        simp [hyl, hny, show y + 1 ≤ f.length from hyl]
        refine ⟨_, hW, ?_⟩
        simp
        refine ⟨_, hC1, ?_⟩
        simp
        refine ⟨_, hC2, ?_⟩
        simp [hwk]
        by_cases hmk : keyI v (r.erase (natAt f y)) ∈ K2
        · rw [if_pos hmk] at hsd
          simp [hsd, wrap_id ((y : Int) + 1) (by omega) (by omega)]
          exact Round.mk (y + 1, nx2, K2, m2) (weak_mk some (by simp) (by simp) rfl) ⟨hyl, mid_have hinj hM2 hRe (by omega) hmk hD, hlm2, hse2⟩ (by simp only; omega)
        · rw [if_neg hmk] at hsd
          simp [hsd, wrap_id ((y : Int) + 1) (by omega) (by omega)]
          repeat (refine And.intro (by omega) ?_)
          exact Round.mk (y + 1, nx2 ++ [r.erase (natAt f y)], K2 ++ [keyI v (r.erase (natAt f y))], putI (keyI v (r.erase (natAt f y))) (.bool true) m2) (weak_mk (fun t => if t = 201 then some 62 else some t) (by simp) (by simp) rfl) ⟨hyl, mid_put hinj hM2 hRe (by omega) hmk hD, by simp only [List.length_append, List.length_cons, List.length_nil]; rw [putI_len hsd]; omega, seen_put hse2 _⟩ (by simp only; omega)
      · obtain rfl : y = f.length := by omega
        simp [wrap_id ((i : Int) + 1) (by omega) (by omega)]
        refine Round.mk (i + 1, nx2, K2, m2) (weak_mk some (by simp) (by simp) rfl) ⟨hil, mid_more hM2 (fun q hq => ?_), hlm2, hse2⟩ (by simp only; omega)
        obtain ⟨i', hi', a, h1, h2⟩ := hq
        by_cases e : i' = i
        · subst e
          rw [hri] at h1 h2
          have hm : a ∈ f := (hfr a).2 ⟨hrl a (isFree_mem h1), h1⟩
          obtain ⟨z, hz, e⟩ := List.mem_iff_getElem.1 hm
          exact .inr ⟨z, hz, by rw [natAt_at hz, e]; exact h2⟩
        · exact .inl ⟨i', by omega, a, h1, h2⟩
    · obtain rfl : i = lay.length := by omega
      simp
      exact Round.mk (j + 1, false, nxt, K1, m1) (weak_mk (fun t => if t = 200 then some 201 else some t) (by simp) (by simp) rfl) ⟨lay_next hinj hL hM (fun i a hi hf => ⟨i, hi, a, hf, rfl⟩), hlm1, hse1⟩ (by simp only; omega)
theorem CountPrefixes_spec (a b : Bool) (x : AlphaV) (hx : isAlphaV x = true) (w : List Int) (hw : overW x.depends.length w = true) (hinj : ∀ r r', Rst x.depends (wn w) r → Rst x.depends (wn w) r' → keyN r = keyN r' → r = r')
    (hle : ∀ K : List Int, K.Nodup → (∀ k, k ∈ K → ∃ r, Rst x.depends (wn w) r ∧ k = keyI (wn w) r) → K.length ≤ 65536) (N : Nat) (heq : ∀ K : List Int, K.Nodup → (∀ k, k ∈ K ↔ ∃ r, Rst x.depends (wn w) r ∧ k = keyI (wn w) r) → K.length = N) :
    ACalls1 Tryz.prog 43 [alphaSl a x, .sl 1 b (ints w)] (.tup [iv N, iv 0]) := by
  obtain ⟨e, hu, h24⟩ := overW_wn hw
  have h8 := (alOk_of hx).len
  have hC := countPrefixes_spec a b x.depends (symT_ofV hx).ok h8 (wn w) hu.2 h24 hinj hle N heq
  rw [← e] at hC
  have hW := fun c => checkWords_yes a b c x hx [w] (by simp) (by simpa using hw)
  refine walk (fun t => t == 2) mixed Go.Proofs.Tryz.func43 rfl rfl rfl (by kernel_rfl) rfl (by simp) (by kernel_rfl) ?_
  simp
  refine ⟨_, hW _, ?_⟩
  simp
  refine ⟨_, ties_spec a x, ?_⟩
  simp
  refine ⟨_, hC, ?_⟩
  simp
theorem weak_openB {l ol : List (Nat × AV)} {n : Nat} (nm d : Nat) {es : List (Value × AV)} (Al Cl : List AV) (h1 : asO ol nm = some (.box (Al ++ .mp es :: Cl))) (hAn : nrfL Al = true) (hCn : nrfL Cl = true) (hd : asO ol d = none)
    (hf : d < 1000000000 ∧ (l.all fun p => noR d p.2) = true ∧ (ol.all fun p => noR d p.2) = true) :
    Weak ⟨asS l, asO ol, n⟩ ⟨asS l, asO ((nm, .box (Al ++ .ref d :: Cl)) :: (d, .mp es) :: ol), n⟩ := by
  rintro P c a w ⟨I, hdr, F, h⟩
  have hne : nm ≠ d := fun e => by rw [e, hd] at h1; cases h1
  have hno : asO ol nm ≠ none := by rw [h1]; simp
  obtain ⟨v, hv, hr⟩ := h.ob nm _ h1
  simp only [Rep] at hr
  obtain ⟨b, C, ty, B', rfl, hB, hC, hr⟩ := hr
  obtain ⟨BA, BX, BC, va, u, vc, rfl, hvs, hA, hX, hCl⟩ := split_row hr
  have hA0 := RepL.nohdr (fun _ => none) _ _ _ hAn hA
  have hC0 := RepL.nohdr (fun _ => none) _ _ _ hCn hCl
  have hnd := h.nd nm hno
  rw [hB] at hnd
  have hndB := List.nodup_cons.1 hnd
  have hnd2 := List.nodup_append.1 hndB.2
  have hnd3 := List.nodup_append.1 hnd2.1
  have hu : u.oneCell' = true := by
    simp only [Rep] at hX
    obtain ⟨_, _, _, _, rfl, _⟩ := hX
    rfl
  have nodupAC : (b :: (BA ++ [] ++ BC)).Nodup := by
    refine List.nodup_cons.2 ⟨fun hb => hndB.1 (by simp at hb ⊢; rcases hb with hb | hb <;> simp [hb]), ?_⟩
    rw [List.append_nil]
    exact List.nodup_append.2 ⟨hnd3.1, hnd2.2.1, fun x hx y hy => hnd2.2.2 x (by simp [hx]) y hy⟩
  have t1 := h.turn (x' := .box (Al ++ .junk :: Cl)) (B' := b :: (BA ++ [] ++ BC)) (w' := w) h1 hv
    (by
      simp only [Rep]
      refine ⟨b, C, ty, BA ++ [] ++ BC, rfl, rfl, hC, ?_⟩
      rw [hvs]
      exact join_row (repL_nohdr_of_none hdr hA0) (by simp [Rep]) (repL_nohdr_of_none hdr hC0))
    (fun _ _ _ => rfl) (Nat.le_refl _) rfl rfl (by first | exact ⟨rfl, Nat.le_refl _⟩ | exact ⟨rfl, Nat.le_succ _⟩) nodupAC (fun x hx => .inl (by rw [hB]; simp at hx ⊢; rcases hx with hx | hx | hx <;> simp [hx]))
  have hfree : St.free (St.node ⟨asS l, asO ol, n⟩ nm (some (.box (Al ++ .junk :: Cl)))) d := by
    obtain ⟨f1, f2, f3⟩ := hf
    rw [List.all_eq_true] at f2 f3
    refine ⟨f1, fun t => ?_, fun k x hx => ?_⟩
    · show noR d (asS l t) = true
      rcases asS_at (l := l) (t := t) with e | ⟨p, hp, _, e⟩
      · rw [e]; rfl
      · rw [← e]; exact f2 p hp
    · simp only [St.node, upd] at hx
      split at hx
      · cases hx
        simp only [noR]
        have gA := noRL_of_nrfL d Al hAn
        have gC := noRL_of_nrfL d Cl hCn
        have app : ∀ q q' : List AV, noRL d q = true → noRL d q' = true → noRL d (q ++ q') = true := by
          intro q q' h1 h2
          induction q with
          | nil => exact h2
          | cons y q ih => simp only [noRL, List.cons_append, Bool.and_eq_true] at h1 ⊢; exact ⟨h1.1, ih h1.2⟩
        exact app _ _ gA (by simp only [noRL, noR, Bool.true_and]; exact gC)
      · obtain ⟨p, hp, _, e⟩ := asO_at hx
        rw [← e]; exact f3 p hp
  have t2 := t1.name hfree (by simp only [St.node, upd]; rw [if_neg (fun e => hne e.symm)]; exact hd) (x := .mp es) (B := BX) (v := u) (by simpa only [Rep] using hX) rfl hu hnd3.2.1
    (fun k hk x hx hxB => by
      by_cases e : k = nm
      · subst e
        rw [upd_same] at hx
        rcases List.mem_cons.1 hx with rfl | hx
        · exact hndB.1 (by simp [hxB])
        · simp at hx
          rcases hx with hx | hx
          · exact hnd3.2.2 x hx x hxB rfl
          · exact hnd2.2.2 x (by simp [hxB]) x hx rfl
      · rw [upd_ne _ _ _ e] at hx
        simp only [St.node, upd] at hk
        rw [if_neg e] at hk
        exact h.dj nm k (fun e' => e e'.symm) hno hk x (by rw [hB]; simp [hxB]) hx)
    (fun x hx => h.oi nm hno x (by rw [hB]; simp [hx])) (fun x hx => h.oo nm hno x (by rw [hB]; simp [hx]))
  have t3 := t2.turn (x' := .box (Al ++ .ref d :: Cl)) (B' := b :: (BA ++ [] ++ BC)) (w' := w) (nm := nm) (x := .box (Al ++ .junk :: Cl)) (v := .pointer (some ⟨b, 0, none⟩))
    (by simp only [St.node, upd]; rw [if_neg hne]; simp) (by rw [upd_ne _ _ _ hne]; exact hv)
    (by
      simp only [Rep]
      refine ⟨b, C, ty, BA ++ [] ++ BC, rfl, rfl, hC, ?_⟩
      rw [hvs]
      exact join_row (repL_nohdr_of_none _ hA0) (by simp only [Rep]; exact ⟨trivial, upd_same _ _ _⟩) (repL_nohdr_of_none _ hC0))
    (fun _ _ _ => rfl) (Nat.le_refl _) rfl rfl (by first | exact ⟨rfl, Nat.le_refl _⟩ | exact ⟨rfl, Nat.le_succ _⟩) nodupAC (fun x hx => .inl (by rw [upd_ne _ _ _ hne, upd_same]; exact hx))
  have e : (St.node (St.node (St.node ⟨asS l, asO ol, n⟩ nm (some (.box (Al ++ .junk :: Cl)))) d (some (.mp es))) nm (some (.box (Al ++ .ref d :: Cl)))) =
      ⟨asS l, asO ((nm, .box (Al ++ .ref d :: Cl)) :: (d, .mp es) :: ol), n⟩ := by
    simp only [St.node]
    congr 1
    funext t
    simp only [upd, asO]
    by_cases e1 : t = nm
    · simp [e1]
    · by_cases e2 : t = d
      · simp [e1, e2]
      · simp [e1, e2]
  rw [e] at t3
  exact ⟨_, _, _, t3⟩
theorem weak_closeB {l ol : List (Nat × AV)} {n : Nat} (nm d : Nat) {es : List (Value × AV)} (Al Cl : List AV) (h1 : asO ol nm = some (.box (Al ++ .ref d :: Cl))) (h2 : asO ol d = some (.mp es)) (hne : nm ≠ d)
    (hA : nrfL Al = true) (hCn : nrfL Cl = true) :
    Weak ⟨asS l, asO ol, n⟩ ⟨asS l, asO ((nm, .box (Al ++ .mp es :: Cl)) :: del' d ol), n⟩ := by
  rintro P c a w ⟨I, hdr, F, h⟩
  have hno : asO ol nm ≠ none := by rw [h1]; simp
  have hdo : asO ol d ≠ none := by rw [h2]; simp
  obtain ⟨v, hv, hr⟩ := h.ob nm _ h1
  simp only [Rep] at hr
  obtain ⟨b, C, ty, B', rfl, hB, hC, hr⟩ := hr
  obtain ⟨BA, BX, BC, va, u, vc, rfl, hvs, hAr, hX, hCl⟩ := split_row hr
  simp only [Rep] at hX
  obtain ⟨rfl, hu⟩ := hX
  obtain ⟨u', hu', hrow⟩ := h.ob d _ h2
  rw [hu] at hu'
  cases hu'
  have hnd := h.nd nm hno
  rw [hB] at hnd
  have hndB := List.nodup_cons.1 hnd
  rw [List.append_nil] at hndB
  have hnd2 := List.nodup_append.1 hndB.2
  have dis : ∀ x, x ∈ F d → x ∉ b :: (BA ++ BC) := fun x hx hb => h.dj d nm (fun e => hne e.symm) hdo hno x hx (by rw [hB]; simpa using hb)
  have t1 := (h.drop d).turn2 (x' := .box (Al ++ .mp es :: Cl)) (B' := b :: (BA ++ F d ++ BC)) (w' := w) (nm := nm) (x := .box (Al ++ .ref d :: Cl)) (v := .pointer (some ⟨b, 0, none⟩))
    (by simp only [St.node, upd]; rw [if_neg hne]; exact h1) hv
    (by
      simp only [Rep]
      refine ⟨b, C, ty, BA ++ F d ++ BC, rfl, rfl, hC, ?_⟩
      rw [hvs]
      exact join_row (RepL.nohdr _ _ _ _ hA hAr) (by simpa only [Rep] using hrow) (RepL.nohdr _ _ _ _ hCn hCl))
    (fun _ _ _ => rfl) (Nat.le_refl _) rfl rfl (by first | exact ⟨rfl, Nat.le_refl _⟩ | exact ⟨rfl, Nat.le_succ _⟩)
    (List.nodup_cons.2 ⟨fun hb => by
        simp at hb
        rcases hb with hb | hb | hb
        · exact hndB.1 (by simp [hb])
        · exact dis b hb (by simp)
        · exact hndB.1 (by simp [hb]),
      List.nodup_append.2 ⟨List.nodup_append.2 ⟨hnd2.1, h.nd d hdo, fun x hx y hy e => dis y hy (by subst e; simp [hx])⟩, hnd2.2.1, fun x hx y hy e => by
        rcases List.mem_append.1 hx with hx | hx
        · exact hnd2.2.2 x hx y hy e
        · exact dis x hx (by subst e; simp [hy])⟩⟩)
    (fun x hx => by
      simp at hx
      rcases hx with rfl | hx | hx | hx
      · exact .inl (by rw [hB]; simp)
      · exact .inl (by rw [hB]; simp [hx])
      · refine .inr (.inr ⟨fun k hk hxk => ?_, h.oi d hdo x hx, h.oo d hdo x hx⟩)
        simp only [St.node, upd] at hk
        split at hk
        · exact hk rfl
        · rename_i e
          exact h.dj d k (fun e' => e e'.symm) hdo hk x hx hxk
      · exact .inl (by rw [hB]; simp [hx]))
  have e : (St.node (St.node ⟨asS l, asO ol, n⟩ d none) nm (some (.box (Al ++ .mp es :: Cl)))) = ⟨asS l, asO ((nm, .box (Al ++ .mp es :: Cl)) :: del' d ol), n⟩ := by
    simp only [St.node]
    congr 1
    funext t
    simp only [asO]
    rw [asO_del']
    simp only [upd]
  rw [e] at t1
  exact ⟨_, _, _, t1⟩
/-- Entries that tell the truth. -/
def CntOk (t : List Int) (v : List Nat) (m : List (Int × Value)) : Prop := ∀ d u, m.lookup d = some u → ∀ r, Rst t v r → (keyN r : Int) = d → u = .int .i64 (cN t r)
theorem cntOk_nil (t : List Int) (v : List Nat) : CntOk t v [] := fun d u h => by simp at h
theorem cntOk_put {t : List Int} {v : List Nat} (hinj : ∀ r r', Rst t v r → Rst t v r' → keyN r = keyN r' → r = r') {m : List (Int × Value)} (h : CntOk t v m) {r : List Nat} (hr : Rst t v r) : CntOk t v (putI (keyN r : Nat) (.int .i64 (cN t r)) m) := by
  intro d u hd q hq hk
  rw [lookup_putI] at hd
  by_cases e : d = (keyN r : Nat)
  · rw [if_pos e] at hd
    have := hinj q r hq hr (by omega)
    subst this; simpa using hd.symm
  · rw [if_neg e] at hd; exact h d u hd q hq hk
theorem count_spec (n1 : Bool) (t : List Int) (ht : TOk t) (h8 : t.length ≤ 8) (v : List Nat) (hv : ∀ a ∈ v, a < t.length) (h24 : v.length ≤ 24) (hinj : ∀ r r', Rst t v r → Rst t v r' → keyN r = keyN r' → r = r')
    (hb : ∀ r, Rst t v r → 0 ≤ cN t r ∧ cN t r ≤ 20922789888000) : ∀ (k : Nat) (r : List Nat), r.length = k → Rst t v r → ∀ (nn : Bool) m, CntOk t v m →
    ∃ m', CntOk t v m' ∧ ACalls2 Tryz.prog 178 [.box [.sl 1 n1 (ints t), .mp (mI m)], .sl 1 nn (ints (nats r))] [.box [.sl 1 n1 (ints t), .mp (mI m')], .sl 1 nn (ints (nats r))] (iv (cN t r)) := by
  intro k
  induction k using Nat.strongRecOn with
  | _ k ih =>
    intro r hk hr nn m hm
    have hrl : ∀ a ∈ r, a < t.length := fun a ha => hv a (hr.mem a ha)
    have hr24 := hr.len
    have hK := contentKey_spec nn r (fun a ha => by have := hrl a ha; omega) (by omega)
    by_cases hr0 : r = []
    · subst hr0
      refine ⟨m, hm, ?_⟩
      refine walkO (fun t => t == 6014 || t == 6026 || t == 6036 || t == 6054) mixed Go.Proofs.Tryz.func178 rfl rfl rfl (by kernel_rfl) (by simp) (by simp) (by simp) (by kernel_rfl) ?_
      simp [cN, cK, nats]
    · have hpos : 0 < r.length := List.length_pos_iff.2 hr0
      cases hl : m.lookup ((keyN r : Nat) : Int) with
      | some u =>
        have hu := hm _ _ hl r hr rfl
        subst hu
        refine ⟨m, hm, ?_⟩
        refine walkO (fun t => t == 6014 || t == 6026 || t == 6036 || t == 6054) mixed Go.Proofs.Tryz.func178 rfl rfl rfl (by kernel_rfl) (by simp) (by simp) (by simp) (by kernel_rfl) ?_
        simp [hr0]
        refine ⟨_, hK, ?_⟩
        simp
        refine WkK.mk (weak_openB 1000000000 300 [.sl 1 n1 (ints t)] [] rfl rfl rfl rfl (by simp [noR])) ?_
        simp [hl]
        refine WkK.mk (weak_closeB 1000000000 300 [.sl 1 n1 (ints t)] [] rfl rfl (by omega) rfl rfl) ?_
        simp [del']
      | none =>
        have hfr : ∀ a, a ∈ frL t r → isFree t r a = true ∧ a ∈ r ∧ Rst t v (r.erase a) ∧ (r.erase a).length < k := fun a ha => by
          have h1 := (frL_mem.1 ha).2
          have h2 := isFree_mem h1
          have h3 := List.length_erase_of_mem h2
          exact ⟨h1, h2, .step hr h1, by omega⟩
        obtain ⟨nx, hnx⟩ : ∃ nx : Nat → List (Int × Value) → List (Int × Value), ∀ a, a ∈ frL t r → ∀ m, CntOk t v m → CntOk t v (nx a m) ∧ ACalls2 Tryz.prog 178 [.box [.sl 1 n1 (ints t), .mp (mI m)], .sl 1 false (ints (nats (r.erase a)))] [.box [.sl 1 n1 (ints t), .mp (mI (nx a m))], .sl 1 false (ints (nats (r.erase a)))] (iv (cN t (r.erase a))) := by
          classical
          have hstep := fun a ha m hm => ih (r.erase a).length (hfr a ha).2.2.2 (r.erase a) rfl (hfr a ha).2.2.1 false m hm
          refine ⟨fun a m => if h : a ∈ frL t r ∧ CntOk t v m then Classical.choose (hstep a h.1 m h.2) else m, fun a ha m hm => ?_⟩
          simp only [dif_pos (show a ∈ frL t r ∧ CntOk t v m from ⟨ha, hm⟩)]
          exact Classical.choose_spec (hstep a ha m hm)
        have hM : ∀ j, j ≤ (frL t r).length → CntOk t v (((frL t r).take j).foldl (fun m a => nx a m) m) := by
          intro j
          induction j with
          | zero => intro _; simpa using hm
          | succ j ihj =>
            intro hj
            rw [foldl_take_succ _ _ _ _ (show j < (frL t r).length by omega)]
            exact (hnx _ (List.getElem_mem _) _ (ihj (by omega))).1
        have hMs : ∀ j (h : j < (frL t r).length), ((frL t r).take (j + 1)).foldl (fun m a => nx a m) m = nx (frL t r)[j] (((frL t r).take j).foldl (fun m a => nx a m) m) := fun j h => foldl_take_succ _ _ _ _ h
        have hS := cN_step (t := t) hr0
        have hSb := fun j hj => sumL_bd (f := fun a => cN t (r.erase a)) (B := 20922789888000) (frL t r) (fun a ha => hb _ (hfr a ha).2.2.1) j hj
        have hSs : ∀ j (h : j < (frL t r).length), sumL (fun a => cN t (r.erase a)) ((frL t r).take (j + 1)) = sumL (fun a => cN t (r.erase a)) ((frL t r).take j) + cN t (r.erase (frL t r)[j]) := fun j h => by
          rw [List.take_succ_eq_append_getElem h, sumL_snoc]
        have hfl : (frL t r).length ≤ 8 := by
          unfold frL
          have := List.length_filter_le (isFree t r) (List.range t.length)
          rw [List.length_range] at this; omega
        have hbits := firsts_bits ht hrl
        have hfrn : ∀ j (h : j < (frL t r).length), nth (nats (frL t r)) j = ((frL t r)[j] : Nat) := fun j h => by rw [nats_nth h, natAt_at h]
        have hfM := (firsts_spec' ht hrl).1
        have hF := firsts_spec n1 nn t ht r ⟨by omega, hrl⟩
        have hMb := members_spec _ hfM
        rw [hbits] at hMb
        generalize hfq : frL t r = f at *
        refine ⟨putI (keyN r : Nat) (.int .i64 (cN t r)) (f.foldl (fun m a => nx a m) m), cntOk_put hinj (by have := hM f.length (Nat.le_refl _); rwa [List.take_length] at this) hr, ?_⟩
        refine walkO (fun t => t == 6014 || t == 6026 || t == 6036 || t == 6047 || t == 6054 || t == 1039 || t == 3043 || t == 2044) mixed Go.Proofs.Tryz.func178 rfl rfl rfl (by kernel_rfl) (by simp) (by simp) (by simp) (by kernel_rfl) ?_
        simp [hr0]
        refine ⟨_, hK, ?_⟩
        simp
        refine WkK.mk (weak_openB 1000000000 300 [.sl 1 n1 (ints t)] [] rfl rfl rfl rfl (by simp [noR])) ?_
        simp [hl]
        refine ⟨_, hF, ?_⟩
        simp
        refine ⟨_, hMb, ?_⟩
        simp
        refine awp_loop2 [0, 1, 5, 33, 34] [33] (fun j : Nat => [(35, iv j), (8, iv (sumL (fun a => cN t (r.erase a)) (f.take j)))]) (fun j => [(1000000000, .box [.sl 1 n1 (ints t), .ref 300]), (300, .mp (mI ((f.take j).foldl (fun m a => nx a m) m)))]) (fun j => j ≤ f.length) (fun j => f.length - j) 0
          (weak_mk some (by simp [sumL]) (by simp) rfl) (by simp) ?_
        intro j hj
        simp
        by_cases hjl : j < f.length
        · refine WkK.mk (weak_closeB 1000000000 300 [.sl 1 n1 (ints t)] [] rfl rfl (by omega) rfl rfl) ?_
          have hsb := hSb j hj
          have hcall := (hnx _ (List.getElem_mem hjl) _ (hM j hj)).2
          have hrj := hfrn j hjl
          have hss := hSs j hjl
          have hms := hMs j hjl
          obtain ⟨g1, g2, g3, g4⟩ := hfr _ (List.getElem_mem hjl)
          have hcb := hb _ g3
          generalize f[j] = a at *
          simp [del', hjl, hrj, show j + 1 ≤ f.length from hjl]
          repeat (rw [exE_eq]; simp [del', hjl, hrj, show j + 1 ≤ f.length from hjl])
          refine ⟨_, withoutFirst_spec nn r (by omega) a g2, ?_⟩
          simp
          refine ⟨_, _, hcall, ?_⟩
          have hw : IntKind.i64.wrap (sumL (fun a => cN t (r.erase a)) (f.take j) + cN t (r.erase a)) = sumL (fun a => cN t (r.erase a)) (f.take j) + cN t (r.erase a) := wrap_id _ (by omega) (by omega)
          have hmn : ¬ (1000000000000001 : Int) < sumL (fun a => cN t (r.erase a)) (f.take j) + cN t (r.erase a) := by omega
          simp [wrap_id ((j : Int) + 1) (by omega) (by omega), hw, hmn]
          repeat (refine And.intro (by first | omega | exact ⟨by kernel_rfl, by kernel_rfl⟩) ?_)
          refine WkK.mk (weak_openB 1000000000 301 [.sl 1 n1 (ints t)] [] rfl rfl rfl rfl (by simp [noR])) ?_
          exact Round.mk (j + 1) (weak_mk (fun t => if t = 300 then some 301 else some t) (by simp [hss]) (by simp [hms]) rfl) hjl (by omega)
        · obtain rfl : j = f.length := by omega
          refine WkK.mk (fun _ _ _ h => h) ?_
          rw [List.take_length, ← hS]
          simp
          refine WkK.mk (weak_closeB 1000000000 300 [.sl 1 n1 (ints t)] [] rfl rfl (by omega) rfl rfl) ?_
          simp [del']
theorem newCounter_spec (a : Bool) (t : List Int) : ACalls1 Tryz.prog 177 [.sl 1 a (ints t)] (.box [.sl 1 a (ints t), .mp []]) := by
  refine walk (fun t => t == 6003) mixed Go.Proofs.Tryz.func177 rfl rfl rfl (by kernel_rfl) rfl (by simp) (by kernel_rfl) ?_
  simp
  refine WkK.mk (weak_closeB 6 4 [.sl 1 a (ints t)] [] rfl rfl (by omega) rfl rfl) ?_
  simp [del']
theorem checkClass_spec (a b : Bool) (x : AlphaV) (hx : isAlphaV x = true) (w : List Int) (hw : overW x.depends.length w = true) (hinj : ∀ r r', Rst x.depends (wn w) r → Rst x.depends (wn w) r' → keyN r = keyN r' → r = r')
    (hb : ∀ r, Rst x.depends (wn w) r → 0 ≤ cN x.depends r ∧ cN x.depends r ≤ 20922789888000) :
    ∃ m, ACalls1 Tryz.prog 117 [alphaSl a x, .sl 1 b (ints w)] (.tup [.box [.sl 1 a (ints x.depends), .mp (mI m)], iv (cN x.depends (wn w)), iv 0]) := by
  obtain ⟨e, hu, h24⟩ := overW_wn hw
  have h8 := (alOk_of hx).len
  obtain ⟨m, _, hC⟩ := count_spec a x.depends (symT_ofV hx).ok h8 (wn w) hu.2 h24 hinj hb _ (wn w) rfl .base b [] (cntOk_nil _ _)
  rw [← e] at hC
  have hW := fun c => checkWords_yes a b c x hx [w] (by simp) (by simpa using hw)
  have hbw := hb (wn w) .base
  refine ⟨m, ?_⟩
  refine walk (fun t => t == 2 || t == 2022) mixed Go.Proofs.Tryz.func117 rfl rfl rfl (by kernel_rfl) rfl (by simp) (by kernel_rfl) ?_
  simp
  refine ⟨_, hW _, ?_⟩
  simp
  refine ⟨_, ties_spec a x, ?_⟩
  simp
  refine ⟨_, newCounter_spec a _, ?_⟩
  simp
  refine ⟨_, _, hC, ?_⟩
  simp [show ¬ (1000000000000000 : Int) < cN x.depends (wn w) by omega]
theorem CountClass_spec (a b : Bool) (x : AlphaV) (hx : isAlphaV x = true) (w : List Int) (hw : overW x.depends.length w = true) (hinj : ∀ r r', Rst x.depends (wn w) r → Rst x.depends (wn w) r' → keyN r = keyN r' → r = r')
    (hb : ∀ r, Rst x.depends (wn w) r → 0 ≤ cN x.depends r ∧ cN x.depends r ≤ 20922789888000) :
    ACalls1 Tryz.prog 48 [alphaSl a x, .sl 1 b (ints w)] (.tup [iv (cN x.depends (wn w)), iv 0]) := by
  obtain ⟨m, hC⟩ := checkClass_spec a b x hx w hw hinj hb
  refine walk (fun t => t == 2) mixed Go.Proofs.Tryz.func48 rfl rfl rfl (by kernel_rfl) rfl (by simp) (by kernel_rfl) ?_
  simp
  refine ⟨_, hC, ?_⟩
  simp
end Go.AM
