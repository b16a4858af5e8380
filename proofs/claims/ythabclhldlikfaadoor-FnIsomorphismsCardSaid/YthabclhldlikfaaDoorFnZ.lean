/-
  Contracts: what is left behind a configuration.
-/
import Derived.Test.YthabclhldlikfaaDoorFnY
import Derived.Test.YthabclhldlikfaaDoorFnNt
set_option linter.unusedVariables false
set_option linter.unusedSimpArgs false
set_option maxRecDepth 100000
set_option maxHeartbeats 1600000
namespace Go.AM
open Go.Proofs
/-- Masks joined. -/
def orAll (f : Int → Int) (g : Int) (l : List Int) : Int := l.foldl (fun g y => ibits .or .i64 g (f y)) g
theorem orAll_M {f : Int → Int} : ∀ {l : List Int} {g : Int}, M g → (∀ y ∈ l, M (f y)) → M (orAll f g l)
  | [], g, hg, _ => hg
  | y :: l, g, hg, h => orAll_M (l := l) (M_or hg (h y (by simp))) (fun z hz => h z (by simp [hz]))
theorem tb_orAll {f : Int → Int} (i : Nat) : ∀ {l : List Int} {g : Int}, M g → (∀ y ∈ l, M (f y)) → tb (orAll f g l) i = (tb g i || l.any fun y => tb (f y) i)
  | [], g, hg, _ => by simp [orAll]
  | y :: l, g, hg, h => by
    have := tb_orAll (f := f) i (l := l) (M_or hg (h y (by simp))) (fun z hz => h z (by simp [hz]))
    unfold orAll at *
    rw [List.foldl_cons, this, tb_or hg (h y (by simp)), List.any_cons, Bool.or_assoc]
theorem orAll_succ (f : Int → Int) (g : Int) (l : List Int) (k : Nat) (h : k < l.length) : orAll f g (l.take (k + 1)) = ibits .or .i64 (orAll f g (l.take k)) (f (nth l k)) := by
  unfold orAll; rw [foldl_take_succ _ _ _ _ h, nth_at h]
theorem and_zero_iff {a b : Int} (ha : M a) (hb : M b) : ibits .and .i64 a b = 0 ↔ ∀ i, tb a i = true → tb b i = false := by
  rw [eq_zero_iff (M_and ha hb)]
  constructor
  · intro h i hi
    have := h i
    rw [tb_and ha hb, hi] at this
    simpa using this
  · intro h i
    rw [tb_and ha hb]
    cases hi : tb a i
    · rfl
    · simp [h i hi]
/-- The events that can still happen. -/
def leftL (x : StrucV) (c : Int) : List Nat := (List.range x.labels.length).filter fun e => !tb c e && (ibits .and .i64 (nth x.clash e) c == 0)
def shrinkL (m : Int) (L : List Nat) : Int := orMask 0 (fun i => tb m (natAt L i)) L.length
theorem leftL_lt {x : StrucV} {c : Int} : ∀ e ∈ leftL x c, e < x.labels.length := fun e he => by
  unfold leftL at he
  simp only [List.mem_filter, List.mem_range] at he
  exact he.1
theorem leftL_length (x : StrucV) (c : Int) : (leftL x c).length ≤ x.labels.length := by
  unfold leftL
  exact Nat.le_trans (List.length_filter_le _ _) (by simp)
theorem struc_sym {x : StrucV} (hs : isStructureV x = true) {e f : Nat} (he : e < x.labels.length) (hf : f < x.labels.length) : tb (nth x.clash e) f = tb (nth x.clash f) e := by
  have := (isStruc_iff.1 hs).2.2.2.2 e he f hf
  unfold pairOk at this
  simp only [Bool.and_eq_true, beq_iff_eq] at this
  exact this.2
theorem left_bits {x : StrucV} (hs : isStructureV x = true) {c : Int} (hc : isM x.labels.length c = true) : bitsOf (ibits .andNot .i64 (full x.labels.length) (orAll (fun y => nth x.clash y.toNat) c (bitsOf c))) = nats (leftL x c) := by
  obtain ⟨h1, h2, h3⟩ := struc_len hs
  obtain ⟨hM, hb⟩ := isM_spec (by omega) hc
  have hcl : ∀ y ∈ bitsOf c, M (nth x.clash y.toNat) := fun y hy => by
    obtain ⟨k, rfl, hk, ht⟩ := bitsOf_mem hy
    have : k < x.labels.length := Nat.lt_of_not_le fun hle => by rw [hb k hle] at ht; cases ht
    exact (struc_M hs (by simpa using this)).2.1
  have hg := orAll_M hM hcl
  have hf := M_full (n := x.labels.length) (by omega)
  rw [bits_eq (n := x.labels.length) (by omega) (fun i hi => by rw [tb_andNot hf hg, tb_full (by omega)]; simp; omega)]
  unfold nats leftL
  congr 1
  apply List.filter_congr
  intro e he
  rw [List.mem_range] at he
  rw [tb_andNot hf hg, tb_full (by omega), tb_orAll e hM hcl]
  obtain ⟨_, m2, _, m4, _⟩ := struc_M hs he
  have key : ((bitsOf c).any fun y => tb (nth x.clash y.toNat) e) = !(ibits .and .i64 (nth x.clash e) c == 0) := by
    rw [Bool.eq_iff_iff]
    simp only [List.any_eq_true, Bool.not_eq_true', beq_eq_false_iff_ne, ne_eq]
    rw [and_zero_iff m2 hM]
    constructor
    · rintro ⟨y, hy, ht⟩ hall
      obtain ⟨k, rfl, hk, hkt⟩ := bitsOf_mem hy
      have hkn : k < x.labels.length := Nat.lt_of_not_le fun hle => by rw [hb k hle] at hkt; cases hkt
      rw [Int.toNat_natCast, struc_sym hs hkn he] at ht
      rw [hall k ht] at hkt; cases hkt
    · intro hn
      obtain ⟨i, hi⟩ := Classical.not_forall.1 hn
      have hi1 : tb (nth x.clash e) i = true := by
        cases h : tb (nth x.clash e) i
        · exact absurd (fun h' => by rw [h] at h'; cases h') hi
        · rfl
      have hi2 : tb c i = true := by
        cases h : tb c i
        · exact absurd (fun _ => h) hi
        · rfl
      have hin : i < x.labels.length := Nat.lt_of_not_le fun hle => by rw [hb i hle] at hi2; cases hi2
      exact ⟨(i : Int), mem_bits.2 ⟨by omega, hi2⟩, by rw [Int.toNat_natCast, struc_sym hs hin he]; exact hi1⟩
  rw [key]
  simp [he]
theorem l16Shrink_spec (nn : Bool) (L : List Nat) (hL : L.length ≤ 24) (hb : ∀ e ∈ L, e < 1000) (m : Int) (hm : M m) : ACalls1 Tryd.prog 15 [iv m, .sl 1 nn (ints (nats L))] (iv (shrinkL m L)) := by
  refine walk (fun _ => false) mixed Go.Proofs.Tryd.func15 rfl rfl rfl (by kernel_rfl) rfl (by simp) (by kernel_rfl) ?_
  simp
  refine awp_loop2 [0, 1] [] (fun k : Nat => [(6, iv k), (5, iv (orMask 0 (fun i => tb m (natAt L i)) k))]) (fun _ => []) (fun k => k ≤ L.length) (fun k => L.length - k) 0 (weak_mk some (by simp [orMask]) (by simp) rfl) (by simp) ?_
  intro k hk
  by_cases hlt : k < L.length
  · have he : natAt L k < 1000 := hb _ (natAt_mem hlt)
    simp [hlt, nats_nth hlt]
    refine ⟨_, l01Bit_spec m hm (natAt L k) (by omega), ?_⟩
    cases ht : tb m (natAt L k)
    · simp [wrap_id ((k : Int) + 1) (by omega) (by omega)]
      exact Round.mk (k + 1) (weak_mk some (by simp [orMask, ht]) (by simp) rfl) hlt (by omega)
    · simp
      refine ⟨_, l01One_spec k (by unfold I64; omega), ?_⟩
      simp [wrap_id ((k : Int) + 1) (by omega) (by omega)]
      exact Round.mk (k + 1) (weak_mk some (by simp [orMask, ht]) (by simp) rfl) hlt (by omega)
  · obtain rfl : k = L.length := by omega
    simp [shrinkL]
/-- The lists of the structure that is left. -/
def aftB (x : StrucV) (L : List Nat) : List Int := L.map fun e => shrinkL (nth x.below e) L
def aftC (x : StrucV) (L : List Nat) : List Int := L.map fun e => shrinkL (nth x.clash e) L
def aftL (x : StrucV) (L : List Nat) : List Int := L.map fun e => nth x.labels e
def afterConfigurationV (x : StrucV) (c : Int) : StrucV × Int := if maskCode x c = 0 then (⟨aftB x (leftL x c), aftC x (leftL x c), aftL x (leftL x c)⟩, 0) else (⟨[], [], []⟩, maskCode x c)
theorem map_take_succ (f : Nat → Int) (L : List Nat) (k : Nat) (h : k < L.length) : (L.take (k + 1)).map f = (L.take k).map f ++ [f (natAt L k)] := by
  rw [List.take_succ_eq_append_getElem h, List.map_append, natAt_at h]; rfl
theorem I64_of_M {m : Int} (h : M m) : I64 m := ⟨by have := h.1; omega, by have := h.2; omega⟩
theorem AfterConfiguration_fits (x : StrucV) (hx : StructureOk x) (c : Int) (hc : I64 c) : StructureOk (afterConfigurationV x c).1 := by
  unfold afterConfigurationV
  split
  · rename_i h
    obtain ⟨hs, hb, hcf, _⟩ := maskCode_zero h
    obtain ⟨h1, h2, h3⟩ := struc_len hs
    have hLl := leftL_length x c
    have hLm := leftL_lt (x := x) (c := c)
    have key : ∀ m, M (shrinkL m (leftL x c)) := fun m => M_orMask _ M_zero _ (by omega)
    refine ⟨⟨by simp [Fits, aftB]; omega, fun y hy => ?_⟩, ⟨by simp [Fits, aftC]; omega, fun y hy => ?_⟩, ⟨by simp [Fits, aftL]; omega, fun y hy => ?_⟩⟩
    · obtain ⟨e, he, rfl⟩ := List.mem_map.1 hy
      exact I64_of_M (key _)
    · obtain ⟨e, he, rfl⟩ := List.mem_map.1 hy
      exact I64_of_M (key _)
    · obtain ⟨e, he, rfl⟩ := List.mem_map.1 hy
      have := struc_lab hs _ (nth_mem (hLm e he))
      unfold I64; omega
  · simp [StructureOk, ListOk, Fits]
end Go.AM
