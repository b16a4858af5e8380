/-
  Contracts: immediate conflicts.
-/
import Derived.Test.YtimfhkglmiihgaaDoorFnZ
import Derived.Test.YtimfhkglmiihgaaDoorFnR
set_option linter.unusedVariables false
set_option linter.unusedSimpArgs false
set_option maxRecDepth 100000
set_option maxHeartbeats 1600000
namespace Go.AM
open Go.Proofs
/-- What an event `g` does against an immediate conflict of `e` and `f`. -/
def immBad (x : StrucV) (e f g : Nat) : Bool := (tb (nth x.below e) g && (ibits .and .i64 (nth x.clash g) (histOf x f) != 0)) || (tb (nth x.below f) g && (ibits .and .i64 (nth x.clash g) (histOf x e) != 0))
def immB (x : StrucV) (e f : Nat) : Bool := tb (nth x.clash e) f && (List.range x.labels.length).all fun g => !immBad x e f g
theorem hist_M {x : StrucV} (hs : isStructureV x = true) {e : Nat} (he : e < x.labels.length) : M (histOf x e) ∧ (∀ i, tb (histOf x e) i = (tb (nth x.below e) i || decide (e = i))) ∧ ∀ i, x.labels.length ≤ i → tb (histOf x e) i = false := by
  obtain ⟨h1, h2, h3⟩ := struc_len hs
  obtain ⟨m1, _, m3, _⟩ := struc_M hs he
  have hb : ∀ i, tb (histOf x e) i = (tb (nth x.below e) i || decide (e = i)) := fun i => by
    unfold histOf; rw [tb_or m1 (M_pow1 (by omega)), tb_pow1 (by omega)]
  refine ⟨M_or m1 (M_pow1 (by omega)), hb, fun i hi => ?_⟩
  rw [hb, m3 i hi]; simp; omega
theorem struc_irr {x : StrucV} (hs : isStructureV x = true) {e : Nat} (he : e < x.labels.length) : tb (nth x.below e) e = false ∧ tb (nth x.clash e) e = false := by
  have := (isStruc_iff.1 hs).2.2.2.1 e he
  unfold evOk at this
  simp only [Bool.and_eq_true, Bool.not_eq_true'] at this
  exact ⟨this.1.2, this.2⟩
theorem and_ne_iff {a b : Int} (ha : M a) (hb : M b) : ibits .and .i64 a b ≠ 0 ↔ ∃ i, tb a i = true ∧ tb b i = true := by
  rw [Ne, and_zero_iff ha hb]
  constructor
  · intro h
    obtain ⟨i, hi⟩ := Classical.not_forall.1 h
    refine ⟨i, ?_, ?_⟩
    · cases h1 : tb a i
      · exact absurd (fun h' => by rw [h1] at h'; cases h') hi
      · rfl
    · cases h1 : tb b i
      · exact absurd (fun _ => h1) hi
      · rfl
  · rintro ⟨i, h1, h2⟩ h
    rw [h i h1] at h2; cases h2
theorem imm_iff {x : StrucV} (hs : isStructureV x = true) {e f : Nat} (he : e < x.labels.length) (hf : f < x.labels.length) :
    immB x e f = true ↔ tb (nth x.clash e) f = true ∧ ∀ a b, tb (histOf x e) a = true → tb (nth x.clash a) b = true → tb (histOf x f) b = true → a = e ∧ b = f := by
  obtain ⟨h1, h2, h3⟩ := struc_len hs
  obtain ⟨me, be, ze⟩ := hist_M hs he
  obtain ⟨mf, bf, zf⟩ := hist_M hs hf
  unfold immB immBad
  simp only [Bool.and_eq_true, List.all_eq_true, List.mem_range, Bool.not_eq_true', Bool.or_eq_false_iff, Bool.and_eq_false_iff, bne_eq_false_iff_eq]
  constructor
  · rintro ⟨hc, h⟩
    refine ⟨hc, fun a b ha hab hb => ?_⟩
    have han : a < x.labels.length := Nat.lt_of_not_le fun hle => by rw [ze a hle] at ha; cases ha
    have hbn : b < x.labels.length := Nat.lt_of_not_le fun hle => by rw [zf b hle] at hb; cases hb
    have hae : a = e := by
      rcases (h a han).1 with h' | h'
      · rw [be, h'] at ha; simp at ha; exact ha.symm
      · exfalso
        have := (and_zero_iff (struc_M hs han).2.1 mf).1 h' b hab
        rw [hb] at this; cases this
    subst hae
    refine ⟨rfl, ?_⟩
    rcases (h b hbn).2 with h' | h'
    · rw [bf, h'] at hb; simp at hb; exact hb.symm
    · exfalso
      have := (and_zero_iff (struc_M hs hbn).2.1 me).1 h' a (by rw [struc_sym hs hbn han]; exact hab)
      rw [ha] at this; cases this
  · rintro ⟨hc, h⟩
    refine ⟨hc, fun g hg => ⟨?_, ?_⟩⟩
    · cases hb : tb (nth x.below e) g
      · exact .inl rfl
      · right
        rw [and_zero_iff (struc_M hs hg).2.1 mf]
        intro i hi
        cases hfi : tb (histOf x f) i
        · rfl
        · have := (h g i (by rw [be, hb]; rfl) hi hfi).1
          subst this
          rw [(struc_irr hs he).1] at hb; cases hb
    · cases hb : tb (nth x.below f) g
      · exact .inl rfl
      · right
        rw [and_zero_iff (struc_M hs hg).2.1 me]
        intro i hi
        cases hei : tb (histOf x e) i
        · rfl
        · have hin : i < x.labels.length := Nat.lt_of_not_le fun hle => by rw [ze i hle] at hei; cases hei
          have := (h i g hei (by rw [struc_sym hs hin hg]; exact hi) (by rw [bf, hb]; rfl)).2
          subst this
          rw [(struc_irr hs hf).1] at hb; cases hb
theorem imm_no {x : StrucV} (hs : isStructureV x = true) {e f : Nat} (he : e < x.labels.length) (hf : f < x.labels.length) (a b : Nat) (ha : tb (histOf x e) a = true) (hab : tb (nth x.clash a) b = true) (hb : tb (histOf x f) b = true) (h : ¬ (a = e ∧ b = f)) : immB x e f = false := by
  rw [← Bool.not_eq_true, imm_iff hs he hf]
  exact fun hh => h (hh.2 a b ha hab hb)
/-- The immediate conflicts of one event with later ones below `m`. -/
def rowsE (x : StrucV) (e m : Nat) : List (List Int) := ((List.range m).filter fun f => decide (e < f) && immB x e f).map fun (f : Nat) => [(e : Int), (f : Int)]
def rowsU (x : StrucV) (m : Nat) : List (List Int) := (List.range m).flatMap fun e => rowsE x e x.labels.length
def immediateClashesV (x : StrucV) : List (List Int) × Int := if isStructureV x then (rowsU x x.labels.length, 0) else ([], 1)
theorem rowsE_start (x : StrucV) (e : Nat) : rowsE x e (e + 1) = [] := by
  unfold rowsE
  rw [List.map_eq_nil_iff, List.filter_eq_nil_iff]
  intro f hf
  rw [List.mem_range] at hf
  simp; omega
theorem rowsE_succ (x : StrucV) (e f : Nat) (h : e < f) : rowsE x e (f + 1) = if immB x e f then rowsE x e f ++ [[(e : Int), (f : Int)]] else rowsE x e f := by
  unfold rowsE
  rw [range_filter_succ]
  cases hb : immB x e f <;> simp [h]
theorem rowsU_succ (x : StrucV) (e : Nat) : rowsU x (e + 1) = rowsU x e ++ rowsE x e x.labels.length := by
  unfold rowsU; rw [List.range_succ, List.flatMap_append]; simp
theorem rowsE_length (x : StrucV) (e m : Nat) : (rowsE x e m).length ≤ m := by
  unfold rowsE
  rw [List.length_map]
  exact Nat.le_trans (List.length_filter_le _ _) (by simp)
theorem rowsU_length (x : StrucV) (h : x.labels.length ≤ 16) : ∀ m, (rowsU x m).length ≤ 16 * m
  | 0 => by simp [rowsU]
  | m + 1 => by
    have := rowsU_length x h m
    have := rowsE_length x m x.labels.length
    rw [rowsU_succ, List.length_append]; omega
theorem total_le {n : Nat} : ∀ {rs : List (List Int)}, (∀ r ∈ rs, r.length ≤ n) → total rs ≤ rs.length * n
  | [], _ => by simp [total]
  | r :: rs, h => by
    have h1 := h r (by simp)
    have h2 := total_le (rs := rs) fun q hq => h q (by simp [hq])
    simp only [total, List.length_cons, Nat.succ_mul]
    omega
theorem ImmediateClashes_fits (x : StrucV) (hx : StructureOk x) : RowsOk (immediateClashesV x).1 := by
  unfold immediateClashesV
  split
  · rename_i hs
    obtain ⟨h1, h2, h3⟩ := struc_len hs
    have hl := rowsU_length x h1 x.labels.length
    have hm : ∀ r ∈ rowsU x x.labels.length, ∃ e f : Nat, e < 16 ∧ f < 16 ∧ r = [(e : Int), (f : Int)] := fun r hr => by
      unfold rowsU rowsE at hr
      obtain ⟨e, he, hr⟩ := List.mem_flatMap.1 hr
      obtain ⟨f, hf, rfl⟩ := List.mem_map.1 hr
      rw [List.mem_range] at he
      rw [List.mem_filter, List.mem_range] at hf
      exact ⟨e, f, by omega, by omega, rfl⟩
    refine ⟨by simp only; omega, ?_, fun r hr => ?_⟩
    · have := total_le (n := 2) (rs := rowsU x x.labels.length) fun r hr => by obtain ⟨e, f, _, _, rfl⟩ := hm r hr; simp
      simp only; omega
    · obtain ⟨e, f, he, hf, rfl⟩ := hm r hr
      refine ⟨by simp [Fits], fun y hy => ?_⟩
      simp at hy
      unfold I64
      rcases hy with rfl | rfl <;> omega
  · simp [RowsOk, total]
end Go.AM
