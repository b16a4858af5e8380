/-
  Masks: whole numbers from 0 to below 2^63 as sets of places.
-/
import Derived.Test.YtmpdpjpebekfkaaDoorAmList
set_option linter.unusedVariables false
set_option linter.unusedSimpArgs false
namespace Go.AM
theorem i64_of_wf {n : Int} (h : (Lit.int .i64 n).wf = true) : -9223372036854775808 ≤ n ∧ n ≤ 9223372036854775807 := by
  simp only [Lit.wf, Bool.and_eq_true, decide_eq_true_eq] at h
  exact h
theorem wrap_sub1 (n : Nat) (h : n < 1099511627776) : IntKind.i64.wrap ((n : Int) - 1) = n - 1 := wrap_id _ (by omega) (by omega)
/-- A mask. -/
def M (x : Int) : Prop := 0 ≤ x ∧ x < 9223372036854775808
/-- Whether a mask has a place. -/
def tb (x : Int) (i : Nat) : Bool := x.toNat.testBit i
theorem M_nat {x : Int} (h : M x) : ∃ n : Nat, x = n ∧ n < 2 ^ 63 := ⟨x.toNat, by have := h.1; omega, by have := h.1; have := h.2; omega⟩
theorem M_zero : M 0 := by unfold M; omega
@[simp] theorem tb_zero (i : Nat) : tb 0 i = false := by simp [tb]
theorem tb_ext {x y : Int} (hx : M x) (hy : M y) (h : ∀ i, i < 63 → tb x i = tb y i) : x = y := by
  obtain ⟨n, rfl, hn⟩ := M_nat hx
  obtain ⟨m, rfl, hm⟩ := M_nat hy
  congr 1
  apply Nat.eq_of_testBit_eq
  intro i
  by_cases hi : i < 63
  · simpa [tb] using h i hi
  · rw [Nat.testBit_lt_two_pow (Nat.lt_of_lt_of_le hn (Nat.pow_le_pow_right (by omega) (by omega))), Nat.testBit_lt_two_pow (Nat.lt_of_lt_of_le hm (Nat.pow_le_pow_right (by omega) (by omega)))]
theorem tb_high {x : Int} (hx : M x) {i : Nat} (hi : 63 ≤ i) : tb x i = false := by
  obtain ⟨n, rfl, hn⟩ := M_nat hx
  simp only [tb, Int.toNat_natCast]
  exact Nat.testBit_lt_two_pow (Nat.lt_of_lt_of_le hn (Nat.pow_le_pow_right (by omega) hi))
theorem wrap_M {x : Int} (h : M x) : IntKind.i64.wrap x = x := wrap_id _ (by have := h.1; omega) (by have := h.2; omega)
theorem ofInt_toNat (n : Nat) (h : n < 2 ^ 64) : (BitVec.ofInt 64 (n : Int)).toNat = n := by
  rw [BitVec.ofInt_natCast, BitVec.toNat_ofNat]; exact Nat.mod_eq_of_lt h
theorem p63 : (2 : Nat) ^ 63 = 9223372036854775808 := by decide
theorem p64 : (2 : Nat) ^ 64 = 18446744073709551616 := by decide
theorem M_cast {n : Nat} (h : n < 2 ^ 63) : M (n : Int) := by rw [p63] at h; unfold M; omega
theorem ib_and (a b : Nat) (ha : a < 2 ^ 63) (hb : b < 2 ^ 63) : ibits .and .i64 (a : Int) (b : Int) = ((a &&& b : Nat) : Int) := by
  show IntKind.i64.wrap ((BitVec.ofInt 64 (a : Int) &&& BitVec.ofInt 64 (b : Int)).toNat : Int) = _
  rw [BitVec.toNat_and, ofInt_toNat a (by omega), ofInt_toNat b (by omega)]
  exact wrap_M (M_cast (Nat.and_lt_two_pow _ hb))
theorem ib_or (a b : Nat) (ha : a < 2 ^ 63) (hb : b < 2 ^ 63) : ibits .or .i64 (a : Int) (b : Int) = ((a ||| b : Nat) : Int) := by
  show IntKind.i64.wrap ((BitVec.ofInt 64 (a : Int) ||| BitVec.ofInt 64 (b : Int)).toNat : Int) = _
  rw [BitVec.toNat_or, ofInt_toNat a (by omega), ofInt_toNat b (by omega)]
  exact wrap_M (M_cast (Nat.or_lt_two_pow ha hb))
theorem ib_andNot (a b : Nat) (ha : a < 2 ^ 63) (hb : b < 2 ^ 63) : ibits .andNot .i64 (a : Int) (b : Int) = ((a ^^^ (a &&& b) : Nat) : Int) := by
  show IntKind.i64.wrap ((BitVec.ofInt 64 (a : Int) &&& ~~~ BitVec.ofInt 64 (b : Int)).toNat : Int) = _
  have h2 : (BitVec.ofInt 64 (a : Int) &&& ~~~ BitVec.ofInt 64 (b : Int)).toNat = a ^^^ (a &&& b) := by
    apply Nat.eq_of_testBit_eq
    intro i
    have ea : (BitVec.ofInt 64 (a : Int)).toNat.testBit i = a.testBit i := by rw [ofInt_toNat a (by omega)]
    have eb : (BitVec.ofInt 64 (b : Int)).toNat.testBit i = b.testBit i := by rw [ofInt_toNat b (by omega)]
    rw [BitVec.testBit_toNat] at ea eb ⊢
    simp only [BitVec.getLsbD_and, BitVec.getLsbD_not, Nat.testBit_xor, Nat.testBit_and, ea, eb]
    by_cases hi : i < 64
    · simp [hi]; cases a.testBit i <;> cases b.testBit i <;> rfl
    · have : a.testBit i = false := Nat.testBit_lt_two_pow (Nat.lt_of_lt_of_le ha (Nat.pow_le_pow_right (by omega) (by omega)))
      simp [this]
  rw [h2]
  exact wrap_M (M_cast (Nat.xor_lt_two_pow ha (Nat.and_lt_two_pow _ hb)))
theorem M_and {x y : Int} (hx : M x) (hy : M y) : M (ibits .and .i64 x y) := by
  obtain ⟨n, rfl, hn⟩ := M_nat hx
  obtain ⟨m, rfl, hm⟩ := M_nat hy
  rw [ib_and n m hn hm]; exact M_cast (Nat.and_lt_two_pow _ hm)
theorem M_or {x y : Int} (hx : M x) (hy : M y) : M (ibits .or .i64 x y) := by
  obtain ⟨n, rfl, hn⟩ := M_nat hx
  obtain ⟨m, rfl, hm⟩ := M_nat hy
  rw [ib_or n m hn hm]; exact M_cast (Nat.or_lt_two_pow hn hm)
theorem M_andNot {x y : Int} (hx : M x) (hy : M y) : M (ibits .andNot .i64 x y) := by
  obtain ⟨n, rfl, hn⟩ := M_nat hx
  obtain ⟨m, rfl, hm⟩ := M_nat hy
  rw [ib_andNot n m hn hm]; exact M_cast (Nat.xor_lt_two_pow hn (Nat.and_lt_two_pow _ hm))
theorem tb_and {x y : Int} (hx : M x) (hy : M y) (i : Nat) : tb (ibits .and .i64 x y) i = (tb x i && tb y i) := by
  obtain ⟨n, rfl, hn⟩ := M_nat hx
  obtain ⟨m, rfl, hm⟩ := M_nat hy
  rw [ib_and n m hn hm]; simp [tb]
theorem tb_or {x y : Int} (hx : M x) (hy : M y) (i : Nat) : tb (ibits .or .i64 x y) i = (tb x i || tb y i) := by
  obtain ⟨n, rfl, hn⟩ := M_nat hx
  obtain ⟨m, rfl, hm⟩ := M_nat hy
  rw [ib_or n m hn hm]; simp [tb]
theorem tb_andNot {x y : Int} (hx : M x) (hy : M y) (i : Nat) : tb (ibits .andNot .i64 x y) i = (tb x i && !tb y i) := by
  obtain ⟨n, rfl, hn⟩ := M_nat hx
  obtain ⟨m, rfl, hm⟩ := M_nat hy
  rw [ib_andNot n m hn hm]
  simp only [tb, Int.toNat_natCast, Nat.testBit_xor, Nat.testBit_and]
  cases n.testBit i <;> cases m.testBit i <;> rfl
/-- The mask of one member. -/
def pow1 (i : Int) : Int := if 0 ≤ i ∧ i < 64 then IntKind.i64.wrap (2 ^ i.toNat) else 0
/-- All of `n` members. -/
def full (n : Int) : Int := IntKind.i64.wrap (pow1 n - 1)
theorem pow1_eq {i : Nat} (h : i < 63) : pow1 i = ((2 ^ i : Nat) : Int) := by
  unfold pow1
  rw [if_pos (by omega), Int.toNat_natCast]
  have h2 : 2 ^ i < 2 ^ 63 := Nat.pow_lt_pow_right (by omega) h
  have : ((2 : Int) ^ i) = ((2 ^ i : Nat) : Int) := by simp
  rw [this]; exact wrap_M (M_cast h2)
theorem M_pow1 {i : Nat} (h : i < 63) : M (pow1 i) := by
  rw [pow1_eq h]; exact M_cast (Nat.pow_lt_pow_right (by omega) h)
theorem tb_pow1 {i : Nat} (h : i < 63) (j : Nat) : tb (pow1 i) j = decide (i = j) := by
  rw [pow1_eq h]; simp only [tb, Int.toNat_natCast, Nat.testBit_two_pow]
theorem full_eq {n : Nat} (h : n < 63) : full n = ((2 ^ n - 1 : Nat) : Int) := by
  unfold full
  rw [pow1_eq h]
  have h2 : 2 ^ n < 2 ^ 63 := Nat.pow_lt_pow_right (by omega) h
  have h3 : 0 < 2 ^ n := Nat.two_pow_pos n
  rw [show (((2 ^ n : Nat) : Int) - 1) = ((2 ^ n - 1 : Nat) : Int) by omega]
  exact wrap_M (M_cast (by omega))
theorem M_full {n : Nat} (h : n < 63) : M (full n) := by
  have h2 : 2 ^ n < 2 ^ 63 := Nat.pow_lt_pow_right (by omega) h
  rw [full_eq h]; exact M_cast (by omega)
theorem tb_full {n : Nat} (h : n < 63) (j : Nat) : tb (full n) j = decide (j < n) := by
  rw [full_eq h]; simp only [tb, Int.toNat_natCast, Nat.testBit_two_pow_sub_one]
theorem full_M {x : Int} {n : Nat} (h : n < 63) (h0 : 0 ≤ x) (h1 : x ≤ full n) : M x := by
  have := (M_full h).2
  exact ⟨h0, by omega⟩
theorem tb_of_le {x : Int} {n : Nat} (h : n < 63) (h0 : 0 ≤ x) (h1 : x ≤ full n) {i : Nat} (hi : n ≤ i) : tb x i = false := by
  rw [full_eq h] at h1
  obtain ⟨m, rfl⟩ := Int.eq_ofNat_of_zero_le h0
  have h3 : 0 < 2 ^ n := Nat.two_pow_pos n
  simp only [tb, Int.toNat_natCast]
  exact Nat.testBit_lt_two_pow (Nat.lt_of_lt_of_le (by omega : m < 2 ^ n) (Nat.pow_le_pow_right (by omega) hi))
theorem le_full {x : Int} {n : Nat} (h : n < 63) (hx : M x) (hb : ∀ i, n ≤ i → tb x i = false) : x ≤ full n := by
  obtain ⟨m, rfl, hm⟩ := M_nat hx
  rw [full_eq h]
  have : m < 2 ^ n := Nat.lt_pow_two_of_testBit _ fun i hi => by simpa [tb] using hb i hi
  omega
theorem eq_zero_iff {x : Int} (hx : M x) : x = 0 ↔ ∀ i, tb x i = false := by
  constructor
  · rintro rfl i; simp
  · intro h; exact tb_ext hx M_zero fun i _ => by rw [h i]; simp
/-- The text's 'mask>>i & 1 == 1'. -/
theorem shr_has {x : Int} (hx : M x) (i : Nat) : (ibits .and .i64 (x.fdiv (2 ^ min i 64)) 1 == 1) = tb x i := by
  obtain ⟨n, rfl, hn⟩ := M_nat hx
  have e : (n : Int).fdiv (2 ^ min i 64) = ((n / 2 ^ min i 64 : Nat) : Int) := by
    rw [show ((2 : Int) ^ min i 64) = ((2 ^ min i 64 : Nat) : Int) by simp, ← Int.ofNat_fdiv]
  have h2 : n / 2 ^ min i 64 < 2 ^ 63 := Nat.lt_of_le_of_lt (Nat.div_le_self _ _) hn
  rw [e, show (1 : Int) = ((1 : Nat) : Int) from rfl, ib_and _ _ h2 (by rw [p63]; omega), Nat.and_one_is_mod]
  simp only [tb, Int.toNat_natCast]
  by_cases hi : i ≤ 64
  · rw [Nat.min_eq_left hi, Nat.testBit_eq_decide_div_mod_eq]
    generalize n / 2 ^ i = q
    have : q % 2 < 2 := Nat.mod_lt _ (by omega)
    rw [Bool.eq_iff_iff, beq_iff_eq, decide_eq_true_eq]
    omega
  · rw [Nat.min_eq_right (by omega), Nat.testBit_lt_two_pow (Nat.lt_of_lt_of_le hn (Nat.pow_le_pow_right (by omega) (by omega))), Nat.div_eq_of_lt (by rw [p63] at hn; rw [p64]; omega)]
    rfl
/-- A mask grown by the places below `n` that `p` tells. -/
def orMask (s : Int) (p : Nat → Bool) : Nat → Int
  | 0 => s
  | k + 1 => if p k then ibits .or .i64 (orMask s p k) (pow1 k) else orMask s p k
theorem M_orMask {s : Int} (p : Nat → Bool) (hs : M s) : ∀ n, n ≤ 63 → M (orMask s p n)
  | 0, _ => hs
  | n + 1, h => by
    rw [orMask]; split
    · exact M_or (M_orMask p hs n (by omega)) (M_pow1 (by omega))
    · exact M_orMask p hs n (by omega)
theorem tb_orMask {s : Int} (p : Nat → Bool) (hs : M s) (i : Nat) : ∀ n, n ≤ 63 → tb (orMask s p n) i = (tb s i || (decide (i < n) && p i))
  | 0, _ => by simp [orMask]
  | n + 1, h => by
    rw [orMask]
    have ih := tb_orMask p hs i n (by omega)
    by_cases e : i = n
    · subst e
      split
      · rename_i hp
        rw [tb_or (M_orMask p hs i (by omega)) (M_pow1 (by omega)), tb_pow1 (by omega)]; simp [hp]
      · rename_i hp
        rw [ih]; simp [hp]
    · split
      · rw [tb_or (M_orMask p hs n (by omega)) (M_pow1 (by omega)), tb_pow1 (by omega), ih]
        simp [show ¬ n = i by omega, show (i < n + 1) = (i < n) from propext ⟨fun _ => by omega, fun _ => by omega⟩]
      · rw [ih]
        simp [show (i < n + 1) = (i < n) from propext ⟨fun _ => by omega, fun _ => by omega⟩]
end Go.AM
