/-
  Contracts: the least place of a mask; its places in order.
-/
import Derived.Test.YtmpdpjpebekfkaaDoorFnPop
set_option linter.unusedVariables false
set_option linter.unusedSimpArgs false
set_option maxRecDepth 100000
set_option maxHeartbeats 1600000
namespace Go.AM
open Go.Proofs
@[simp] theorem gtab_tz : gtab Tryd.prog 0 = some (Lib.deBruijn64tab.map fun (n : Nat) => Value.int .u8 (n : Int)) := by kernel_rfl
theorem tz_idx (x a : Nat) (hx : x < 2 ^ 64) (h0 : x ≠ 0) (hlow : x &&& (18446744073709551616 - x) = a) :
    (IntKind.u64.wrap (ibits .and .u64 (x : Int) (IntKind.u64.wrap (-(x : Int))) * 285870213051353865)).fdiv 288230376151711744 = ((a * 285870213051353865 % 18446744073709551616 / 288230376151711744 : Nat) : Int) := by
  rw [p64] at hx
  have e1 : IntKind.u64.wrap (-(x : Int)) = ((18446744073709551616 - x : Nat) : Int) := by rw [wrap_u64']; omega
  have e2 : IntKind.u64.wrap (((a : Nat) : Int) * 285870213051353865) = ((a * 285870213051353865 % 18446744073709551616 : Nat) : Int) := by rw [wrap_u64']; omega
  rw [e1, ibu_and x _ (by rw [p64]; omega) (by rw [p64]; omega), hlow, e2, show (288230376151711744 : Int) = ((288230376151711744 : Nat) : Int) from rfl, fdiv_nat]
theorem TrailingZeros64_spec (x : Nat) (h : x < 2 ^ 64) : ACalls1 Tryd.prog 191 [.val (.int .u64 x)] (iv (Lib.ctz 64 x)) := by
  refine walk (fun _ => false) mixed Go.Proofs.Tryd.func191 rfl rfl rfl (by kernel_rfl) rfl (by simp) (by kernel_rfl) ?_
  by_cases h0 : x = 0
  · subst h0
    simp [Lib.ctz]
  · obtain ⟨hlow, hk⟩ := Lib.lowest_bit 64 x h0 h
    obtain ⟨hi, htab⟩ := Lib.deBruijn64_at _ hk
    rw [p64] at hlow
    obtain ⟨c, hc⟩ : ∃ c, c = Lib.ctz 64 x := ⟨_, rfl⟩
    rw [← hc] at hlow hk hi htab ⊢
    obtain ⟨a, ha⟩ : ∃ a, a = 2 ^ c := ⟨_, rfl⟩
    rw [← ha] at hlow hi htab
    clear ha hc
    simp [h0]
    rw [tz_idx x a h h0 hlow]
    obtain ⟨i, hi'⟩ : ∃ i, i = a * 285870213051353865 % 18446744073709551616 / 288230376151711744 := ⟨_, rfl⟩
    rw [← hi'] at hi htab ⊢
    clear hi'
    have hlen : Lib.deBruijn64tab.length = 64 := rfl
    have e : tabAt (Lib.deBruijn64tab.map fun (n : Nat) => Value.int .u8 (n : Int)) (i : Int) = .int .u8 (c : Int) := by
      rw [tabAt, Int.toNat_natCast, List.getD_eq_getElem?_getD, List.getElem?_map]
      rw [List.getD_eq_getElem?_getD] at htab
      have hil : i < Lib.deBruijn64tab.length := by omega
      rw [List.getElem?_eq_getElem hil] at htab ⊢
      simp only [Option.getD_some] at htab
      simp [htab]
    rw [e]
    refine ⟨by omega, by omega, by omega, ?_⟩
    simp
    exact wrap_id _ (by omega) (by omega)
/-- The places of a mask, in order. -/
def bitsOf (m : Int) : List Int := ((List.range 63).filter fun i => tb m i).map fun (i : Nat) => (i : Int)
/-- The least place of a mask. -/
def lowest (m : Int) : Nat := Lib.ctz 64 m.toNat
theorem low_spec {m : Int} (h : M m) (h0 : m ≠ 0) : lowest m < 63 ∧ tb m (lowest m) = true ∧ (∀ j, j < lowest m → tb m j = false) ∧ M (ibits .and .i64 m (m - 1)) ∧ ∀ j, tb (ibits .and .i64 m (m - 1)) j = (tb m j && decide (j ≠ lowest m)) := by
  obtain ⟨n, rfl, hn⟩ := M_nat h
  have hn0 : n ≠ 0 := by omega
  obtain ⟨q, hq, hc⟩ := Lib.ctzFrom_spec 64 n (by omega) (by omega)
  have hl : lowest (n : Int) = Lib.ctzFrom 64 n := by simp [lowest, Lib.ctz, hn0]
  rw [hl]
  generalize Lib.ctzFrom 64 n = c at *
  have hn1 : n = (2 ^ (c + 1)) * q + 2 ^ c := by rw [hq, Nat.pow_succ]; generalize 2 ^ c = y; rw [Nat.mul_add, Nat.mul_assoc]; omega
  have hpos : 0 < 2 ^ c := Nat.two_pow_pos c
  have hn2 : n - 1 = (2 ^ (c + 1)) * q + (2 ^ c - 1) := by rw [hn1]; omega
  have lt1 : 2 ^ c < 2 ^ (c + 1) := Nat.pow_lt_pow_right (by omega) (by omega)
  have b1 : ∀ j, n.testBit j = if j < c + 1 then decide (c = j) else q.testBit (j - (c + 1)) := by
    intro j
    rw [hn1, Nat.testBit_two_pow_mul_add _ lt1]
    split
    · rw [Nat.testBit_two_pow]
    · rfl
  have b2 : ∀ j, (n - 1).testBit j = if j < c + 1 then decide (j < c) else q.testBit (j - (c + 1)) := by
    intro j
    rw [hn2, Nat.testBit_two_pow_mul_add _ (by omega)]
    split
    · rw [Nat.testBit_two_pow_sub_one]
    · rfl
  have e : ((n : Int) - 1) = ((n - 1 : Nat) : Int) := by omega
  have hn3 : n - 1 < 2 ^ 63 := by omega
  have hcl : c < 63 := by
    apply Nat.lt_of_not_le
    intro hle
    have : (2 : Nat) ^ 63 ≤ 2 ^ c := Nat.pow_le_pow_right (by omega) hle
    omega
  refine ⟨hcl, ?_, ?_, ?_, ?_⟩
  · simp only [tb, Int.toNat_natCast, b1]; simp
  · intro j hj
    simp only [tb, Int.toNat_natCast, b1]
    rw [if_pos (by omega)]; simp; omega
  · rw [e]; exact M_and h (M_cast hn3)
  · intro j
    rw [e, tb_and h (M_cast hn3)]
    simp only [tb, Int.toNat_natCast, b1, b2]
    by_cases h1 : j < c + 1
    · simp only [h1, if_true]
      by_cases h2 : c = j
      · subst h2; simp
      · simp [h2]
    · simp only [h1, if_false]
      have : j ≠ c := by omega
      simp [this]
theorem filter_low {p p' : Nat → Bool} {c n : Nat} (hc : c < n) (h1 : p c = true) (h2 : ∀ j < c, p j = false) (h3 : ∀ j, p' j = (p j && decide (j ≠ c))) : (List.range n).filter p = c :: (List.range n).filter p' := by
  obtain ⟨r, rfl⟩ : ∃ r, n = c + (1 + r) := ⟨n - c - 1, by omega⟩
  rw [List.range_add, List.filter_append, List.filter_append, List.range_add, List.map_append, List.filter_append, List.filter_append]
  have e1 : (List.range c).filter p = [] := List.filter_eq_nil_iff.2 fun j hj => by rw [h2 j (List.mem_range.1 hj)]; simp
  have e2 : (List.range c).filter p' = [] := List.filter_eq_nil_iff.2 fun j hj => by rw [h3, h2 j (List.mem_range.1 hj)]; simp
  rw [e1, e2, List.nil_append, List.nil_append]
  have e3 : (List.map (fun x => c + x) (List.range 1)).filter p = [c] := by simp [List.range_succ, h1]
  have e4 : (List.map (fun x => c + x) (List.range 1)).filter p' = [] := by simp [List.range_succ, h3]
  rw [e3, e4, List.nil_append, List.singleton_append]
  congr 1
  apply List.filter_congr
  intro j hj
  simp only [List.mem_map, List.mem_range] at hj
  obtain ⟨a, ⟨b, _, rfl⟩, rfl⟩ := hj
  rw [h3]
  have : c + (1 + b) ≠ c := by omega
  simp [this]
theorem bitsOf_zero : bitsOf 0 = [] := by simp [bitsOf]
theorem bitsOf_step {m : Int} (h : M m) (h0 : m ≠ 0) : bitsOf m = (lowest m : Int) :: bitsOf (ibits .and .i64 m (m - 1)) := by
  obtain ⟨h1, h2, h3, _, h5⟩ := low_spec h h0
  unfold bitsOf
  rw [filter_low h1 h2 h3 h5]; rfl
theorem bitsOf_length (m : Int) : (bitsOf m).length ≤ 63 := by
  unfold bitsOf
  rw [List.length_map]
  exact Nat.le_trans (List.length_filter_le _ _) (by simp)
theorem bitsOf_mem {m : Int} {i : Int} (h : i ∈ bitsOf m) : ∃ k : Nat, i = k ∧ k < 63 ∧ tb m k = true := by
  unfold bitsOf at h
  simp only [List.mem_map, List.mem_filter, List.mem_range] at h
  obtain ⟨k, ⟨h1, h2⟩, rfl⟩ := h
  exact ⟨k, rfl, h1, h2⟩
theorem and_lt {m : Int} (h : M m) (h0 : m ≠ 0) : ibits .and .i64 m (m - 1) < m := by
  obtain ⟨n, rfl, hn⟩ := M_nat h
  have e : ((n : Int) - 1) = ((n - 1 : Nat) : Int) := by omega
  rw [e, ib_and n (n - 1) hn (by omega)]
  have : n &&& (n - 1) ≤ n - 1 := Nat.and_le_right
  omega
theorem least_spec (m : Int) (h : M m) : ACalls1 Tryd.prog 160 [iv m] (iv (lowest m)) := by
  obtain ⟨n, rfl, hn⟩ := M_nat h
  refine walk (fun _ => false) mixed Go.Proofs.Tryd.func160 rfl rfl rfl (by kernel_rfl) rfl (by simp) (by kernel_rfl) ?_
  simp
  rw [wrapu_nat n (by omega)]
  refine ⟨_, TrailingZeros64_spec n (by omega), ?_⟩
  simp [lowest]
theorem members_spec (m : Int) (h : M m) : ACalls1 Tryd.prog 123 [iv m] (.own 1 true (ints (bitsOf m))) := by
  refine walk (fun _ => false) mixed Go.Proofs.Tryd.func123 rfl rfl rfl (by kernel_rfl) rfl (by simp) (by kernel_rfl) ?_
  simp
  refine awp_loop2 [] [] (fun s : Int × List Int => [(0, iv s.1), (3, .ref 100)]) (fun s => [(100, .own 1 true (ints s.2))]) (fun s => M s.1 ∧ s.2 ++ bitsOf s.1 = bitsOf m) (fun s => s.1.toNat) (m, []) (weak_mk (fun t => if t = 100 then some 4 else some t) (by simp) (by simp) rfl) ⟨h, rfl⟩ ?_
  rintro ⟨k, l⟩ ⟨hk, hl⟩
  simp only at hk hl
  by_cases h0 : k = 0
  · subst h0
    simp
    rw [bitsOf_zero, List.append_nil] at hl
    simp [hl]
  · have hll : l.length ≤ 63 := by
      have := bitsOf_length m
      rw [← hl, List.length_append] at this; omega
    obtain ⟨_, _, _, hM, _⟩ := low_spec hk h0
    have hlt := and_lt hk h0
    have hk0 := hk.1
    simp [h0]
    refine ⟨_, least_spec k hk, ?_⟩
    simp
    have hw : IntKind.i64.wrap (k - 1) = k - 1 := wrap_id _ (by have := hk.1; omega) (by have := hk.2; omega)
    rw [hw]
    repeat (refine And.intro (by omega) ?_)
    refine Round.mk (ibits .and .i64 k (k - 1), l ++ [(lowest k : Int)]) (weak_mk (fun t => if t = 100 then some 15 else some t) (by simp) (by simp) rfl) ⟨hM, ?_⟩ ?_
    · simp only [List.append_assoc, List.singleton_append]
      rw [← bitsOf_step hk h0]; exact hl
    · simp only; have := hM.1; omega
theorem l01Bit_spec (m : Int) (h : M m) (i : Nat) (hi : i < 9223372036854775808) : ACalls1 Tryd.prog 129 [iv m, iv i] (bv (tb m i)) := by
  refine walk (fun _ => false) mixed Go.Proofs.Tryd.func129 rfl rfl rfl (by kernel_rfl) rfl (by simp) (by kernel_rfl) ?_
  simp
  rw [wrapu_nat i (by rw [p64]; omega)]
  refine ⟨by omega, ?_⟩
  simp [shr_has h]
theorem has_spec (m : Int) (h : M m) (i : Nat) (hi : i < 9223372036854775808) : ACalls1 Tryd.prog 77 [iv m, iv i] (bv (tb m i)) := by
  refine walk (fun _ => false) mixed Go.Proofs.Tryd.func77 rfl rfl rfl (by kernel_rfl) rfl (by simp) (by kernel_rfl) ?_
  simp [shr_has h]
end Go.AM
