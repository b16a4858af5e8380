/-
  Contracts: small functions on numbers, masks and lists.
-/
import Derived.Test.YtmpdpjpebekfkaaDoorFnBits
import Derived.Test.YtmpdpjpebekfkaaDoorAmTy
import Derived.Test.YtmpdpjpebekfkaaDoorProg
set_option linter.unusedVariables false
set_option linter.unusedSimpArgs false
namespace Go.AM
open Go.Proofs
theorem mixed : Tryd.prog.follows .mixedOrders = true := by kernel_rfl

/-- A list fits. -/
def Fits (l : List Int) : Prop := l.length < 1099511627776

@[simp] theorem bits64 : IntKind.i64.bits = 64 := rfl
@[simp] theorem bitsu64 : IntKind.u64.bits = 64 := rfl
@[simp] theorem bitsu8 : IntKind.u8.bits = 8 := rfl
theorem wrap_u64' (n : Int) : IntKind.u64.wrap n = n % 18446744073709551616 := by simp [IntKind.wrap, IntKind.bits, IntKind.signed]
/-- A number of 64 bits. -/
def I64 (n : Int) : Prop := -9223372036854775808 ≤ n ∧ n ≤ 9223372036854775807
theorem pow1_shl (i : Int) (h : 0 ≤ i) : IntKind.i64.wrap (1 * 2 ^ min i.toNat 64) = pow1 i := by
  unfold pow1
  by_cases h2 : i < 64
  · rw [if_pos ⟨h, h2⟩, Nat.min_eq_left (by omega), Int.one_mul]
  · rw [if_neg (by omega), Nat.min_eq_right (by omega)]; decide

theorem inRange_spec (n lo hi : Int) : ACalls1 Tryd.prog 81 [iv n, iv lo, iv hi] (bv (decide (lo ≤ n) && decide (n ≤ hi))) := by
  refine walk (fun _ => false) mixed Go.Proofs.Tryd.func81 rfl rfl rfl (by kernel_rfl) rfl (by simp) (by kernel_rfl) ?_
  simp
  constructor
  · intro h; simp [h]
  · intro h; omega
theorem l01In_spec (n lo hi : Int) : ACalls1 Tryd.prog 107 [iv n, iv lo, iv hi] (bv (decide (lo ≤ n) && decide (n ≤ hi))) := by
  refine walk (fun _ => false) mixed Go.Proofs.Tryd.func107 rfl rfl rfl (by kernel_rfl) rfl (by simp) (by kernel_rfl) ?_
  simp
  constructor
  · intro h; simp [h]
  · intro h; omega
theorem one_spec (i : Int) (h : 0 ≤ i) : ACalls1 Tryd.prog 82 [iv i] (iv (pow1 i)) := by
  refine walk (fun _ => false) mixed Go.Proofs.Tryd.func82 rfl rfl rfl (by kernel_rfl) rfl (by simp) (by kernel_rfl) ?_
  simp
  refine ⟨h, le_int ?_⟩
  simpa using pow1_shl i h
theorem l01One_spec (i : Int) (h : I64 i) : ACalls1 Tryd.prog 128 [iv i] (iv (pow1 i)) := by
  refine walk (fun _ => false) mixed Go.Proofs.Tryd.func128 rfl rfl rfl (by kernel_rfl) rfl (by simp) (by kernel_rfl) ?_
  simp
  unfold I64 at h
  rw [wrap_u64']
  refine ⟨by omega, le_int ?_⟩
  by_cases h0 : 0 ≤ i
  · rw [show i % 18446744073709551616 = i by omega]
    simpa using pow1_shl i h0
  · unfold pow1
    rw [if_neg (by omega), Nat.min_eq_right (by omega)]; decide
theorem l01Full_spec (n : Int) (h : I64 n) : ACalls1 Tryd.prog 111 [iv n] (iv (full n)) := by
  refine walk (fun _ => false) mixed Go.Proofs.Tryd.func111 rfl rfl rfl (by kernel_rfl) rfl (by simp) (by kernel_rfl) ?_
  simp
  refine ⟨_, l01One_spec n h, ?_⟩
  simp
  exact le_int rfl
theorem toInt64S_spec (nn : Bool) (l : List Int) (hl : Fits l) : ACalls1 Tryd.prog 11 [.sl 1 nn (ints l)] (.own 1 true (ints l)) := by
  unfold Fits at hl
  refine walk (fun _ => false) mixed Go.Proofs.Tryd.func11 rfl rfl rfl (by kernel_rfl) rfl (by simp) (by kernel_rfl) ?_
  simp
  refine ⟨by omega, by omega, ?_⟩
  refine awp_loop (fun s : Nat × List Int => ⟨asS [(0, .sl 1 nn (ints l)), (3, .ref 7), (4, iv s.1)], asO [(7, .own 1 true (ints s.2))], 22⟩) (fun s => s.1 ≤ l.length ∧ s.2.length = l.length ∧ s.2.take s.1 = l.take s.1) (fun s => l.length - s.1) (0, List.replicate l.length 0) ?_ ?_ ?_
  · refine weak_mk some ?_ ?_ rfl
    · simp
    · simp
  · simp
  · rintro ⟨k, m⟩ ⟨hk, hm, he⟩
    simp only at hk hm he
    by_cases hlt : k < l.length
    · simp [nth_at, hlt, hm, ints_put]
      rw [wrap_id _ (by omega) (by omega)]
      repeat (refine And.intro (by omega) ?_)
      refine Round.mk (k + 1, m.set k l[k]) (weak_mk some (by simp) (by simp) rfl) ⟨hlt, by simpa using hm, take_set_self m l k hm hlt he⟩ (by simp only; omega)
    · simp [nth_at, hlt]
      obtain rfl : k = l.length := by omega
      rw [List.take_length, List.take_of_length_le (by omega)] at he
      subst he
      exact .inl (.refl _)
theorem eqInt64S_spec (nn nn' : Bool) (l m : List Int) (hl : Fits l) : ACalls1 Tryd.prog 13 [.sl 1 nn (ints l), .sl 1 nn' (ints m)] (bv (l == m)) := by
  unfold Fits at hl
  refine walk (fun _ => false) mixed Go.Proofs.Tryd.func13 rfl rfl rfl (by kernel_rfl) rfl (by simp) (by kernel_rfl) ?_
  simp
  constructor
  · intro h
    rintro rfl; exact h rfl
  intro h
  refine awp_loop (fun k : Nat => ⟨asS [(0, .sl 1 nn (ints l)), (1, .sl 1 nn' (ints m)), (5, iv k)], asO [], 26⟩) (fun k => k ≤ l.length ∧ l.take k = m.take k) (fun k => l.length - k) 0 ?_ ?_ ?_
  · exact weak_mk some (by simp) (by simp) rfl
  · simp
  · rintro k ⟨hk, he⟩
    have h : l.length = m.length := by omega
    by_cases hlt : k < l.length
    · have hlt' : k < m.length := by omega
      simp [nth_at, hlt, hlt']
      rw [wrap_id _ (by omega) (by omega)]
      repeat (refine And.intro (by omega) ?_)
      constructor
      · intro hne
        rintro rfl; exact hne rfl
      · intro heq
        exact Round.mk (k + 1) (weak_mk some (by simp) (by simp) rfl) ⟨hlt, by rw [List.take_succ_eq_append_getElem hlt, List.take_succ_eq_append_getElem hlt', he, heq]⟩ (by omega)
    · simp [nth_at, hlt]
      rw [List.take_of_length_le (by omega), List.take_of_length_le (by omega)] at he
      exact he
theorem allIn1_spec (n lo hi : Int) : ACalls1 Tryd.prog 154 [iv n, .ip [iv lo], .ip [iv hi]] (bv (!(decide (lo ≤ n) && decide (n ≤ hi)))) := by
  refine walk (fun _ => false) mixed Go.Proofs.Tryd.func154 rfl rfl rfl (by kernel_rfl) rfl (by simp) (by kernel_rfl) ?_
  simp
  refine ⟨_, inRange_spec _ _ _, ?_⟩
  simp
theorem IndexFunc_spec (nn : Bool) (l : List Int) (hl : Fits l) (g : FuncId) (caps : List AV) (p : Int → Bool) (hg : ∀ n, n ∈ l → ACalls1 Tryd.prog g (iv n :: caps) (bv (p n))) :
    ACalls1 Tryd.prog 188 [.sl 1 nn (ints l), .fn g caps] (iv (match l.findIdx? p with | some i => (i : Int) | none => -1)) := by
  unfold Fits at hl
  refine walk (fun _ => false) mixed Go.Proofs.Tryd.func188 rfl rfl rfl (by kernel_rfl) rfl (by simp) (by kernel_rfl) ?_
  simp
  refine awp_loop (fun k : Nat => ⟨asS [(0, .sl 1 nn (ints l)), (1, .fn g caps), (7, iv l.length), (8, iv k)], asO [], 19⟩) (fun k => k ≤ l.length ∧ ∀ i < k, p (l.getD i 0) = false) (fun k => l.length - k) 0 ?_ ?_ ?_
  · exact weak_mk some (by simp) (by simp) rfl
  · simp
  · rintro k ⟨hk, hp⟩
    by_cases hlt : k < l.length
    · simp [nth_at, hlt]
      refine ⟨_, hg _ (List.getElem_mem hlt), ?_⟩
      simp
      constructor
      · intro hpk
        refine le_int ?_
        have : l.findIdx? p = some k := by
          rw [List.findIdx?_eq_some_iff_getElem]
          refine ⟨hlt, hpk, fun j hj => ?_⟩
          have := hp j hj
          simp [show j < l.length by omega] at this
          simp [this]
        rw [this]
      · intro hpk
        rw [wrap_id _ (by omega) (by omega)]
        refine Round.mk (k + 1) (weak_mk some (by simp) (by simp) rfl) ⟨hlt, fun i hi => ?_⟩ (by omega)
        by_cases e : i = k
        · subst e; simp [nth_at, hlt, hpk]
        · exact hp i (by omega)
    · simp [nth_at, hlt]
      refine le_int ?_
      have : l.findIdx? p = none := by
        rw [List.findIdx?_eq_none_iff]
        intro x hx
        obtain ⟨i, hi, rfl⟩ := List.mem_iff_getElem.1 hx
        have := hp i (by omega)
        simp [hi] at this
        simp [this]
      rw [this]
theorem ContainsFunc_spec (nn : Bool) (l : List Int) (hl : Fits l) (g : FuncId) (caps : List AV) (p : Int → Bool) (hg : ∀ n, n ∈ l → ACalls1 Tryd.prog g (iv n :: caps) (bv (p n))) (hc : immL [.fn g caps] = true) :
    ACalls1 Tryd.prog 153 [.sl 1 nn (ints l), .fn g caps] (bv (l.any p)) := by
  refine walk (fun _ => false) mixed Go.Proofs.Tryd.func153 rfl rfl rfl (by kernel_rfl) rfl (by simp) (by kernel_rfl) ?_
  simp
  refine ⟨_, IndexFunc_spec nn l hl g caps p hg, ?_⟩
  simp
  refine le_bool ?_
  cases h : l.findIdx? p with
  | none =>
    have : l.any p = false := by
      rw [List.findIdx?_eq_none_iff] at h
      rw [List.any_eq_false]
      intro x hx; rw [h x hx]; simp
    simp [this]
  | some i =>
    have : l.any p = true := by
      rw [List.findIdx?_eq_some_iff_getElem] at h
      obtain ⟨hi, hp, _⟩ := h
      rw [List.any_eq_true]
      exact ⟨_, List.getElem_mem hi, hp⟩
    simp [this]
theorem allIn_spec (nn : Bool) (l : List Int) (lo hi : Int) (hl : Fits l) : ACalls1 Tryd.prog 115 [.sl 1 nn (ints l), iv lo, iv hi] (bv (l.all fun x => decide (lo ≤ x) && decide (x ≤ hi))) := by
  refine walk (fun t => t == 4 || t == 5) mixed Go.Proofs.Tryd.func115 rfl rfl rfl (by kernel_rfl) rfl (by simp) (by kernel_rfl) ?_
  simp
  refine ⟨_, ContainsFunc_spec nn l hl _ _ (fun n => !(decide (lo ≤ n) && decide (n ≤ hi))) (fun n _ => allIn1_spec n lo hi) rfl, ?_⟩
  simp
  rw [Bool.eq_iff_iff]
  simp
  grind
/-- Valid places. -/
def arePl (n : Int) (l : List Int) : Bool := decide (1 ≤ n) && decide (n ≤ 4) && decide ((l.length : Int) ≤ 8) && l.all fun x => decide (1 ≤ x) && decide (x ≤ full n)
theorem l14Places_spec (n : Int) (hn : I64 n) (nn : Bool) (l : List Int) (hl : Fits l) : ACalls1 Tryd.prog 106 [iv n, .sl 1 nn (ints l)] (bv (arePl n l)) := by
  unfold Fits at hl
  refine walk (fun _ => false) mixed Go.Proofs.Tryd.func106 rfl rfl rfl (by kernel_rfl) rfl (by simp) (by kernel_rfl) ?_
  simp
  refine awp_loop (fun k : Nat => ⟨asS [(0, iv n), (1, .sl 1 nn (ints l)), (5, iv k)], asO [], 27⟩) (fun k => k ≤ l.length ∧ ∀ x ∈ l.take k, 1 ≤ x ∧ x ≤ full n) (fun k => l.length - k) 0 ?_ ?_ ?_
  · exact weak_mk some (by simp) (by simp) rfl
  · simp
  · rintro k ⟨hk, hp⟩
    by_cases hlt : k < l.length
    · simp [nth_at, hlt]
      repeat (refine And.intro (by omega) ?_)
      refine ⟨_, l01Full_spec n hn, ?_⟩
      simp
      refine ⟨_, l01In_spec _ _ _, ?_⟩
      simp
      constructor
      · intro h
        unfold arePl
        have : (l.all fun x => decide (1 ≤ x) && decide (x ≤ full n)) = false := List.all_eq_false.2 ⟨l[k], List.getElem_mem hlt, by simp; omega⟩
        rw [this]; simp
      · intro h1 h2
        rw [wrap_id _ (by omega) (by omega)]
        refine Round.mk (k + 1) (weak_mk some (by simp) (by simp) rfl) ⟨hlt, ?_⟩ (by omega)
        rw [List.take_succ_eq_append_getElem hlt]
        intro x hx
        rcases List.mem_append.1 hx with hx | hx
        · exact hp x hx
        · simp at hx; subst hx; exact ⟨h1, h2⟩
    · simp [nth_at, hlt]
      rw [List.take_of_length_le (by omega)] at hp
      refine ⟨_, l01In_spec _ _ _, ?_⟩
      have hp' : (l.all fun x => decide (1 ≤ x) && decide (x ≤ full n)) = true := by simpa using hp
      unfold arePl
      simp only [hp']
      generalize hb : (decide (1 ≤ n) && decide (n ≤ 4)) = b
      cases b
      · simp
        all_goals exact le_bool rfl
      · simp
theorem arePlaces_spec (n : Int) (nn : Bool) (l : List Int) (hl : Fits l) : ACalls1 Tryd.prog 71 [iv n, .sl 1 nn (ints l)] (bv (arePl n l)) := by
  unfold Fits at hl
  refine walk (fun _ => false) mixed Go.Proofs.Tryd.func71 rfl rfl rfl (by kernel_rfl) rfl (by simp) (by kernel_rfl) ?_
  simp
  refine ⟨_, inRange_spec _ _ _, ?_⟩
  unfold arePl
  generalize hb : (decide (1 ≤ n) && decide (n ≤ 4)) = b
  cases b
  · simp
    all_goals exact le_bool rfl
  · simp
    by_cases h3 : (l.length : Int) ≤ 8
    · simp [h3, show ¬ (8 : Int) < l.length by omega]
      simp at hb
      refine ⟨_, one_spec n (by omega), ?_⟩
      simp
      refine ⟨_, allIn_spec nn l _ _ hl, ?_⟩
      simp
      all_goals exact le_bool rfl
    · simp [h3]
end Go.AM
