/-
  How many orders: the values from the back and from the front, their bounds.
-/
import Derived.Test.YtimfhkglmiihgaaDoorFnOb
set_option linter.unusedVariables false
set_option linter.unusedSimpArgs false
set_option maxRecDepth 100000
namespace Go.AM
open Go.Proofs
def cardN (n : Nat) (a : Int) : Nat := ((List.range n).filter fun i => tb a i).length
theorem card_off {p q : Nat → Bool} {e : Nat} (hp : p e = true) (hq : q e = false) (h : ∀ i, i ≠ e → q i = p i) : ∀ n, ((List.range n).filter q).length + (if e < n then 1 else 0) = ((List.range n).filter p).length
  | 0 => by simp
  | n + 1 => by
    have ih := card_off hp hq h n
    rw [List.range_succ, List.filter_append, List.filter_append, List.length_append, List.length_append]
    by_cases e2 : n = e
    · subst e2
      simp only [List.filter_cons, hp, hq, List.filter_nil, List.length_cons, List.length_nil] at ih ⊢
      simp at ih ⊢; omega
    · have := h n e2
      have e3 : (if e < n + 1 then 1 else 0) = (if e < n then 1 else 0) := by
        by_cases h4 : e < n
        · rw [if_pos h4, if_pos (by omega)]
        · rw [if_neg h4, if_neg (by omega)]
      rw [e3]
      simp only [List.filter_cons, this]
      cases p n <;> simp <;> omega
theorem card_dn {n : Nat} (hn : n ≤ 16) {b : Int} (hb : M b) {e : Nat} (he : e < n) (ht : tb b e = true) : cardN n (dnS b e) + 1 = cardN n b := by
  have := card_off (p := fun i => tb b i) (q := fun i => tb (dnS b e) i) (e := e) ht (by rw [tb_dn hb (by omega)]; simp) (fun i hi => by rw [tb_dn hb (by omega)]; simp [show ¬ e = i from fun h => hi h.symm]) n
  rw [if_pos he] at this; exact this
theorem card_up {n : Nat} (hn : n ≤ 16) {a c : Int} (ha : M a) {e : Nat} (he : e < n) (hc : tb c e = true) (ht : tb a e = false) : ((List.range n).filter fun i => tb c i && !tb (upS a e) i).length + 1 = ((List.range n).filter fun i => tb c i && !tb a i).length := by
  have := card_off (p := fun i => tb c i && !tb a i) (q := fun i => tb c i && !tb (upS a e) i) (e := e) (by simp [hc, ht]) (by rw [tb_up ha (by omega)]; simp) (fun i hi => by rw [tb_up ha (by omega)]; simp [show ¬ e = i from fun h => hi h.symm]) n
  rw [if_pos he] at this; exact this
theorem card_zero {n : Nat} {b : Int} (hb : M b) (h : ∀ i, n ≤ i → tb b i = false) : cardN n b = 0 ↔ b = 0 := by
  rw [eq_zero_iff hb, cardN, List.length_eq_zero_iff, List.filter_eq_nil_iff]
  constructor
  · intro h2 i
    by_cases hi : i < n
    · simpa using h2 i (List.mem_range.2 hi)
    · exact h i (by omega)
  · intro h2 i _; simp [h2 i]
/-- From the back. -/
def bN (x : StrucV) (c : Int) (hn : x.labels.length ≤ 16) (b : Int) : Int := pb (stepsOf x c hn) (cardN x.labels.length b) 0 b
theorem bN_zero (x : StrucV) (c : Int) (hn : x.labels.length ≤ 16) : bN x c hn 0 = 1 := by
  have : cardN x.labels.length 0 = 0 := (card_zero M_zero (by simp)).2 rfl
  unfold bN; rw [this]; simp [pb]
theorem bN_step (x : StrucV) (c : Int) (hn : x.labels.length ≤ 16) {b : Int} (hb : isM x.labels.length b = true) (h0 : b ≠ 0) : bN x c hn b = sumN (fun e => if lastS x b e = true then bN x c hn (dnS b e) else 0) x.labels.length := by
  obtain ⟨hM, hbb⟩ := isM_spec (by omega) hb
  obtain ⟨k, hk⟩ : ∃ k, cardN x.labels.length b = k + 1 := ⟨cardN x.labels.length b - 1, by
    have : cardN x.labels.length b ≠ 0 := fun h => h0 ((card_zero hM hbb).1 h)
    omega⟩
  unfold bN
  rw [hk, pb]
  refine sumN_congr fun e he => ?_
  show (if lastS x b e = true then pb (stepsOf x c hn) k 0 (dnS b e) else 0) = _
  by_cases h : lastS x b e = true
  · rw [if_pos h, if_pos h]
    have ht : tb b e = true := by
      have he' : e < x.labels.length := he
      unfold lastS at h
      rw [dn_ne hM (by omega)] at h
      simp only [Bool.and_eq_true] at h
      exact h.1
    have := card_dn hn hM he ht
    rw [show cardN x.labels.length (dnS b e) = k by omega]
  · rw [if_neg h, if_neg h]
theorem bN_bound (x : StrucV) (c : Int) (hn : x.labels.length ≤ 16) : ∀ (k : Nat) (b : Int), cardN x.labels.length b = k → isM x.labels.length b = true → 0 ≤ bN x c hn b ∧ bN x c hn b ≤ facN k
  | 0, b, hk, hb => by
    obtain ⟨hM, hbb⟩ := isM_spec (by omega) hb
    have := (card_zero hM hbb).1 hk
    subst this
    rw [bN_zero]
    exact ⟨by omega, Int.le_refl _⟩
  | k + 1, b, hk, hb => by
    obtain ⟨hM, hbb⟩ := isM_spec (by omega) hb
    have h0 : b ≠ 0 := fun h => by
      have := (card_zero hM hbb).2 h
      omega
    have hlast : ∀ e, e < x.labels.length → lastS x b e = true → tb b e = true ∧ 0 ≤ bN x c hn (dnS b e) ∧ bN x c hn (dnS b e) ≤ facN k := fun e he h => by
      have ht : tb b e = true := by
        unfold lastS at h
        rw [dn_ne hM (by omega)] at h
        simp only [Bool.and_eq_true] at h
        exact h.1
      have := card_dn hn hM he ht
      refine ⟨ht, bN_bound x c hn k (dnS b e) (by omega) (isM_of (by omega) (dn_M hM (by omega)) fun i hi => ?_)⟩
      rw [tb_dn hM (by omega), hbb i hi]; rfl
    rw [bN_step x c hn hb h0]
    refine ⟨sumN_nonneg fun e he => ?_, ?_⟩
    · by_cases h : lastS x b e = true
      · rw [if_pos h]; exact (hlast e he h).2.1
      · rw [if_neg h]; omega
    · have h1 := sumN_le (f := fun e => if lastS x b e = true then bN x c hn (dnS b e) else 0) (p := fun e => tb b e) (B := facN k) (k := x.labels.length)
        (fun e he ht => by
          by_cases h : lastS x b e = true
          · simp only [h, if_true]; exact (hlast e he h).2.2
          · simp only [h]
            have := facN_pos k
            simp; omega)
        (fun e he ht => by
          by_cases h : lastS x b e = true
          · rw [(hlast e he h).1] at ht; cases ht
          · simp only [h]; simp)
      have e2 : ((List.range x.labels.length).filter fun e => tb b e).length = k + 1 := hk
      rw [e2] at h1
      rw [facN]
      have : ((k + 1 : Nat) : Int) = (k : Int) + 1 := by omega
      rw [this] at h1; exact h1
/-- What is reached by the first events alone is no more. -/
theorem bN_le (x : StrucV) (c : Int) (hn : x.labels.length ≤ 16) {b : Int} (hb : isM x.labels.length b = true) : 0 ≤ bN x c hn b ∧ bN x c hn b ≤ 20922789888000 := by
  have h := bN_bound x c hn _ b rfl hb
  have hl : cardN x.labels.length b ≤ 16 := by
    have := List.length_filter_le (fun i => tb b i) (List.range x.labels.length)
    rw [List.length_range] at this
    unfold cardN; omega
  have := fac16 hl
  omega
/-- From the front. -/
def remN (n : Nat) (c a : Int) : Nat := ((List.range n).filter fun i => tb c i && !tb a i).length
def fN (x : StrucV) (c : Int) (hn : x.labels.length ≤ 16) (a : Int) : Int := pf (stepsOf x c hn) (remN x.labels.length c a) a c
theorem fN_end (x : StrucV) (c : Int) (hn : x.labels.length ≤ 16) : fN x c hn c = 1 := by
  have : remN x.labels.length c c = 0 := by
    unfold remN
    rw [List.length_eq_zero_iff, List.filter_eq_nil_iff]
    intro i _; cases tb c i <;> simp
  unfold fN; rw [this]; simp [pf]
theorem fN_start (x : StrucV) (c : Int) (hn : x.labels.length ≤ 16) (hc : isM x.labels.length c = true) : fN x c hn 0 = bN x c hn c := by
  have : remN x.labels.length c 0 = cardN x.labels.length c := by unfold remN cardN; simp
  unfold fN bN
  rw [this, orders_eq x c hn hc]
end Go.AM
