/-
  Several texts in one: FnOa FnOb FnOc.
-/
import Derived.Test.YthabclhldlikfaaGreatDoorFnMgA
import Derived.Test.YthabclhldlikfaaGreatDoorFnMgG
set_option linter.unusedVariables false
set_option linter.unusedSimpArgs false
set_option linter.unusedSectionVars false
set_option maxRecDepth 100000
set_option maxHeartbeats 1600000
namespace Go.AM
open Go.Proofs
def sumN (f : Nat → Int) : Nat → Int
  | 0 => 0
  | k + 1 => sumN f k + f k
theorem sumN_congr {f g : Nat → Int} : ∀ {k : Nat}, (∀ e, e < k → f e = g e) → sumN f k = sumN g k
  | 0, _ => rfl
  | k + 1, h => by rw [sumN, sumN, sumN_congr (fun e he => h e (by omega)), h k (by omega)]
theorem sumN_zero : ∀ k, sumN (fun _ => 0) k = 0
  | 0 => rfl
  | k + 1 => by rw [sumN, sumN_zero k]; rfl
theorem sumN_add (f g : Nat → Int) : ∀ k, sumN (fun e => f e + g e) k = sumN f k + sumN g k
  | 0 => rfl
  | k + 1 => by rw [sumN, sumN, sumN, sumN_add f g k]; omega
theorem sumN_swap (f : Nat → Nat → Int) (m : Nat) : ∀ k, sumN (fun e => sumN (f e) m) k = sumN (fun i => sumN (fun e => f e i) k) m
  | 0 => by simp only [sumN]; exact (sumN_zero m).symm
  | k + 1 => by
    simp only [sumN]
    rw [sumN_swap f m k, ← sumN_add]
theorem sumN_if {b : Bool} {f : Nat → Int} {k : Nat} : (if b = true then sumN f k else 0) = sumN (fun e => if b = true then f e else 0) k := by
  cases b
  · simp [sumN_zero]
  · simp
/-- Steps forward and backward between states: `st a e`: `e` may be done at `a`, which leads to `up a e`; `sb b e`: `e` may have been the last at `b`, which came from `dn b e`. -/
structure Steps where
  n : Nat
  st : Int → Nat → Bool
  up : Int → Nat → Int
  sb : Int → Nat → Bool
  dn : Int → Nat → Int
  D : Int → Prop
  Dup : ∀ a e, e < n → D a → st a e = true → D (up a e)
  Ddn : ∀ b e, e < n → D b → sb b e = true → D (dn b e)
  iff : ∀ a b e, e < n → D a → D b → ((st a e = true ∧ up a e = b) ↔ (sb b e = true ∧ a = dn b e))
def pf (s : Steps) : Nat → Int → Int → Int
  | 0, a, b => if a = b then 1 else 0
  | k + 1, a, b => sumN (fun e => if s.st a e = true then pf s k (s.up a e) b else 0) s.n
def pb (s : Steps) : Nat → Int → Int → Int
  | 0, a, b => if a = b then 1 else 0
  | k + 1, a, b => sumN (fun e => if s.sb b e = true then pb s k a (s.dn b e) else 0) s.n
theorem pf_pb (s : Steps) : ∀ (k : Nat) (a b : Int), s.D a → s.D b → pf s k a b = pb s k a b
  | 0, _, _, _, _ => rfl
  | 1, a, b, ha, hb => by
    simp only [pf, pb]
    refine sumN_congr fun e he => ?_
    have h := s.iff a b e he ha hb
    by_cases h1 : s.st a e = true ∧ s.up a e = b
    · have h2 := h.1 h1
      rw [if_pos h1.1, if_pos h1.2, if_pos h2.1, if_pos h2.2]
    · have h2 : ¬ (s.sb b e = true ∧ a = s.dn b e) := fun h2 => h1 (h.2 h2)
      have l : (if s.st a e = true then (if s.up a e = b then (1 : Int) else 0) else 0) = 0 := by
        by_cases h3 : s.st a e = true
        · rw [if_pos h3, if_neg fun h4 => h1 ⟨h3, h4⟩]
        · rw [if_neg h3]
      have r : (if s.sb b e = true then (if a = s.dn b e then (1 : Int) else 0) else 0) = 0 := by
        by_cases h3 : s.sb b e = true
        · rw [if_pos h3, if_neg fun h4 => h2 ⟨h3, h4⟩]
        · rw [if_neg h3]
      rw [l, r]
  | k + 2, a, b, ha, hb => by
    have e1 : pf s (k + 2) a b = sumN (fun e => sumN (fun f => if s.st a e = true then (if s.sb b f = true then pb s k (s.up a e) (s.dn b f) else 0) else 0) s.n) s.n := by
      rw [pf]
      refine sumN_congr fun e he => ?_
      rw [← sumN_if (b := s.st a e)]
      by_cases h : s.st a e = true
      · rw [if_pos h, if_pos h, pf_pb s (k + 1) _ b (s.Dup a e he ha h) hb]; rfl
      · rw [if_neg h, if_neg h]
    have e2 : pb s (k + 2) a b = sumN (fun f => sumN (fun e => if s.st a e = true then (if s.sb b f = true then pb s k (s.up a e) (s.dn b f) else 0) else 0) s.n) s.n := by
      rw [pb]
      refine sumN_congr fun f hf => ?_
      by_cases h : s.sb b f = true
      · rw [if_pos h, ← pf_pb s (k + 1) a _ ha (s.Ddn b f hf hb h), pf]
        refine sumN_congr fun e he => ?_
        by_cases h3 : s.st a e = true
        · rw [if_pos h3, if_pos h3, if_pos h, pf_pb s k _ _ (s.Dup a e he ha h3) (s.Ddn b f hf hb h)]
        · rw [if_neg h3, if_neg h3]
      · rw [if_neg h]
        have : (fun e => if s.st a e = true then (if s.sb b f = true then pb s k (s.up a e) (s.dn b f) else 0) else (0 : Int)) = fun _ => 0 := by
          funext e; simp [h]
        rw [this, sumN_zero]
    rw [e1, e2, sumN_swap]
/-- How many they are at most: with `m` that bounds the steps from a state. -/
def facN : Nat → Int
  | 0 => 1
  | k + 1 => (k + 1) * facN k
theorem facN_pos : ∀ k, 1 ≤ facN k
  | 0 => Int.le_refl _
  | k + 1 => by
    have := facN_pos k
    rw [facN]
    have h2 : (1 : Int) * 1 ≤ (k + 1) * facN k := Int.mul_le_mul (by omega) this (by omega) (by omega)
    omega
theorem fac16 {k : Nat} (h : k ≤ 16) : facN k ≤ 20922789888000 := by
  rcases (by omega : k = 0 ∨ k = 1 ∨ k = 2 ∨ k = 3 ∨ k = 4 ∨ k = 5 ∨ k = 6 ∨ k = 7 ∨ k = 8 ∨ k = 9 ∨ k = 10 ∨ k = 11 ∨ k = 12 ∨ k = 13 ∨ k = 14 ∨ k = 15 ∨ k = 16) with rfl | rfl | rfl | rfl | rfl | rfl | rfl | rfl | rfl | rfl | rfl | rfl | rfl | rfl | rfl | rfl | rfl <;> decide
theorem sumN_le {f : Nat → Int} {p : Nat → Bool} {B : Int} : ∀ {k : Nat}, (∀ e, e < k → p e = true → f e ≤ B) → (∀ e, e < k → p e = false → f e = 0) → sumN f k ≤ ((List.range k).filter p).length * B
  | 0, _, _ => by simp [sumN]
  | k + 1, h1, h2 => by
    have ih := sumN_le (k := k) (fun e he => h1 e (by omega)) (fun e he => h2 e (by omega))
    rw [sumN, List.range_succ, List.filter_append, List.length_append]
    cases hp : p k
    · have := h2 k (by omega) hp
      simp [hp]; omega
    · have := h1 k (by omega) hp
      simp only [List.filter_cons, hp, if_true, List.filter_nil, List.length_cons, List.length_nil, Nat.zero_add]
      rw [Int.natCast_add, Int.add_mul]
      simp; omega
theorem sumN_nonneg {f : Nat → Int} : ∀ {k : Nat}, (∀ e, e < k → 0 ≤ f e) → 0 ≤ sumN f k
  | 0, _ => Int.le_refl _
  | k + 1, h => by
    have := sumN_nonneg (k := k) fun e he => h e (by omega)
    have := h k (by omega)
    rw [sumN]; omega
def upS (a : Int) (e : Nat) : Int := ibits .or .i64 a (pow1 e)
def dnS (b : Int) (e : Nat) : Int := ibits .andNot .i64 b (pow1 e)
/-- `e` may have been the last of `b`. -/
def lastS (x : StrucV) (b : Int) (e : Nat) : Bool := (dnS b e != b) && (ibits .andNot .i64 (nth x.below e) (dnS b e) == 0)
/-- Masks of events of `c`. -/
def inC (x : StrucV) (c a : Int) : Prop := isM x.labels.length a = true ∧ ∀ i : Nat, tb a i = true → tb c i = true
theorem tb_up {a : Int} (ha : M a) {e : Nat} (he : e < 63) (i : Nat) : tb (upS a e) i = (tb a i || decide (e = i)) := by
  unfold upS; rw [tb_or ha (M_pow1 (by omega)), tb_pow1 he]
theorem tb_dn {b : Int} (hb : M b) {e : Nat} (he : e < 63) (i : Nat) : tb (dnS b e) i = (tb b i && !decide (e = i)) := by
  unfold dnS; rw [tb_andNot hb (M_pow1 (by omega)), tb_pow1 he]
theorem up_M {a : Int} (ha : M a) {e : Nat} (he : e < 63) : M (upS a e) := M_or ha (M_pow1 (by omega))
theorem dn_M {b : Int} (hb : M b) {e : Nat} (he : e < 63) : M (dnS b e) := M_andNot hb (M_pow1 (by omega))
theorem dn_ne {b : Int} (hb : M b) {e : Nat} (he : e < 63) : (dnS b e != b) = tb b e := by
  rw [Bool.eq_iff_iff, bne_iff_ne]
  constructor
  · intro h
    cases ht : tb b e
    · exfalso
      apply h
      apply tb_ext (dn_M hb he) hb
      intro i _
      rw [tb_dn hb he]
      by_cases ei : e = i
      · subst ei; simp [ht]
      · simp [ei]
    · rfl
  · intro h e2
    have := tb_dn hb he e
    rw [e2, h] at this
    simp at this
def stepsOf (x : StrucV) (c : Int) (hn : x.labels.length ≤ 16) : Steps where
  n := x.labels.length
  st := canS x c
  up := upS
  sb := lastS x
  dn := dnS
  D := inC x c
  Dup := fun a e he ha h => by
    obtain ⟨hM, hb⟩ := isM_spec (by omega) ha.1
    unfold canS at h
    simp only [Bool.and_eq_true] at h
    refine ⟨isM_of (by omega) (up_M hM (by omega)) fun i hi => ?_, fun i hi => ?_⟩
    · rw [tb_up hM (by omega), hb i hi]; simp; omega
    · rw [tb_up hM (by omega)] at hi
      simp only [Bool.or_eq_true, decide_eq_true_eq] at hi
      rcases hi with hi | rfl
      · exact ha.2 i hi
      · exact h.1.1
  Ddn := fun b e he hb h => by
    obtain ⟨hM, hbb⟩ := isM_spec (by omega) hb.1
    refine ⟨isM_of (by omega) (dn_M hM (by omega)) fun i hi => ?_, fun i hi => ?_⟩
    · rw [tb_dn hM (by omega), hbb i hi]; simp
    · rw [tb_dn hM (by omega)] at hi
      simp only [Bool.and_eq_true] at hi
      exact hb.2 i hi.1
  iff := fun a b e he ha hb => by
    obtain ⟨hMa, hba⟩ := isM_spec (by omega) ha.1
    obtain ⟨hMb, hbb⟩ := isM_spec (by omega) hb.1
    have he63 : e < 63 := by omega
    unfold lastS canS
    rw [dn_ne hMb he63]
    simp only [Bool.and_eq_true, beq_iff_eq, Bool.not_eq_true']
    constructor
    · rintro ⟨⟨⟨h1, h2⟩, h3⟩, rfl⟩
      have ed : dnS (upS a e) e = a := by
        apply tb_ext (dn_M (up_M hMa he63) he63) hMa
        intro i _
        rw [tb_dn (up_M hMa he63) he63, tb_up hMa he63]
        by_cases ei : e = i
        · subst ei; simp [h2]
        · simp [ei]
      refine ⟨⟨?_, by rw [ed]; exact h3⟩, ed.symm⟩
      rw [tb_up hMa he63]; simp
    · rintro ⟨⟨h1, h2⟩, rfl⟩
      refine ⟨⟨⟨hb.2 e h1, ?_⟩, h2⟩, ?_⟩
      · rw [tb_dn hMb he63]; simp
      · apply tb_ext (up_M (dn_M hMb he63) he63) hMb
        intro i _
        rw [tb_up (dn_M hMb he63) he63, tb_dn hMb he63]
        by_cases ei : e = i
        · subst ei; simp [h1]
        · simp [ei]
/-- The orders of the events of `c`: from the front, from the back. -/
theorem orders_eq (x : StrucV) (c : Int) (hn : x.labels.length ≤ 16) (hc : isM x.labels.length c = true) (k : Nat) : pf (stepsOf x c hn) k 0 c = pb (stepsOf x c hn) k 0 c :=
  pf_pb _ k 0 c ⟨isM_of (by omega) M_zero (fun i _ => by simp), fun i hi => by simp at hi⟩ ⟨hc, fun i hi => hi⟩
def cardN (n : Nat) (a : Int) : Nat := ((List.range n).filter fun i => tb a i).length
theorem card_off {p q : Nat → Bool} {e : Nat} (hp : p e = true) (hq : q e = false) (h : ∀ i, i ≠ e → q i = p i) : ∀ n, ((List.range n).filter q).length + (if e < n then 1 else 0) = ((List.range n).filter p).length
  | 0 => by simp
  | n + 1 => by
    have ih := card_off hp hq h n
    rw [List.range_succ, List.filter_append, List.filter_append, List.length_append, List.length_append]
    by_cases e2 : n = e
    · subst e2
      simp only [List.filter_cons, hp, hq, List.filter_nil, List.length_cons, List.length_nil] at ih ⊢
      simp at ih ⊢; omega
    · have := h n e2
      have e3 : (if e < n + 1 then 1 else 0) = (if e < n then 1 else 0) := by
        by_cases h4 : e < n
        · rw [if_pos h4, if_pos (by omega)]
        · rw [if_neg h4, if_neg (by omega)]
      rw [e3]
      simp only [List.filter_cons, this]
      cases p n <;> simp <;> omega
theorem card_dn {n : Nat} (hn : n ≤ 16) {b : Int} (hb : M b) {e : Nat} (he : e < n) (ht : tb b e = true) : cardN n (dnS b e) + 1 = cardN n b := by
  have := card_off (p := fun i => tb b i) (q := fun i => tb (dnS b e) i) (e := e) ht (by rw [tb_dn hb (by omega)]; simp) (fun i hi => by rw [tb_dn hb (by omega)]; simp [show ¬ e = i from fun h => hi h.symm]) n
  rw [if_pos he] at this; exact this
theorem card_up {n : Nat} (hn : n ≤ 16) {a c : Int} (ha : M a) {e : Nat} (he : e < n) (hc : tb c e = true) (ht : tb a e = false) : ((List.range n).filter fun i => tb c i && !tb (upS a e) i).length + 1 = ((List.range n).filter fun i => tb c i && !tb a i).length := by
  have := card_off (p := fun i => tb c i && !tb a i) (q := fun i => tb c i && !tb (upS a e) i) (e := e) (by simp [hc, ht]) (by rw [tb_up ha (by omega)]; simp) (fun i hi => by rw [tb_up ha (by omega)]; simp [show ¬ e = i from fun h => hi h.symm]) n
  rw [if_pos he] at this; exact this
theorem card_zero {n : Nat} {b : Int} (hb : M b) (h : ∀ i, n ≤ i → tb b i = false) : cardN n b = 0 ↔ b = 0 := by
  rw [eq_zero_iff hb, cardN, List.length_eq_zero_iff, List.filter_eq_nil_iff]
  constructor
  · intro h2 i
    by_cases hi : i < n
    · simpa using h2 i (List.mem_range.2 hi)
    · exact h i (by omega)
  · intro h2 i _; simp [h2 i]
/-- From the back. -/
def bN (x : StrucV) (c : Int) (hn : x.labels.length ≤ 16) (b : Int) : Int := pb (stepsOf x c hn) (cardN x.labels.length b) 0 b
theorem bN_zero (x : StrucV) (c : Int) (hn : x.labels.length ≤ 16) : bN x c hn 0 = 1 := by
  have : cardN x.labels.length 0 = 0 := (card_zero M_zero (by simp)).2 rfl
  unfold bN; rw [this]; simp [pb]
theorem bN_step (x : StrucV) (c : Int) (hn : x.labels.length ≤ 16) {b : Int} (hb : isM x.labels.length b = true) (h0 : b ≠ 0) : bN x c hn b = sumN (fun e => if lastS x b e = true then bN x c hn (dnS b e) else 0) x.labels.length := by
  obtain ⟨hM, hbb⟩ := isM_spec (by omega) hb
  obtain ⟨k, hk⟩ : ∃ k, cardN x.labels.length b = k + 1 := ⟨cardN x.labels.length b - 1, by
    have : cardN x.labels.length b ≠ 0 := fun h => h0 ((card_zero hM hbb).1 h)
    omega⟩
  unfold bN
  rw [hk, pb]
  refine sumN_congr fun e he => ?_
  show (if lastS x b e = true then pb (stepsOf x c hn) k 0 (dnS b e) else 0) = _
  by_cases h : lastS x b e = true
  · rw [if_pos h, if_pos h]
    have ht : tb b e = true := by
      have he' : e < x.labels.length := he
      unfold lastS at h
      rw [dn_ne hM (by omega)] at h
      simp only [Bool.and_eq_true] at h
      exact h.1
    have := card_dn hn hM he ht
    rw [show cardN x.labels.length (dnS b e) = k by omega]
  · rw [if_neg h, if_neg h]
theorem bN_bound (x : StrucV) (c : Int) (hn : x.labels.length ≤ 16) : ∀ (k : Nat) (b : Int), cardN x.labels.length b = k → isM x.labels.length b = true → 0 ≤ bN x c hn b ∧ bN x c hn b ≤ facN k
  | 0, b, hk, hb => by
    obtain ⟨hM, hbb⟩ := isM_spec (by omega) hb
    have := (card_zero hM hbb).1 hk
    subst this
    rw [bN_zero]
    exact ⟨by omega, Int.le_refl _⟩
  | k + 1, b, hk, hb => by
    obtain ⟨hM, hbb⟩ := isM_spec (by omega) hb
    have h0 : b ≠ 0 := fun h => by
      have := (card_zero hM hbb).2 h
      omega
    have hlast : ∀ e, e < x.labels.length → lastS x b e = true → tb b e = true ∧ 0 ≤ bN x c hn (dnS b e) ∧ bN x c hn (dnS b e) ≤ facN k := fun e he h => by
      have ht : tb b e = true := by
        unfold lastS at h
        rw [dn_ne hM (by omega)] at h
        simp only [Bool.and_eq_true] at h
        exact h.1
      have := card_dn hn hM he ht
      refine ⟨ht, bN_bound x c hn k (dnS b e) (by omega) (isM_of (by omega) (dn_M hM (by omega)) fun i hi => ?_)⟩
      rw [tb_dn hM (by omega), hbb i hi]; rfl
    rw [bN_step x c hn hb h0]
    refine ⟨sumN_nonneg fun e he => ?_, ?_⟩
    · by_cases h : lastS x b e = true
      · rw [if_pos h]; exact (hlast e he h).2.1
      · rw [if_neg h]; omega
    · have h1 := sumN_le (f := fun e => if lastS x b e = true then bN x c hn (dnS b e) else 0) (p := fun e => tb b e) (B := facN k) (k := x.labels.length)
        (fun e he ht => by
          by_cases h : lastS x b e = true
          · simp only [h, if_true]; exact (hlast e he h).2.2
          · simp only [h]
            have := facN_pos k
            simp; omega)
        (fun e he ht => by
          by_cases h : lastS x b e = true
          · rw [(hlast e he h).1] at ht; cases ht
          · simp only [h]; simp)
      have e2 : ((List.range x.labels.length).filter fun e => tb b e).length = k + 1 := hk
      rw [e2] at h1
      rw [facN]
      have : ((k + 1 : Nat) : Int) = (k : Int) + 1 := by omega
      rw [this] at h1; exact h1
/-- What is reached by the first events alone is no more. -/
theorem bN_le (x : StrucV) (c : Int) (hn : x.labels.length ≤ 16) {b : Int} (hb : isM x.labels.length b = true) : 0 ≤ bN x c hn b ∧ bN x c hn b ≤ 20922789888000 := by
  have h := bN_bound x c hn _ b rfl hb
  have hl : cardN x.labels.length b ≤ 16 := by
    have := List.length_filter_le (fun i => tb b i) (List.range x.labels.length)
    rw [List.length_range] at this
    unfold cardN; omega
  have := fac16 hl
  omega
/-- From the front. -/
def remN (n : Nat) (c a : Int) : Nat := ((List.range n).filter fun i => tb c i && !tb a i).length
def fN (x : StrucV) (c : Int) (hn : x.labels.length ≤ 16) (a : Int) : Int := pf (stepsOf x c hn) (remN x.labels.length c a) a c
theorem fN_end (x : StrucV) (c : Int) (hn : x.labels.length ≤ 16) : fN x c hn c = 1 := by
  have : remN x.labels.length c c = 0 := by
    unfold remN
    rw [List.length_eq_zero_iff, List.filter_eq_nil_iff]
    intro i _; cases tb c i <;> simp
  unfold fN; rw [this]; simp [pf]
theorem fN_start (x : StrucV) (c : Int) (hn : x.labels.length ≤ 16) (hc : isM x.labels.length c = true) : fN x c hn 0 = bN x c hn c := by
  have : remN x.labels.length c 0 = cardN x.labels.length c := by unfold remN cardN; simp
  unfold fN bN
  rw [this, orders_eq x c hn hc]
end Go.AM
