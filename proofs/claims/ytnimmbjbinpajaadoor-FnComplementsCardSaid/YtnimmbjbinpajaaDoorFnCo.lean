/-
  Complements: the net with complements runs as the old one does, and has no contact (plain).
-/
import Derived.Test.YtnimmbjbinpajaaDoorFnWc
import Derived.Test.YtnimmbjbinpajaaDoorFnNk
set_option linter.unusedVariables false
set_option linter.unusedSimpArgs false
set_option linter.unusedSectionVars false
set_option maxRecDepth 100000
set_option maxHeartbeats 1600000
namespace Go.AM
open Go.Proofs
theorem bad_iff {x : NetV} {m : Int} {a : Nat} (h1 : M (nth x.pre a)) (h2 : M (nth x.post a)) (hm : M m) : fireBad x m a = false ↔ ∀ i, i < 63 → (tb (nth x.pre a) i = true → tb m i = true) ∧ (tb m i = true → tb (nth x.post a) i = true → tb (nth x.pre a) i = true) := by
  unfold fireBad
  simp only [Bool.or_eq_false_iff, bne_eq_false_iff_eq]
  rw [eq_zero_iff (M_andNot h1 hm), eq_zero_iff (M_and (M_andNot hm h1) h2)]
  constructor
  · rintro ⟨g1, g2⟩ i hi
    have k1 := g1 i
    have k2 := g2 i
    rw [tb_andNot h1 hm] at k1
    rw [tb_and (M_andNot hm h1) h2, tb_andNot hm h1] at k2
    cases e1 : tb (nth x.pre a) i <;> cases e2 : tb m i <;> cases e3 : tb (nth x.post a) i <;> simp [e1, e2, e3] at k1 k2 ⊢
  · intro h
    have out : ∀ y : Int, M y → ∀ i, 63 ≤ i → tb y i = false := fun y hy i hi => by
      obtain ⟨n, rfl, hn⟩ := M_nat hy
      simp only [tb, Int.toNat_natCast]
      exact Nat.testBit_lt_two_pow (Nat.lt_of_lt_of_le hn (Nat.pow_le_pow_right (by omega) hi))
    refine ⟨fun i => ?_, fun i => ?_⟩
    · rw [tb_andNot h1 hm]
      by_cases hi : i < 63
      · have k := h i hi
        cases e1 : tb (nth x.pre a) i <;> cases e2 : tb m i <;> simp [e1, e2] at k ⊢
      · rw [out _ h1 i (by omega)]; rfl
    · rw [tb_and (M_andNot hm h1) h2, tb_andNot hm h1]
      by_cases hi : i < 63
      · have k := h i hi
        cases e1 : tb (nth x.pre a) i <;> cases e2 : tb m i <;> cases e3 : tb (nth x.post a) i <;> simp [e1, e2, e3] at k ⊢
      · rw [out _ hm i (by omega)]; rfl
theorem tb_fireTo {x : NetV} {m : Int} {a : Nat} (h1 : M (nth x.pre a)) (h2 : M (nth x.post a)) (hm : M m) (i : Nat) : tb (fireTo x m a) i = ((tb m i && !tb (nth x.pre a) i) || tb (nth x.post a) i) := by
  unfold fireTo
  rw [tb_or (M_andNot hm h1) h2, tb_andNot hm h1]
theorem nth_setC {l : List Int} {k i : Nat} {x : Int} (h : k < l.length) : nth (l.set k x) i = if i = k then x else nth l i := by
  unfold nth
  simp only [List.getD_eq_getElem?_getD, List.getElem?_set]
  by_cases e : k = i
  · subst e; simp [h]
  · rw [if_neg e, if_neg fun e2 => e e2.symm]
theorem colN_nth (f : Nat → Bool) (o : Int) (L : List Int) : ∀ k, k ≤ L.length → ∀ a, nth (colN f o L k) a = if a < k ∧ f a = true then ibits .or .i64 (nth L a) o else nth L a
  | 0, _, a => by simp [colN]
  | k + 1, hk, a => by
    have ih := colN_nth f o L k (by omega)
    unfold colN
    split
    · rename_i hf
      rw [nth_setC (by rw [colN_length]; omega), ih k, ih a]
      by_cases e : a = k
      · subst e; rw [if_pos rfl, if_neg (by omega), if_pos ⟨by omega, hf⟩]
      · rw [if_neg e]
        by_cases e2 : a < k ∧ f a = true
        · rw [if_pos e2, if_pos ⟨by omega, e2.2⟩]
        · rw [if_neg e2, if_neg fun h => e2 ⟨by omega, h.2⟩]
    · rename_i hf
      rw [ih a]
      by_cases e2 : a < k ∧ f a = true
      · rw [if_pos e2, if_pos ⟨by omega, e2.2⟩]
      · rw [if_neg e2, if_neg fun h => e2 ⟨by
          by_cases e : a = k
          · subst e; exact absurd h.2 hf
          · omega, h.2⟩]
/-- Bits of a mask, and behind them those that tell of some places. -/
def bitC (P : Nat) (l : List Nat) (f g : Nat → Bool) (i : Nat) : Bool := if i < P then f i else if h : i - P < l.length then g l[i - P] else false
theorem bitC_snoc (P : Nat) (l : List Nat) (p : Nat) (f g : Nat → Bool) (i : Nat) : bitC P (l ++ [p]) f g i = (bitC P l f g i || (decide (i = P + l.length) && g p)) := by
  unfold bitC
  by_cases h1 : i < P
  · simp [h1]; omega
  · simp only [h1, if_false]
    by_cases h2 : i - P < l.length
    · rw [dif_pos h2, dif_pos (by simp; omega), List.getElem_append_left h2]
      have : ¬ i = P + l.length := by omega
      simp [this]
    · rw [dif_neg h2]
      by_cases h3 : i = P + l.length
      · rw [dif_pos (by simp; omega)]
        have e : i - P = l.length := by omega
        simp [h3]
      · rw [dif_neg (by simp; omega)]; simp [h3]
/-- A marking of the net with complements. -/
def liftC (P : Nat) (m : Int) (l : List Nat) : Nat → Int
  | 0 => m
  | k + 1 => if tb m (natAt l k) then liftC P m l k else ibits .or .i64 (liftC P m l k) (pow1 ((P + k : Nat) : Int))
theorem liftC_succ (P : Nat) (m : Int) (l : List Nat) (k : Nat) : liftC P m l (k + 1) = if tb m (natAt l k) then liftC P m l k else ibits .or .i64 (liftC P m l k) (pow1 ((P + k : Nat) : Int)) := rfl
theorem liftC_M {P : Nat} {m : Int} (hm : M m) (l : List Nat) : ∀ k, P + k ≤ 62 → M (liftC P m l k)
  | 0, _ => hm
  | k + 1, h => by
    rw [liftC_succ]
    split
    · exact liftC_M hm l k (by omega)
    · exact M_or (liftC_M hm l k (by omega)) (M_pow1 (by omega))
theorem liftC_tb {P : Nat} {m : Int} (hm : M m) (hb : ∀ i, P ≤ i → tb m i = false) (l : List Nat) : ∀ k, k ≤ l.length → P + k ≤ 62 → ∀ i, tb (liftC P m l k) i = bitC P (l.take k) (tb m) (fun p => !tb m p) i
  | 0, _, _, i => by
    unfold liftC bitC
    simp only [List.take_zero, List.length_nil, Nat.not_lt_zero, dif_neg, not_false_eq_true]
    split
    · rfl
    · exact hb i (by omega)
  | k + 1, hk, hp, i => by
    have ih := liftC_tb hm hb l k (by omega) (by omega) i
    rw [List.take_succ_eq_append_getElem (by omega), bitC_snoc, ← ih]
    have hl : (l.take k).length = k := by simp; omega
    rw [hl, natAt_at (by omega) |>.symm, liftC_succ]
    cases hc : tb m (natAt l k)
    · simp only [Bool.false_eq_true, if_false]
      rw [tb_or (liftC_M hm l k (by omega)) (M_pow1 (by omega)), tb_pow1 (by omega)]
      simp only [Bool.not_false, Bool.and_true]
      congr 1
      rw [decide_eq_decide]; omega
    · simp
/-- What the net with complements is, bit by bit. -/
structure CoOk (x out : NetV) (P : Nat) (l : List Nat) : Prop where
  p : out.p = ((P + l.length : Nat) : Int)
  n1 : out.pre.length = x.pre.length
  n2 : out.post.length = x.pre.length
  m1 : ∀ a, a < x.pre.length → M (nth out.pre a)
  m2 : ∀ a, a < x.pre.length → M (nth out.post a)
  ms : M out.s
  b1 : ∀ a, a < x.pre.length → ∀ i, tb (nth out.pre a) i = bitC P l (tb (nth x.pre a)) (fun p => givesB x p a) i
  b2 : ∀ a, a < x.pre.length → ∀ i, tb (nth out.post a) i = bitC P l (tb (nth x.post a)) (fun p => takesB x p a) i
  bs : ∀ i, tb out.s i = bitC P l (tb x.s) (fun p => !tb x.s p) i
theorem co_start {x : NetV} (hx : isNet x.p x.pre x.post x.s = true) {P : Nat} (hP : x.p = (P : Int)) : CoOk x x P [] := by
  have hl := isNet_len hx
  have hmk := isNet_masks hx
  rw [hP] at hmk
  have hM := isNet_M hx
  have hs0 : 0 ≤ x.s ∧ x.s ≤ full x.p := by
    unfold isNet at hx
    simp at hx; omega
  have hsM := mark_M hx hs0.1 hs0.2
  rw [hP] at hs0
  have hbit : ∀ y : Int, 0 ≤ y → y ≤ full (P : Int) → ∀ (g : Nat → Bool) i, tb y i = bitC P [] (tb y) g i := fun y h0 h1 g i => by
    unfold bitC
    simp only [List.length_nil, Nat.not_lt_zero, dif_neg, not_false_eq_true]
    split
    · rfl
    · exact tb_of_le (n := P) (by omega) h0 h1 (by omega)
  have hpre : ∀ a, a < x.pre.length → nth x.pre a ∈ x.pre ++ x.post := fun a ha => List.mem_append_left _ (nth_mem ha)
  have hpost : ∀ a, a < x.pre.length → nth x.post a ∈ x.pre ++ x.post := fun a ha => List.mem_append_right _ (nth_mem (by omega))
  exact ⟨by simp [hP], rfl, hl.1, fun a ha => hM _ (hpre a ha), fun a ha => hM _ (hpost a ha), hsM, fun a ha i => hbit _ (hmk _ (hpre a ha)).1 (hmk _ (hpre a ha)).2 _ i, fun a ha i => hbit _ (hmk _ (hpost a ha)).1 (hmk _ (hpost a ha)).2 _ i, fun i => hbit _ hs0.1 hs0.2 _ i⟩
theorem co_step {x out : NetV} {P : Nat} {l : List Nat} (h : CoOk x out P l) (p : Nat) (h62 : P + l.length < 62) : CoOk x (compl x out p) P (l ++ [p]) := by
  have hp1 := M_pow1 (i := P + l.length) (by omega)
  have hop : pow1 out.p = pow1 ((P + l.length : Nat) : Int) := by rw [h.p]
  have e1 : ∀ a, a < x.pre.length → nth (compl x out p).pre a = if givesB x p a = true then ibits .or .i64 (nth out.pre a) (pow1 ((P + l.length : Nat) : Int)) else nth out.pre a := fun a ha => by
    unfold compl
    simp only
    rw [colN_nth _ _ _ _ (by rw [h.n1]; exact Nat.le_refl _), hop]
    by_cases hg : givesB x p a = true
    · rw [if_pos ⟨ha, hg⟩, if_pos hg]
    · rw [if_neg fun h => hg h.2, if_neg hg]
  have e2 : ∀ a, a < x.pre.length → nth (compl x out p).post a = if takesB x p a = true then ibits .or .i64 (nth out.post a) (pow1 ((P + l.length : Nat) : Int)) else nth out.post a := fun a ha => by
    unfold compl
    simp only
    rw [colN_nth _ _ _ _ (by rw [h.n2]; exact Nat.le_refl _), hop]
    by_cases hg : takesB x p a = true
    · rw [if_pos ⟨ha, hg⟩, if_pos hg]
    · rw [if_neg fun h => hg h.2, if_neg hg]
  have e3 : (compl x out p).s = if tb x.s p then out.s else ibits .or .i64 out.s (pow1 ((P + l.length : Nat) : Int)) := by unfold compl; simp only [hop]
  have hbit : ∀ (y : Int) (hy : M y) (f g : Nat → Bool) (hb : ∀ i, tb y i = bitC P l f g i) (c : Bool) (hc : g p = c), ∀ i, tb (if c = true then ibits .or .i64 y (pow1 ((P + l.length : Nat) : Int)) else y) i = bitC P (l ++ [p]) f g i := fun y hy f g hb c hc i => by
    rw [bitC_snoc, ← hb i, hc]
    cases c
    · simp
    · simp only [if_true, Bool.and_true]
      rw [tb_or hy hp1, tb_pow1 (by omega)]
      congr 1
      rw [decide_eq_decide]; omega
  refine ⟨?_, by unfold compl; simp [h.n1], by unfold compl; simp [h.n2], fun a ha => ?_, fun a ha => ?_, ?_, fun a ha i => ?_, fun a ha i => ?_, fun i => ?_⟩
  · unfold compl; simp only [h.p, List.length_append, List.length_cons, List.length_nil]; omega
  · rw [e1 a ha]; split
    · exact M_or (h.m1 a ha) hp1
    · exact h.m1 a ha
  · rw [e2 a ha]; split
    · exact M_or (h.m2 a ha) hp1
    · exact h.m2 a ha
  · rw [e3]; split
    · exact h.ms
    · exact M_or h.ms hp1
  · rw [e1 a ha]; exact hbit _ (h.m1 a ha) _ _ (h.b1 a ha) _ rfl i
  · rw [e2 a ha]; exact hbit _ (h.m2 a ha) _ _ (h.b2 a ha) _ rfl i
  · rw [e3]
    have := hbit _ h.ms _ _ h.bs (!tb x.s p) rfl i
    rw [← this]
    cases tb x.s p <;> simp
theorem co_all {x : NetV} {P : Nat} : ∀ (l k : List Nat) (out : NetV), CoOk x out P k → P + k.length + l.length ≤ 62 → CoOk x (complL x out l) P (k ++ l)
  | [], k, out, h, _ => by simpa [complL] using h
  | p :: l, k, out, h, hb => by
    rw [complL]
    have := co_all l (k ++ [p]) (compl x out p) (co_step h p (by simp at hb; omega)) (by simp at hb ⊢; omega)
    simpa using this
section
variable {x out : NetV} {P : Nat} {l : List Nat} (h : CoOk x out P l) (hx : isNet x.p x.pre x.post x.s = true) (hP : x.p = (P : Int)) (h62 : P + l.length ≤ 62) (hlP : ∀ p ∈ l, p < P)
include h hx hP h62 hlP
theorem mask_bits {y : Int} (hy : y ∈ x.pre ++ x.post) (i : Nat) (hi : P ≤ i) : tb y i = false := by
  have hl := isNet_len hx
  have := isNet_masks hx y hy
  rw [hP] at this
  exact tb_of_le (n := P) (by omega) this.1 this.2 hi
theorem lift_M {m : Int} (hm : M m) : M (liftC P m l l.length) := liftC_M hm l _ h62
theorem lift_tb {m : Int} (hm : M m) (hb : ∀ i, P ≤ i → tb m i = false) (i : Nat) : tb (liftC P m l l.length) i = bitC P l (tb m) (fun p => !tb m p) i := by
  have := liftC_tb hm hb l l.length (Nat.le_refl _) h62 i
  rwa [List.take_length] at this
/-- A transition is enabled in one net as in the other. -/
theorem co_bad {m : Int} (hm : M m) (hb : ∀ i, P ≤ i → tb m i = false) {a : Nat} (ha : a < x.pre.length) : fireBad out (liftC P m l l.length) a = fireBad x m a := by
  have hl := isNet_len hx
  have p1 : nth x.pre a ∈ x.pre ++ x.post := List.mem_append_left _ (nth_mem ha)
  have p2 : nth x.post a ∈ x.pre ++ x.post := List.mem_append_right _ (nth_mem (by omega))
  have M1 := isNet_M hx _ p1
  have M2 := isNet_M hx _ p2
  have key : fireBad out (liftC P m l l.length) a = false ↔ fireBad x m a = false := by
    rw [bad_iff (h.m1 a ha) (h.m2 a ha) (lift_M h hx hP h62 hlP hm), bad_iff M1 M2 hm]
    have L := lift_tb h hx hP h62 hlP hm hb
    have B1 := h.b1 a ha
    have B2 := h.b2 a ha
    constructor
    · intro g i hi
      by_cases hiP : i < P
      · have := g i hi
        rw [L, B1, B2] at this
        simpa [bitC, hiP] using this
      · rw [mask_bits h hx hP h62 hlP p1 i (by omega), mask_bits h hx hP h62 hlP p2 i (by omega)]
        simp
    · intro g i hi
      rw [L, B1, B2]
      by_cases hiP : i < P
      · simpa [bitC, hiP] using g i hi
      · unfold bitC
        simp only [hiP, if_false]
        split
        · rename_i hj
          have gp := g l[i - P] (by have := hlP _ (List.getElem_mem hj); omega)
          generalize l[i - P] = p at *
          unfold givesB takesB
          cases q1 : tb (nth x.pre a) p <;> cases q2 : tb (nth x.post a) p <;> cases q3 : tb m p <;> simp [q1, q2, q3] at gp ⊢
        · simp
  cases e1 : fireBad out (liftC P m l l.length) a <;> cases e2 : fireBad x m a <;> simp [e1, e2] at key ⊢
theorem fire_bits {m : Int} (hm : M m) (hb : ∀ i, P ≤ i → tb m i = false) {a : Nat} (ha : a < x.pre.length) : M (fireTo x m a) ∧ ∀ i, P ≤ i → tb (fireTo x m a) i = false := by
  have hl := isNet_len hx
  have p1 : nth x.pre a ∈ x.pre ++ x.post := List.mem_append_left _ (nth_mem ha)
  have p2 : nth x.post a ∈ x.pre ++ x.post := List.mem_append_right _ (nth_mem (by omega))
  have M1 := isNet_M hx _ p1
  have M2 := isNet_M hx _ p2
  refine ⟨M_or (M_andNot hm M1) M2, fun i hi => ?_⟩
  rw [tb_fireTo M1 M2 hm, hb i hi, mask_bits h hx hP h62 hlP p2 i hi]; rfl
theorem co_to {m : Int} (hm : M m) (hb : ∀ i, P ≤ i → tb m i = false) {a : Nat} (ha : a < x.pre.length) (hg : fireBad x m a = false) : fireTo out (liftC P m l l.length) a = liftC P (fireTo x m a) l l.length := by
  have hl := isNet_len hx
  have p1 : nth x.pre a ∈ x.pre ++ x.post := List.mem_append_left _ (nth_mem ha)
  have p2 : nth x.post a ∈ x.pre ++ x.post := List.mem_append_right _ (nth_mem (by omega))
  have M1 := isNet_M hx _ p1
  have M2 := isNet_M hx _ p2
  have ML := lift_M h hx hP h62 hlP hm
  obtain ⟨F1, F2⟩ := fire_bits h hx hP h62 hlP hm hb ha
  refine tb_ext (M_or (M_andNot ML (h.m1 a ha)) (h.m2 a ha)) (lift_M h hx hP h62 hlP F1) fun i hi => ?_
  rw [tb_fireTo (h.m1 a ha) (h.m2 a ha) ML, lift_tb h hx hP h62 hlP F1 F2, lift_tb h hx hP h62 hlP hm hb, h.b1 a ha, h.b2 a ha]
  have g := (bad_iff M1 M2 hm).1 hg
  unfold bitC
  by_cases hiP : i < P
  · simp only [hiP, if_true]
    rw [tb_fireTo M1 M2 hm]
  · simp only [hiP, if_false]
    split
    · rename_i hj
      have gp := g l[i - P] (by have := hlP _ (List.getElem_mem hj); omega)
      rw [tb_fireTo M1 M2 hm]
      generalize l[i - P] = p at *
      unfold givesB takesB
      cases q1 : tb (nth x.pre a) p <;> cases q2 : tb (nth x.post a) p <;> cases q3 : tb m p <;> simp [q1, q2, q3] at gp ⊢
    · rfl
theorem co_lang : ∀ (w : List Nat) (m : Int), M m → (∀ i, P ≤ i → tb m i = false) → sysLang (netS out) (liftC P m l l.length) w = sysLang (netS x) m w
  | [], m, _, _ => rfl
  | a :: w, m, hm, hb => by
    simp only [sysLang]
    have e1 : (netS out).L = x.pre.length := h.n1
    have e2 : (netS x).L = x.pre.length := rfl
    rw [e1, e2]
    by_cases ha : a < x.pre.length
    · rw [if_pos ha, if_pos ha]
      have hbd := co_bad h hx hP h62 hlP hm hb ha
      cases hg : fireBad x m a
      · rw [hg] at hbd
        obtain ⟨F1, F2⟩ := fire_bits h hx hP h62 hlP hm hb ha
        have ih := co_lang w (fireTo x m a) F1 F2
        simp only [netS, hbd, hg, Bool.not_false, if_true, Bool.false_eq_true, if_false] at ih ⊢
        rw [co_to h hx hP h62 hlP hm hb ha hg]
        exact ih
      · rw [hg] at hbd
        simp [netS, hbd, hg]
    · rw [if_neg ha, if_neg ha]
theorem co_run : ∀ (w : List Int) (m : Int), M m → (∀ i, P ≤ i → tb m i = false) → (∀ a ∈ w, a.toNat < x.pre.length) → runW out (liftC P m l l.length) w = (runW x m w).map fun r => liftC P r l l.length
  | [], m, _, _, _ => rfl
  | a :: w, m, hm, hb, hw => by
    have ha := hw a (by simp)
    simp only [runW]
    rw [co_bad h hx hP h62 hlP hm hb ha]
    cases hg : fireBad x m a.toNat
    · obtain ⟨F1, F2⟩ := fire_bits h hx hP h62 hlP hm hb ha
      simp only [Bool.false_eq_true, if_false]
      rw [co_to h hx hP h62 hlP hm hb ha hg]
      exact co_run w _ F1 F2 fun b hb => hw b (by simp [hb])
    · simp
theorem co_start_s (hb : ∀ i, P ≤ i → tb x.s i = false) (hs : M x.s) : out.s = liftC P x.s l l.length := by
  refine tb_ext h.ms (lift_M h hx hP h62 hlP hs) fun i _ => ?_
  rw [h.bs, lift_tb h hx hP h62 hlP hs hb]
end
end Go.AM
