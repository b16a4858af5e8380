/-
  Plain law: the tokens on an invariant stay as many, no invariant is a part of another one, the reversed net goes back.
-/
import Derived.Test.YtmpdpjpebekfkaaFnI
set_option linter.unusedVariables false
set_option linter.unusedSimpArgs false
set_option maxRecDepth 100000
namespace Go.AM
open Go.Proofs
theorem popc_or : ∀ (k a b : Nat), a < 2 ^ k → b < 2 ^ k → a &&& b = 0 → popc (a ||| b) = popc a + popc b
  | 0, a, b, ha, hb, _ => by
    have h1 : a = 0 := by simpa using ha
    have h2 : b = 0 := by simpa using hb
    subst h1; subst h2; simp [popc_zero]
  | k + 1, a, b, ha, hb, h => by
    rw [Nat.pow_succ] at ha hb
    have h2 : (a &&& b) / 2 = a / 2 &&& b / 2 := by
      apply Nat.eq_of_testBit_eq; intro i
      rw [Nat.testBit_and, Nat.testBit_div_two, Nat.testBit_div_two, Nat.testBit_div_two, Nat.testBit_and]
    have h3 : (a ||| b) / 2 = a / 2 ||| b / 2 := by
      apply Nat.eq_of_testBit_eq; intro i
      rw [Nat.testBit_or, Nat.testBit_div_two, Nat.testBit_div_two, Nat.testBit_div_two, Nat.testBit_or]
    have ih := popc_or k (a / 2) (b / 2) (by omega) (by omega) (by rw [← h2, h])
    rw [popc_step, popc_step a, popc_step b, h3, ih]
    have e0 : (a &&& b).testBit 0 = false := by rw [h]; exact Nat.zero_testBit 0
    rw [Nat.testBit_and, Nat.testBit_zero, Nat.testBit_zero] at e0
    have e1 : ((a ||| b) % 2 = 1) ↔ (a % 2 = 1 ∨ b % 2 = 1) := by
      have := congrArg id (Nat.testBit_or a b 0)
      simp only [Nat.testBit_zero, id] at this
      have h4 := decide_eq_decide.1 (this.trans (Bool.decide_or _ _).symm)
      exact h4
    have e2 : ¬ (a % 2 = 1 ∧ b % 2 = 1) := by
      rintro ⟨p, q⟩
      rw [p, q] at e0
      simp at e0
    omega
/-- How many of a mask's bits are set. -/
def pcI (x : Int) : Nat := popc x.toNat
theorem pcI_or {x y : Int} (hx : M x) (hy : M y) (h : ∀ i, (tb x i && tb y i) = false) : pcI (ibits .or .i64 x y) = pcI x + pcI y := by
  obtain ⟨a, rfl, ha⟩ := M_nat hx
  obtain ⟨b, rfl, hb⟩ := M_nat hy
  rw [ib_or a b ha hb]
  unfold pcI
  simp only [Int.toNat_natCast]
  refine popc_or 63 a b ha hb (Nat.eq_of_testBit_eq fun i => ?_)
  have := h i
  unfold tb at this
  simp only [Int.toNat_natCast] at this
  rw [Nat.testBit_and, this, Nat.zero_testBit]
/-- What it means that a transition fires. -/
theorem fire_bits {x : NetV} {m : Int} {a : Nat} (hp : M (nth x.pre a)) (hq : M (nth x.post a)) (hm : M m) (h : fireBad x m a = false) :
    (∀ i, tb (nth x.pre a) i = true → tb m i = true) ∧ ∀ i, tb m i = true → tb (nth x.pre a) i = false → tb (nth x.post a) i = false := by
  unfold fireBad at h
  rw [Bool.or_eq_false_iff] at h
  obtain ⟨h1, h2⟩ := h
  have h1' : ibits .andNot .i64 (nth x.pre a) m = 0 := by simpa using h1
  have h2' : ibits .and .i64 (ibits .andNot .i64 m (nth x.pre a)) (nth x.post a) = 0 := by simpa using h2
  rw [eq_zero_iff (M_andNot hp hm)] at h1'
  rw [eq_zero_iff (M_and (M_andNot hm hp) hq)] at h2'
  refine ⟨fun i hi => ?_, fun i hi hj => ?_⟩
  · have := h1' i
    rw [tb_andNot hp hm, hi] at this
    simpa using this
  · have := h2' i
    rw [tb_and (M_andNot hm hp) hq, tb_andNot hm hp, hi, hj] at this
    simpa using this
theorem fire_M {x : NetV} {m : Int} {a : Nat} (hp : M (nth x.pre a)) (hq : M (nth x.post a)) (hm : M m) : M (fireTo x m a) := M_or (M_andNot hm hp) hq
/-- The tokens on a kept set stay as many. -/
theorem fire_kept {x : NetV} {m set : Int} {a : Nat} (hp : M (nth x.pre a)) (hq : M (nth x.post a)) (hm : M m) (hs : M set) (hk : keptAt x set a = true) (h : fireBad x m a = false) :
    pcI (ibits .and .i64 set (fireTo x m a)) = pcI (ibits .and .i64 set m) := by
  obtain ⟨h1, h2⟩ := fire_bits hp hq hm h
  have hR : M (ibits .andNot .i64 m (nth x.pre a)) := M_andNot hm hp
  have e1 : ibits .and .i64 set (fireTo x m a) = ibits .or .i64 (ibits .and .i64 set (ibits .andNot .i64 m (nth x.pre a))) (ibits .and .i64 set (nth x.post a)) := by
    refine tb_ext (M_and hs (M_or hR hq)) (M_or (M_and hs hR) (M_and hs hq)) fun i _ => ?_
    unfold fireTo
    rw [tb_and hs (M_or hR hq), tb_or hR hq, tb_or (M_and hs hR) (M_and hs hq), tb_and hs hR, tb_and hs hq]
    cases tb set i <;> simp
  have e2 : ibits .and .i64 set m = ibits .or .i64 (ibits .and .i64 set (ibits .andNot .i64 m (nth x.pre a))) (ibits .and .i64 set (nth x.pre a)) := by
    refine tb_ext (M_and hs hm) (M_or (M_and hs hR) (M_and hs hp)) fun i _ => ?_
    rw [tb_and hs hm, tb_or (M_and hs hR) (M_and hs hp), tb_and hs hR, tb_and hs hp, tb_andNot hm hp]
    have := h1 i
    cases h3 : tb set i <;> cases h4 : tb m i <;> cases h5 : tb (nth x.pre a) i <;> simp_all
  rw [e1, e2, pcI_or (M_and hs hR) (M_and hs hq) ?_, pcI_or (M_and hs hR) (M_and hs hp) ?_]
  · unfold keptAt at hk
    rw [beq_iff_eq] at hk
    unfold pcI
    omega
  · intro i
    rw [tb_and hs hR, tb_and hs hp, tb_andNot hm hp]
    cases tb set i <;> cases tb m i <;> cases tb (nth x.pre a) i <;> rfl
  · intro i
    rw [tb_and hs hR, tb_and hs hq, tb_andNot hm hp]
    have := h2 i
    cases h3 : tb set i <;> cases h4 : tb m i <;> cases h5 : tb (nth x.pre a) i <;> cases h6 : tb (nth x.post a) i <;> simp_all
theorem run_kept {x : NetV} {set : Int} (hx : ∀ i ∈ x.pre ++ x.post, M i) (hl : x.post.length = x.pre.length) (hs : M set) (hk : kept x set = true) : ∀ (w : List Int) (m m' : Int), (∀ a ∈ w, a.toNat < x.pre.length) → M m → runW x m w = some m' →
    pcI (ibits .and .i64 set m') = pcI (ibits .and .i64 set m)
  | [], m, m', _, hm, h => by simp [runW] at h; rw [h]
  | a :: w, m, m', hw, hm, h => by
    have ha := hw a (by simp)
    have hp := hx _ (List.mem_append_left _ (nth_mem ha))
    have hq := hx _ (List.mem_append_right _ (nth_mem (show a.toNat < x.post.length by omega)))
    rw [runW] at h
    split at h
    · cases h
    · rename_i hb
      rw [run_kept hx hl hs hk w _ m' (fun b hb => hw b (by simp [hb])) (fire_M hp hq hm) h]
      refine fire_kept hp hq hm hs ?_ (by simpa using hb)
      exact List.all_eq_true.1 hk _ (List.mem_range.2 ha)
/-- The net turned round. -/
def turned (x : NetV) : NetV := ⟨x.p, x.post, x.pre, x.s⟩
theorem fire_back {x : NetV} {m : Int} {a : Nat} (hp : M (nth x.pre a)) (hq : M (nth x.post a)) (hm : M m) (h : fireBad x m a = false) : fireBad (turned x) (fireTo x m a) a = false ∧ fireTo (turned x) (fireTo x m a) a = m := by
  obtain ⟨h1, h2⟩ := fire_bits hp hq hm h
  have hR : M (ibits .andNot .i64 m (nth x.pre a)) := M_andNot hm hp
  have hT : M (fireTo x m a) := fire_M hp hq hm
  have hb : ∀ i, tb (fireTo x m a) i = (tb m i && !tb (nth x.pre a) i || tb (nth x.post a) i) := fun i => by
    unfold fireTo; rw [tb_or hR hq, tb_andNot hm hp]
  constructor
  · unfold fireBad turned
    rw [Bool.or_eq_false_iff]
    constructor
    · have : ibits .andNot .i64 (nth x.post a) (fireTo x m a) = 0 := (eq_zero_iff (M_andNot hq hT)).2 fun i => by
        rw [tb_andNot hq hT, hb]
        cases tb (nth x.post a) i <;> simp
      simp [this]
    · have : ibits .and .i64 (ibits .andNot .i64 (fireTo x m a) (nth x.post a)) (nth x.pre a) = 0 := (eq_zero_iff (M_and (M_andNot hT hq) hp)).2 fun i => by
        rw [tb_and (M_andNot hT hq) hp, tb_andNot hT hq, hb]
        cases tb m i <;> cases tb (nth x.pre a) i <;> cases tb (nth x.post a) i <;> rfl
      simp [this]
  · show ibits .or .i64 (ibits .andNot .i64 (fireTo x m a) (nth x.post a)) (nth x.pre a) = m
    refine tb_ext (M_or (M_andNot hT hq) hp) hm fun i _ => ?_
    rw [tb_or (M_andNot hT hq) hp, tb_andNot hT hq, hb]
    have g1 := h1 i
    have g2 := h2 i
    cases h4 : tb m i <;> cases h5 : tb (nth x.pre a) i <;> cases h6 : tb (nth x.post a) i <;> simp_all
theorem runW_append (x : NetV) : ∀ (u v : List Int) (m : Int), runW x m (u ++ v) = (runW x m u).bind fun m' => runW x m' v
  | [], v, m => by simp [runW]
  | a :: u, v, m => by
    rw [List.cons_append, runW, runW]
    split
    · rfl
    · exact runW_append x u v _
theorem run_back {x : NetV} (hx : ∀ i ∈ x.pre ++ x.post, M i) (hl : x.post.length = x.pre.length) : ∀ (w : List Int) (m m' : Int), (∀ a ∈ w, a.toNat < x.pre.length) → M m → runW x m w = some m' → runW (turned x) m' w.reverse = some m
  | [], m, m', _, hm, h => by simp [runW] at h ⊢; exact h.symm
  | a :: w, m, m', hw, hm, h => by
    have ha := hw a (by simp)
    have hp := hx _ (List.mem_append_left _ (nth_mem ha))
    have hq := hx _ (List.mem_append_right _ (nth_mem (show a.toNat < x.post.length by omega)))
    rw [runW] at h
    split at h
    · cases h
    · rename_i hb
      have ih := run_back hx hl w _ m' (fun b hb => hw b (by simp [hb])) (fire_M hp hq hm) h
      obtain ⟨f1, f2⟩ := fire_back hp hq hm (by simpa using hb)
      rw [List.reverse_cons, runW_append, ih]
      simp [runW, f1, f2]
theorem or_comm' {x y : Int} (hx : M x) (hy : M y) : ibits .or .i64 x y = ibits .or .i64 y x :=
  tb_ext (M_or hx hy) (M_or hy hx) fun i _ => by rw [tb_or hx hy, tb_or hy hx, Bool.or_comm]
theorem isNet_turned {x : NetV} (h : isNet x.p x.pre x.post x.s = true) : isNet x.p x.post x.pre x.s = true := by
  have hl := isNet_len h
  have h0 := h
  unfold isNet at h ⊢
  simp only [Bool.and_eq_true, List.all_eq_true, List.mem_range, decide_eq_true_eq] at h ⊢
  refine ⟨?_, ?_⟩
  · simp only [beq_iff_eq] at *; omega
  · intro k hk
    have := h.2 k (by omega)
    have hM := isNet_M h0
    have m1 : M (x.pre.getD k 0) := hM _ (List.mem_append_left _ (nth_mem (show k < x.pre.length by omega)))
    have m2 : M (x.post.getD k 0) := hM _ (List.mem_append_right _ (nth_mem hk))
    simp only [isTr] at this ⊢
    rw [or_comm' m2 m1]
    generalize x.pre.getD k 0 = a at *
    generalize x.post.getD k 0 = b at *
    generalize ibits BinOp.or IntKind.i64 a b = c at *
    simp only [Bool.and_eq_true] at this ⊢
    exact ⟨⟨this.1.2, this.1.1⟩, this.2⟩
theorem run_le {x : NetV} (hn : isNet x.p x.pre x.post x.s = true) {w : List Int} {m m' : Int} (hw : ∀ a ∈ w, a.toNat < x.pre.length) (h0 : 0 ≤ m) (h1 : m ≤ full x.p) (h : runW x m w = some m') : 0 ≤ m' ∧ m' ≤ full x.p := by
  have hl := isNet_len hn
  have hM := isNet_M hn
  have hmk := isNet_masks hn
  obtain ⟨n, hp⟩ := Int.eq_ofNat_of_zero_le hl.2.2.1
  rw [hp] at hmk h1 ⊢
  have hn' : n < 63 := by omega
  induction w generalizing m with
  | nil => simp [runW] at h; subst h; exact ⟨h0, h1⟩
  | cons a w ih =>
    have ha := hw a (by simp)
    have mp := List.mem_append_left x.post (nth_mem ha)
    have mq := List.mem_append_right x.pre (nth_mem (show a.toNat < x.post.length by omega))
    have hm : M m := full_M hn' h0 h1
    rw [runW] at h
    split at h
    · cases h
    · refine ih (fun b hb => hw b (by simp [hb])) (fire_M (hM _ mp) (hM _ mq) hm).1 h ?_
      refine le_full hn' (fire_M (hM _ mp) (hM _ mq) hm) fun i hi => ?_
      unfold fireTo
      rw [tb_or (M_andNot hm (hM _ mp)) (hM _ mq), tb_andNot hm (hM _ mp), tb_of_le hn' h0 h1 hi, tb_of_le hn' (hmk _ mq).1 (hmk _ mq).2 hi]
      rfl
theorem overW_reverse (n : Nat) (w : List Int) : overW n w.reverse = overW n w := by
  unfold overW; simp
/-- The reversed net goes back. -/
theorem fireWord_back {x : NetV} {m m' : Int} {w : List Int} (h : fireWordV x m w = (m', 0)) : fireWordV (turned x) m' w.reverse = (m, 0) ∧ ∀ set, M set → kept x set = true → pcI (ibits .and .i64 set m') = pcI (ibits .and .i64 set m) := by
  unfold fireWordV at h
  split at h
  case isFalse hne => simp at h; exact absurd h.2 hne
  rename_i hc
  obtain ⟨hn, h0, h1⟩ := markCode_zero hc
  have hl := isNet_len hn
  split at h
  case isFalse => simp at h
  rename_i ho
  split at h
  case h_2 => simp at h
  rename_i m2 hr
  simp only [Prod.mk.injEq, and_true] at h
  subst h
  have hw := overW_mem ho
  have hm := mark_M hn h0 h1
  have hle := run_le hn hw h0 h1 hr
  refine ⟨?_, fun set hs hk => run_kept (isNet_M hn) hl.1 hs hk w m m2 hw hm hr⟩
  unfold fireWordV
  have c1 : markCode (turned x) m2 = 0 := by
    unfold markCode turned
    simp only [isNet_turned hn, if_true]
    simp [hle.1, hle.2]
  have c2 : overW (turned x).pre.length w.reverse = true := by
    rw [overW_reverse]; show overW x.post.length w = true; rw [hl.1]; exact ho
  rw [if_pos c1, if_pos c2, run_back (isNet_M hn) hl.1 w m m2 hw hm hr]
theorem markM_of {x : NetV} {m : Int} {w : List Int} (h : (fireWordV x m w).2 = 0) : M m ∧ M (fireWordV x m w).1 := by
  have e := h
  unfold fireWordV at h ⊢
  split at h
  case isFalse hne => simp at h; exact absurd h hne
  rename_i hc
  obtain ⟨hn, h0, h1⟩ := markCode_zero hc
  rw [if_pos hc]
  split at h
  case isFalse => simp at h
  rename_i ho
  rw [if_pos ho]
  split at h
  case h_2 => simp at h
  rename_i m2 hr
  have hle := run_le hn (overW_mem ho) h0 h1 hr
  exact ⟨mark_M hn h0 h1, mark_M hn hle.1 hle.2⟩
theorem andNot_le {a b : Int} (ha : M a) (hb : M b) (h : ibits .andNot .i64 a b = 0) : a ≤ b := by
  obtain ⟨x, rfl, hx⟩ := M_nat ha
  obtain ⟨y, rfl, hy⟩ := M_nat hb
  rw [eq_zero_iff (M_andNot ha hb)] at h
  have : x ≤ y := Nat.le_of_testBit fun i hi => by
    have := h i
    rw [tb_andNot ha hb] at this
    unfold tb at this
    simp only [Int.toNat_natCast] at this
    rw [hi] at this
    simpa using this
  omega
theorem andNot_self {a : Int} (ha : M a) : ibits .andNot .i64 a a = 0 :=
  (eq_zero_iff (M_andNot ha ha)).2 fun i => by rw [tb_andNot ha ha]; cases tb a i <;> rfl
theorem one_of {α : Type} {q : α → α → Bool} : ∀ {l : List α}, l.Pairwise (fun a b => q a b = false ∧ q b a = false) → (∀ a ∈ l, q a a = true) → ∀ a ∈ l, (l.filter (q a)).length = 1
  | [], _, _, a, ha => by cases ha
  | b :: l, hp, hs, a, ha => by
    rw [List.pairwise_cons] at hp
    rcases List.mem_cons.1 ha with rfl | ha
    · rw [List.filter_cons, if_pos (hs a (by simp)), List.length_cons, List.filter_eq_nil_iff.2 fun c hc => by rw [(hp.1 c hc).1]; simp]
      rfl
    · rw [List.filter_cons, if_neg (by rw [(hp.1 a ha).2]; simp)]
      exact one_of hp.2 (fun c hc => hs c (by simp [hc])) a ha
theorem invUp_pair (x : NetV) : ∀ k, k < 1048576 → (invUp x k).Pairwise fun a b => (ibits .andNot .i64 a b == 0) = false ∧ (ibits .andNot .i64 b a == 0) = false
  | 0, _ => by simp [invUp]
  | k + 1, hk => by
    have ih := invUp_pair x k (by omega)
    rw [invUp]
    split
    · rename_i h
      simp only [Bool.and_eq_true, Bool.not_eq_true'] at h
      rw [List.pairwise_append]
      refine ⟨ih, by simp, fun a ha b hb => ?_⟩
      simp only [List.mem_singleton] at hb
      subst hb
      have hr := invUp_mem x k a ha
      have ma : M a := by unfold M; omega
      have mb : M ((k + 1 : Nat) : Int) := by unfold M; omega
      refine ⟨?_, ?_⟩
      · have := List.any_eq_false.1 h.2 a ha
        simpa using this
      · cases e : (ibits .andNot .i64 ((k + 1 : Nat) : Int) a == 0)
        · rfl
        · have := andNot_le mb ma (by simpa using e)
          omega
    · exact ih
theorem invUp_kept (x : NetV) : ∀ k, ∀ a ∈ invUp x k, kept x a = true
  | 0 => by simp [invUp]
  | k + 1 => by
    intro a ha
    rw [invUp] at ha
    split at ha
    · rename_i h
      simp only [Bool.and_eq_true] at h
      rcases List.mem_append.1 ha with ha | ha
      · exact invUp_kept x k a ha
      · simp only [List.mem_singleton] at ha
        subst ha; exact h.1
    · exact invUp_kept x k a ha
/-- What the law asks of the invariants. -/
theorem invariants_law {x : NetV} (h0 : (invariantsOfV x).2 = 0) : (∀ s ∈ (invariantsOfV x).1, M s ∧ s ≠ 0 ∧ kept x s = true ∧ ((invariantsOfV x).1.filter fun p => ibits .andNot .i64 s p == 0).length = 1) ∧ isNet x.p x.pre x.post x.s = true ∧ (invariantsOfV x).1.length ≤ 256 := by
  unfold invariantsOfV at h0 ⊢
  by_cases h : isNet x.p x.pre x.post x.s = true
  · have hl := isNet_len h
    obtain ⟨q1, q2, q3, q4⟩ := p12 hl.2.2.1 hl.2.2.2
    rw [if_pos h] at h0 ⊢
    by_cases hc : (invUp x (2 ^ x.p.toNat - 1)).length ≤ 256
    · rw [if_pos hc]
      refine ⟨fun s hs => ?_, h, hc⟩
      have hr := invUp_mem x _ s hs
      have hM : ∀ a ∈ invUp x (2 ^ x.p.toNat - 1), M a := fun a ha => by have := invUp_mem x _ a ha; unfold M; omega
      refine ⟨hM s hs, by omega, invUp_kept x _ s hs, ?_⟩
      exact one_of (q := fun s p => ibits .andNot .i64 s p == 0) (invUp_pair x _ (by omega)) (fun a ha => by simp [andNot_self (hM a ha)]) s hs
    · rw [if_neg hc] at h0; simp at h0
  · rw [if_neg h] at h0; simp at h0
theorem invariants_bad {x : NetV} (h0 : (invariantsOfV x).2 ≠ 0) : (invariantsOfV x).1 = [] ∧ ((invariantsOfV x).2 = 1 → (revNet x).2 = 1) := by
  unfold invariantsOfV at h0 ⊢
  unfold revNet
  by_cases h : isNet x.p x.pre x.post x.s = true
  · rw [if_pos h] at h0 ⊢
    split at h0
    · simp at h0
    · rename_i hc
      rw [if_neg hc]
      simp
  · rw [if_neg h]
    simp [h]
end Go.AM
