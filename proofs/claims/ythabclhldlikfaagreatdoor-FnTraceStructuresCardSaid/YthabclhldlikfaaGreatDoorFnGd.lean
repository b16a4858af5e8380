/-
  The closure of the order of a word's positions, and the pasts; contracts: runs over places.
-/
import Derived.Test.YthabclhldlikfaaGreatDoorFnGc
set_option linter.unusedVariables false
set_option linter.unusedSimpArgs false
set_option maxRecDepth 100000
set_option maxHeartbeats 1600000
namespace Go.AM
open Go.Proofs
/-! The closure, plainly. -/
/-- Reached by way of places below `m`. -/
def rb (E : Nat → Nat → Bool) : Nat → Nat → Nat → Bool
  | 0, i, j => i == j || E i j
  | m + 1, i, j => rb E m i j || (rb E m i m && rb E m m j)
theorem rb_mono {E : Nat → Nat → Bool} {m k i j : Nat} (h : rb E m i j = true) (hk : m ≤ k) : rb E k i j = true := by
  induction k with
  | zero => obtain rfl : m = 0 := by omega
            exact h
  | succ k ih =>
    by_cases e : m = k + 1
    · subst e; exact h
    · rw [rb, ih (by omega)]; rfl
theorem rb_trans {E : Nat → Nat → Bool} : ∀ {m i j k : Nat}, rb E m i k = true → rb E m k j = true → k < m → rb E m i j = true
  | 0, i, j, k, _, _, h => by omega
  | m + 1, i, j, k, h1, h2, h => by
    simp only [rb, Bool.or_eq_true, Bool.and_eq_true] at h1 h2 ⊢
    by_cases e : k = m
    · subst e
      right
      refine ⟨?_, ?_⟩
      · rcases h1 with h1 | h1
        · exact h1
        · exact h1.1
      · rcases h2 with h2 | h2
        · exact h2
        · exact h2.2
    · have hk : k < m := by omega
      rcases h1 with h1 | h1 <;> rcases h2 with h2 | h2
      · exact .inl (rb_trans h1 h2 hk)
      · exact .inr ⟨rb_trans h1 h2.1 hk, h2.2⟩
      · exact .inr ⟨h1.1, rb_trans h1.2 h2 hk⟩
      · exact .inr ⟨h1.1, h2.2⟩
/-- The last step of a way. -/
theorem rb_last {E : Nat → Nat → Bool} : ∀ {m i j : Nat}, rb E m i j = true → i = j ∨ ∃ k, E k j = true ∧ rb E m i k = true
  | 0, i, j, h => by
    simp only [rb, Bool.or_eq_true, beq_iff_eq] at h
    rcases h with h | h
    · exact .inl h
    · exact .inr ⟨i, h, by simp [rb]⟩
  | m + 1, i, j, h => by
    simp only [rb, Bool.or_eq_true, Bool.and_eq_true] at h
    rcases h with h | ⟨h1, h2⟩
    · rcases rb_last h with e | ⟨k, hk, hr⟩
      · exact .inl e
      · exact .inr ⟨k, hk, rb_mono hr (by omega)⟩
    · rcases rb_last h2 with e | ⟨k, hk, hr⟩
      · subst e
        rcases rb_last h1 with e | ⟨k, hk, hr⟩
        · exact .inl e
        · exact .inr ⟨k, hk, rb_mono hr (by omega)⟩
      · exact .inr ⟨k, hk, by simp only [rb, Bool.or_eq_true, Bool.and_eq_true]; exact .inr ⟨h1, hr⟩⟩
theorem rb_high {E : Nat → Nat → Bool} {n : Nat} (hE : ∀ i j, n ≤ j → E i j = false) : ∀ {m i j : Nat}, m ≤ n → i < n → n ≤ j → rb E m i j = false
  | 0, i, j, _, h1, h2 => by
    have : (i == j) = false := by simp; omega
    simp [rb, this, hE i j h2]
  | m + 1, i, j, hm, h1, h2 => by
    rw [rb, rb_high hE (by omega) h1 h2, rb_high (m := m) (i := m) hE (by omega) (by omega) h2]; simp
theorem pass_tb {n k : Nat} {out : List Int} (hl : out.length = n) (hM : AllM out) (hk : k < n) : ∀ m, m ≤ n → ∀ a, a < n → ∀ j, tb (nth ((List.range m).foldl (stepW k) out) a) j = if a < m then (tb (nth out a) j || (tb (nth out a) k && tb (nth out k) j)) else tb (nth out a) j
  | 0, _, a, ha, j => by simp
  | m + 1, hm, a, ha, j => by
    have ih := fun a ha j => pass_tb hl hM hk m (by omega) a ha j
    have hlen := foldW_length k (List.range m) out
    rw [hl] at hlen
    have hMm := foldW_M (k := k) (List.range m) hM (by omega) (fun i hi => by rw [List.mem_range] at hi; omega)
    rw [range_foldl_succ]
    generalize (List.range m).foldl (stepW k) out = o at *
    have hom := hMm m (by omega)
    have hok := hMm k (by omega)
    have e1 : ∀ j, tb (nth o m) j = tb (nth out m) j := fun j => by rw [ih m (by omega) j, if_neg (by omega)]
    have e2 : ∀ j, tb (nth o k) j = tb (nth out k) j := fun j => by
      rw [ih k hk j]; split
      · cases tb (nth out k) j <;> simp
      · rfl
    unfold stepW
    by_cases hb : tb (nth o m) k = true
    · rw [if_pos hb]
      rw [e1] at hb
      rw [nth_set _ (by omega) a (by omega)]
      by_cases ea : a = m
      · subst ea
        rw [if_pos rfl, tb_or hom hok, e1, e2, if_pos (by omega), hb]; simp
      · rw [if_neg ea, ih a ha j]
        simp [show (a < m + 1) = (a < m) from propext ⟨fun _ => by omega, fun _ => by omega⟩]
    · rw [if_neg hb]
      rw [Bool.not_eq_true, e1] at hb
      by_cases ea : a = m
      · subst ea
        rw [ih a ha j, if_neg (by omega), if_pos (by omega), hb]; simp
      · rw [ih a ha j]
        simp [show (a < m + 1) = (a < m) from propext ⟨fun _ => by omega, fun _ => by omega⟩]
theorem clo_tb {r : List Int} (h : AllM r) (h24 : r.length ≤ 24) : ∀ m, m ≤ r.length → ∀ i, i < r.length → ∀ j, tb (nth ((List.range m).foldl (passW r.length) (reflR r)) i) j = rb (fun i j => tb (nth r i) j) m i j
  | 0, _, i, hi, j => by
    simp only [List.range_zero, List.foldl_nil, rb]
    rw [nth_at (by rw [reflR_length]; exact hi)]
    simp only [reflR, List.getElem_map, List.getElem_range]
    rw [tb_or (h i hi) (M_pow1 (by omega)), tb_pow1 (by omega), Bool.or_comm]
    rfl
  | m + 1, hm, i, hi, j => by
    have ih := fun i hi j => clo_tb h h24 m (by omega) i hi j
    have hPl := foldP_length r.length (List.range m) (reflR r)
    rw [reflR_length] at hPl
    have hPM := foldP_M (n := r.length) (List.range m) (reflR_M h h24) (reflR_length r) (fun j hj => by rw [List.mem_range] at hj; omega)
    rw [range_foldl_succ]
    have := pass_tb (k := m) hPl hPM (by omega) r.length (Nat.le_refl _) i hi j
    show tb (nth (List.foldl (stepW m) (List.foldl (passW r.length) (reflR r) (List.range m)) (List.range r.length)) i) j = _
    rw [this, if_pos hi, ih i hi, ih i hi, ih m (by omega), rb]
theorem clo_rb {r : List Int} (h : AllM r) (h24 : r.length ≤ 24) {i : Nat} (hi : i < r.length) (j : Nat) : tb (nth (clo r) i) j = rb (fun i j => tb (nth r i) j) r.length i j := clo_tb h h24 _ (Nat.le_refl _) i hi j
theorem clo_M {r : List Int} (h : AllM r) (h24 : r.length ≤ 24) : AllM (clo r) :=
  foldP_M (n := r.length) _ (reflR_M h h24) (reflR_length r) (fun j hj => List.mem_range.1 hj)
/-! The pasts, one after the other. -/
def pr (ps : List Int) (T : Nat → Bool) (s : Int) : Nat → Int
  | 0 => s
  | k + 1 => if T k then ibits .or .i64 (pr ps T s k) (nth ps k) else pr ps T s k
def pastL (T : Nat → Nat → Bool) : Nat → List Int
  | 0 => []
  | m + 1 => pastL T m ++ [pr (pastL T m) (fun k => T k m) (pow1 m) m]
@[simp] theorem pastL_length (T : Nat → Nat → Bool) : ∀ m, (pastL T m).length = m
  | 0 => rfl
  | m + 1 => by simp [pastL, pastL_length T m]
theorem pastL_nth (T : Nat → Nat → Bool) {i : Nat} : ∀ {m : Nat}, i < m → nth (pastL T m) i = pr (pastL T i) (fun k => T k i) (pow1 i) i
  | 0, h => by omega
  | m + 1, h => by
    have hl := pastL_length T m
    rw [nth_at (by simpa using h)]
    by_cases e : i = m
    · subst e
      simp only [pastL]
      rw [List.getElem_append_right (by omega)]
      simp
    · have ih := pastL_nth T (i := i) (m := m) (by omega)
      rw [nth_at (by omega)] at ih
      simp only [pastL]
      rw [List.getElem_append_left (by omega)]; exact ih
theorem pr_M {ps : List Int} {T : Nat → Bool} {s : Int} (hs : M s) : ∀ {k : Nat}, (∀ j, j < k → M (nth ps j)) → M (pr ps T s k)
  | 0, _ => hs
  | k + 1, h => by
    rw [pr]; split
    · exact M_or (pr_M hs fun j hj => h j (by omega)) (h k (by omega))
    · exact pr_M hs fun j hj => h j (by omega)
theorem tb_pr {ps : List Int} {T : Nat → Bool} {s : Int} (hs : M s) (b : Nat) : ∀ {k : Nat}, (∀ j, j < k → M (nth ps j)) → (tb (pr ps T s k) b = true ↔ tb s b = true ∨ ∃ j, j < k ∧ T j = true ∧ tb (nth ps j) b = true)
  | 0, _ => by simp [pr]
  | k + 1, h => by
    have ih := tb_pr (T := T) hs b (k := k) fun j hj => h j (by omega)
    rw [pr]
    have hx : (∃ j, j < k + 1 ∧ T j = true ∧ tb (nth ps j) b = true) ↔ ((∃ j, j < k ∧ T j = true ∧ tb (nth ps j) b = true) ∨ (T k = true ∧ tb (nth ps k) b = true)) := by
      constructor
      · rintro ⟨j, h1, h2, h3⟩
        by_cases e : j = k
        · subst e; exact .inr ⟨h2, h3⟩
        · exact .inl ⟨j, by omega, h2, h3⟩
      · rintro (⟨j, h1, h2, h3⟩ | ⟨h2, h3⟩)
        · exact ⟨j, by omega, h2, h3⟩
        · exact ⟨k, by omega, h2, h3⟩
    rw [hx]
    by_cases ht : T k = true
    · rw [if_pos ht, tb_or (pr_M hs fun j hj => h j (by omega)) (h k (by omega)), Bool.or_eq_true, ih]
      simp [ht, or_assoc]
    · rw [if_neg ht, ih]
      simp [ht]
theorem pastL_M (T : Nat → Nat → Bool) : ∀ i, i ≤ 24 → ∀ j, j < i → M (nth (pastL T i) j)
  | i, hi, j, hj => by
    rw [pastL_nth T hj]
    exact pr_M (M_pow1 (by omega)) (fun k hk => pastL_M T j (by omega) k hk)
termination_by i => i
/-- The pasts are the converse of the closure. -/
theorem past_conv {r : List Int} (hM : AllM r) (h24 : r.length ≤ 24) {T : Nat → Nat → Bool} (hE : ∀ i j, i < r.length → tb (nth r i) j = (decide (j < r.length) && (decide (i < j) && T i j))) : conv (clo r) = pastL T r.length := by
  have hcl := clo_length r
  have hE0 : ∀ i j, tb (nth r i) j = true → i < r.length ∧ j < r.length ∧ i < j ∧ T i j = true := fun i j h => by
    by_cases hi : i < r.length
    · rw [hE i j hi] at h
      simp only [Bool.and_eq_true, decide_eq_true_eq] at h
      exact ⟨hi, h.1, h.2.1, h.2.2⟩
    · have : nth r i = 0 := by simp [nth, hi]
      rw [this] at h; simp at h
  have key : ∀ i, i < r.length → ∀ j, (tb (nth (pastL T r.length) i) j = true ↔ j < r.length ∧ rb (fun i j => tb (nth r i) j) r.length j i = true) := by
    intro i
    induction i using Nat.strongRecOn with
    | _ i ih =>
      intro hi j
      rw [pastL_nth T hi, tb_pr (M_pow1 (by omega)) j (fun k hk => pastL_M T i (by omega) k hk), tb_pow1 (by omega)]
      have hpk : ∀ k, k < i → nth (pastL T i) k = nth (pastL T r.length) k := fun k hk => by rw [pastL_nth T hk, pastL_nth T (by omega)]
      constructor
      · rintro (h | ⟨k, hk, hT, hb⟩)
        · simp at h; subst h
          exact ⟨hi, rb_mono (m := 0) (by simp [rb]) (by omega)⟩
        · rw [hpk k hk, ih k hk (by omega)] at hb
          refine ⟨hb.1, rb_trans hb.2 (rb_mono (m := 0) ?_ (by omega)) (by omega : k < r.length)⟩
          simp only [rb, Bool.or_eq_true]
          right
          rw [hE k i (by omega)]
          simp [hi, hk, hT]
      · rintro ⟨hj, h⟩
        rcases rb_last h with e | ⟨k, hk, hr⟩
        · left; simp [e]
        · obtain ⟨k1, k2, k3, k4⟩ := hE0 k i hk
          right
          exact ⟨k, k3, k4, by rw [hpk k k3, ih k k3 k1]; exact ⟨hj, hr⟩⟩
  apply list_ext (by rw [conv_length, hcl, pastL_length])
  intro i hi
  rw [conv_length, hcl] at hi
  rw [conv_nth (by omega)]
  apply tb_ext (M_orMask _ M_zero _ (by omega)) (pastL_M T _ h24 i hi)
  intro j _
  rw [tb_orMask _ M_zero _ _ (by omega), Bool.eq_iff_iff, key i hi j]
  simp only [tb_zero, Bool.false_or, Bool.and_eq_true, decide_eq_true_eq, hcl]
  constructor
  · rintro ⟨h1, h2⟩
    rw [clo_rb hM h24 h1] at h2; exact ⟨h1, h2⟩
  · rintro ⟨h1, h2⟩
    exact ⟨h1, by rw [clo_rb hM h24 h1]; exact h2⟩
theorem clo_rel {r : List Int} (hM : AllM r) (h24 : r.length ≤ 24) (hE : ∀ i j, r.length ≤ j → tb (nth r i) j = false) : isRel (clo r) = true := by
  have hcl := clo_length r
  unfold isRel
  simp only [Bool.and_eq_true, decide_eq_true_eq, List.all_eq_true]
  refine ⟨by omega, fun y hy => ?_⟩
  obtain ⟨i, hi, rfl⟩ := List.mem_iff_getElem.1 hy
  rw [← nth_at hi, hcl]
  rw [hcl] at hi
  refine isM_of (by omega) (clo_M hM h24 i (by omega)) fun j hj => ?_
  rw [clo_rb hM h24 hi]
  exact rb_high (fun a b hb => hE a b hb) (Nat.le_refl _) hi hj
/-! Runs over places. -/
structure GosV where
  n : Int
  pl : List Int
  f : List Nat
  past : List Int
@[reducible] def gosSl (a b c : Bool) (g : GosV) : AV := .agg [iv g.n, .sl 1 a (ints g.pl), .sl 1 b (ints (nats g.f)), .sl 1 c (ints g.past)]
/-- The steps that follow each other. -/
def stepP (pl : List Int) (f : List Nat) (k i : Nat) : Bool := meets (nth pl (natAt f k)) (nth pl (natAt f i))
def gosV (n : Int) (pl : List Int) (u : List Nat) : GosV := ⟨n, pl, nf (depP pl) u, pastL (stepP pl (nf (depP pl) u)) (nf (depP pl) u).length⟩
structure GosOk (g : GosV) : Prop where
  pl : arePl g.n g.pl = true
  f : ∀ a ∈ g.f, a < g.pl.length
  len : g.f.length ≤ 24
  plen : g.past.length = g.f.length
  past : ∀ i, i < g.f.length → isM g.f.length (nth g.past i) = true
theorem edg_facts {t : List Int} {u : List Nat} (h24 : u.length ≤ 24) : (edgR t u).length = u.length ∧ AllM (edgR t u) ∧ ∀ i j, i < u.length → tb (nth (edgR t u) i) j = (decide (j < u.length) && edgB t u i j) := by
  have hl : (edgR t u).length = u.length := by simp [edgR]
  have hn : ∀ i, i < u.length → nth (edgR t u) i = orMask 0 (edgB t u i) u.length := fun i hi => by
    rw [nth_at (by omega)]; simp [edgR]
  refine ⟨hl, fun i hi => ?_, fun i j hi => ?_⟩
  · rw [hn i (by omega)]; exact M_orMask _ M_zero _ (by omega)
  · rw [hn i hi, tb_orMask _ M_zero _ _ (by omega)]; simp
theorem past_of {pl : List Int} (h8 : pl.length ≤ 8) {f : List Nat} (hf : ∀ a ∈ f, a < pl.length) (h24 : f.length ≤ 24) : conv (clo (edgR (depP pl) f)) = pastL (stepP pl f) f.length ∧ isRel (clo (edgR (depP pl) f)) = true := by
  obtain ⟨e1, e2, e3⟩ := edg_facts (t := depP pl) (u := f) h24
  refine ⟨?_, ?_⟩
  · have := past_conv (r := edgR (depP pl) f) e2 (by omega) (T := stepP pl f) (fun i j hi => by
      rw [e1] at hi ⊢
      rw [e3 i j hi]
      by_cases hj : j < f.length
      · unfold edgB stepP
        rw [depP_tb h8 (hf _ (natAt_mem hi)) (hf _ (natAt_mem hj))]
      · simp [hj])
    rw [this, e1]
  · refine clo_rel e2 (by omega) fun i j hj => ?_
    by_cases hi : i < f.length
    · rw [e3 i j hi]; simp; omega
    · have : nth (edgR (depP pl) f) i = 0 := by simp [nth, show ¬ i < (edgR (depP pl) f).length by omega]
      rw [this]; simp
theorem gos_ok {n : Int} {pl : List Int} (h : arePl n pl = true) {u : List Nat} (hu : WOk pl.length u) (h24 : u.length ≤ 24) : GosOk (gosV n pl u) := by
  obtain ⟨h8, _⟩ := pl_len h
  have ht := depP_ok h8
  have hp := nf_perm ht u.length (u := u) rfl (fun a ha => by rw [depP_length]; exact hu.2 a ha)
  have hl : (nf (depP pl) u).length = u.length := hp.length_eq
  have hf : ∀ a ∈ nf (depP pl) u, a < pl.length := fun a ha => hu.2 a (hp.mem_iff.1 ha)
  refine ⟨h, hf, by show (nf (depP pl) u).length ≤ 24; omega, by show (pastL _ _).length = _; simp; rfl, fun i hi => ?_⟩
  show isM (nf (depP pl) u).length (nth (pastL (stepP pl (nf (depP pl) u)) (nf (depP pl) u).length) i) = true
  have hi' : i < (nf (depP pl) u).length := hi
  obtain ⟨e, hrel⟩ := past_of h8 hf (by omega)
  have hcl := clo_length (edgR (depP pl) (nf (depP pl) u))
  have hel : (edgR (depP pl) (nf (depP pl) u)).length = (nf (depP pl) u).length := by simp [edgR]
  refine isM_of (by omega) (pastL_M _ _ (by omega) i hi') fun j hj => ?_
  rw [← e, conv_nth (by omega), tb_orMask _ M_zero _ _ (by omega)]
  simp; omega
end Go.AM
