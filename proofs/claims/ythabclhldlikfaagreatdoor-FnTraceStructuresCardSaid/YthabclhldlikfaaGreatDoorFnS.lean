/-
  Contracts: relations, event structures.
-/
import Derived.Test.YthabclhldlikfaaGreatDoorFnTS
import Derived.Test.YthabclhldlikfaaGreatDoorFnMgA
import Derived.Test.YthabclhldlikfaaGreatDoorFnEq
set_option linter.unusedVariables false
set_option linter.unusedSimpArgs false
set_option maxRecDepth 100000
set_option maxHeartbeats 1600000
namespace Go.AM
open Go.Proofs
/-- A mask of the first `n` places. -/
def isM (n : Nat) (y : Int) : Bool := decide (0 ≤ y) && decide (y ≤ full n)
def isRel (r : List Int) : Bool := decide ((r.length : Int) ≤ 24) && r.all (isM r.length)
theorem IsRelation_spec (nn : Bool) (r : List Int) (hr : Fits r) : ACalls1 Tryz.prog 80 [.sl 1 nn (ints r)] (bv (isRel r)) := by
  refine walk (fun _ => false) mixed Go.Proofs.Tryz.func80 rfl rfl rfl (by kernel_rfl) rfl (by simp) (by kernel_rfl) ?_
  unfold isRel
  by_cases h : (r.length : Int) ≤ 24
  · simp [h]
    refine ⟨_, length_spec _ _ hr, ?_⟩
    simp
    refine ⟨_, one_spec _ (by omega), ?_⟩
    simp
    refine ⟨_, allIn_spec _ _ _ _ hr, ?_⟩
    simp
    rfl
  · simp [h]
theorem isM_spec {n : Nat} (hn : n < 63) {y : Int} (h : isM n y = true) : M y ∧ ∀ i, n ≤ i → tb y i = false := by
  unfold isM at h
  simp only [Bool.and_eq_true, decide_eq_true_eq] at h
  exact ⟨full_M hn h.1 h.2, fun i hi => tb_of_le hn h.1 h.2 hi⟩
theorem isM_of {n : Nat} (hn : n < 63) {y : Int} (h : M y) (hb : ∀ i, n ≤ i → tb y i = false) : isM n y = true := by
  unfold isM
  simp only [Bool.and_eq_true, decide_eq_true_eq]
  exact ⟨h.1, le_full hn h hb⟩
theorem isRel_spec {r : List Int} (h : isRel r = true) : r.length ≤ 24 ∧ ∀ i, i < r.length → isM r.length (nth r i) = true := by
  unfold isRel at h
  simp only [Bool.and_eq_true, decide_eq_true_eq, List.all_eq_true] at h
  exact ⟨by omega, fun i hi => h.2 _ (nth_mem hi)⟩
/-- The converse of a relation. -/
def conv (r : List Int) : List Int := (List.range r.length).map fun k => orMask 0 (fun i => tb (nth r i) k) r.length
theorem conv_length (r : List Int) : (conv r).length = r.length := by simp [conv]
theorem conv_nth {r : List Int} {k : Nat} (h : k < r.length) : nth (conv r) k = orMask 0 (fun i => tb (nth r i) k) r.length := by
  rw [nth_at (by rw [conv_length]; exact h)]; simp [conv]
theorem list_ext {l m : List Int} (hl : l.length = m.length) (h : ∀ i, i < l.length → nth l i = nth m i) : l = m := by
  apply List.ext_getElem hl
  intro i h1 h2
  have := h i h1
  rwa [nth_at h1, nth_at h2] at this
theorem nth_set {l : List Int} {k : Nat} (x : Int) (hk : k < l.length) (i : Nat) (hi : i < l.length) : nth (l.set k x) i = if i = k then x else nth l i := by
  rw [nth_at (by simpa using hi), nth_at hi, List.getElem_set]
  by_cases h : i = k
  · subst h; simp
  · rw [if_neg (fun e => h e.symm), if_neg h]
theorem converse_spec (nn : Bool) (r : List Int) (h : isRel r = true) : ACalls1 Tryz.prog 83 [.sl 1 nn (ints r)] (.own 1 true (ints (conv r))) := by
  obtain ⟨hn, hm⟩ := isRel_spec h
  refine walk (fun _ => false) mixed Go.Proofs.Tryz.func83 rfl rfl rfl (by kernel_rfl) rfl (by simp) (by kernel_rfl) ?_
  simp
  refine ⟨by omega, by omega, ?_⟩
  refine awp_loop2 [11, 12] [] (fun s : Nat × List Int => [(13, iv s.1), (3, .ref 100)]) (fun s => [(100, .own 1 true (ints s.2))]) (fun s => s.1 ≤ r.length ∧ s.2.length = r.length ∧ ∀ k, k < r.length → M (nth s.2 k) ∧ ∀ b, tb (nth s.2 k) b = (decide (b < s.1) && tb (nth r b) k)) (fun s => r.length - s.1) (0, List.replicate r.length 0) (weak_mk (fun t => if t = 100 then some 10 else some t) (by simp) (by simp) rfl) ?_ ?_
  · refine ⟨by simp, by simp, fun k hk => ?_⟩
    have : nth (List.replicate r.length 0) k = 0 := by rw [nth_at (by simpa using hk)]; simp
    simp only [this]
    exact ⟨M_zero, fun b => by simp⟩
  rintro ⟨i, out⟩ ⟨hi, hlen, hv⟩
  simp only at hi hlen hv
  by_cases hlt : i < r.length
  · obtain ⟨hMi, hbi⟩ := isM_spec (by omega) (hm i hlt)
    simp [hlt]
    refine ⟨_, members_spec _ hMi, ?_⟩
    have hbl := bitsOf_length (nth r i)
    have hmem := fun y (hy : y ∈ bitsOf (nth r i)) => bitsOf_mem hy
    have hall : ∀ k : Nat, k < 63 → tb (nth r i) k = true → (k : Int) ∈ bitsOf (nth r i) := by
      intro k hk ht
      unfold bitsOf
      exact List.mem_map.2 ⟨k, List.mem_filter.2 ⟨List.mem_range.2 hk, ht⟩, rfl⟩
    generalize bitsOf (nth r i) = bs at *
    simp
    refine awp_loop2 [3, 4, 11, 12, 13, 19, 20] [19] (fun s : Nat × List Int => [(21, iv s.1)]) (fun s => [(100, .own 1 true (ints s.2))]) (fun s => s.1 ≤ bs.length ∧ s.2.length = r.length ∧ ∀ k, k < r.length → M (nth s.2 k) ∧ ∀ b, tb (nth s.2 k) b = ((decide (b < i) && tb (nth r b) k) || (decide (b = i) && decide ((k : Int) ∈ bs.take s.1)))) (fun s => bs.length - s.1) (0, out) (weak_mk some (by simp) (by simp) rfl) ⟨by simp, hlen, fun k hk => ⟨(hv k hk).1, fun b => by rw [(hv k hk).2]; simp⟩⟩ ?_
    rintro ⟨j, o⟩ ⟨hj, hol, hov⟩
    simp only at hj hol hov
    by_cases hjl : j < bs.length
    · obtain ⟨c, hc, hc63, hct⟩ := hmem _ (nth_mem hjl)
      have hcl : c < r.length := by
        apply Nat.lt_of_not_le
        intro hle
        rw [hbi c hle] at hct; cases hct
      simp [hjl, hc, hol, hcl, show j + 1 ≤ bs.length from hjl, show c + 1 ≤ r.length from hcl]
      rw [exE_eq]
      simp [hjl, hc, hol, hcl, show j + 1 ≤ bs.length from hjl, show c + 1 ≤ r.length from hcl]
      refine ⟨_, one_spec _ (by omega), ?_⟩
      simp [hjl, hc, hol, hcl, show j + 1 ≤ bs.length from hjl, show c + 1 ≤ r.length from hcl, ints_put, wrap_id ((j : Int) + 1) (by omega) (by omega)]
      rw [exE_eq]
      simp [hjl, hc, hol, hcl, show j + 1 ≤ bs.length from hjl, show c + 1 ≤ r.length from hcl, ints_put, wrap_id ((j : Int) + 1) (by omega) (by omega)]
      repeat (refine And.intro (by first | omega | exact ⟨by kernel_rfl, by kernel_rfl⟩) ?_)
      refine Round.mk (j + 1, o.set c (ibits .or .i64 (nth o c) (pow1 i))) (weak_mk some (by simp) (by simp) rfl) ⟨hjl, by simpa using hol, fun k hk => ?_⟩ (by simp only; omega)
      obtain ⟨hMk, hbk⟩ := hov k hk
      simp only
      rw [nth_set _ (by omega) k (by omega)]
      have hin : ((k : Int) ∈ bs.take (j + 1)) ↔ ((k : Int) ∈ bs.take j ∨ k = c) := by
        have e : bs.getD j 0 = nth bs j := rfl
        rw [take_succ _ _ hjl, List.mem_append, e, hc]
        simp
      by_cases hkc : k = c
      · subst hkc
        rw [if_pos rfl]
        refine ⟨M_or hMk (M_pow1 (by omega)), fun b => ?_⟩
        rw [tb_or hMk (M_pow1 (by omega)), tb_pow1 (by omega), hbk]
        simp [hin]
        by_cases hbi' : i = b
        · subst hbi'; simp
        · simp [hbi', show ¬ b = i from fun e => hbi' e.symm]
      · rw [if_neg hkc]
        refine ⟨hMk, fun b => ?_⟩
        rw [hbk]
        simp [hin, hkc]
    · obtain rfl : j = bs.length := by omega
      simp [wrap_id ((i : Int) + 1) (by omega) (by omega)]
      refine Round.mk (i + 1, o) (weak_mk some (by simp) (by simp) rfl) ⟨hlt, hol, fun k hk => ?_⟩ (by simp only; omega)
      obtain ⟨hMk, hbk⟩ := hov k hk
      refine ⟨hMk, fun b => ?_⟩
      simp only
      rw [hbk, List.take_length]
      by_cases e : b = i
      · subst e
        have : decide ((k : Int) ∈ bs) = tb (nth r b) k := by
          rw [Bool.eq_iff_iff, decide_eq_true_eq]
          constructor
          · intro hk'
            obtain ⟨c, hc, _, hct⟩ := hmem _ hk'
            have : k = c := by omega
            rw [this]; exact hct
          · intro ht; exact hall k (by omega) ht
        simp [this]
      · have : (b < i + 1) = (b < i) := propext ⟨fun _ => by omega, fun _ => by omega⟩
        simp [e, this]
  · obtain rfl : i = r.length := by omega
    simp
    have : out = conv r := by
      apply list_ext (by rw [hlen, conv_length])
      intro k hk
      rw [hlen] at hk
      obtain ⟨hMk, hbk⟩ := hv k hk
      rw [conv_nth hk]
      apply tb_ext hMk (M_orMask _ M_zero _ (by omega))
      intro b _
      rw [hbk, tb_orMask _ M_zero _ _ (by omega)]; simp
    simp [this]
end Go.AM
